/- ParseBox: the program's answer is the reference's, for all arguments; the listed tables are as the program's text lays them (a tied card). -/
import Derived.Test.YtcifpfdlkpddeaaDoorFnParseC
import Derived.Lay
import Derived.Test.YtcifpfdlkpddeaaDoorRowE
import Derived.Test.YtcifpfdlkpddeaaDoorRowS
import Derived.Test.YtcifpfdlkpddeaaDoorHarD
set_option linter.unusedSimpArgs false
set_option linter.unusedVariables false
namespace Go.Proofs.YtcifpfdlkpddeaaDoor
open Go.ChangeShapes Go.WideShapes Go.ChangeAt Go.RowKit
open Go.ChangeMaps (open_string shut_string)

set_option maxHeartbeats 3000000 in
theorem fnExactParseBox_walk (s : ByteArray) (w : World) (hs : s.size ≤ maxLen) (ht : Tab w) (hE : ErrS w) (hmx : Max w) :
    Calls Tryd.prog 3 #[.string s] w fun e w' => e = .returned (.bool true) ∧ Below w.heap.size w w' := by
  unfold maxLen at hs
  by_cases hbig : (1048576 : Int) < s.size
  · go_enter Tryd.func3, Tryd.ntmps3
    go_wp2
    go_ret
    exact ⟨rfl, Below.refl _ _⟩
  have hw0 : w.heap.size ≤ w.heap.size := Nat.le_refl _
  have HT := Lib.hid ht
  have HE := Lib.hid hE
  have HM := Lib.hid hmx
  clear ht hE hmx
  go_enter Tryd.func3, Tryd.ntmps3
  go_wp2_with fail
  refine (specParseBox_any s w (by omega)).mono ?_
  rintro e w1 ⟨aR, cR, zR, rfl, oR, bw1⟩
  have BB : Below w.heap.size w w1 := bw1
  have sw1 : w.heap.size ≤ w1.heap.size := BB.size
  replace hw0 : w.heap.size ≤ w1.heap.size := by omega
  have Bw1 : Below w.heap.size w w1 := BB
  clear BB
  go_wp2_with fail
  refine (implParseBox_any s (w1.alloc (.cells #[.int .i64 (parseD s).X, .int .i64 (parseD s).Y, .int .i64 (parseD s).Whole, .slice aR (parseD s).Rows.length cR] 24)) (by omega) (HT.out.stays (Bw1.alloc hw0 _)) (HE.out.stays (Bw1.alloc hw0 _)) (HM.out.stays (Bw1.alloc hw0 _))).mono ?_
  rintro e w2 ⟨aI, cI, zI, rfl, oI, bw2⟩
  simp only [World.size_alloc] at oI
  have BB : Below w1.heap.size w1 w2 := Below.trans (by repeat' (first | with_reducible exact Below.refl _ _ | with_reducible assumption | with_reducible apply Below.alloc | with_reducible apply Below.setCell | with_reducible apply Below.drew | exact Nat.le_refl _ | omega | (simp only [World.size_alloc, World.size_setCell]; omega))) (bw2.mono (by first | exact Nat.le_refl _ | omega | (simp only [World.size_alloc, World.size_setCell]; omega)))
  have sw2 : w1.heap.size ≤ w2.heap.size := BB.size
  have tw2 := bw2.size
  simp only [World.size_alloc] at tw2
  obtain ⟨R0, R1, R2, R3⟩ : w2.cell? ⟨w1.heap.size, 0, none⟩ = some (.int .i64 (parseD s).X) ∧ w2.cell? ⟨w1.heap.size, 1, none⟩ = some (.int .i64 (parseD s).Y) ∧ w2.cell? ⟨w1.heap.size, 2, none⟩ = some (.int .i64 (parseD s).Whole) ∧ w2.cell? ⟨w1.heap.size, 3, none⟩ = some (.slice aR (parseD s).Rows.length cR) := by
    obtain ⟨hc, _⟩ := bcell bw2
    refine ⟨?_, ?_, ?_, ?_⟩ <;> (rw [hc _ _ (by simp only [World.size_alloc]; omega)]; simp)
  replace hw0 : w.heap.size ≤ w2.heap.size := by omega
  replace oR := oR.kept BB (by omega)
  have Bw2 : Below w.heap.size w w2 := Bw1.trans (BB.mono Bw1.size)
  clear BB
  have lRw2 : w1.heap.size < w2.heap.size := by omega
  have hz0 := parseD_size s
  have e1 : ((parseOk s) != (parseOk s)) = false := by simp
  go_wp2_with fail
  refine (eqBox_any _ _ (parseD s) (parseD s) (w2.alloc (.cells #[.int .i64 (parseD s).X, .int .i64 (parseD s).Y, .int .i64 (parseD s).Whole, .slice aI (parseD s).Rows.length cI] 24)) ((oI.rdII.kept (Nat.le_refl _) (by repeat' (first | with_reducible exact Below.refl _ _ | with_reducible assumption | with_reducible apply Below.alloc | with_reducible apply Below.setCell | with_reducible apply Below.drew | exact Nat.le_refl _ | omega | (simp only [World.size_alloc, World.size_setCell]; omega))))) ((oR.rdII.kept (Nat.le_refl _) (by repeat' (first | with_reducible exact Below.refl _ _ | with_reducible assumption | with_reducible apply Below.alloc | with_reducible apply Below.setCell | with_reducible apply Below.drew | exact Nat.le_refl _ | omega | (simp only [World.size_alloc, World.size_setCell]; omega)))))).mono ?_
  rintro e w3 ⟨rfl, dw3⟩
  have BB : Below w2.heap.size w2 w3 := Below.trans (by repeat' (first | with_reducible exact Below.refl _ _ | with_reducible assumption | with_reducible apply Below.alloc | with_reducible apply Below.setCell | with_reducible apply Below.drew | exact Nat.le_refl _ | omega | (simp only [World.size_alloc, World.size_setCell]; omega))) (dw3.mono (by first | exact Nat.le_refl _ | omega | (simp only [World.size_alloc, World.size_setCell]; omega)))
  have sw3 : w2.heap.size ≤ w3.heap.size := BB.size
  have tw3 := dw3.size
  simp only [World.size_alloc] at tw3
  obtain ⟨I0, I1, I2, I3⟩ : w3.cell? ⟨w2.heap.size, 0, none⟩ = some (.int .i64 (parseD s).X) ∧ w3.cell? ⟨w2.heap.size, 1, none⟩ = some (.int .i64 (parseD s).Y) ∧ w3.cell? ⟨w2.heap.size, 2, none⟩ = some (.int .i64 (parseD s).Whole) ∧ w3.cell? ⟨w2.heap.size, 3, none⟩ = some (.slice aI (parseD s).Rows.length cI) := by
    obtain ⟨hc, _⟩ := bcell dw3
    refine ⟨?_, ?_, ?_, ?_⟩ <;> (rw [hc _ _ (by simp only [World.size_alloc]; omega)]; simp)
  replace hw0 : w.heap.size ≤ w3.heap.size := by omega
  have tq := cells4_kept BB (by omega) R0 R1 R2 R3
  clear R0 R1 R2 R3
  obtain ⟨R0, R1, R2, R3⟩ := tq
  replace oR := oR.kept BB (by omega)
  replace oI := oI.kept BB (by omega)
  have Bw3 : Below w.heap.size w w3 := Bw2.trans (BB.mono Bw2.size)
  clear BB
  have lRw3 : w1.heap.size < w3.heap.size := by omega
  have lIw3 : w2.heap.size < w3.heap.size := by omega
  go_wp2_with fail
  refine (markBox_any _ _ _ _ _ _ _ _ _ _ _ _ oI (by omega) (by omega) (by omega) (by omega)).mono ?_
  rintro e w4 ⟨rfl, oI, mw4⟩
  have tq := cells4_mid mw4 (by omega) (by omega) R0 R1 R2 R3
  clear R0 R1 R2 R3
  obtain ⟨R0, R1, R2, R3⟩ := tq
  have tq := cells4_mid mw4 (by omega) (by omega) I0 I1 I2 I3
  clear I0 I1 I2 I3
  obtain ⟨I0, I1, I2, I3⟩ := tq
  replace oR := oR.mid mw4 (by omega)
  have sw4 : w3.heap.size ≤ w4.heap.size := mw4.size
  have Bw4 : Below w.heap.size w w4 := Bw3.trans (mw4.below (by omega) (by omega))
  replace hw0 : w.heap.size ≤ w4.heap.size := by omega
  clear mw4
  have lRw4 : w1.heap.size < w4.heap.size := by omega
  have lIw4 : w2.heap.size < w4.heap.size := by omega
  go_wp2_with fail
  refine (heldBox_any _ _ _ _ _ _ _ (oI.rdII) (by omega) (by omega) (by omega)).mono ?_
  rintro e w5 ⟨rfl, bw5⟩
  have BB : Below w4.heap.size w4 w5 := bw5
  have sw5 : w4.heap.size ≤ w5.heap.size := BB.size
  replace hw0 : w.heap.size ≤ w5.heap.size := by omega
  have tq := cells4_kept BB (by omega) R0 R1 R2 R3
  clear R0 R1 R2 R3
  obtain ⟨R0, R1, R2, R3⟩ := tq
  have tq := cells4_kept BB (by omega) I0 I1 I2 I3
  clear I0 I1 I2 I3
  obtain ⟨I0, I1, I2, I3⟩ := tq
  replace oR := oR.kept BB (by omega)
  replace oI := oI.kept BB (by omega)
  have Bw5 : Below w.heap.size w w5 := Bw4.trans (BB.mono Bw4.size)
  clear BB
  have lRw5 : w1.heap.size < w5.heap.size := by omega
  have lIw5 : w2.heap.size < w5.heap.size := by omega
  go_wp2_with fail
  refine (implParseBox_any s w5 (by omega) (HT.out.stays Bw5) (HE.out.stays Bw5) (HM.out.stays Bw5)).mono ?_
  rintro e w6 ⟨aJ, cJ, zJ, rfl, oJ, bw6⟩
  have BB : Below w5.heap.size w5 w6 := bw6
  have sw6 : w5.heap.size ≤ w6.heap.size := BB.size
  replace hw0 : w.heap.size ≤ w6.heap.size := by omega
  have tq := cells4_kept BB (by omega) R0 R1 R2 R3
  clear R0 R1 R2 R3
  obtain ⟨R0, R1, R2, R3⟩ := tq
  have tq := cells4_kept BB (by omega) I0 I1 I2 I3
  clear I0 I1 I2 I3
  obtain ⟨I0, I1, I2, I3⟩ := tq
  replace oR := oR.kept BB (by omega)
  replace oI := oI.kept BB (by omega)
  have Bw6 : Below w.heap.size w w6 := Bw5.trans (BB.mono Bw5.size)
  clear BB
  have lRw6 : w1.heap.size < w6.heap.size := by omega
  have lIw6 : w2.heap.size < w6.heap.size := by omega
  go_wp2_with fail
  refine (eqBox_any _ _ (parseD s) (parseD s) (w6.alloc (.cells #[.int .i64 (parseD s).X, .int .i64 (parseD s).Y, .int .i64 (parseD s).Whole, .slice aJ (parseD s).Rows.length cJ] 24)) ((oJ.rdII.kept (Nat.le_refl _) (by repeat' (first | with_reducible exact Below.refl _ _ | with_reducible assumption | with_reducible apply Below.alloc | with_reducible apply Below.setCell | with_reducible apply Below.drew | exact Nat.le_refl _ | omega | (simp only [World.size_alloc, World.size_setCell]; omega))))) ((oR.rdII.kept (Nat.le_refl _) (by repeat' (first | with_reducible exact Below.refl _ _ | with_reducible assumption | with_reducible apply Below.alloc | with_reducible apply Below.setCell | with_reducible apply Below.drew | exact Nat.le_refl _ | omega | (simp only [World.size_alloc, World.size_setCell]; omega)))))).mono ?_
  rintro e w7 ⟨rfl, dw7⟩
  have BB : Below w6.heap.size w6 w7 := Below.trans (by repeat' (first | with_reducible exact Below.refl _ _ | with_reducible assumption | with_reducible apply Below.alloc | with_reducible apply Below.setCell | with_reducible apply Below.drew | exact Nat.le_refl _ | omega | (simp only [World.size_alloc, World.size_setCell]; omega))) (dw7.mono (by first | exact Nat.le_refl _ | omega | (simp only [World.size_alloc, World.size_setCell]; omega)))
  have sw7 : w6.heap.size ≤ w7.heap.size := BB.size
  have tw7 := dw7.size
  simp only [World.size_alloc] at tw7
  obtain ⟨J0, J1, J2, J3⟩ : w7.cell? ⟨w6.heap.size, 0, none⟩ = some (.int .i64 (parseD s).X) ∧ w7.cell? ⟨w6.heap.size, 1, none⟩ = some (.int .i64 (parseD s).Y) ∧ w7.cell? ⟨w6.heap.size, 2, none⟩ = some (.int .i64 (parseD s).Whole) ∧ w7.cell? ⟨w6.heap.size, 3, none⟩ = some (.slice aJ (parseD s).Rows.length cJ) := by
    obtain ⟨hc, _⟩ := bcell dw7
    refine ⟨?_, ?_, ?_, ?_⟩ <;> (rw [hc _ _ (by simp only [World.size_alloc]; omega)]; simp)
  replace hw0 : w.heap.size ≤ w7.heap.size := by omega
  have tq := cells4_kept BB (by omega) R0 R1 R2 R3
  clear R0 R1 R2 R3
  obtain ⟨R0, R1, R2, R3⟩ := tq
  have tq := cells4_kept BB (by omega) I0 I1 I2 I3
  clear I0 I1 I2 I3
  obtain ⟨I0, I1, I2, I3⟩ := tq
  replace oR := oR.kept BB (by omega)
  replace oI := oI.kept BB (by omega)
  replace oJ := oJ.kept BB (by omega)
  have Bw7 : Below w.heap.size w w7 := Bw6.trans (BB.mono Bw6.size)
  clear BB
  have lRw7 : w1.heap.size < w7.heap.size := by omega
  have lIw7 : w2.heap.size < w7.heap.size := by omega
  have lJw7 : w6.heap.size < w7.heap.size := by omega
  go_wp2_with fail
  refine (heldBox_any _ _ _ _ _ _ _ (oI.rdII) (by omega) (by omega) (by omega)).mono ?_
  rintro e w8 ⟨rfl, bw8⟩
  have BB : Below w7.heap.size w7 w8 := bw8
  have sw8 : w7.heap.size ≤ w8.heap.size := BB.size
  replace hw0 : w.heap.size ≤ w8.heap.size := by omega
  have tq := cells4_kept BB (by omega) R0 R1 R2 R3
  clear R0 R1 R2 R3
  obtain ⟨R0, R1, R2, R3⟩ := tq
  have tq := cells4_kept BB (by omega) I0 I1 I2 I3
  clear I0 I1 I2 I3
  obtain ⟨I0, I1, I2, I3⟩ := tq
  have tq := cells4_kept BB (by omega) J0 J1 J2 J3
  clear J0 J1 J2 J3
  obtain ⟨J0, J1, J2, J3⟩ := tq
  replace oR := oR.kept BB (by omega)
  replace oI := oI.kept BB (by omega)
  replace oJ := oJ.kept BB (by omega)
  have Bw8 : Below w.heap.size w w8 := Bw7.trans (BB.mono Bw7.size)
  clear BB
  have lRw8 : w1.heap.size < w8.heap.size := by omega
  have lIw8 : w2.heap.size < w8.heap.size := by omega
  have lJw8 : w6.heap.size < w8.heap.size := by omega
  go_wp2
  go_ret
  exact ⟨rfl, Bw8⟩



/-! ### The row -/
set_option maxRecDepth 100000 in
theorem fnExactParseBox_lifted (os : Os) (started : os.Started) (H : Type) (enc : TypeId × Value → H) :
    ReturnsInHanded {} Tryd.checked os 3 .any (fun w args => (Rows.fnExactParseBoxSpec.pre enc Tryd.prog Tryd.f3 [] false w args ∧ laidMetH Tryd.prog Rows.fnExactParseBoxRow.laid w) ∧ sizedMet enc Tryd.prog Tryd.f3 (OpenSpec.ofChange Rows.fnExactParseBoxSpec) false w args)
      (Rows.fnExactParseBoxSpec.post enc Tryd.prog Tryd.f3 false true false false) := by
  refine lift_shaped (C := Tryd.checked) (X := fun w _ => laidMetH Tryd.prog Rows.fnExactParseBoxRow.laid w) (fun _ _ _ hh h => h.of_heap hh) Tryd.own started (by kernel_rfl) Tryd.func3
    (ChangeSpec.witness_shaped (enc := enc) (C := Tryd.checked) (os := os) (X := fun w _ => laidMetH Tryd.prog Rows.fnExactParseBoxRow.laid w) false (World.laidAll Tryd.prog os Rows.fnExactParseBoxRow.laid) #[.string ⟨#[]⟩] 8 (World.laidAll_os _ _ _) (World.shaped_of_ZipB (by kernel_rfl) (by kernel_rfl)) (by kernel_rfl) (by kernel_rfl) (by kernel_rfl) (by rw [MakeChecks.laidMetH_plain _ _ _ (by kernel_rfl)]; exact laidMet_laidAll _ (by kernel_rfl) (by kernel_rfl))) ?_
  intro W base args ds gs before hval0 hW hL hsh
  have hval : ∀ (j : Nat) t v, Tryd.f3.params[j]? = some t → args[j]? = some v → Value.okWide Tryd.prog W .any base t v := hval0
  have hW' := hW
  obtain ⟨p, q, hA0, hV, rfl, hfz, hnd⟩ := hW
  have hA : DataW.TrodAll enc Tryd.prog W 0 (fun _ => true) true Tryd.f3.params.toList args.toList ds p := hA0
  rw [Tryd.params3] at hA hval
  obtain ⟨v0, vs0, d0, ds0, p0, q0, hargs, rfl, rfl, h0, r0⟩ := trodAll_cons hA
  obtain ⟨rfl, rfl, rfl⟩ := trodAll_nil r0
  obtain rfl : args = #[v0] := by cases args; simp_all
  obtain ⟨a0, rfl, rfl, rfl, ha0⟩ := open_string Tryd.underlying9 (hval 0 9 v0 rfl rfl) h0
  clear hA0 hval0
  obtain ⟨ht, hE⟩ := tabErr_of_laid7 hL
  have hmx := max_of_shaped hsh
  refine (fnExactParseBox_walk a0 W ha0 ht hE hmx).mono fun e W' ⟨he, hb⟩ => ?_
  subst he
  exact ⟨_, rfl, law_post Tryd.laidOut (by kernel_rfl) rfl Tryd.underlying4 rfl (fun ds hd => by match ds, hd with | [e0], _ => rfl) hW' hb⟩

theorem fnExactParseBox_row_holds : Rows.FnExactParseBoxSaid :=
  OpenClaim.holds_of_wide 3 Tryd.f3 rfl rfl rfl rfl rfl rfl rfl ⟨rfl, rfl, rfl, rfl, rfl⟩ rfl rfl rfl rfl rfl (by kernel_rfl) Tryd.func3 (by kernel_rfl)
    (of_decide_eq_true (by kernel_rfl)) (by unfold Func.isWrapper; first | (rw [if_pos (by decide +kernel)]; kernel_rfl) | (rw [if_neg (by decide +kernel)]; exact ⟨rfl, rfl⟩))
    (fun os started H enc _ => fnExactParseBox_lifted os started H enc)

/-! ### The card -/
theorem fnExactParseBox_holds : Rows.FnExactParseBoxCardSaid :=
  Claim7.holds_tied_plain_at .later [] [.data, .data, .data, .data, .sentinel, .sentinel, .pinned] true Rows.fnExactParseBoxCard.stood.harness true
    fnExactParseBox_row_holds (fun _ h => by cases h) (by kernel_rfl) (fun _ h => by cases h) fnExactParseBox_row_tie rfl ⟨rfl, rfl⟩ (by kernel_rfl) rfl
    (fun f fn hf hfn => by
      obtain rfl : f = 3 := Option.some.inj ((show Tryd.prog.funcNamed "loop.example/g01141/laws.FnExactParseBox" = some 3 by kernel_rfl).symm.trans hf) |>.symm
      obtain rfl : fn = Tryd.f3 := (Option.some.inj (Tryd.func3.symm.trans hfn)).symm
      exact ⟨by kernel_rfl, fun j t ht => by
        rw [Tryd.params3] at ht
        have hm : t ∈ [9] := by simpa using Array.mem_of_getElem? ht
        have hall : ([9].all fun u => !Tryd.prog.wantsStandIn u) = true := by kernel_rfl
        exact (show Tryd.prog.wantsStandIn t = false by simpa using List.all_eq_true.1 hall t hm)⟩)
    (by kernel_rfl)

end Go.Proofs.YtcifpfdlkpddeaaDoor
