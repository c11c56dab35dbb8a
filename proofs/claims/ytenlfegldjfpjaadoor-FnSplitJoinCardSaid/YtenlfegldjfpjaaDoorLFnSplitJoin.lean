/- FnSplitJoin: the program's answer is the reference's, for all arguments; the listed tables are as the program's text lays them (a tied card). -/
import Derived.Test.YtenlfegldjfpjaaDoorFnLess
import Derived.Test.YtenlfegldjfpjaaDoorDrawJ
import Derived.Test.YtenlfegldjfpjaaDoorRowC
import Derived.Test.YtenlfegldjfpjaaDoorFnSplitS
import Derived.Lay
set_option linter.unusedSimpArgs false
set_option linter.unusedVariables false
namespace Go.Proofs.YtenlfegldjfpjaaDoor
open Go.ChangeShapes Go.WideShapes Go.ChangeAt Go.RowKit
open Go.ChangeMaps (open_string shut_string)


set_option maxHeartbeats 4000000 in
theorem fnSplitJoin_walk (a : Option Addr) (n cap : Nat) (w : World) (hn : n ≤ maxLen) (h : n ≤ 65536 → RdB w (.slice a n cap) n) (hmx : Max w) :
    Calls Tryd.prog 9 #[.slice a n cap] w fun e w' => e = .returned (.bool true) ∧ Below w.heap.size w w' := by
  unfold maxLen at hn
  by_cases hbig : (65536 : Int) < (n : Int)
  · have CB := vBig_any a n cap w (by unfold maxLen; omega)
    have hd : decide ((65536 : Int) < (n : Int)) = true := decide_eq_true hbig
    rw [hd] at CB
    go_enter Tryd.func9, Tryd.ntmps9
    go_wp2_with (go_at_call 12; refine CB.mono ?_; rintro e w' ⟨rfl, rfl⟩)
    go_ret
    exact ⟨rfl, Below.refl _ _⟩
  have hb := h (by omega)
  have CB := vBig_any a n cap w (by unfold maxLen; omega)
  have hd : decide ((65536 : Int) < (n : Int)) = false := decide_eq_false hbig
  rw [hd] at CB
  clear h hd hbig
  go_enter Tryd.func9, Tryd.ntmps9
  go_wp2_with fail
  refine CB.mono ?_
  rintro e w0 ⟨rfl, rfl⟩
  clear CB
  go_wp2_with fail
  refine (drawSplitString_any _ n w hb).mono ?_
  rintro e w1 ⟨s, sep, rfl, hs, hp, b1⟩
  have z1 := b1.size
  go_wp2_with fail
  refine (implSplit_any s sep w1 (by omega) (by omega) (hmx.stays b1)).mono ?_
  rintro e w2 ⟨a2, c2, rfl, o2, b2⟩
  have B2 : Below w.heap.size w w2 := b1.trans (b2.mono z1)
  have z2 := B2.size
  go_wp2_with fail
  refine (drawJoinStrings_any _ n w2 (hb.kept B2)).mono ?_
  rintro e w3 ⟨ks, mark, a3, c3, rfl, hks, hmk, r3, hc3, b3⟩
  have B3 : Below w.heap.size w w3 := B2.trans (b3.mono z2)
  have z3 := B3.size
  replace o2 := o2.kept b3 (Nat.le_refl _)
  have hcap3 : ∀ a c, Value.slice a3 ks.length c3 = .slice a ks.length c → ks.length ≤ c := fun a c e => by cases e; exact hc3
  go_wp2_with fail
  refine (implJoin_any _ ks mark w3 r3 hcap3 (by omega) (by omega)).mono ?_
  rintro e w4 ⟨rfl, b4⟩
  have B4 : Below w.heap.size w w4 := B3.trans (b4.mono z3)
  have z4 := B4.size
  have z34 := b4.size
  replace o2 := o2.kept b4 (by have := b3.size; omega)
  have r4 := r3.kept (Nat.le_refl _) b4
  go_wp2_with fail
  refine (specJoin_any _ ks mark w4 r4 (by omega) (by omega)).mono ?_
  rintro e w5 ⟨rfl, d5⟩
  have b5 := d5.below w4.heap.size
  have B5 : Below w.heap.size w w5 := B4.trans (b5.mono z4)
  have z5 := B5.size
  have z45 := b5.size
  have z23 := b3.size
  replace o2 := o2.kept b5 (by omega)
  go_wp2_with fail
  refine (drawLessString_any _ n w5 (hb.kept B5)).mono ?_
  rintro e w6 ⟨p, q, rfl, hp10, hq10, b6⟩
  have B6 : Below w.heap.size w w6 := B5.trans (b6.mono z5)
  have z6 := B6.size
  replace o2 := o2.kept b6 (by omega)
  generalize jR ks mark = j1 at *
  generalize jOk ks mark = j2 at *
  have g1 : (j2 != j2) = false := by simp
  have g2 : (lessB p q != lessB p q) = false := by simp
  have LA := @lessB_asymm p q
  have CL := fun W => implLess_any p q W
  have CL2 := fun W => implLess_any q p W
  have CS := fun W => specLess_any p q W
  clear hcap3 r3 r4 hb hmx d5 b1 b2 b3 b4 b5 b6
  have hcl := ownCap o2
  rw [strs_length] at hcl
  have ro := o2.rdS
  by_cases h1 : sep.size = 1
  · obtain ⟨c, rfl⟩ := one_byte h1
    have e1 : splOk s ⟨#[c]⟩ = true := by unfold splOk; simp; exact ⟨by omega, rfl⟩
    have e2 : splR s ⟨#[c]⟩ = piecesB c s := by unfold splR; rw [if_pos e1]; rfl
    obtain ⟨jb1, jb2⟩ := join_back (s := s) (c := c) (by omega)
    have hsz : sumSz (piecesB c s) + (piecesB c s).length ≤ 1048576 := by
      have h2 := piecesB_length c s
      have hne : 0 < (piecesB c s).length := by unfold piecesB; rw [List.length_map]; exact List.length_pos_iff.2 (pieces_ne c _)
      have hj := joinB_all c hne
      have : (joinB c (piecesB c s)).size = s.size := by have h5 := jb2; rw [jR_ok jb1] at h5; exact congrArg ByteArray.size h5
      omega
    rw [e2] at hcl ro
    rw [e1, e2]
    have CJ := implJoin_any _ (piecesB c s) ⟨#[c]⟩ w6 ro (fun a c' e => by cases e; exact hcl) hsz (Nat.le_trans hp (by decide))
    rw [jb1, jb2] at CJ
    generalize (piecesB c s).length = L at *
    clear h1 e1 e2 jb1 jb2 hsz ro o2 hcl
    cases hl : lessB p q with
    | false =>
      rw [hl] at CL CS g2
      clear LA hl
      go_wp2_with (first | (go_at_call 40; with_reducible refine (CL _).mono ?_; rintro e w' ⟨rfl, rfl⟩) | (go_at_call 41; refine (CS _).mono ?_; rintro e w' ⟨rfl, rfl⟩) | (go_at_call 37; refine CJ.mono ?_; rintro e w7 ⟨rfl, b7⟩))
      go_ret
      exact ⟨rfl, B6.trans (b7.mono z6)⟩
    | true =>
      rw [LA hl] at CL2
      rw [hl] at CL CS g2
      clear LA hl
      go_wp2_with (first | (go_at_call 40; with_reducible refine (CL _).mono ?_; rintro e w' ⟨rfl, rfl⟩) | (go_at_call 40; with_reducible refine (CL2 _).mono ?_; rintro e w' ⟨rfl, rfl⟩) | (go_at_call 41; refine (CS _).mono ?_; rintro e w' ⟨rfl, rfl⟩) | (go_at_call 37; refine CJ.mono ?_; rintro e w7 ⟨rfl, b7⟩))
      go_ret
      exact ⟨rfl, B6.trans (b7.mono z6)⟩
  · have e1 : splOk s sep = false := by unfold splOk; simp [h1]
    have e2 : splR s sep = [] := by unfold splR; rw [if_neg (by simp [e1])]
    rw [e1, e2]
    have h1' : ((sep.size : Int) != 1) = true := by simp; omega
    clear e1 e2 ro o2 hcl
    cases hl : lessB p q with
    | false =>
      rw [hl] at CL CS g2
      clear LA hl
      go_wp2_with (first | (go_at_call 40; with_reducible refine (CL _).mono ?_; rintro e w' ⟨rfl, rfl⟩) | (go_at_call 41; refine (CS _).mono ?_; rintro e w' ⟨rfl, rfl⟩))
      go_ret
      exact ⟨rfl, B6⟩
    | true =>
      rw [LA hl] at CL2
      rw [hl] at CL CS g2
      clear LA hl
      go_wp2_with (first | (go_at_call 40; with_reducible refine (CL _).mono ?_; rintro e w' ⟨rfl, rfl⟩) | (go_at_call 40; with_reducible refine (CL2 _).mono ?_; rintro e w' ⟨rfl, rfl⟩) | (go_at_call 41; refine (CS _).mono ?_; rintro e w' ⟨rfl, rfl⟩))
      go_ret
      exact ⟨rfl, B6⟩


/-! ### The row -/
set_option maxRecDepth 100000 in
theorem fnSplitJoin_lifted (os : Os) (started : os.Started) (H : Type) (enc : TypeId × Value → H) :
    ReturnsInHanded {} Tryd.checked os 9 .any (fun w args => (Rows.fnSplitJoinSpec.pre enc Tryd.prog Tryd.f9 [] false w args ∧ laidMetH Tryd.prog Rows.fnSplitJoinRow.laid w) ∧ sizedMet enc Tryd.prog Tryd.f9 (OpenSpec.ofChange Rows.fnSplitJoinSpec) false w args)
      (Rows.fnSplitJoinSpec.post enc Tryd.prog Tryd.f9 false true false false) := by
  refine lift_shaped (C := Tryd.checked) (X := fun w _ => laidMetH Tryd.prog Rows.fnSplitJoinRow.laid w) (fun _ _ _ hh h => h.of_heap hh) Tryd.own started (by kernel_rfl) Tryd.func9
    (ChangeSpec.witness_shaped (enc := enc) (C := Tryd.checked) (os := os) (X := fun w _ => laidMetH Tryd.prog Rows.fnSplitJoinRow.laid w) false (World.laidAll Tryd.prog os Rows.fnSplitJoinRow.laid) #[.slice none 0 0] 8 (World.laidAll_os _ _ _) (World.shaped_of_ZipB (by kernel_rfl) (by kernel_rfl)) (by kernel_rfl) (by kernel_rfl) (by kernel_rfl) (by rw [MakeChecks.laidMetH_plain _ _ _ (by kernel_rfl)]; exact laidMet_laidAll _ (by kernel_rfl) (by kernel_rfl))) ?_
  intro W base args ds gs before hval0 hW hL hsh
  have hval : ∀ (j : Nat) t v, Tryd.f9.params[j]? = some t → args[j]? = some v → Value.okWide Tryd.prog W .any base t v := hval0
  have hW' := hW
  obtain ⟨p, q, hA0, hV, rfl, hfz, hnd⟩ := hW
  have hA : DataW.TrodAll enc Tryd.prog W 0 (fun _ => true) true Tryd.f9.params.toList args.toList ds p := hA0
  rw [Tryd.params9] at hA hval
  obtain ⟨v0, vs0, d0, ds0, p0, q0, hargs, rfl, rfl, h0, r0⟩ := trodAll_cons hA
  obtain ⟨rfl, rfl, rfl⟩ := trodAll_nil r0
  obtain rfl : args = #[v0] := by cases args; simp_all
  obtain ⟨aa0, n0, ca0, rfl, hm0, hx0⟩ := rdB_of Tryd.underlying22 Tryd.underlying5 Tryd.cellsByte (hval 0 22 v0 rfl rfl) h0
  clear hA0 hval0
  have hmx := max_of_shaped hsh
  refine (fnSplitJoin_walk aa0 n0 ca0 W hm0 hx0 hmx).mono fun e W' ⟨he, hb⟩ => ?_
  subst he
  exact ⟨_, rfl, law_post Tryd.laidOut (by kernel_rfl) rfl Tryd.underlying4 rfl (fun ds hd => by match ds, hd with | [e0], _ => rfl) hW' hb⟩

theorem fnSplitJoin_row_holds : Rows.FnSplitJoinSaid :=
  OpenClaim.holds_of_wide 9 Tryd.f9 rfl rfl rfl rfl rfl rfl rfl ⟨rfl, rfl, rfl, rfl, rfl⟩ rfl rfl rfl rfl rfl (by kernel_rfl) Tryd.func9 (by kernel_rfl)
    (of_decide_eq_true (by kernel_rfl)) (by unfold Func.isWrapper; first | (rw [if_pos (by decide +kernel)]; kernel_rfl) | (rw [if_neg (by decide +kernel)]; exact ⟨rfl, rfl⟩))
    (fun os started H enc _ => fnSplitJoin_lifted os started H enc)

/-! ### The card -/
theorem fnSplitJoin_holds : Rows.FnSplitJoinCardSaid :=
  Claim7.holds_tied_plain_at .later [] [.data, .pinned] true Rows.fnSplitJoinCard.stood.harness true
    fnSplitJoin_row_holds (fun _ h => by cases h) (by kernel_rfl) (fun _ h => by cases h) fnSplitJoin_row_tie rfl ⟨rfl, rfl⟩ (by kernel_rfl) rfl
    (fun f fn hf hfn => by
      obtain rfl : f = 9 := Option.some.inj ((show Tryd.prog.funcNamed "loop.example/g01141/laws.FnSplitJoin" = some 9 by kernel_rfl).symm.trans hf) |>.symm
      obtain rfl : fn = Tryd.f9 := (Option.some.inj (Tryd.func9.symm.trans hfn)).symm
      exact ⟨by kernel_rfl, fun j t ht => by
        rw [Tryd.params9] at ht
        have hm : t ∈ [22] := by simpa using Array.mem_of_getElem? ht
        have hall : ([22].all fun u => !Tryd.prog.wantsStandIn u) = true := by kernel_rfl
        exact (show Tryd.prog.wantsStandIn t = false by simpa using List.all_eq_true.1 hall t hm)⟩)
    (by kernel_rfl)

end Go.Proofs.YtenlfegldjfpjaaDoor
