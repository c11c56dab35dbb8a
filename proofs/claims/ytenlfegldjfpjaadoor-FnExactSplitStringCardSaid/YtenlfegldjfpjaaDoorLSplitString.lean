/- SplitString: the program's answer is the reference's, for all arguments; the listed tables are as the program's text lays them (a tied card). -/
import Derived.Test.YtenlfegldjfpjaaDoorFnSplitS
import Derived.Lay
set_option linter.unusedSimpArgs false
set_option linter.unusedVariables false
namespace Go.Proofs.YtenlfegldjfpjaaDoor
open Go.ChangeShapes Go.WideShapes Go.ChangeAt Go.RowKit
open Go.ChangeMaps (open_string shut_string)


theorem grown_below {w w' : World} {r : Option Nat} {B : Nat} (h : w.grownBy w' r) (hB : B ≤ w.heap.size) (hr : ∀ g, r = some g → B ≤ g) : Below B w w' :=
  ⟨h.os, h.tape, h.output, h.size, fun k hk => h.block k (by omega) (fun e => by have := hr k e.symm; omega)⟩
set_option maxHeartbeats 2000000 in
theorem fnExactSplitString_walk (s sep : ByteArray) (w : World) (hs : s.size ≤ maxLen) (hp : sep.size ≤ maxLen) (hmx : Max w) :
    Calls Tryd.prog 6 #[.string s, .string sep] w fun e w' => e = .returned (.bool true) ∧ Below w.heap.size w w' := by
  unfold maxLen at hs hp
  by_cases h1 : (1048576 : Int) < s.size
  · go_enter Tryd.func6, Tryd.ntmps6
    go_wp2
    go_ret
    exact ⟨rfl, Below.refl _ _⟩
  by_cases h2 : (1048576 : Int) < sep.size
  · go_enter Tryd.func6, Tryd.ntmps6
    go_wp2
    go_ret
    exact ⟨rfl, Below.refl _ _⟩
  have C1 := specSplit_any s sep w (by omega) (by omega)
  have C2 := fun W h => implSplit_any s sep W (by omega) (by omega) h
  have hz := splR_size s sep
  generalize splR s sep = R at *
  generalize splOk s sep = b at *
  have g2 : (b != b) = false := by simp
  have g3 : decide (R = R) = true := by simp
  go_enter Tryd.func6, Tryd.ntmps6
  go_wp2_with fail
  refine C1.mono ?_
  rintro e w1 ⟨a1, c1, rfl, o1, b1⟩
  have z1 := b1.size
  go_wp2_with fail
  refine (C2 _ (hmx.stays b1)).mono ?_
  rintro e w2 ⟨a2, c2, rfl, o2, b2⟩
  have z2 := b2.size
  replace o1 := o1.kept b2 (Nat.le_refl _)
  have B2 : Below w.heap.size w w2 := b1.trans (b2.mono z1)
  go_wp2_with fail
  refine (eqStringS_any _ _ R R w2 o2.rdS o1.rdS).mono ?_
  rintro e w3 ⟨rfl, d3⟩
  have b3 := d3.below w2.heap.size
  have z3 := b3.size
  replace o1 := o1.kept b3 (by omega)
  replace o2 := o2.kept b3 (by omega)
  have B3 : Below w.heap.size w w3 := B2.trans (b3.mono (by omega))
  have CM := markStringS_any 9 w1.heap.size w2.heap.size _ _ 1 w3 o2 (by rw [strs_length]; omega) (by omega) (by omega)
  rw [strs_length] at CM
  go_wp2_with fail
  refine CM.mono ?_
  rintro e w4 ⟨rfl, o3, gr⟩
  have m4 : Mid w1.heap.size w2.heap.size w3 w4 := Mid.of_grown gr (fun g hg => by have := o2.lt g hg; omega)
  have z4 := m4.size
  replace o1 := o1.mid m4 (by omega)
  have B4 : Below w.heap.size w w4 := B3.trans (m4.below (by omega) (by omega))
  have r3 : RdS w4 (.slice a2 R.length c2) (smarks 1 R.length) := by
    have := o3.rdS
    exact this
  have CH := fun W (h : Below w4.heap.size w4 W) => heldStringS_any _ R.length 1 W (r3.kept (Nat.le_refl _) h) (by omega) (by omega) (by omega)
  have q1 : ¬ ((1 : Int) + R.length < 0) := by omega
  have q2 : (((1 : Int) + R.length) != ((1 : Int) + R.length)) = false := by simp
  clear o2 o3 r3 CM gr m4 C1
  go_wp2_with fail
  refine (CH w4 (Below.refl _ _)).mono ?_
  rintro e w5 ⟨rfl, b5⟩
  have z5 := b5.size
  replace o1 := o1.kept b5 (by omega)
  have B5 : Below w.heap.size w w5 := B4.trans (b5.mono (by omega))
  go_wp2_with fail
  refine (C2 _ (hmx.stays B5)).mono ?_
  rintro e w6 ⟨a6, c6, rfl, o6, b6⟩
  have z6 := b6.size
  replace o1 := o1.kept b6 (by omega)
  have B6 : Below w.heap.size w w6 := B5.trans (b6.mono (by omega))
  go_wp2_with fail
  refine (eqStringS_any _ _ R R w6 o6.rdS o1.rdS).mono ?_
  rintro e w7 ⟨rfl, d7⟩
  have b7 := d7.below w6.heap.size
  have z7 := b7.size
  have B7 : Below w.heap.size w w7 := B6.trans (b7.mono (by omega))
  have K7 : Below w4.heap.size w4 w7 := (b5.trans (b6.mono (by omega))).trans (b7.mono (by omega))
  go_wp2_with fail
  refine (CH w7 K7).mono ?_
  rintro e w8 ⟨rfl, b8⟩
  go_wp2
  go_ret
  exact ⟨rfl, B7.trans (b8.mono (by omega))⟩


/-! ### The row -/
set_option maxRecDepth 100000 in
theorem fnExactSplitString_lifted (os : Os) (started : os.Started) (H : Type) (enc : TypeId × Value → H) :
    ReturnsInHanded {} Tryd.checked os 6 .any (fun w args => (Rows.fnExactSplitStringSpec.pre enc Tryd.prog Tryd.f6 [] false w args ∧ laidMetH Tryd.prog Rows.fnExactSplitStringRow.laid w) ∧ sizedMet enc Tryd.prog Tryd.f6 (OpenSpec.ofChange Rows.fnExactSplitStringSpec) false w args)
      (Rows.fnExactSplitStringSpec.post enc Tryd.prog Tryd.f6 false true false false) := by
  refine lift_shaped (C := Tryd.checked) (X := fun w _ => laidMetH Tryd.prog Rows.fnExactSplitStringRow.laid w) (fun _ _ _ hh h => h.of_heap hh) Tryd.own started (by kernel_rfl) Tryd.func6
    (ChangeSpec.witness_shaped (enc := enc) (C := Tryd.checked) (os := os) (X := fun w _ => laidMetH Tryd.prog Rows.fnExactSplitStringRow.laid w) false (World.laidAll Tryd.prog os Rows.fnExactSplitStringRow.laid) #[.string ⟨#[]⟩, .string ⟨#[]⟩] 8 (World.laidAll_os _ _ _) (World.shaped_of_ZipB (by kernel_rfl) (by kernel_rfl)) (by kernel_rfl) (by kernel_rfl) (by kernel_rfl) (by rw [MakeChecks.laidMetH_plain _ _ _ (by kernel_rfl)]; exact laidMet_laidAll _ (by kernel_rfl) (by kernel_rfl))) ?_
  intro W base args ds gs before hval0 hW hL hsh
  have hval : ∀ (j : Nat) t v, Tryd.f6.params[j]? = some t → args[j]? = some v → Value.okWide Tryd.prog W .any base t v := hval0
  have hW' := hW
  obtain ⟨p, q, hA0, hV, rfl, hfz, hnd⟩ := hW
  have hA : DataW.TrodAll enc Tryd.prog W 0 (fun _ => true) true Tryd.f6.params.toList args.toList ds p := hA0
  rw [Tryd.params6] at hA hval
  obtain ⟨v0, vs0, d0, ds0, p0, q0, hargs, rfl, rfl, h0, r0⟩ := trodAll_cons hA
  obtain ⟨v1, vs1, d1, ds1, p1, q1, rfl, rfl, rfl, h1, r1⟩ := trodAll_cons r0
  obtain ⟨rfl, rfl, rfl⟩ := trodAll_nil r1
  obtain rfl : args = #[v0, v1] := by cases args; simp_all
  obtain ⟨a0, rfl, rfl, rfl, ha0⟩ := open_string Tryd.underlying9 (hval 0 9 v0 rfl rfl) h0
  obtain ⟨a1, rfl, rfl, rfl, ha1⟩ := open_string Tryd.underlying9 (hval 1 9 v1 rfl rfl) h1
  clear hA0 hval0
  have hmx := max_of_shaped hsh
  refine (fnExactSplitString_walk a0 a1 W ha0 ha1 hmx).mono fun e W' ⟨he, hb⟩ => ?_
  subst he
  exact ⟨_, rfl, law_post Tryd.laidOut (by kernel_rfl) rfl Tryd.underlying4 rfl (fun ds hd => by match ds, hd with | [e0, e1], _ => rfl) hW' hb⟩

theorem fnExactSplitString_row_holds : Rows.FnExactSplitStringSaid :=
  OpenClaim.holds_of_wide 6 Tryd.f6 rfl rfl rfl rfl rfl rfl rfl ⟨rfl, rfl, rfl, rfl, rfl⟩ rfl rfl rfl rfl rfl (by kernel_rfl) Tryd.func6 (by kernel_rfl)
    (of_decide_eq_true (by kernel_rfl)) (by unfold Func.isWrapper; first | (rw [if_pos (by decide +kernel)]; kernel_rfl) | (rw [if_neg (by decide +kernel)]; exact ⟨rfl, rfl⟩))
    (fun os started H enc _ => fnExactSplitString_lifted os started H enc)

/-! ### The card -/
theorem fnExactSplitString_holds : Rows.FnExactSplitStringCardSaid :=
  Claim7.holds_tied_plain_at .later [] [.data, .pinned] true Rows.fnExactSplitStringCard.stood.harness true
    fnExactSplitString_row_holds (fun _ h => by cases h) (by kernel_rfl) (fun _ h => by cases h) fnExactSplitString_row_tie rfl ⟨rfl, rfl⟩ (by kernel_rfl) rfl
    (fun f fn hf hfn => by
      obtain rfl : f = 6 := Option.some.inj ((show Tryd.prog.funcNamed "loop.example/g01141/laws.FnExactSplitString" = some 6 by kernel_rfl).symm.trans hf) |>.symm
      obtain rfl : fn = Tryd.f6 := (Option.some.inj (Tryd.func6.symm.trans hfn)).symm
      exact ⟨by kernel_rfl, fun j t ht => by
        rw [Tryd.params6] at ht
        have hm : t ∈ [9] := by simpa using Array.mem_of_getElem? ht
        have hall : ([9].all fun u => !Tryd.prog.wantsStandIn u) = true := by kernel_rfl
        exact (show Tryd.prog.wantsStandIn t = false by simpa using List.all_eq_true.1 hall t hm)⟩)
    (by kernel_rfl)

end Go.Proofs.YtenlfegldjfpjaaDoor
