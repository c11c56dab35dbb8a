/- JoinStrings: the program's answer is the reference's, for all arguments; the arguments read as they did. -/
import Derived.Test.YtenlfegldjfpjaaFnJoin
import Derived.Test.YtenlfegldjfpjaaRow
import Derived.SliceStrings
set_option linter.unusedSimpArgs false
set_option linter.unusedVariables false
namespace Go.Proofs.Ytenlfegldjfpjaa
open Go.ChangeShapes Go.WideShapes Go.ChangeAt Go.RowKit
open Go.ChangeMaps (open_string shut_string)

theorem Try.cellsStr : Try.prog.cellsOf 9 = 1 := by kernel_rfl
section
variable {H : Type} {enc : TypeId × Value → H} {P : Program} {w : World}
theorem addr_at {a : Addr} {n : Nat} {f : Nat → Value} (h : ∀ i, i < n → w.cell? (a.add i) = some (f i)) (hp : 0 < n) : ∃ b off, a = ⟨b, off, none⟩ ∧ ∀ i, i < n → w.cell? ⟨b, off + i, none⟩ = some (f i) := by
  obtain ⟨b, off, rfl⟩ := Go.Proofs.Ytenlfegldjfpjaa.addr_spot (h 0 hp)
  exact ⟨b, off, rfl, fun i hi => by have := h i hi; rwa [add_plain] at this⟩
/-- A slice of texts, read out of the row's data. -/
theorem rdS_of {t e : TypeId} {v : Value} {r : Reach} {b0 : Nat} {d : DataW H} {p : List MemPlace} (ht : P.underlying t = some (.slice e)) (he : P.underlying e = some .string) (hc : P.cellsOf e = 1)
    (hval : Value.okWide P w r b0 t v) (h : DataW.Trod enc P w 0 (fun _ => true) true t v d p) : ∃ ss, RdS w v ss ∧ ∀ (j : Nat) (x : ByteArray), ss[j]? = some x → x.size ≤ maxLen := by
  obtain ⟨a0, len, cap, rfl⟩ := okWide_slice ht hval
  obtain ⟨fuel, hf⟩ := h
  rcases open_strings ht he hc hf with ⟨hcs, hx⟩ | ⟨a, len', cap', zs, hcs, _, hl, hm, hz, hx, hcell, hwz⟩
  · simp [Value.cells] at hcs
    obtain ⟨rfl, rfl, rfl⟩ := hcs
    exact ⟨[], ⟨none, 0, 0, 0, rfl, Nat.zero_le _, fun h => by simp at h, fun j x hx => by simp at hx⟩, fun j x hx => by simp at hx⟩
  · simp [Value.cells] at hcs
    obtain ⟨rfl, rfl, rfl⟩ := hcs
    simp only [if_true] at hz
    have hlen : (zs.take len).length = len := by simp; omega
    by_cases hp : 0 < zs.length
    · obtain ⟨b, off, rfl, hcc⟩ := addr_at hcell hp
      refine ⟨zs.take len, ⟨some ⟨b, off, none⟩, b, off, cap, by rw [hlen], by rw [hlen]; omega, fun _ => rfl, fun j x hx => ?_⟩, fun j x hx => ?_⟩
      · rw [List.getElem?_take] at hx
        split at hx
        · have hj : j < zs.length := (List.getElem?_eq_some_iff.1 hx).1
          rw [hcc j hj, List.getD_eq_getElem?_getD, hx]; rfl
        · cases hx
      · rw [List.getElem?_take] at hx
        split at hx
        · exact hwz x (List.mem_of_getElem? hx)
        · cases hx
    · have h0 : len = 0 := by omega
      subst h0
      exact ⟨[], ⟨some a, 0, 0, cap, rfl, Nat.zero_le _, fun h => by simp at h, fun j x hx => by simp at hx⟩, fun j x hx => by simp at hx⟩
end

theorem OwnV.capLe {T lo hi : Nat} {w : World} {a : Option Addr} {n c : Nat} {vs : List Value} (h : OwnV T lo hi w (.slice a n c) vs) : ∀ a' c', Value.slice a n c = .slice a' n c' → vs.length ≤ c' := by
  intro a' c' e
  rcases h.1.2 with ⟨h1, h2⟩ | ⟨g, cap, cur, h1, _, _, hnc, _⟩
  · omega
  · rw [e] at h1
    cases h1
    exact hnc

set_option maxHeartbeats 2000000 in
theorem fnExactJoinStrings_walk (v : Value) (ss : List ByteArray) (sep : ByteArray) (w : World) (h : RdS w v ss) (hx : ∀ (j : Nat) (x : ByteArray), ss[j]? = some x → x.size ≤ maxLen) (hp : sep.size ≤ maxLen) :
    Calls Try.prog 3 #[v, .string sep] w fun e w' => e = .returned (.bool true) ∧ Below w.heap.size w w' := by
  unfold maxLen at hp
  by_cases h1 : (1048576 : Int) < sep.size
  · go_enter Try.func3, Try.ntmps3
    go_wp2
    go_ret
    exact ⟨rfl, Below.refl _ _⟩
  have C0 := szStringS_any v ss 1048576 w h (by omega) (by omega) hx
  go_enter Try.func3, Try.ntmps3
  go_wp2_with fail
  refine C0.mono ?_
  rintro e w1 ⟨⟨r, rfl, hr⟩, rfl⟩
  by_cases hneg : r < 0
  · go_wp2
    go_ret
    exact ⟨rfl, Below.refl _ _⟩
  have hz : sumSz ss + ss.length ≤ 1048576 := by omega
  clear hr C0
  go_wp2_with fail
  refine (toStringS_any v ss w h (by omega)).mono ?_
  rintro e w2 ⟨a2, c2, rfl, o2, b2⟩
  have z2 := b2.size
  go_wp2_with fail
  refine (specJoin_any _ ss sep w2 o2.rdS hz (by omega)).mono ?_
  rintro e w3 ⟨rfl, d3⟩
  have b3 := d3.below w2.heap.size
  have B3 : Below w.heap.size w w3 := b2.trans (b3.mono z2)
  have z3 := B3.size
  go_wp2_with fail
  refine (toStringS_any v ss w3 (h.kept (Nat.le_refl _) B3) (by omega)).mono ?_
  rintro e w4 ⟨a4, c4, rfl, o4, b4⟩
  have B4 : Below w.heap.size w w4 := B3.trans (b4.mono z3)
  have z4 := B4.size
  have hcl : ∀ a c, Value.slice a4 ss.length c4 = .slice a ss.length c → ss.length ≤ c := by
    intro a c e
    have := o4.capLe a c e
    rwa [strs_length] at this
  go_wp2_with fail
  refine (implJoin_any _ ss sep w4 o4.rdS hcl hz (by omega)).mono ?_
  rintro e w5 ⟨rfl, b5⟩
  have B5 : Below w.heap.size w w5 := B4.trans (b5.mono z4)
  have z5 := B5.size
  replace o4 := o4.kept b5 (Nat.le_refl _)
  have z45 := b5.size
  generalize jR ss sep = R at *
  generalize jOk ss sep = b at *
  have g2 : (b != b) = false := by simp
  have g3 : decide (ss = ss) = true := by simp
  clear hcl o2 d3 b3 hx
  go_wp2_with fail
  refine (toStringS_any v ss w5 (h.kept (Nat.le_refl _) B5) (by omega)).mono ?_
  rintro e w6 ⟨a6, c6, rfl, o6, b6⟩
  have B6 : Below w.heap.size w w6 := B5.trans (b6.mono z5)
  have z6 := B6.size
  replace o4 := o4.kept b6 (by omega)
  go_wp2_with fail
  refine (eqStringS_any _ _ ss ss w6 o4.rdS o6.rdS).mono ?_
  rintro e w7 ⟨rfl, d7⟩
  have B7 : Below w.heap.size w w7 := B6.trans (d7.below _)
  go_wp2
  go_ret
  exact ⟨rfl, B7⟩

/-! ### The row -/
set_option maxRecDepth 100000 in
theorem fnExactJoinStrings_lifted (os : Os) (started : os.Started) (H : Type) (enc : TypeId × Value → H) :
    ReturnsInHanded {} Try.checked os 3 .any (Rows.fnExactJoinStringsSpec.pre6 enc Try.prog Try.f3 Rows.fnExactJoinStringsRow.domain false) (Rows.fnExactJoinStringsSpec.post enc Try.prog Try.f3 false true false false) := by
  refine returnsInHanded_of_change (C := Try.checked) Try.own started (by kernel_rfl) Try.func3
    (ChangeSpec.witness6 (enc := enc) (C := Try.checked) false ⟨#[], #[.slice none 0 0, .string ⟨#[]⟩], []⟩ 8 (by kernel_rfl) (by kernel_rfl) (by kernel_rfl) (by kernel_rfl)) ?_
  intro W base args ds gs before hval0 hW hcnd _
  have hval : ∀ (j : Nat) t v, Try.f3.params[j]? = some t → args[j]? = some v → Value.okWide Try.prog W .any base t v := hval0
  have hW' := hW
  obtain ⟨p, q, hA0, hV, rfl, hfz, hnd⟩ := hW
  have hA : DataW.TrodAll enc Try.prog W 0 (fun _ => true) true Try.f3.params.toList args.toList ds p := hA0
  rw [Try.params3] at hA hval
  obtain ⟨v0, vs0, d0, ds0, p0, q0, hargs, rfl, rfl, h0, r0⟩ := trodAll_cons hA
  obtain ⟨v1, vs1, d1, ds1, p1, q1, rfl, rfl, rfl, h1, r1⟩ := trodAll_cons r0
  obtain ⟨rfl, rfl, rfl⟩ := trodAll_nil r1
  obtain rfl : args = #[v0, v1] := by cases args; simp_all
  obtain ⟨ss0, hx0, hm0⟩ := rdS_of Try.underlying22 Try.underlying9 Try.cellsStr (hval 0 22 v0 rfl rfl) h0
  obtain ⟨s1, rfl, rfl, rfl, hs1⟩ := open_string Try.underlying9 (hval 1 9 v1 rfl rfl) h1
  clear hA0 hval0
  refine (fnExactJoinStrings_walk _ ss0 s1 W hx0 hm0 hs1).mono fun e W' ⟨he, hb⟩ => ?_
  subst he
  exact ⟨_, rfl, law_post Try.laidOut (by kernel_rfl) rfl Try.underlying4 rfl (fun ds hd => by match ds, hd with | [e0, e1], _ => rfl) hW' hb⟩

theorem fnExactJoinStrings_holds : Rows.FnExactJoinStringsSaid :=
  OpenClaim.holds_of_wide 3 Try.f3 rfl rfl rfl rfl rfl rfl rfl ⟨rfl, rfl, rfl, rfl, rfl⟩ rfl rfl rfl rfl rfl (by kernel_rfl) Try.func3 (by kernel_rfl)
    (of_decide_eq_true (by kernel_rfl)) (by unfold Func.isWrapper; first | (rw [if_pos (by decide +kernel)]; kernel_rfl) | (rw [if_neg (by decide +kernel)]; exact ⟨rfl, rfl⟩))
    (fun os started H enc _ => fnExactJoinStrings_lifted os started H enc)

end Go.Proofs.Ytenlfegldjfpjaa
