/- What a law's row hands to its walk: arguments opened, and the row closed from the walk's contract. -/
import Derived.Test.YtcifpfdlkpddeaaDoorRows
import Derived.Test.YtcifpfdlkpddeaaDoorBase
import Derived.Deep.Matrix
set_option linter.unusedSimpArgs false
set_option linter.unusedVariables false
namespace Go.Proofs.YtcifpfdlkpddeaaDoor
open Go.ChangeShapes Go.WideShapes Go.ChangeAt Go.RowKit
open Go.ChangeMaps (open_string shut_string)
open Go.Deep

theorem Tryd.own : ownKnob Tryd.prog.godebug = none := by kernel_rfl
theorem Tryd.laidOut : laidOutB Tryd.prog = true := by kernel_rfl

theorem Tryd.cellsInt : Tryd.prog.cellsOf 3 = 1 := by kernel_rfl
section
variable {H : Type} {enc : TypeId × Value → H} {P : Program} {w : World}

theorem rdI_of {t e : TypeId} {v : Value} {r : Reach} {b0 : Nat} {d : DataW H} {p : List MemPlace} (ht : P.underlying t = some (.slice e)) (he : P.underlying e = some (.int .i64)) (hc : P.cellsOf e = 1)
    (hval : Value.okWide P w r b0 t v) (h : DataW.Trod enc P w 0 (fun _ => true) true t v d p) : ∃ xs, RdI w v xs := by
  obtain ⟨a0, len, cap, rfl⟩ := okWide_slice ht hval
  obtain ⟨fuel, hf⟩ := h
  rcases open_ints ht he hc hf with ⟨hcs, hx⟩ | ⟨a, len', cap', zs, hcs, _, hl, hm, hz, hx, hcell, hwz⟩
  · simp [Value.cells] at hcs
    obtain ⟨rfl, rfl, rfl⟩ := hcs
    exact ⟨[], none, 0, 0, 0, rfl, Nat.zero_le _, fun h => by simp at h, fun j x hx => by simp at hx⟩
  · simp [Value.cells] at hcs
    obtain ⟨rfl, rfl, rfl⟩ := hcs
    simp only [if_true] at hz
    have hlen : (zs.take len).length = len := by simp; omega
    by_cases hp : 0 < zs.length
    · obtain ⟨b, off, rfl, hcc⟩ := ints_at hcell hp
      refine ⟨zs.take len, some ⟨b, off, none⟩, b, off, cap, by rw [hlen], by rw [hlen]; omega, fun _ => rfl, fun j x hx => ?_⟩
      rw [List.getElem?_take] at hx
      split at hx
      · have hj : j < zs.length := (List.getElem?_eq_some_iff.1 hx).1
        rw [hcc j hj, List.getD_eq_getElem?_getD, hx]; rfl
      · cases hx
    · have h0 : len = 0 := by omega
      subst h0
      exact ⟨[], some a, 0, 0, cap, rfl, Nat.zero_le _, fun h => by simp at h, fun j x hx => by simp at hx⟩

/-- The same of a value that is one cell of a struct. -/
theorem rdI_of_cell {t e : TypeId} {v : Value} {fuel : Nat} {x : DataW H × List MemPlace} (ht : P.underlying t = some (.slice e)) (he : P.underlying e = some (.int .i64)) (hc : P.cellsOf e = 1)
    (h : DataW.trod enc P w 0 (fun _ => true) true fuel t [v] = some x) : ∃ xs, RdI w v xs := by
  rcases open_ints ht he hc h with ⟨hcs, hx⟩ | ⟨a, len, cap, zs, hcs, _, hl, hm, hz, hx, hcell, hwz⟩
  · simp at hcs
    subst hcs
    exact ⟨[], none, 0, 0, 0, rfl, Nat.zero_le _, fun h => by simp at h, fun j x hx => by simp at hx⟩
  · simp at hcs
    subst hcs
    simp only [if_true] at hz
    have hlen : (zs.take len).length = len := by simp; omega
    by_cases hp : 0 < zs.length
    · obtain ⟨b, off, rfl, hcc⟩ := ints_at hcell hp
      refine ⟨zs.take len, some ⟨b, off, none⟩, b, off, cap, by rw [hlen], by rw [hlen]; omega, fun _ => rfl, fun j x hx => ?_⟩
      rw [List.getElem?_take] at hx
      split at hx
      · have hj : j < zs.length := (List.getElem?_eq_some_iff.1 hx).1
        rw [hcc j hj, List.getD_eq_getElem?_getD, hx]; rfl
      · cases hx
    · have h0 : len = 0 := by omega
      subst h0
      exact ⟨[], some a, 0, 0, cap, rfl, Nat.zero_le _, fun h => by simp at h, fun j x hx => by simp at hx⟩

theorem addr_spot {a : Addr} {v : Value} (h : w.cell? (a.add 0) = some v) : ∃ b off, a = ⟨b, off, none⟩ := by
  obtain ⟨b, off, spot⟩ := a
  have hspot : spot = none := by simpa [Addr.add] using World.cell?_spot h
  subst hspot
  exact ⟨b, off, rfl⟩

theorem rdII_of_cell {t e q : TypeId} {v : Value} {fuel : Nat} {x : DataW H × List MemPlace} (ht : P.underlying t = some (.slice e)) (he : P.underlying e = some (.slice q)) (hq : P.underlying q = some (.int .i64))
    (ce : P.cellsOf e = 1) (cq : P.cellsOf q = 1) (h : DataW.trod enc P w 0 (fun _ => true) true fuel t [v] = some x) : ∃ rss, RdII w v rss := by
  rcases open_int_rows ht he hq ce cq h with ⟨hcs, hx⟩ | ⟨a, len, cap, A, L, C, Z, hcs, _, hl, hm, hx, hrow⟩
  · simp at hcs
    subst hcs
    exact ⟨[], none, 0, 0, 0, rfl, Nat.zero_le _, fun h => by simp at h, fun j x hx => by simp at hx⟩
  · simp at hcs
    subst hcs
    have hlen : (List.map (fun r => (Z r).take (L r)) (List.range len)).length = len := by simp
    by_cases hp : 0 < len
    · obtain ⟨b, off, rfl⟩ := addr_spot (hrow 0 (by omega)).1
      refine ⟨List.map (fun r => (Z r).take (L r)) (List.range len), some ⟨b, off, none⟩, b, off, cap, by rw [hlen], by rw [hlen]; omega, fun _ => rfl, fun j rs hj => ?_⟩
      have hjl : j < len := by
        have := (List.getElem?_eq_some_iff.1 hj).1
        rw [hlen] at this; exact this
      simp [hjl] at hj
      subst hj
      obtain ⟨h1, h2, h3, h4, h5, h6, h7⟩ := hrow j (by omega)
      refine ⟨_, by rw [← add_plain]; exact h1, ?_⟩
      have hlen2 : ((Z j).take (L j)).length = L j := by simp; omega
      by_cases hpj : 0 < L j
      · cases hA : A j with
        | none => have := h6 hA; omega
        | some a' =>
          obtain ⟨h8, h9⟩ := h7 a' hA
          obtain ⟨b', off', rfl⟩ := addr_spot (h9 0 (by omega))
          refine ⟨some ⟨b', off', none⟩, b', off', C j, by rw [hlen2], by rw [hlen2]; omega, fun _ => rfl, fun i y hy => ?_⟩
          rw [List.getElem?_take] at hy
          split at hy
          · have hi : i < (Z j).length := (List.getElem?_eq_some_iff.1 hy).1
            have := h9 i (by omega)
            rw [add_plain] at this
            rw [this, List.getD_eq_getElem?_getD, hy]; rfl
          · cases hy
      · have h0 : L j = 0 := by omega
        rw [h0]
        exact ⟨A j, 0, 0, C j, by simp, by simp, fun h => by simp at h, fun i y hy => by simp at hy⟩
    · have h0 : len = 0 := by omega
      subst h0
      exact ⟨[], some a, 0, 0, cap, rfl, Nat.zero_le _, fun h => by simp at h, fun j x hx => by simp at hx⟩

theorem rdII_of {t e q : TypeId} {v : Value} {r : Reach} {b0 : Nat} {d : DataW H} {p : List MemPlace} (ht : P.underlying t = some (.slice e)) (he : P.underlying e = some (.slice q)) (hq : P.underlying q = some (.int .i64))
    (ce : P.cellsOf e = 1) (cq : P.cellsOf q = 1) (hval : Value.okWide P w r b0 t v) (h : DataW.Trod enc P w 0 (fun _ => true) true t v d p) : ∃ rss, RdII w v rss := by
  obtain ⟨a0, len, cap, rfl⟩ := okWide_slice ht hval
  obtain ⟨fuel, hf⟩ := h
  exact rdII_of_cell ht he hq ce cq (by simpa [Value.cells] using hf)
end

end Go.Proofs.YtcifpfdlkpddeaaDoor
