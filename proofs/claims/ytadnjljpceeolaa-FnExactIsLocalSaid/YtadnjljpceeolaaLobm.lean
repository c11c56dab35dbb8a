/- Agreements: contracts. -/
import Derived.Test.YtadnjljpceeolaaLoab
import Derived.Test.YtadnjljpceeolaaLoao
import Derived.Test.YtadnjljpceeolaaLoak
set_option linter.unusedSimpArgs false
set_option linter.unusedVariables false
namespace Go.Proofs.Ytadnjljpceeolaa
open Go.RowKit

set_option maxHeartbeats 400000 in
theorem agreement_any (v : Value) (p q r s : Int) (w : World) (h : RdI w v [p, q, r, s]) (hp : 0 ≤ p ∧ p ≤ 1000) (hq : 0 ≤ q ∧ q ≤ 1000) (hr : 0 ≤ r ∧ r ≤ 1000) (hs : 0 ≤ s ∧ s ≤ 1000) :
    Calls Try.prog 122 #[v] w fun e w' => e = .returned (.int .i64 (p - q - r + s)) ∧ Drw w w' := by
  obtain ⟨a, b, off, cap, rfl, hm, ha, hc⟩ := h
  obtain rfl := ha (by simp)
  have c0 := hc 0 p rfl
  have c1 := hc 1 q rfl
  have c2 := hc 2 r rfl
  have c3 := hc 3 s rfl
  simp only [Nat.add_zero] at c0
  clear hc ha hm
  go_enter Try.func122, Try.ntmps122
  go_wp2
  go_quiet (fail)
  go_wp2
  go_ret
  exact ⟨rfl, Drw.mk _ _⟩
set_option maxHeartbeats 400000 in
theorem l2Agree_any (v : Value) (p q r s : Int) (w : World) (h : RdI w v [p, q, r, s]) (hp : 0 ≤ p ∧ p ≤ 1000) (hq : 0 ≤ q ∧ q ≤ 1000) (hr : 0 ≤ r ∧ r ≤ 1000) (hs : 0 ≤ s ∧ s ≤ 1000) :
    Calls Try.prog 123 #[v] w fun e w' => e = .returned (.int .i64 (p - q - r + s)) ∧ Drw w w' := by
  obtain ⟨a, b, off, cap, rfl, hm, ha, hc⟩ := h
  obtain rfl := ha (by simp)
  have c0 := hc 0 p rfl
  have c1 := hc 1 q rfl
  have c2 := hc 2 r rfl
  have c3 := hc 3 s rfl
  simp only [Nat.add_zero] at c0
  clear hc ha hm
  go_enter Try.func123, Try.ntmps123
  go_wp2
  go_quiet (fail)
  go_wp2
  go_ret
  exact ⟨rfl, Drw.mk _ _⟩
def agreeD (b : BoxD) : List Int := if boxB b then b.Rows.map agreeL else []

theorem agreeD_size (b : BoxD) : (agreeD b).length ≤ 9 := by
  unfold agreeD
  split
  · rename_i h
    have := boxB_len h
    simpa using this
  · simp

theorem agree_next {rss : List (List Int)} {k : Nat} {p q r s : Int} (h : rss[k]? = some [p, q, r, s]) : (rss.map agreeL).take (k + 1) = (rss.map agreeL).take k ++ [p - q - r + s] := by
  rw [List.take_add_one, List.getElem?_map, h]
  rfl

set_option maxHeartbeats 1600000 in
theorem specAgreementsOf_any (vr : Value) (b : BoxD) (w : World) (h : RdII w vr b.Rows) :
    Calls Try.prog 50 #[.agg #[.int .i64 b.X, .int .i64 b.Y, .int .i64 b.Whole, vr]] w (IntsRes w (agreeD b) (boxB b)) := by
  have hr : ∀ w', Below w.heap.size w w' → RdII w' vr b.Rows := fun w' hb => h.kept (Nat.le_refl _) hb
  obtain ⟨a, ba, off, cap, rfl, hm, ha, hc⟩ := h
  unfold maxLen at hm
  have HC := Lib.hid hc
  clear hc
  rcases Bool.eq_false_or_eq_true (boxB b) with hok | hok
  · have hD : agreeD b = b.Rows.map agreeL := by unfold agreeD; rw [hok]; simp
    have hl9 := boxB_len hok
    have HD := Lib.hid hD
    have HK := Lib.hid (boxB_iff.1 hok)
    clear hD
    go_enter Try.func50, Try.ntmps50
    go_wp2_with fail
    refine (l2Box_any _ b _ (hr _ (by repeat' (first | with_reducible exact Below.refl _ _ | with_reducible assumption | with_reducible apply Below.alloc | with_reducible apply Below.setCell | with_reducible apply Below.drew | exact Nat.le_refl _ | omega | (simp only [World.size_alloc, World.size_setCell]; omega))))).mono ?_
    rintro e w1 ⟨rfl, b1⟩
    rw [hok]
    have hE := OwnV.empty 3 (w.alloc (.cells #[.int .i64 b.X, .int .i64 b.Y, .int .i64 b.Whole, .slice a b.Rows.length cap] 44))
    have hE1 := (hE.kept b1 (by simp only [World.size_alloc]; omega)).weaken (lo' := w.heap.size + 1) (hi' := w1.heap.size) (by simp only [World.size_alloc]; omega) (by have := b1.size; simp only [World.size_alloc] at this ⊢; omega)
    have B1 : Below w.heap.size w w1 := Below.trans (by repeat' (first | with_reducible exact Below.refl _ _ | with_reducible assumption | with_reducible apply Below.alloc | with_reducible apply Below.setCell | with_reducible apply Below.drew | exact Nat.le_refl _ | omega | (simp only [World.size_alloc, World.size_setCell]; omega))) (b1.mono (by first | exact Nat.le_refl _ | omega | (simp only [World.size_alloc, World.size_setCell]; omega)))
    obtain ⟨bc, bf⟩ := bcell b1
    have g3 : w1.cell? ⟨w.heap.size, 3, none⟩ = some (.slice a b.Rows.length cap) := by
      rw [bc _ _ (by simp only [World.size_alloc]; omega)]; simp [World.cell?_alloc_past]
    have hz1 : w.heap.size + 1 ≤ w1.heap.size := by have := b1.size; simp only [World.size_alloc] at this; omega
    clear bc bf hE b1
    simp only [World.size_alloc] at hE1
    go_wp2
    go_loopw [5, 4] (fun s5 s4 wr => ∃ k : Nat, k ≤ b.Rows.length ∧ s5 = .int .i64 k ∧ ∃ a4 c4, s4 = .slice a4 k c4 ∧ OwnV 3 (w.heap.size + 1) wr.heap.size wr (.slice a4 k c4) (ints ((b.Rows.map agreeL).take k)) ∧ Below w.heap.size w wr ∧ w.heap.size + 1 ≤ wr.heap.size ∧ wr.cell? ⟨w.heap.size, 3, none⟩ = some (.slice a b.Rows.length cap)) (fun s5 _ _ => b.Rows.length - (intOf s5).toNat)
    case atStart => exact ⟨0, by omega, rfl, _, _, rfl, by simpa [ints] using hE1, B1, hz1, g3⟩
    case round =>
      clear hE1 B1 g3 hz1
      obtain ⟨k, hk, rfl, a4, c4, rfl, hO, hB, hz, g3⟩ := hrel
      by_cases hlt : k < b.Rows.length
      · obtain rfl := ha (by omega)
        obtain ⟨rs, hrs⟩ : ∃ rs, b.Rows[k]? = some rs := ⟨_, List.getElem?_eq_getElem hlt⟩
        obtain ⟨v', hcell, hrd⟩ := HC.out k rs hrs
        obtain ⟨p, q, r, s, rfl, hp, hq, hr4, hs, _⟩ := fourB_four (rowsB_get HK.out.2.2.2 hrs)
        have hw1 := HK.out.2.1.2
        have hcell2 : wr.cell? ⟨ba, off + k, none⟩ = some v' := by rw [hB.cell (p := ⟨ba, off + k, none⟩) (World.block_lt_of_cell? _ _ hcell)]; exact hcell
        have hrd2 := hrd.kept (Nat.le_refl _) hB
        have hnx := agree_next hrs
        have HX := Lib.hid hnx
        have hlen : (ints ((b.Rows.map agreeL).take k)).length = k := by simp; omega
        have HN := Lib.hid hlen
        have HL : w.heap.size < wr.heap.size := by omega
        clear hcell hnx hlen hrs
        go_wp2_with fail
        refine (l2Agree_any v' p q r s _ hrd2 ⟨by omega, by omega⟩ ⟨by omega, by omega⟩ ⟨by omega, by omega⟩ ⟨by omega, by omega⟩).mono ?_
        rintro e wd ⟨rfl, hd⟩
        have hO1 := hO.kept (hd.below wr.heap.size) (Nat.le_refl _)
        have hszd : wr.heap.size ≤ wd.heap.size := (hd.below wr.heap.size).size
        have hB1 := hB.trans (hd.below _)
        have g3d : wd.cell? ⟨w.heap.size, 3, none⟩ = some (.slice (some ⟨ba, off, none⟩) b.Rows.length cap) := by rw [hd.cell]; exact g3
        clear hO hB g3
        go_wp2_with (at_builtin; refine append1_own rfl _ _ 22 3 rfl Try.underlying22 Try.infoInt rfl hO1 rfl rfl rfl (by rw [HN.out]; omega) (by omega) (by omega) ?_)
        intro a2 c2 w2 hO2 hg2
        have hlo1 : ∀ g, (Value.slice a4 k c4).ownBlock = some g → w.heap.size + 1 ≤ g := fun g hg => (hO1.lt g hg).1
        have hB2 : Below w.heap.size w w2 := hB1.grown hg2 (by omega) (fun g hg => by have := hlo1 g hg; omega)
        have old : w2.heap[w.heap.size]? = wd.heap[w.heap.size]? := hg2.block _ (by omega) (fun e => by have := hlo1 _ e.symm; omega)
        have g32 : w2.cell? ⟨w.heap.size, 3, none⟩ = some (.slice (some ⟨ba, off, none⟩) b.Rows.length cap) := by rw [World.cell?_of_block (w := wd) old]; exact g3d
        have hz2 : w.heap.size + 1 ≤ w2.heap.size := by have := hg2.size; omega
        have hx : ints ((b.Rows.map agreeL).take k) ++ [Value.int .i64 (p - q - r + s)] = ints ((b.Rows.map agreeL).take (k + 1)) := by rw [HX.out]; simp [ints]
        rw [hx] at hO2
        clear hO1 hx hg2 old g3d
        go_wp2
        go_roundw
        case rel => exact ⟨k + 1, by omega, by go_num, a2, c2, rfl, hO2, hB2, hz2, g32⟩
        case measure => simp [intOf]; omega
      · obtain rfl : k = b.Rows.length := by omega
        go_wp2
        go_ret2
        rw [HD.out]
        rw [List.take_of_length_le (by simp)] at hO
        exact ⟨a4, c4, by simp [hok], by simpa using hO.weaken (lo' := w.heap.size) (by omega) (Nat.le_refl _), hB⟩
  · have hD : agreeD b = [] := by unfold agreeD; rw [hok]; simp
    rw [hD, hok]
    clear hD
    go_enter Try.func50, Try.ntmps50
    go_wp2_with fail
    refine (l2Box_any _ b _ (hr _ (by repeat' (first | with_reducible exact Below.refl _ _ | with_reducible assumption | with_reducible apply Below.alloc | with_reducible apply Below.setCell | with_reducible apply Below.drew | exact Nat.le_refl _ | omega | (simp only [World.size_alloc, World.size_setCell]; omega))))).mono ?_
    rintro e w1 ⟨rfl, b1⟩
    rw [hok]
    have hE := OwnV.empty 3 (w.alloc (.cells #[.int .i64 b.X, .int .i64 b.Y, .int .i64 b.Whole, .slice a b.Rows.length cap] 44))
    have hE1 := (hE.kept b1 (by simp only [World.size_alloc]; omega)).weaken (lo' := w.heap.size) (hi' := w1.heap.size) (by simp only [World.size_alloc]; omega) (by have := b1.size; simp only [World.size_alloc] at this ⊢; omega)
    have B1 : Below w.heap.size w w1 := Below.trans (by repeat' (first | with_reducible exact Below.refl _ _ | with_reducible assumption | with_reducible apply Below.alloc | with_reducible apply Below.setCell | with_reducible apply Below.drew | exact Nat.le_refl _ | omega | (simp only [World.size_alloc, World.size_setCell]; omega))) (b1.mono (by first | exact Nat.le_refl _ | omega | (simp only [World.size_alloc, World.size_setCell]; omega)))
    simp only [World.size_alloc] at hE1
    go_wp2
    go_ret2
    exact ⟨_, _, rfl, hE1, B1⟩

set_option maxHeartbeats 1600000 in
theorem implAgreementsOf_any (vr : Value) (b : BoxD) (w : World) (h : RdII w vr b.Rows) :
    Calls Try.prog 49 #[.agg #[.int .i64 b.X, .int .i64 b.Y, .int .i64 b.Whole, vr]] w (IntsRes w (agreeD b) (boxB b)) := by
  have hr : ∀ w', Below w.heap.size w w' → RdII w' vr b.Rows := fun w' hb => h.kept (Nat.le_refl _) hb
  obtain ⟨a, ba, off, cap, rfl, hm, ha, hc⟩ := h
  unfold maxLen at hm
  have HC := Lib.hid hc
  clear hc
  rcases Bool.eq_false_or_eq_true (boxB b) with hok | hok
  · have hD : agreeD b = b.Rows.map agreeL := by unfold agreeD; rw [hok]; simp
    have hl9 := boxB_len hok
    have HD := Lib.hid hD
    have HK := Lib.hid (boxB_iff.1 hok)
    clear hD
    go_enter Try.func49, Try.ntmps49
    go_wp2_with fail
    refine (implIsBox_any _ b _ (hr _ (by repeat' (first | with_reducible exact Below.refl _ _ | with_reducible assumption | with_reducible apply Below.alloc | with_reducible apply Below.setCell | with_reducible apply Below.drew | exact Nat.le_refl _ | omega | (simp only [World.size_alloc, World.size_setCell]; omega))))).mono ?_
    rintro e w1 ⟨rfl, b1⟩
    rw [hok]
    have B1 : Below w.heap.size w w1 := Below.trans (by repeat' (first | with_reducible exact Below.refl _ _ | with_reducible assumption | with_reducible apply Below.alloc | with_reducible apply Below.setCell | with_reducible apply Below.drew | exact Nat.le_refl _ | omega | (simp only [World.size_alloc, World.size_setCell]; omega))) (b1.mono (by first | exact Nat.le_refl _ | omega | (simp only [World.size_alloc, World.size_setCell]; omega)))
    obtain ⟨bc, bf⟩ := bcell b1
    have g3 : w1.cell? ⟨w.heap.size, 3, none⟩ = some (.slice a b.Rows.length cap) := by
      rw [bc _ _ (by simp only [World.size_alloc]; omega)]; simp
    have hz1 : w.heap.size + 1 ≤ w1.heap.size := by have := b1.size; simp only [World.size_alloc] at this; omega
    have hE := OwnV.empty 3 w1
    have HL1 : w.heap.size < w1.heap.size := by omega
    clear bc bf b1
    go_wp2
    go_loopw [14, 4] (fun s5 s4 wr => ∃ k : Nat, k ≤ b.Rows.length ∧ s5 = .int .i64 k ∧ ∃ a4 c4, s4 = .slice a4 k c4 ∧ OwnV 3 w.heap.size wr.heap.size wr (.slice a4 k c4) (ints ((b.Rows.map agreeL).take k)) ∧ Below w.heap.size w wr) (fun s5 _ _ => b.Rows.length - (intOf s5).toNat)
    case atStart => exact ⟨0, by omega, rfl, _, _, rfl, by simpa [ints] using hE.weaken (lo' := w.heap.size) (by omega) (by first | exact Nat.le_refl _ | omega | (simp only [World.size_alloc, World.size_setCell]; omega)), (by repeat' (first | with_reducible exact Below.refl _ _ | with_reducible assumption | with_reducible apply Below.alloc | with_reducible apply Below.setCell | with_reducible apply Below.drew | exact Nat.le_refl _ | omega | (simp only [World.size_alloc, World.size_setCell]; omega)))⟩
    case round =>
      clear hE B1 g3 hz1
      obtain ⟨k, hk, rfl, a4, c4, rfl, hO, hB⟩ := hrel
      by_cases hlt : k < b.Rows.length
      · obtain rfl := ha (by omega)
        obtain ⟨rs, hrs⟩ : ∃ rs, b.Rows[k]? = some rs := ⟨_, List.getElem?_eq_getElem hlt⟩
        obtain ⟨v', hcell, hrd⟩ := HC.out k rs hrs
        obtain ⟨p, q, r, s, rfl, hp, hq, hr4, hs, _⟩ := fourB_four (rowsB_get HK.out.2.2.2 hrs)
        have hw1 := HK.out.2.1.2
        have hcell2 : wr.cell? ⟨ba, off + k, none⟩ = some v' := by rw [hB.cell (p := ⟨ba, off + k, none⟩) (World.block_lt_of_cell? _ _ hcell)]; exact hcell
        have hrd2 := hrd.kept (Nat.le_refl _) hB
        have hnx := agree_next hrs
        have HX := Lib.hid hnx
        have hlen : (ints ((b.Rows.map agreeL).take k)).length = k := by simp; omega
        have HN := Lib.hid hlen
        clear hcell hnx hlen hrs
        go_wp2_with fail
        refine (agreement_any v' p q r s _ hrd2 ⟨by omega, by omega⟩ ⟨by omega, by omega⟩ ⟨by omega, by omega⟩ ⟨by omega, by omega⟩).mono ?_
        rintro e wd ⟨rfl, hd⟩
        have hO1 := hO.kept (hd.below wr.heap.size) (Nat.le_refl _)
        have hszd : wr.heap.size ≤ wd.heap.size := (hd.below wr.heap.size).size
        have hB1 := hB.trans (hd.below _)
        have hzd := hB1.size
        clear hO hB
        go_wp2_with (at_builtin; refine append1_own rfl _ _ 22 3 rfl Try.underlying22 Try.infoInt rfl hO1 rfl rfl rfl (by rw [HN.out]; omega) (by omega) (by omega) ?_)
        intro a2 c2 w2 hO2 hg2
        have hB2 : Below w.heap.size w w2 := hB1.grown hg2 (by omega) (fun g hg => (hO1.lt g hg).1)
        have hx : ints ((b.Rows.map agreeL).take k) ++ [Value.int .i64 (p - q - r + s)] = ints ((b.Rows.map agreeL).take (k + 1)) := by rw [HX.out]; simp [ints]
        rw [hx] at hO2
        clear hO1 hx hg2
        go_wp2
        go_roundw
        case rel => exact ⟨k + 1, by omega, by go_num, a2, c2, rfl, hO2, hB2⟩
        case measure => simp [intOf]; omega
      · obtain rfl : k = b.Rows.length := by omega
        go_wp2
        go_ret2
        rw [HD.out]
        rw [List.take_of_length_le (by simp)] at hO
        exact ⟨a4, c4, by simp [hok], by simpa using hO, hB⟩
  · have hD : agreeD b = [] := by unfold agreeD; rw [hok]; simp
    rw [hD, hok]
    clear hD
    go_enter Try.func49, Try.ntmps49
    go_wp2_with fail
    refine (implIsBox_any _ b _ (hr _ (by repeat' (first | with_reducible exact Below.refl _ _ | with_reducible assumption | with_reducible apply Below.alloc | with_reducible apply Below.setCell | with_reducible apply Below.drew | exact Nat.le_refl _ | omega | (simp only [World.size_alloc, World.size_setCell]; omega))))).mono ?_
    rintro e w1 ⟨rfl, b1⟩
    rw [hok]
    have B1 : Below w.heap.size w w1 := Below.trans (by repeat' (first | with_reducible exact Below.refl _ _ | with_reducible assumption | with_reducible apply Below.alloc | with_reducible apply Below.setCell | with_reducible apply Below.drew | exact Nat.le_refl _ | omega | (simp only [World.size_alloc, World.size_setCell]; omega))) (b1.mono (by first | exact Nat.le_refl _ | omega | (simp only [World.size_alloc, World.size_setCell]; omega)))
    go_wp2
    go_ret2
    exact IntsRes.zero B1
end Go.Proofs.Ytadnjljpceeolaa
