/- Agreements: contracts. Lists by places; the sums for the answer 1 in order; the play of a box; the worth of a play. -/
import Derived.Test.YtnmnmnpeoiblhaaNbad
import Derived.Test.YtnmnmnpeoiblhaaNbam
import Derived.Test.YtnmnmnpeoiblhaaNbah
import Derived.Test.YtnmnmnpeoiblhaaNbat
set_option linter.unusedSimpArgs false
set_option linter.unusedVariables false
namespace Go.Proofs.Ytnmnmnpeoiblhaa
open Go.RowKit

set_option maxHeartbeats 400000 in
theorem agreement_any (v : Value) (p q r s : Int) (w : World) (h : RdI w v [p, q, r, s]) (hp : 0 ≤ p ∧ p ≤ 1000) (hq : 0 ≤ q ∧ q ≤ 1000) (hr : 0 ≤ r ∧ r ≤ 1000) (hs : 0 ≤ s ∧ s ≤ 1000) :
    Calls Try.prog 79 #[v] w fun e w' => e = .returned (.int .i64 (p - q - r + s)) ∧ Drw w w' := by
  obtain ⟨a, b, off, cap, rfl, hm, ha, hc⟩ := h
  obtain rfl := ha (by simp)
  have c0 := hc 0 p rfl
  have c1 := hc 1 q rfl
  have c2 := hc 2 r rfl
  have c3 := hc 3 s rfl
  simp only [Nat.add_zero] at c0
  clear hc ha hm
  go_enter Try.func79, Try.ntmps79
  go_wp2
  go_quiet (fail)
  go_wp2
  go_ret
  exact ⟨rfl, Drw.mk _ _⟩
set_option maxHeartbeats 400000 in
theorem l2Agree_any (v : Value) (p q r s : Int) (w : World) (h : RdI w v [p, q, r, s]) (hp : 0 ≤ p ∧ p ≤ 1000) (hq : 0 ≤ q ∧ q ≤ 1000) (hr : 0 ≤ r ∧ r ≤ 1000) (hs : 0 ≤ s ∧ s ≤ 1000) :
    Calls Try.prog 80 #[v] w fun e w' => e = .returned (.int .i64 (p - q - r + s)) ∧ Drw w w' := by
  obtain ⟨a, b, off, cap, rfl, hm, ha, hc⟩ := h
  obtain rfl := ha (by simp)
  have c0 := hc 0 p rfl
  have c1 := hc 1 q rfl
  have c2 := hc 2 r rfl
  have c3 := hc 3 s rfl
  simp only [Nat.add_zero] at c0
  clear hc ha hm
  go_enter Try.func80, Try.ntmps80
  go_wp2
  go_quiet (fail)
  go_wp2
  go_ret
  exact ⟨rfl, Drw.mk _ _⟩
def agreeD (b : BoxD) : List Int := if boxB b then b.Rows.map agreeL else []

theorem agreeD_size (b : BoxD) : (agreeD b).length ≤ 9 := by
  unfold agreeD
  split
  · rename_i h
    have := boxB_len h
    simpa using this
  · simp

theorem agree_next {rss : List (List Int)} {k : Nat} {p q r s : Int} (h : rss[k]? = some [p, q, r, s]) : (rss.map agreeL).take (k + 1) = (rss.map agreeL).take k ++ [p - q - r + s] := by
  rw [List.take_add_one, List.getElem?_map, h]
  rfl

set_option maxHeartbeats 1600000 in
theorem specAgreementsOf_any (vr : Value) (b : BoxD) (w : World) (h : RdII w vr b.Rows) :
    Calls Try.prog 25 #[.agg #[.int .i64 b.X, .int .i64 b.Y, .int .i64 b.Whole, vr]] w (IntsRes w (agreeD b) (boxB b)) := by
  have hr : ∀ w', Below w.heap.size w w' → RdII w' vr b.Rows := fun w' hb => h.kept (Nat.le_refl _) hb
  obtain ⟨a, ba, off, cap, rfl, hm, ha, hc⟩ := h
  unfold maxLen at hm
  have HC := Lib.hid hc
  clear hc
  rcases Bool.eq_false_or_eq_true (boxB b) with hok | hok
  · have hD : agreeD b = b.Rows.map agreeL := by unfold agreeD; rw [hok]; simp
    have hl9 := boxB_len hok
    have HD := Lib.hid hD
    have HK := Lib.hid (boxB_iff.1 hok)
    clear hD
    go_enter Try.func25, Try.ntmps25
    go_wp2_with fail
    refine (l2Box_any _ b _ (hr _ (by repeat' (first | with_reducible exact Below.refl _ _ | with_reducible assumption | with_reducible apply Below.alloc | with_reducible apply Below.setCell | with_reducible apply Below.drew | exact Nat.le_refl _ | omega | (simp only [World.size_alloc, World.size_setCell]; omega))))).mono ?_
    rintro e w1 ⟨rfl, b1⟩
    rw [hok]
    have hE := OwnV.empty 3 (w.alloc (.cells #[.int .i64 b.X, .int .i64 b.Y, .int .i64 b.Whole, .slice a b.Rows.length cap] 26))
    have hE1 := (hE.kept b1 (by simp only [World.size_alloc]; omega)).weaken (lo' := w.heap.size + 1) (hi' := w1.heap.size) (by simp only [World.size_alloc]; omega) (by have := b1.size; simp only [World.size_alloc] at this ⊢; omega)
    have B1 : Below w.heap.size w w1 := Below.trans (by repeat' (first | with_reducible exact Below.refl _ _ | with_reducible assumption | with_reducible apply Below.alloc | with_reducible apply Below.setCell | with_reducible apply Below.drew | exact Nat.le_refl _ | omega | (simp only [World.size_alloc, World.size_setCell]; omega))) (b1.mono (by first | exact Nat.le_refl _ | omega | (simp only [World.size_alloc, World.size_setCell]; omega)))
    obtain ⟨bc, bf⟩ := bcell b1
    have g3 : w1.cell? ⟨w.heap.size, 3, none⟩ = some (.slice a b.Rows.length cap) := by
      rw [bc _ _ (by simp only [World.size_alloc]; omega)]; simp [World.cell?_alloc_past]
    have hz1 : w.heap.size + 1 ≤ w1.heap.size := by have := b1.size; simp only [World.size_alloc] at this; omega
    clear bc bf hE b1
    simp only [World.size_alloc] at hE1
    go_wp2
    go_loopw [5, 4] (fun s5 s4 wr => ∃ k : Nat, k ≤ b.Rows.length ∧ s5 = .int .i64 k ∧ ∃ a4 c4, s4 = .slice a4 k c4 ∧ OwnV 3 (w.heap.size + 1) wr.heap.size wr (.slice a4 k c4) (ints ((b.Rows.map agreeL).take k)) ∧ Below w.heap.size w wr ∧ w.heap.size + 1 ≤ wr.heap.size ∧ wr.cell? ⟨w.heap.size, 3, none⟩ = some (.slice a b.Rows.length cap)) (fun s5 _ _ => b.Rows.length - (intOf s5).toNat)
    case atStart => exact ⟨0, by omega, rfl, _, _, rfl, by simpa [ints] using hE1, B1, hz1, g3⟩
    case round =>
      clear hE1 B1 g3 hz1
      obtain ⟨k, hk, rfl, a4, c4, rfl, hO, hB, hz, g3⟩ := hrel
      by_cases hlt : k < b.Rows.length
      · obtain rfl := ha (by omega)
        obtain ⟨rs, hrs⟩ : ∃ rs, b.Rows[k]? = some rs := ⟨_, List.getElem?_eq_getElem hlt⟩
        obtain ⟨v', hcell, hrd⟩ := HC.out k rs hrs
        obtain ⟨p, q, r, s, rfl, hp, hq, hr4, hs, _⟩ := fourB_four (rowsB_get HK.out.2.2.2 hrs)
        have hw1 := HK.out.2.1.2
        have hcell2 : wr.cell? ⟨ba, off + k, none⟩ = some v' := by rw [hB.cell (p := ⟨ba, off + k, none⟩) (World.block_lt_of_cell? _ _ hcell)]; exact hcell
        have hrd2 := hrd.kept (Nat.le_refl _) hB
        have hnx := agree_next hrs
        have HX := Lib.hid hnx
        have hlen : (ints ((b.Rows.map agreeL).take k)).length = k := by simp; omega
        have HN := Lib.hid hlen
        have HL : w.heap.size < wr.heap.size := by omega
        clear hcell hnx hlen hrs
        go_wp2_with fail
        refine (l2Agree_any v' p q r s _ hrd2 ⟨by omega, by omega⟩ ⟨by omega, by omega⟩ ⟨by omega, by omega⟩ ⟨by omega, by omega⟩).mono ?_
        rintro e wd ⟨rfl, hd⟩
        have hO1 := hO.kept (hd.below wr.heap.size) (Nat.le_refl _)
        have hszd : wr.heap.size ≤ wd.heap.size := (hd.below wr.heap.size).size
        have hB1 := hB.trans (hd.below _)
        have g3d : wd.cell? ⟨w.heap.size, 3, none⟩ = some (.slice (some ⟨ba, off, none⟩) b.Rows.length cap) := by rw [hd.cell]; exact g3
        clear hO hB g3
        go_wp2_with (at_builtin; refine append1_own rfl _ _ 27 3 rfl Try.underlying27 Try.infoInt rfl hO1 rfl rfl rfl (by rw [HN.out]; omega) (by omega) (by omega) ?_)
        intro a2 c2 w2 hO2 hg2
        have hlo1 : ∀ g, (Value.slice a4 k c4).ownBlock = some g → w.heap.size + 1 ≤ g := fun g hg => (hO1.lt g hg).1
        have hB2 : Below w.heap.size w w2 := hB1.grown hg2 (by omega) (fun g hg => by have := hlo1 g hg; omega)
        have old : w2.heap[w.heap.size]? = wd.heap[w.heap.size]? := hg2.block _ (by omega) (fun e => by have := hlo1 _ e.symm; omega)
        have g32 : w2.cell? ⟨w.heap.size, 3, none⟩ = some (.slice (some ⟨ba, off, none⟩) b.Rows.length cap) := by rw [World.cell?_of_block (w := wd) old]; exact g3d
        have hz2 : w.heap.size + 1 ≤ w2.heap.size := by have := hg2.size; omega
        have hx : ints ((b.Rows.map agreeL).take k) ++ [Value.int .i64 (p - q - r + s)] = ints ((b.Rows.map agreeL).take (k + 1)) := by rw [HX.out]; simp [ints]
        rw [hx] at hO2
        clear hO1 hx hg2 old g3d
        go_wp2
        go_roundw
        case rel => exact ⟨k + 1, by omega, by go_num, a2, c2, rfl, hO2, hB2, hz2, g32⟩
        case measure => simp [intOf]; omega
      · obtain rfl : k = b.Rows.length := by omega
        go_wp2
        go_ret2
        rw [HD.out]
        rw [List.take_of_length_le (by simp)] at hO
        exact ⟨a4, c4, by simp [hok], by simpa using hO.weaken (lo' := w.heap.size) (by omega) (Nat.le_refl _), hB⟩
  · have hD : agreeD b = [] := by unfold agreeD; rw [hok]; simp
    rw [hD, hok]
    clear hD
    go_enter Try.func25, Try.ntmps25
    go_wp2_with fail
    refine (l2Box_any _ b _ (hr _ (by repeat' (first | with_reducible exact Below.refl _ _ | with_reducible assumption | with_reducible apply Below.alloc | with_reducible apply Below.setCell | with_reducible apply Below.drew | exact Nat.le_refl _ | omega | (simp only [World.size_alloc, World.size_setCell]; omega))))).mono ?_
    rintro e w1 ⟨rfl, b1⟩
    rw [hok]
    have hE := OwnV.empty 3 (w.alloc (.cells #[.int .i64 b.X, .int .i64 b.Y, .int .i64 b.Whole, .slice a b.Rows.length cap] 26))
    have hE1 := (hE.kept b1 (by simp only [World.size_alloc]; omega)).weaken (lo' := w.heap.size) (hi' := w1.heap.size) (by simp only [World.size_alloc]; omega) (by have := b1.size; simp only [World.size_alloc] at this ⊢; omega)
    have B1 : Below w.heap.size w w1 := Below.trans (by repeat' (first | with_reducible exact Below.refl _ _ | with_reducible assumption | with_reducible apply Below.alloc | with_reducible apply Below.setCell | with_reducible apply Below.drew | exact Nat.le_refl _ | omega | (simp only [World.size_alloc, World.size_setCell]; omega))) (b1.mono (by first | exact Nat.le_refl _ | omega | (simp only [World.size_alloc, World.size_setCell]; omega)))
    simp only [World.size_alloc] at hE1
    go_wp2
    go_ret2
    exact ⟨_, _, rfl, hE1, B1⟩

set_option maxHeartbeats 1600000 in
theorem implAgreementsOf_any (vr : Value) (b : BoxD) (w : World) (h : RdII w vr b.Rows) :
    Calls Try.prog 24 #[.agg #[.int .i64 b.X, .int .i64 b.Y, .int .i64 b.Whole, vr]] w (IntsRes w (agreeD b) (boxB b)) := by
  have hr : ∀ w', Below w.heap.size w w' → RdII w' vr b.Rows := fun w' hb => h.kept (Nat.le_refl _) hb
  obtain ⟨a, ba, off, cap, rfl, hm, ha, hc⟩ := h
  unfold maxLen at hm
  have HC := Lib.hid hc
  clear hc
  rcases Bool.eq_false_or_eq_true (boxB b) with hok | hok
  · have hD : agreeD b = b.Rows.map agreeL := by unfold agreeD; rw [hok]; simp
    have hl9 := boxB_len hok
    have HD := Lib.hid hD
    have HK := Lib.hid (boxB_iff.1 hok)
    clear hD
    go_enter Try.func24, Try.ntmps24
    go_wp2_with fail
    refine (implIsBox_any _ b _ (hr _ (by repeat' (first | with_reducible exact Below.refl _ _ | with_reducible assumption | with_reducible apply Below.alloc | with_reducible apply Below.setCell | with_reducible apply Below.drew | exact Nat.le_refl _ | omega | (simp only [World.size_alloc, World.size_setCell]; omega))))).mono ?_
    rintro e w1 ⟨rfl, b1⟩
    rw [hok]
    have B1 : Below w.heap.size w w1 := Below.trans (by repeat' (first | with_reducible exact Below.refl _ _ | with_reducible assumption | with_reducible apply Below.alloc | with_reducible apply Below.setCell | with_reducible apply Below.drew | exact Nat.le_refl _ | omega | (simp only [World.size_alloc, World.size_setCell]; omega))) (b1.mono (by first | exact Nat.le_refl _ | omega | (simp only [World.size_alloc, World.size_setCell]; omega)))
    obtain ⟨bc, bf⟩ := bcell b1
    have g3 : w1.cell? ⟨w.heap.size, 3, none⟩ = some (.slice a b.Rows.length cap) := by
      rw [bc _ _ (by simp only [World.size_alloc]; omega)]; simp
    have hz1 : w.heap.size + 1 ≤ w1.heap.size := by have := b1.size; simp only [World.size_alloc] at this; omega
    have hE := OwnV.empty 3 w1
    have HL1 : w.heap.size < w1.heap.size := by omega
    clear bc bf b1
    go_wp2
    go_loopw [14, 4] (fun s5 s4 wr => ∃ k : Nat, k ≤ b.Rows.length ∧ s5 = .int .i64 k ∧ ∃ a4 c4, s4 = .slice a4 k c4 ∧ OwnV 3 w.heap.size wr.heap.size wr (.slice a4 k c4) (ints ((b.Rows.map agreeL).take k)) ∧ Below w.heap.size w wr) (fun s5 _ _ => b.Rows.length - (intOf s5).toNat)
    case atStart => exact ⟨0, by omega, rfl, _, _, rfl, by simpa [ints] using hE.weaken (lo' := w.heap.size) (by omega) (by first | exact Nat.le_refl _ | omega | (simp only [World.size_alloc, World.size_setCell]; omega)), (by repeat' (first | with_reducible exact Below.refl _ _ | with_reducible assumption | with_reducible apply Below.alloc | with_reducible apply Below.setCell | with_reducible apply Below.drew | exact Nat.le_refl _ | omega | (simp only [World.size_alloc, World.size_setCell]; omega)))⟩
    case round =>
      clear hE B1 g3 hz1
      obtain ⟨k, hk, rfl, a4, c4, rfl, hO, hB⟩ := hrel
      by_cases hlt : k < b.Rows.length
      · obtain rfl := ha (by omega)
        obtain ⟨rs, hrs⟩ : ∃ rs, b.Rows[k]? = some rs := ⟨_, List.getElem?_eq_getElem hlt⟩
        obtain ⟨v', hcell, hrd⟩ := HC.out k rs hrs
        obtain ⟨p, q, r, s, rfl, hp, hq, hr4, hs, _⟩ := fourB_four (rowsB_get HK.out.2.2.2 hrs)
        have hw1 := HK.out.2.1.2
        have hcell2 : wr.cell? ⟨ba, off + k, none⟩ = some v' := by rw [hB.cell (p := ⟨ba, off + k, none⟩) (World.block_lt_of_cell? _ _ hcell)]; exact hcell
        have hrd2 := hrd.kept (Nat.le_refl _) hB
        have hnx := agree_next hrs
        have HX := Lib.hid hnx
        have hlen : (ints ((b.Rows.map agreeL).take k)).length = k := by simp; omega
        have HN := Lib.hid hlen
        clear hcell hnx hlen hrs
        go_wp2_with fail
        refine (agreement_any v' p q r s _ hrd2 ⟨by omega, by omega⟩ ⟨by omega, by omega⟩ ⟨by omega, by omega⟩ ⟨by omega, by omega⟩).mono ?_
        rintro e wd ⟨rfl, hd⟩
        have hO1 := hO.kept (hd.below wr.heap.size) (Nat.le_refl _)
        have hszd : wr.heap.size ≤ wd.heap.size := (hd.below wr.heap.size).size
        have hB1 := hB.trans (hd.below _)
        have hzd := hB1.size
        clear hO hB
        go_wp2_with (at_builtin; refine append1_own rfl _ _ 27 3 rfl Try.underlying27 Try.infoInt rfl hO1 rfl rfl rfl (by rw [HN.out]; omega) (by omega) (by omega) ?_)
        intro a2 c2 w2 hO2 hg2
        have hB2 : Below w.heap.size w w2 := hB1.grown hg2 (by omega) (fun g hg => (hO1.lt g hg).1)
        have hx : ints ((b.Rows.map agreeL).take k) ++ [Value.int .i64 (p - q - r + s)] = ints ((b.Rows.map agreeL).take (k + 1)) := by rw [HX.out]; simp [ints]
        rw [hx] at hO2
        clear hO1 hx hg2
        go_wp2
        go_roundw
        case rel => exact ⟨k + 1, by omega, by go_num, a2, c2, rfl, hO2, hB2⟩
        case measure => simp [intOf]; omega
      · obtain rfl : k = b.Rows.length := by omega
        go_wp2
        go_ret2
        rw [HD.out]
        rw [List.take_of_length_le (by simp)] at hO
        exact ⟨a4, c4, by simp [hok], by simpa using hO, hB⟩
  · have hD : agreeD b = [] := by unfold agreeD; rw [hok]; simp
    rw [hD, hok]
    clear hD
    go_enter Try.func24, Try.ntmps24
    go_wp2_with fail
    refine (implIsBox_any _ b _ (hr _ (by repeat' (first | with_reducible exact Below.refl _ _ | with_reducible assumption | with_reducible apply Below.alloc | with_reducible apply Below.setCell | with_reducible apply Below.drew | exact Nat.le_refl _ | omega | (simp only [World.size_alloc, World.size_setCell]; omega))))).mono ?_
    rintro e w1 ⟨rfl, b1⟩
    rw [hok]
    have B1 : Below w.heap.size w w1 := Below.trans (by repeat' (first | with_reducible exact Below.refl _ _ | with_reducible assumption | with_reducible apply Below.alloc | with_reducible apply Below.setCell | with_reducible apply Below.drew | exact Nat.le_refl _ | omega | (simp only [World.size_alloc, World.size_setCell]; omega))) (b1.mono (by first | exact Nat.le_refl _ | omega | (simp only [World.size_alloc, World.size_setCell]; omega)))
    go_wp2
    go_ret2
    exact IntsRes.zero B1
end Go.Proofs.Ytnmnmnpeoiblhaa
set_option linter.unusedSimpArgs false
set_option linter.unusedVariables false
namespace Go.Proofs.Ytnmnmnpeoiblhaa
open Go.RowKit

def seqTo (f : Nat → Int) (n : Nat) : List Int := (List.range n).map f
theorem seqTo_zero (f : Nat → Int) : seqTo f 0 = [] := rfl
theorem seqTo_succ (f : Nat → Int) (n : Nat) : seqTo f (n + 1) = seqTo f n ++ [f n] := by unfold seqTo; simp [List.range_succ]
theorem seqTo_len (f : Nat → Int) (n : Nat) : (seqTo f n).length = n := by simp [seqTo]
theorem seqTo_get (f : Nat → Int) (n k : Nat) (h : k < n) : (seqTo f n)[k]? = some (f k) := by simp [seqTo, h]
theorem seqTo_ints (f : Nat → Int) (n : Nat) (x : Int) (h : f n = x) : ints (seqTo f n) ++ [Value.int .i64 x] = ints (seqTo f (n + 1)) := by rw [seqTo_succ, h]; simp [ints]

def countAt (b : BoxD) (k : Nat) : Int := if (k : Int) < b.X then oneB b 0 k 0 else oneB b 1 0 (k - b.X.toNat)
theorem countAt_x {b : BoxD} {k : Nat} (h : (k : Int) < b.X) : countAt b k = oneB b 0 k 0 := by unfold countAt; rw [if_pos h]
theorem countAt_y {b : BoxD} {k n : Nat} (h : 0 ≤ b.X) (hn : b.X.toNat + k = n) : countAt b n = oneB b 1 0 k := by
  unfold countAt
  rw [if_neg (by omega)]
  congr 1
  omega
theorem countAt_bd {b : BoxD} (hb : boxB b = true) (k : Nat) (h : (k : Int) < b.X + b.Y) : 0 ≤ countAt b k ∧ countAt b k ≤ b.Whole := by
  obtain ⟨⟨hx0, hx1⟩, hy0, hy1⟩ := (boxB_iff.1 hb).1
  by_cases hk : (k : Int) < b.X
  · rw [countAt_x hk]
    exact oneB_bd hb 0 k 0 hk (by omega)
  · rw [countAt_y (k := k - b.X.toNat) (by omega) (by omega)]
    exact oneB_bd hb 1 0 _ (by omega) (by omega)
def playAt (b : BoxD) (k : Nat) : Int := countAt b k / b.Whole
theorem playAt_bd {b : BoxD} (hb : boxB b = true) (k : Nat) (h : (k : Int) < b.X + b.Y) : 0 ≤ playAt b k ∧ playAt b k ≤ 1 := by
  obtain ⟨h0, h1⟩ := countAt_bd hb k h
  have hw := (boxB_iff.1 hb).2.1
  unfold playAt
  refine ⟨Int.ediv_nonneg h0 (by omega), ?_⟩
  have : countAt b k / b.Whole < 2 := Int.ediv_lt_of_lt_mul (by omega) (by omega)
  omega
def countsL (b : BoxD) : List Int := seqTo (countAt b) (b.X.toNat + b.Y.toNat)
def playL (b : BoxD) : List Int := seqTo (playAt b) (b.X.toNat + b.Y.toNat)
theorem playL_bits {b : BoxD} (hb : boxB b = true) : bitsB (playL b) (b.X + b.Y) = true := by
  obtain ⟨⟨hx0, hx1⟩, hy0, hy1⟩ := (boxB_iff.1 hb).1
  refine bits_iff.2 ⟨allIn_true (fun j x hx => ?_), ?_⟩
  · have hj : j < b.X.toNat + b.Y.toNat := by
      have := (List.getElem?_eq_some_iff.1 hx).1
      simpa [playL, seqTo_len] using this
    unfold playL at hx
    rw [seqTo_get _ _ _ hj] at hx
    cases hx
    exact inB_iff.2 (playAt_bd hb j (by omega))
  · simp [playL, seqTo_len]; omega
/-- A list of numbers by places that is being filled. -/
theorem ones_div (x y : Int) (h0 : 0 ≤ x) (h1 : x ≤ 1000000) (y0 : 1 ≤ y) : x / y ≥ 0 ∧ x / y ≤ 1000000 := by
  refine ⟨Int.ediv_nonneg h0 (by omega), ?_⟩
  have := Int.ediv_le_self y h0
  omega
end Go.Proofs.Ytnmnmnpeoiblhaa
