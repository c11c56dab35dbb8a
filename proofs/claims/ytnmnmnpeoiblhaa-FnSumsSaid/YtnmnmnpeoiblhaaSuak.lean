/- Agreements: contracts. A region that draws its order, whose last operation waits for all others: the last one may be cut off. -/
import Derived.Test.YtnmnmnpeoiblhaaSuac
import Derived.Test.YtnmnmnpeoiblhaaSuaj
import Derived.Test.YtnmnmnpeoiblhaaSuae
import Derived.OrdersHeld
import Derived.Tactics
import Derived.Deep.RegionHeld3
set_option linter.unusedSimpArgs false
set_option linter.unusedVariables false
namespace Go.Proofs.Ytnmnmnpeoiblhaa
open Go.RowKit

set_option maxHeartbeats 400000 in
theorem agreement_any (v : Value) (p q r s : Int) (w : World) (h : RdI w v [p, q, r, s]) (hp : 0 ≤ p ∧ p ≤ 1000) (hq : 0 ≤ q ∧ q ≤ 1000) (hr : 0 ≤ r ∧ r ≤ 1000) (hs : 0 ≤ s ∧ s ≤ 1000) :
    Calls Try.prog 79 #[v] w fun e w' => e = .returned (.int .i64 (p - q - r + s)) ∧ Drw w w' := by
  obtain ⟨a, b, off, cap, rfl, hm, ha, hc⟩ := h
  obtain rfl := ha (by simp)
  have c0 := hc 0 p rfl
  have c1 := hc 1 q rfl
  have c2 := hc 2 r rfl
  have c3 := hc 3 s rfl
  simp only [Nat.add_zero] at c0
  clear hc ha hm
  go_enter Try.func79, Try.ntmps79
  go_wp2
  go_quiet (fail)
  go_wp2
  go_ret
  exact ⟨rfl, Drw.mk _ _⟩
set_option maxHeartbeats 400000 in
theorem l2Agree_any (v : Value) (p q r s : Int) (w : World) (h : RdI w v [p, q, r, s]) (hp : 0 ≤ p ∧ p ≤ 1000) (hq : 0 ≤ q ∧ q ≤ 1000) (hr : 0 ≤ r ∧ r ≤ 1000) (hs : 0 ≤ s ∧ s ≤ 1000) :
    Calls Try.prog 80 #[v] w fun e w' => e = .returned (.int .i64 (p - q - r + s)) ∧ Drw w w' := by
  obtain ⟨a, b, off, cap, rfl, hm, ha, hc⟩ := h
  obtain rfl := ha (by simp)
  have c0 := hc 0 p rfl
  have c1 := hc 1 q rfl
  have c2 := hc 2 r rfl
  have c3 := hc 3 s rfl
  simp only [Nat.add_zero] at c0
  clear hc ha hm
  go_enter Try.func80, Try.ntmps80
  go_wp2
  go_quiet (fail)
  go_wp2
  go_ret
  exact ⟨rfl, Drw.mk _ _⟩
def agreeD (b : BoxD) : List Int := if boxB b then b.Rows.map agreeL else []

theorem agreeD_size (b : BoxD) : (agreeD b).length ≤ 9 := by
  unfold agreeD
  split
  · rename_i h
    have := boxB_len h
    simpa using this
  · simp

theorem agree_next {rss : List (List Int)} {k : Nat} {p q r s : Int} (h : rss[k]? = some [p, q, r, s]) : (rss.map agreeL).take (k + 1) = (rss.map agreeL).take k ++ [p - q - r + s] := by
  rw [List.take_add_one, List.getElem?_map, h]
  rfl

set_option maxHeartbeats 1600000 in
theorem specAgreementsOf_any (vr : Value) (b : BoxD) (w : World) (h : RdII w vr b.Rows) :
    Calls Try.prog 25 #[.agg #[.int .i64 b.X, .int .i64 b.Y, .int .i64 b.Whole, vr]] w (IntsRes w (agreeD b) (boxB b)) := by
  have hr : ∀ w', Below w.heap.size w w' → RdII w' vr b.Rows := fun w' hb => h.kept (Nat.le_refl _) hb
  obtain ⟨a, ba, off, cap, rfl, hm, ha, hc⟩ := h
  unfold maxLen at hm
  have HC := Lib.hid hc
  clear hc
  rcases Bool.eq_false_or_eq_true (boxB b) with hok | hok
  · have hD : agreeD b = b.Rows.map agreeL := by unfold agreeD; rw [hok]; simp
    have hl9 := boxB_len hok
    have HD := Lib.hid hD
    have HK := Lib.hid (boxB_iff.1 hok)
    clear hD
    go_enter Try.func25, Try.ntmps25
    go_wp2_with fail
    refine (l2Box_any _ b _ (hr _ (by repeat' (first | with_reducible exact Below.refl _ _ | with_reducible assumption | with_reducible apply Below.alloc | with_reducible apply Below.setCell | with_reducible apply Below.drew | exact Nat.le_refl _ | omega | (simp only [World.size_alloc, World.size_setCell]; omega))))).mono ?_
    rintro e w1 ⟨rfl, b1⟩
    rw [hok]
    have hE := OwnV.empty 3 (w.alloc (.cells #[.int .i64 b.X, .int .i64 b.Y, .int .i64 b.Whole, .slice a b.Rows.length cap] 26))
    have hE1 := (hE.kept b1 (by simp only [World.size_alloc]; omega)).weaken (lo' := w.heap.size + 1) (hi' := w1.heap.size) (by simp only [World.size_alloc]; omega) (by have := b1.size; simp only [World.size_alloc] at this ⊢; omega)
    have B1 : Below w.heap.size w w1 := Below.trans (by repeat' (first | with_reducible exact Below.refl _ _ | with_reducible assumption | with_reducible apply Below.alloc | with_reducible apply Below.setCell | with_reducible apply Below.drew | exact Nat.le_refl _ | omega | (simp only [World.size_alloc, World.size_setCell]; omega))) (b1.mono (by first | exact Nat.le_refl _ | omega | (simp only [World.size_alloc, World.size_setCell]; omega)))
    obtain ⟨bc, bf⟩ := bcell b1
    have g3 : w1.cell? ⟨w.heap.size, 3, none⟩ = some (.slice a b.Rows.length cap) := by
      rw [bc _ _ (by simp only [World.size_alloc]; omega)]; simp [World.cell?_alloc_past]
    have hz1 : w.heap.size + 1 ≤ w1.heap.size := by have := b1.size; simp only [World.size_alloc] at this; omega
    clear bc bf hE b1
    simp only [World.size_alloc] at hE1
    go_wp2
    go_loopw [5, 4] (fun s5 s4 wr => ∃ k : Nat, k ≤ b.Rows.length ∧ s5 = .int .i64 k ∧ ∃ a4 c4, s4 = .slice a4 k c4 ∧ OwnV 3 (w.heap.size + 1) wr.heap.size wr (.slice a4 k c4) (ints ((b.Rows.map agreeL).take k)) ∧ Below w.heap.size w wr ∧ w.heap.size + 1 ≤ wr.heap.size ∧ wr.cell? ⟨w.heap.size, 3, none⟩ = some (.slice a b.Rows.length cap)) (fun s5 _ _ => b.Rows.length - (intOf s5).toNat)
    case atStart => exact ⟨0, by omega, rfl, _, _, rfl, by simpa [ints] using hE1, B1, hz1, g3⟩
    case round =>
      clear hE1 B1 g3 hz1
      obtain ⟨k, hk, rfl, a4, c4, rfl, hO, hB, hz, g3⟩ := hrel
      by_cases hlt : k < b.Rows.length
      · obtain rfl := ha (by omega)
        obtain ⟨rs, hrs⟩ : ∃ rs, b.Rows[k]? = some rs := ⟨_, List.getElem?_eq_getElem hlt⟩
        obtain ⟨v', hcell, hrd⟩ := HC.out k rs hrs
        obtain ⟨p, q, r, s, rfl, hp, hq, hr4, hs, _⟩ := fourB_four (rowsB_get HK.out.2.2.2 hrs)
        have hw1 := HK.out.2.1.2
        have hcell2 : wr.cell? ⟨ba, off + k, none⟩ = some v' := by rw [hB.cell (p := ⟨ba, off + k, none⟩) (World.block_lt_of_cell? _ _ hcell)]; exact hcell
        have hrd2 := hrd.kept (Nat.le_refl _) hB
        have hnx := agree_next hrs
        have HX := Lib.hid hnx
        have hlen : (ints ((b.Rows.map agreeL).take k)).length = k := by simp; omega
        have HN := Lib.hid hlen
        have HL : w.heap.size < wr.heap.size := by omega
        clear hcell hnx hlen hrs
        go_wp2_with fail
        refine (l2Agree_any v' p q r s _ hrd2 ⟨by omega, by omega⟩ ⟨by omega, by omega⟩ ⟨by omega, by omega⟩ ⟨by omega, by omega⟩).mono ?_
        rintro e wd ⟨rfl, hd⟩
        have hO1 := hO.kept (hd.below wr.heap.size) (Nat.le_refl _)
        have hszd : wr.heap.size ≤ wd.heap.size := (hd.below wr.heap.size).size
        have hB1 := hB.trans (hd.below _)
        have g3d : wd.cell? ⟨w.heap.size, 3, none⟩ = some (.slice (some ⟨ba, off, none⟩) b.Rows.length cap) := by rw [hd.cell]; exact g3
        clear hO hB g3
        go_wp2_with (at_builtin; refine append1_own rfl _ _ 27 3 rfl Try.underlying27 Try.infoInt rfl hO1 rfl rfl rfl (by rw [HN.out]; omega) (by omega) (by omega) ?_)
        intro a2 c2 w2 hO2 hg2
        have hlo1 : ∀ g, (Value.slice a4 k c4).ownBlock = some g → w.heap.size + 1 ≤ g := fun g hg => (hO1.lt g hg).1
        have hB2 : Below w.heap.size w w2 := hB1.grown hg2 (by omega) (fun g hg => by have := hlo1 g hg; omega)
        have old : w2.heap[w.heap.size]? = wd.heap[w.heap.size]? := hg2.block _ (by omega) (fun e => by have := hlo1 _ e.symm; omega)
        have g32 : w2.cell? ⟨w.heap.size, 3, none⟩ = some (.slice (some ⟨ba, off, none⟩) b.Rows.length cap) := by rw [World.cell?_of_block (w := wd) old]; exact g3d
        have hz2 : w.heap.size + 1 ≤ w2.heap.size := by have := hg2.size; omega
        have hx : ints ((b.Rows.map agreeL).take k) ++ [Value.int .i64 (p - q - r + s)] = ints ((b.Rows.map agreeL).take (k + 1)) := by rw [HX.out]; simp [ints]
        rw [hx] at hO2
        clear hO1 hx hg2 old g3d
        go_wp2
        go_roundw
        case rel => exact ⟨k + 1, by omega, by go_num, a2, c2, rfl, hO2, hB2, hz2, g32⟩
        case measure => simp [intOf]; omega
      · obtain rfl : k = b.Rows.length := by omega
        go_wp2
        go_ret2
        rw [HD.out]
        rw [List.take_of_length_le (by simp)] at hO
        exact ⟨a4, c4, by simp [hok], by simpa using hO.weaken (lo' := w.heap.size) (by omega) (Nat.le_refl _), hB⟩
  · have hD : agreeD b = [] := by unfold agreeD; rw [hok]; simp
    rw [hD, hok]
    clear hD
    go_enter Try.func25, Try.ntmps25
    go_wp2_with fail
    refine (l2Box_any _ b _ (hr _ (by repeat' (first | with_reducible exact Below.refl _ _ | with_reducible assumption | with_reducible apply Below.alloc | with_reducible apply Below.setCell | with_reducible apply Below.drew | exact Nat.le_refl _ | omega | (simp only [World.size_alloc, World.size_setCell]; omega))))).mono ?_
    rintro e w1 ⟨rfl, b1⟩
    rw [hok]
    have hE := OwnV.empty 3 (w.alloc (.cells #[.int .i64 b.X, .int .i64 b.Y, .int .i64 b.Whole, .slice a b.Rows.length cap] 26))
    have hE1 := (hE.kept b1 (by simp only [World.size_alloc]; omega)).weaken (lo' := w.heap.size) (hi' := w1.heap.size) (by simp only [World.size_alloc]; omega) (by have := b1.size; simp only [World.size_alloc] at this ⊢; omega)
    have B1 : Below w.heap.size w w1 := Below.trans (by repeat' (first | with_reducible exact Below.refl _ _ | with_reducible assumption | with_reducible apply Below.alloc | with_reducible apply Below.setCell | with_reducible apply Below.drew | exact Nat.le_refl _ | omega | (simp only [World.size_alloc, World.size_setCell]; omega))) (b1.mono (by first | exact Nat.le_refl _ | omega | (simp only [World.size_alloc, World.size_setCell]; omega)))
    simp only [World.size_alloc] at hE1
    go_wp2
    go_ret2
    exact ⟨_, _, rfl, hE1, B1⟩

set_option maxHeartbeats 1600000 in
theorem implAgreementsOf_any (vr : Value) (b : BoxD) (w : World) (h : RdII w vr b.Rows) :
    Calls Try.prog 24 #[.agg #[.int .i64 b.X, .int .i64 b.Y, .int .i64 b.Whole, vr]] w (IntsRes w (agreeD b) (boxB b)) := by
  have hr : ∀ w', Below w.heap.size w w' → RdII w' vr b.Rows := fun w' hb => h.kept (Nat.le_refl _) hb
  obtain ⟨a, ba, off, cap, rfl, hm, ha, hc⟩ := h
  unfold maxLen at hm
  have HC := Lib.hid hc
  clear hc
  rcases Bool.eq_false_or_eq_true (boxB b) with hok | hok
  · have hD : agreeD b = b.Rows.map agreeL := by unfold agreeD; rw [hok]; simp
    have hl9 := boxB_len hok
    have HD := Lib.hid hD
    have HK := Lib.hid (boxB_iff.1 hok)
    clear hD
    go_enter Try.func24, Try.ntmps24
    go_wp2_with fail
    refine (implIsBox_any _ b _ (hr _ (by repeat' (first | with_reducible exact Below.refl _ _ | with_reducible assumption | with_reducible apply Below.alloc | with_reducible apply Below.setCell | with_reducible apply Below.drew | exact Nat.le_refl _ | omega | (simp only [World.size_alloc, World.size_setCell]; omega))))).mono ?_
    rintro e w1 ⟨rfl, b1⟩
    rw [hok]
    have B1 : Below w.heap.size w w1 := Below.trans (by repeat' (first | with_reducible exact Below.refl _ _ | with_reducible assumption | with_reducible apply Below.alloc | with_reducible apply Below.setCell | with_reducible apply Below.drew | exact Nat.le_refl _ | omega | (simp only [World.size_alloc, World.size_setCell]; omega))) (b1.mono (by first | exact Nat.le_refl _ | omega | (simp only [World.size_alloc, World.size_setCell]; omega)))
    obtain ⟨bc, bf⟩ := bcell b1
    have g3 : w1.cell? ⟨w.heap.size, 3, none⟩ = some (.slice a b.Rows.length cap) := by
      rw [bc _ _ (by simp only [World.size_alloc]; omega)]; simp
    have hz1 : w.heap.size + 1 ≤ w1.heap.size := by have := b1.size; simp only [World.size_alloc] at this; omega
    have hE := OwnV.empty 3 w1
    have HL1 : w.heap.size < w1.heap.size := by omega
    clear bc bf b1
    go_wp2
    go_loopw [14, 4] (fun s5 s4 wr => ∃ k : Nat, k ≤ b.Rows.length ∧ s5 = .int .i64 k ∧ ∃ a4 c4, s4 = .slice a4 k c4 ∧ OwnV 3 w.heap.size wr.heap.size wr (.slice a4 k c4) (ints ((b.Rows.map agreeL).take k)) ∧ Below w.heap.size w wr) (fun s5 _ _ => b.Rows.length - (intOf s5).toNat)
    case atStart => exact ⟨0, by omega, rfl, _, _, rfl, by simpa [ints] using hE.weaken (lo' := w.heap.size) (by omega) (by first | exact Nat.le_refl _ | omega | (simp only [World.size_alloc, World.size_setCell]; omega)), (by repeat' (first | with_reducible exact Below.refl _ _ | with_reducible assumption | with_reducible apply Below.alloc | with_reducible apply Below.setCell | with_reducible apply Below.drew | exact Nat.le_refl _ | omega | (simp only [World.size_alloc, World.size_setCell]; omega)))⟩
    case round =>
      clear hE B1 g3 hz1
      obtain ⟨k, hk, rfl, a4, c4, rfl, hO, hB⟩ := hrel
      by_cases hlt : k < b.Rows.length
      · obtain rfl := ha (by omega)
        obtain ⟨rs, hrs⟩ : ∃ rs, b.Rows[k]? = some rs := ⟨_, List.getElem?_eq_getElem hlt⟩
        obtain ⟨v', hcell, hrd⟩ := HC.out k rs hrs
        obtain ⟨p, q, r, s, rfl, hp, hq, hr4, hs, _⟩ := fourB_four (rowsB_get HK.out.2.2.2 hrs)
        have hw1 := HK.out.2.1.2
        have hcell2 : wr.cell? ⟨ba, off + k, none⟩ = some v' := by rw [hB.cell (p := ⟨ba, off + k, none⟩) (World.block_lt_of_cell? _ _ hcell)]; exact hcell
        have hrd2 := hrd.kept (Nat.le_refl _) hB
        have hnx := agree_next hrs
        have HX := Lib.hid hnx
        have hlen : (ints ((b.Rows.map agreeL).take k)).length = k := by simp; omega
        have HN := Lib.hid hlen
        clear hcell hnx hlen hrs
        go_wp2_with fail
        refine (agreement_any v' p q r s _ hrd2 ⟨by omega, by omega⟩ ⟨by omega, by omega⟩ ⟨by omega, by omega⟩ ⟨by omega, by omega⟩).mono ?_
        rintro e wd ⟨rfl, hd⟩
        have hO1 := hO.kept (hd.below wr.heap.size) (Nat.le_refl _)
        have hszd : wr.heap.size ≤ wd.heap.size := (hd.below wr.heap.size).size
        have hB1 := hB.trans (hd.below _)
        have hzd := hB1.size
        clear hO hB
        go_wp2_with (at_builtin; refine append1_own rfl _ _ 27 3 rfl Try.underlying27 Try.infoInt rfl hO1 rfl rfl rfl (by rw [HN.out]; omega) (by omega) (by omega) ?_)
        intro a2 c2 w2 hO2 hg2
        have hB2 : Below w.heap.size w w2 := hB1.grown hg2 (by omega) (fun g hg => (hO1.lt g hg).1)
        have hx : ints ((b.Rows.map agreeL).take k) ++ [Value.int .i64 (p - q - r + s)] = ints ((b.Rows.map agreeL).take (k + 1)) := by rw [HX.out]; simp [ints]
        rw [hx] at hO2
        clear hO1 hx hg2
        go_wp2
        go_roundw
        case rel => exact ⟨k + 1, by omega, by go_num, a2, c2, rfl, hO2, hB2⟩
        case measure => simp [intOf]; omega
      · obtain rfl : k = b.Rows.length := by omega
        go_wp2
        go_ret2
        rw [HD.out]
        rw [List.take_of_length_le (by simp)] at hO
        exact ⟨a4, c4, by simp [hok], by simpa using hO, hB⟩
  · have hD : agreeD b = [] := by unfold agreeD; rw [hok]; simp
    rw [hD, hok]
    clear hD
    go_enter Try.func24, Try.ntmps24
    go_wp2_with fail
    refine (implIsBox_any _ b _ (hr _ (by repeat' (first | with_reducible exact Below.refl _ _ | with_reducible assumption | with_reducible apply Below.alloc | with_reducible apply Below.setCell | with_reducible apply Below.drew | exact Nat.le_refl _ | omega | (simp only [World.size_alloc, World.size_setCell]; omega))))).mono ?_
    rintro e w1 ⟨rfl, b1⟩
    rw [hok]
    have B1 : Below w.heap.size w w1 := Below.trans (by repeat' (first | with_reducible exact Below.refl _ _ | with_reducible assumption | with_reducible apply Below.alloc | with_reducible apply Below.setCell | with_reducible apply Below.drew | exact Nat.le_refl _ | omega | (simp only [World.size_alloc, World.size_setCell]; omega))) (b1.mono (by first | exact Nat.le_refl _ | omega | (simp only [World.size_alloc, World.size_setCell]; omega)))
    go_wp2
    go_ret2
    exact IntsRes.zero B1
end Go.Proofs.Ytnmnmnpeoiblhaa
set_option linter.unusedSimpArgs false
set_option linter.unusedVariables false
namespace Go.Proofs.Ytnmnmnpeoiblhaa

section
variable {P : Program} {Q : Exit → Act → World → Prop} {md : Region.Mode}

/-- What the operations ahead of the last one must leave. -/
def CutPost (P : Program) (full : Array Oper) (Q : Exit → Act → World → Prop) (st : Oper) : Exit → Act → World → Prop
  | .normal, a, w => wpList P full Q [st] a w
  | _, _, _ => False

theorem cut_oper {full : Array Oper} {st o : Oper} {a : Act} {w : World} {K K' : Act → World → Prop} (h : o.wp P a w K (CutPost P full Q st)) (hK : ∀ a w, K a w → K' a w) : o.wp P a w K' Q := by
  unfold Oper.wp at *
  generalize (execOp a.eval o).run P w = r at *
  cases r with
  | ok n w' =>
    cases n <;> simp only [Oper.upon] at h ⊢
    case value => exact hK _ _ h
    case skip => exact hK _ _ h
    case defer => exact hK _ _ h
    case enter f args =>
      refine Calls.mono h (fun e w'' he => ?_)
      cases e <;> first | exact hK _ _ he | exact False.elim he | (obtain ⟨_, _, hf⟩ := he; exact False.elim hf)
    case row => exact Rows.mono h (fun _ _ he => hK _ _ he)
  | halt x w' => cases x <;> simp only [Oper.upon] at h ⊢ <;> first | exact False.elim h | exact h

/-- All guards are open, all edges lead back, each operation but the last has one behind it that waits for it. -/
def cutB (md : Region.Mode) (l : List Oper) (n : Nat) : Bool :=
  decide (n + 1 = l.length) &&
  (l.all (fun o => o.guard.isNone) &&
  ((List.range l.length).all (fun k => ((l[k]?).map fun o => o.after.all fun e => decide (e.on < k)).getD true) &&
  (List.range n).all (fun j => (List.range l.length).any fun k => decide (j < k) && ((l[k]?).map fun o => o.after.any fun e => Region.binds md e && e.on == j).getD false)))

structure CutOk (md : Region.Mode) (l : List Oper) (n : Nat) : Prop where
  len : n + 1 = l.length
  guard : ∀ (k : Nat) o, l[k]? = some o → o.guard = none
  back : ∀ (k : Nat) o, l[k]? = some o → ∀ e ∈ o.after, e.on < k
  next : ∀ j, j < n → ∃ (k : Nat) (o : Oper), j < k ∧ l[k]? = some o ∧ ∃ e ∈ o.after, Region.binds md e = true ∧ e.on = j

theorem cutB_ok {l : List Oper} {n : Nat} (h : cutB md l n = true) : CutOk md l n := by
  unfold cutB at h
  simp only [Bool.and_eq_true, decide_eq_true_eq, List.all_eq_true, List.any_eq_true, List.mem_range] at h
  obtain ⟨h1, h2, h3, h4⟩ := h
  refine ⟨h1, fun k o ho => ?_, fun k o ho e he => ?_, fun j hj => ?_⟩
  · have := h2 o (List.mem_of_getElem? ho)
    simpa using this
  · have hk : k < l.length := (List.getElem?_eq_some_iff.1 ho).1
    have := h3 k hk
    rw [ho, Option.map_some, Option.getD_some] at this
    rw [Array.all_eq_true_iff_forall_mem] at this
    simpa using this e he
  · obtain ⟨k, hk, hjk, hx⟩ := h4 j hj
    cases ho : l[k]? with
    | none => rw [ho] at hx; simp at hx
    | some o =>
      rw [ho, Option.map_some, Option.getD_some, Array.any_eq_true'] at hx
      obtain ⟨e, he, hb⟩ := hx
      simp only [Bool.and_eq_true, beq_iff_eq] at hb
      exact ⟨k, o, hjk, ho, e, he, hb.1, hb.2⟩

/-- What has been listed is closed under waiting. -/
def Closed (md : Region.Mode) (l : List Oper) (L : Array Bool) : Prop :=
  ∀ (k : Nat) o, l[k]? = some o → L.getD k false = true → ∀ e ∈ o.after, Region.binds md e = true → L.getD e.on false = true

theorem getD_false_true {L : Array Bool} {j : Nat} (hj : j < L.size) (b : Bool) : L.getD j b = L.getD j (!b) := by
  simp [Array.getD, hj]

theorem closed_set {l : List Oper} {L : Array Bool} {i : Nat} (hc : Closed md l L) (hr : i ∈ Region.ready md l.toArray L) : Closed md l (L.setIfInBounds i true) := by
  intro k o ho hk e he hb
  obtain ⟨h0, oi, hoi, hall⟩ := mem_ready.1 hr
  by_cases hki : k = i
  · subst hki
    have : oi = o := by simpa [ho] using hoi.symm
    subst this
    exact getD_set_true (hall e he hb)
  · rw [getD_set_ne false (Ne.symm hki)] at hk
    exact getD_set_true (hc k o ho hk e he hb)

/-- When the last one may come up, all others have. -/
theorem cut_all {l : List Oper} {n : Nat} (ok : CutOk md l n) {L : Array Bool} (hc : Closed md l L) (hs : L.size = l.length) (hr : n ∈ Region.ready md l.toArray L) : ∀ j, j < n → L.getD j false = true := by
  obtain ⟨_, on, hon, hall⟩ := mem_ready.1 hr
  have key : ∀ d j, j + d = n → j < n → L.getD j false = true := by
    intro d
    induction d using Nat.strongRecOn with
    | _ d ih =>
      intro j hd hj
      obtain ⟨k, o, hjk, ho, e, he, hb, rfl⟩ := ok.next j hj
      have hk : k < l.length := (List.getElem?_eq_some_iff.1 ho).1
      by_cases hkn : k = n
      · subst hkn
        have : on = o := by simpa [ho] using hon.symm
        subst this
        exact hall e he hb
      · have hl := ok.len
        exact hc k o ho (ih (n - k) (by omega) k (by omega) (by omega)) e he hb
  exact fun j hj => key (n - j) j (by omega) hj

/-- While one has not come up, something may. -/
theorem cut_some {l : List Oper} {n : Nat} (ok : CutOk md l n) {L : Array Bool} (hs : L.size = l.length) {j : Nat} (hj : j < l.length) (hu : L.getD j false = false) : ∃ i, i ≤ j ∧ i ∈ Region.ready md l.toArray L := by
  induction j using Nat.strongRecOn with
  | _ j ih =>
    by_cases hx : ∃ e ∈ (l[j]).after, Region.binds md e = true ∧ L.getD e.on false = false
    · obtain ⟨e, he, hb, hf⟩ := hx
      have hlt := ok.back j _ (List.getElem?_eq_getElem hj) e he
      obtain ⟨i, hi, hr⟩ := ih e.on hlt (by omega) hf
      exact ⟨i, by omega, hr⟩
    · refine ⟨j, Nat.le_refl _, mem_ready.2 ⟨by rw [getD_false_true (by omega)]; exact hu, l[j], by simp [hj], fun e he hb => ?_⟩⟩
      cases hv : L.getD e.on false with
      | true => rfl
      | false => exact absurd ⟨e, he, hb, hv⟩ hx

theorem ready_head {l : List Oper} {n : Nat} (ok : CutOk md l n) {L M : Array Bool} (hs : L.size = l.length) (hm : M.size = n) (he : ∀ j, j < n → M.getD j false = L.getD j false) {i : Nat} (hi : i < n) :
    i ∈ Region.ready md l.toArray L ↔ i ∈ Region.ready md (l.take n).toArray M := by
  have hl := ok.len
  have e0 : (l.take n).toArray[i]? = l.toArray[i]? := by simp [List.getElem?_take, hi]
  rw [mem_ready, mem_ready, e0, getD_false_true (show i < L.size by omega), getD_false_true (show i < M.size by omega)]
  have h1 := he i hi
  simp only [Bool.not_true] at *
  rw [h1]
  refine and_congr_right fun _ => ⟨?_, ?_⟩
  · rintro ⟨o, ho, hall⟩
    refine ⟨o, ho, fun e hee hb => ?_⟩
    have hlt := ok.back i o (by simpa using ho) e hee
    rw [he _ (by omega)]; exact hall e hee hb
  · rintro ⟨o, ho, hall⟩
    refine ⟨o, ho, fun e hee hb => ?_⟩
    have hlt := ok.back i o (by simpa using ho) e hee
    rw [← he _ (by omega)]; exact hall e hee hb

theorem cut_any {l : List Oper} {n : Nat} {st : Oper} (ok : CutOk md l n) (hst : l[n]? = some st) : ∀ (fuel : Nat) (L M : Array Bool) (a : Act) (w : World), L.size = l.length → M.size = n →
    (∀ j, j < n → M.getD j false = L.getD j false) → L.getD n false = false → Closed md l L →
    wpAny P md (l.take n).toArray (CutPost P l.toArray Q st) fuel M a w → wpAny P md l.toArray Q (fuel + 1) L a w := by
  intro fuel
  induction fuel with
  | zero =>
    intro L M a w hs hm he hn hc h
    have hl := ok.len
    refine ⟨fun h0 => ?_, fun i hi => ?_⟩
    · obtain ⟨i, _, hr⟩ := cut_some ok hs (show n < l.length by omega) hn
      rw [h0] at hr; cases hr
    · have hil : i < l.length := by have := (mem_ready.1 hi).2; obtain ⟨o, ho, _⟩ := this; simpa using (Array.getElem?_eq_some_iff.1 ho).1
      by_cases hin : i = n
      · subst hin
        have hall := cut_all ok hc hs hi
        have hp : wpList P l.toArray Q [st] a w := h.2
        have hop : wpOp P l.toArray Q i (wpList P l.toArray Q []) a w := by unfold wpOp; simp only [List.getElem?_toArray, hst]; exact hp
        refine wpOp_mono (fun a' w' hq => ⟨?_, hq⟩) hop
        apply List.eq_nil_iff_forall_not_mem.2
        intro j hj
        obtain ⟨h0, o, ho, _⟩ := mem_ready.1 hj
        have hjl : j < l.length := by simpa using (Array.getElem?_eq_some_iff.1 ho).1
        by_cases hji : j = i
        · subst hji
          simp [Array.getD, hs, hjl] at h0
        · rw [getD_set_ne true (Ne.symm hji), getD_false_true (by omega)] at h0
          rw [show (!true) = false from rfl, hall j (by omega)] at h0
          cases h0
      · have := (ready_head ok hs hm he (show i < n by omega)).1 hi
        rw [h.1] at this; cases this
  | succ fuel ih =>
    intro L M a w hs hm he hn hc h
    have hl := ok.len
    refine ⟨fun h0 => ?_, fun i hi => ?_⟩
    · obtain ⟨i, _, hr⟩ := cut_some ok hs (show n < l.length by omega) hn
      rw [h0] at hr; cases hr
    · have hil : i < l.length := by have := (mem_ready.1 hi).2; obtain ⟨o, ho, _⟩ := this; simpa using (Array.getElem?_eq_some_iff.1 ho).1
      by_cases hin : i = n
      · subst hin
        have hall := cut_all ok hc hs hi
        have hnil : Region.ready md (l.take i).toArray M = [] := by
          apply List.eq_nil_iff_forall_not_mem.2
          intro j hj
          obtain ⟨h0, o, ho, _⟩ := mem_ready.1 hj
          have hjl : j < i := by
            have := (Array.getElem?_eq_some_iff.1 ho).1
            simp at this; omega
          rw [getD_false_true (by omega), show (!true) = false from rfl, he j hjl, hall j hjl] at h0
          cases h0
        have hp : wpList P l.toArray Q [st] a w := h.1 hnil
        have hop : wpOp P l.toArray Q i (wpList P l.toArray Q []) a w := by unfold wpOp; simp only [List.getElem?_toArray, hst]; exact hp
        refine wpOp_mono (fun a' w' hq => ?_) hop
        refine wpAny_done ?_ hq _
        apply List.eq_nil_iff_forall_not_mem.2
        intro j hj
        obtain ⟨h0, o, ho, _⟩ := mem_ready.1 hj
        have hjl : j < l.length := by simpa using (Array.getElem?_eq_some_iff.1 ho).1
        by_cases hji : j = i
        · subst hji
          simp [Array.getD, hs, hjl] at h0
        · rw [getD_set_ne true (Ne.symm hji), getD_false_true (by omega)] at h0
          rw [show (!true) = false from rfl, hall j (by omega)] at h0
          cases h0
      · have hin' : i < n := by omega
        have hri := (ready_head ok hs hm he hin').1 hi
        have h1 := h.2 i hri
        have e0 : (l.take n).toArray[i]? = l.toArray[i]? := by simp [List.getElem?_take, hin']
        obtain ⟨_, o, ho, _⟩ := mem_ready.1 hi
        have hg := ok.guard i o (by simpa using ho)
        unfold wpOp at h1 ⊢
        rw [e0] at h1
        simp only [ho] at h1 ⊢
        have hw1 : Region.wanted o (yielded (l.take n).toArray a.tmps) = true := by simp [Region.wanted, hg]
        have hw2 : Region.wanted o (yielded l.toArray a.tmps) = true := by simp [Region.wanted, hg]
        rw [if_pos hw1] at h1
        rw [if_pos hw2]
        rcases h1 with h1 | ⟨_, _, _, hf⟩
        · refine Or.inl (cut_oper h1 fun a' w' hk => ?_)
          refine ih (L.setIfInBounds i true) (M.setIfInBounds i true) a' w' (by simpa using hs) (by simpa using hm) (fun j hj => ?_) (by rw [getD_set_ne false hin]; exact hn) (closed_set hc hi) hk
          by_cases hji : j = i
          · subst hji
            simp [Array.getD, hs, hm, hil, hj]
          · rw [getD_set_ne false (Ne.symm hji), getD_set_ne false (Ne.symm hji)]; exact he j hj
        · exact False.elim hf

/-- The region's last operation cut off: the others are walked under S. -/
theorem wp_region_cut_held {S : World → Prop} {id : Nat} {l : List Oper} (n : Nat) (st : Oper) (hst : l[n]? = some st) {a : Act} {w : World} (hm : P.follows .mixedOrders = true) (hB : cutB .any l n = true) (hS : S w.drew)
    (h : S w.drew → wpAnyH P .any (l.take n).toArray (CutPost P l.toArray Q st) S n (Array.replicate n false) a w.drew) : (Code.region id l.toArray true).wp P Q a w := by
  have ok := cutB_ok hB
  have hl := ok.len
  refine wp_region_any hm ?_
  have hz : l.toArray.size = n + 1 := by simp; omega
  rw [hz]
  refine cut_any ok hst n _ (Array.replicate n false) a _ (by simp; omega) (by simp) (fun j hj => ?_) ?_ ?_ (wpAny_of_held _ _ _ _ (h hS))
  · simp [Array.getD, hj, show j < n + 1 by omega]
  · simp [Array.getD]
  · intro k o ho hk
    simp [Array.getD] at hk
end
end Go.Proofs.Ytnmnmnpeoiblhaa
