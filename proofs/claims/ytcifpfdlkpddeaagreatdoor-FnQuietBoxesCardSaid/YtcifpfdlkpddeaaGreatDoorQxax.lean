/- ProductBox: contracts of the program's and the reference's function. -/
import Derived.Test.YtcifpfdlkpddeaaGreatDoorQxag
set_option linter.unusedSimpArgs false
set_option linter.unusedVariables false
namespace Go.Proofs.YtcifpfdlkpddeaaGreatDoor
open Go.RowKit

def chancesB (xs : List Int) (m : Int) : Bool := allIn xs 0 m && inB xs.length 1 3
set_option maxHeartbeats 400000 in
theorem l2Chances_any (v : Value) (xs : List Int) (m : Int) (w : World) (h : RdI w v xs) :
    Calls Tryz.prog 70 #[v, .int .i64 m] w fun e w' => e = .returned (.bool (chancesB xs m)) ∧ w = w' := by
  obtain ⟨a, b, off, cap, rfl, hm, ha, hc⟩ := h
  unfold maxLen at hm
  go_enter Tryz.func70, Tryz.ntmps70
  go_wp2
  go_loop [5] (fun i => ∃ k : Nat, k ≤ xs.length ∧ i = .int .i64 k ∧ ∀ (j : Nat) (x : Int), j < k → xs[j]? = some x → inB x 0 m = true) (fun i => xs.length - (intOf i).toNat)
  case atStart => exact ⟨0, by omega, rfl, fun j x hj => by omega⟩
  case round =>
    obtain ⟨k, hk, rfl, hall⟩ := hrel
    have HA := Lib.hid hall
    clear hall
    by_cases hlt : k < xs.length
    · obtain rfl := ha (by omega)
      obtain ⟨x, hx⟩ : ∃ x, xs[k]? = some x := ⟨_, List.getElem?_eq_getElem hlt⟩
      have hcell := hc k x hx
      have HX := Lib.hid hx
      clear hc hx
      rcases Bool.eq_false_or_eq_true (inB x 0 m) with h1 | h1
      · go_wp2_with (go_at_call 64; refine (l1In_any _ _ _ _).mono ?_; rintro e w' ⟨rfl, rfl⟩)
        go_round
        case rel => exact ⟨k + 1, by omega, by go_num, fun j x' hj hx' => by
          by_cases e : j = k
          · subst e; rw [HX.out] at hx'; cases hx'; exact h1
          · exact HA.out j x' (by omega) hx'⟩
        case measure => simp [intOf]; omega
      · go_wp2_with (go_at_call 64; refine (l1In_any _ _ _ _).mono ?_; rintro e w' ⟨rfl, rfl⟩)
        go_ret
        exact ⟨ret_bool (by unfold chancesB; rw [allIn_false HX.out h1]; rfl), rfl⟩
    · go_wp2_with (go_at_call 64; refine (l1In_any _ _ _ _).mono ?_; rintro e w' ⟨rfl, rfl⟩)
      go_ret
      obtain rfl : k = xs.length := by omega
      refine ⟨ret_bool ?_, rfl⟩
      unfold chancesB
      rw [allIn_true (fun j x hx => HA.out j x (List.getElem?_eq_some_iff.1 hx).1 hx)]
      rw [Bool.true_and]
def partN (m p a : Int) : Int := if a = 1 then p else m - p
def prodN (m : Int) (xs ys : List Int) : Num := fun i j a c => partN m (xs.getD i.toNat 0) a * partN m (ys.getD j.toNat 0) c
def prodOk (xs ys : List Int) (m : Int) : Bool := inB m 1 31 && (chancesB xs m && chancesB ys m)
def prodD (xs ys : List Int) (m : Int) : BoxD := if prodOk xs ys m then ⟨xs.length, ys.length, m * m, rowsTo (prodN m xs ys) ys.length (xs.length * ys.length)⟩ else zeroD
theorem chancesB_iff {xs : List Int} {m : Int} : chancesB xs m = true ↔ allIn xs 0 m = true ∧ 1 ≤ xs.length ∧ xs.length ≤ 3 := by
  unfold chancesB
  rw [Bool.and_eq_true, inB_iff]
  constructor <;> rintro ⟨h1, h2⟩ <;> refine ⟨h1, ?_⟩ <;> omega
theorem prodD_size (xs ys : List Int) (m : Int) : (prodD xs ys m).Rows.length + sumLen (prodD xs ys m).Rows ≤ 4194304 := by
  unfold prodD
  split
  · rename_i h
    unfold prodOk at h
    rw [Bool.and_eq_true, Bool.and_eq_true, chancesB_iff, chancesB_iff] at h
    apply rowsTo_size
    exact Nat.mul_le_mul h.2.1.2.2 h.2.2.2.2
  · simp [zeroD, sumLen]

theorem part_call (w : World) (g : Nat) (m : Int) (hg : w.cell? ⟨g, 0, none⟩ = some (.int .i64 m)) (p a : Int) (hm : m ≤ 31) (h0 : 0 ≤ p) (h1 : p ≤ m) :
    Calls Tryz.prog 67 #[.int .i64 p, .int .i64 a, .pointer (some ⟨g, 0, none⟩)] w fun e w' => e = .returned (.int .i64 (partN m p a)) ∧ w = w' := by
  unfold partN
  by_cases h : a = 1
  · rw [if_pos h]
    go_enter Tryz.func67, Tryz.ntmps67
    go_wp2
    go_ret
    exact ⟨rfl, rfl⟩
  · rw [if_neg h]
    go_enter Tryz.func67, Tryz.ntmps67
    go_wp2
    go_ret
    exact ⟨rfl, rfl⟩

theorem part_bound (m p a : Int) (h0 : 0 ≤ p) (h1 : p ≤ m) : 0 ≤ partN m p a ∧ partN m p a ≤ m := by
  unfold partN
  split <;> omega
theorem prod_bound (a b m : Int) (hm : m ≤ 31) (ha : 0 ≤ a ∧ a ≤ m) (hb : 0 ≤ b ∧ b ≤ m) : 0 ≤ a * b ∧ a * b ≤ 961 := by
  refine ⟨Int.mul_nonneg ha.1 hb.1, ?_⟩
  have h := Int.mul_le_mul (show a ≤ 31 by omega) (show b ≤ 31 by omega) hb.1 (by omega)
  omega

set_option maxHeartbeats 400000 in
theorem prod_call (w : World) (g8 g3 g4 g5 : Nat) (v1 v2 : Value) (xs ys : List Int) (m : Int) (hm : m ≤ 31) (h1 : RdI w v1 xs) (h2 : RdI w v2 ys)
    (c8 : w.cell? ⟨g8, 0, none⟩ = some (.func (.func 67) #[] #[.pointer (some ⟨g5, 0, none⟩)])) (c3 : w.cell? ⟨g3, 0, none⟩ = some v1) (c4 : w.cell? ⟨g4, 0, none⟩ = some v2)
    (c5 : w.cell? ⟨g5, 0, none⟩ = some (.int .i64 m)) (hx : allIn xs 0 m = true) (hy : allIn ys 0 m = true) (i j : Nat) (hi : i < xs.length) (hj : j < ys.length) (a c : Int) :
    Calls Tryz.prog 69 #[.int .i64 i, .int .i64 j, .int .i64 a, .int .i64 c, .pointer (some ⟨g8, 0, none⟩), .pointer (some ⟨g3, 0, none⟩), .pointer (some ⟨g4, 0, none⟩)] w fun e w' => e = .returned (.int .i64 (prodN m xs ys i j a c)) ∧ Drw w w' := by
  obtain ⟨a1, b1, o1, k1, rfl, m1, e1, r1⟩ := h1
  obtain ⟨a2, b2, o2, k2, rfl, m2, e2, r2⟩ := h2
  unfold maxLen at m1 m2
  obtain rfl := e1 (by omega)
  obtain rfl := e2 (by omega)
  obtain ⟨p, hp⟩ : ∃ p, xs[i]? = some p := ⟨_, List.getElem?_eq_getElem hi⟩
  obtain ⟨q, hq⟩ : ∃ q, ys[j]? = some q := ⟨_, List.getElem?_eq_getElem hj⟩
  have hp' := r1 i p hp
  have hq' := r2 j q hq
  have bp := allIn_get hx hp
  have bq := allIn_get hy hq
  have e : prodN m xs ys i j a c = partN m p a * partN m q c := by
    unfold prodN
    simp [List.getD_eq_getElem?_getD, hp, hq]
  rw [e]
  have hb := prod_bound (partN m p a) (partN m q c) m hm (part_bound m p a bp.1 bp.2) (part_bound m q c bq.1 bq.2)
  obtain ⟨bp0, bp1⟩ := bp
  obtain ⟨bq0, bq1⟩ := bq
  clear e hp hq r1 r2 e1 e2
  have P1 : ∀ n, Calls Tryz.prog 67 #[.int .i64 p, .int .i64 a, .pointer (some ⟨g5, 0, none⟩)] (w.drewN n) fun e w' => e = .returned (.int .i64 (partN m p a)) ∧ w.drewN n = w' :=
    fun n => part_call _ g5 m (by rw [(Drw.mk w n).cell]; exact c5) p a hm bp0 bp1
  have P2 : ∀ n, Calls Tryz.prog 67 #[.int .i64 q, .int .i64 c, .pointer (some ⟨g5, 0, none⟩)] (w.drewN n) fun e w' => e = .returned (.int .i64 (partN m q c)) ∧ w.drewN n = w' :=
    fun n => part_call _ g5 m (by rw [(Drw.mk w n).cell]; exact c5) q c hm bq0 bq1
  generalize partN m p a = u at *
  generalize partN m q c = v at *
  obtain ⟨hb0, hb1⟩ := hb
  clear hx hy
  go_enter Tryz.func69, Tryz.ntmps69
  go_wp2
  go_quiet (first | with_reducible exact quietSame (P1 _) | with_reducible exact quietSame (P2 _))
  go_wp2
  go_ret
  exact ⟨rfl, Drw.mk _ _⟩

theorem prodOk_eq (xs ys : List Int) (m : Int) : prodOk xs ys m = (sizesB xs.length ys.length && (inB m 1 31 && (allIn xs 0 m && allIn ys 0 m))) := by
  unfold prodOk chancesB sizesB
  cases inB m 1 31 <;> cases allIn xs 0 m <;> cases allIn ys 0 m <;> cases inB (xs.length : Int) 1 3 <;> cases inB (ys.length : Int) 1 3 <;> rfl
theorem and4_false {a b c d : Bool} (h : (a && (b && (c && d))) = false) : a = false ∨ (a = true ∧ b = false) ∨ (a = true ∧ b = true ∧ c = false) ∨ (a = true ∧ b = true ∧ c = true ∧ d = false) := by
  revert h; cases a <;> cases b <;> cases c <;> cases d <;> decide
theorem and4_true {a b c d : Bool} (h : (a && (b && (c && d))) = true) : a = true ∧ b = true ∧ c = true ∧ d = true := by
  revert h; cases a <;> cases b <;> cases c <;> cases d <;> decide

/-- The cells of the five blocks that a function makes at first. -/
theorem cells_five (w : World) (u1 u2 u3 u5 : Value) (c4 : Array Value) (t1 t2 t3 t4 t5 : Nat) (W : World)
    (hW : W = ((((w.alloc (.cells #[u1] t1)).alloc (.cells #[u2] t2)).alloc (.cells #[u3] t3)).alloc (.cells c4 t4)).alloc (.cells #[u5] t5)) :
    W.cell? ⟨w.heap.size, 0, none⟩ = some u1 ∧ W.cell? ⟨w.heap.size + 1, 0, none⟩ = some u2 ∧ W.cell? ⟨w.heap.size + 1 + 1, 0, none⟩ = some u3 ∧ W.cell? ⟨w.heap.size + 1 + 1 + 1 + 1, 0, none⟩ = some u5 := by
  have e : W.heap = ((((w.heap.push (.cells #[u1] t1)).push (.cells #[u2] t2)).push (.cells #[u3] t3)).push (.cells c4 t4)).push (.cells #[u5] t5) := by rw [hW]; rfl
  have e0 : W.heap[w.heap.size]? = some (.cells #[u1] t1) := by
    rw [e, Array.getElem?_push, if_neg (by simp <;> omega), Array.getElem?_push, if_neg (by simp <;> omega), Array.getElem?_push, if_neg (by simp <;> omega), Array.getElem?_push, if_neg (by simp), Array.getElem?_push, if_pos rfl]
  have e1 : W.heap[w.heap.size + 1]? = some (.cells #[u2] t2) := by
    rw [e, Array.getElem?_push, if_neg (by simp <;> omega), Array.getElem?_push, if_neg (by simp <;> omega), Array.getElem?_push, if_neg (by simp), Array.getElem?_push, if_pos (by simp)]
  have e2 : W.heap[w.heap.size + 1 + 1]? = some (.cells #[u3] t3) := by
    rw [e, Array.getElem?_push, if_neg (by simp <;> omega), Array.getElem?_push, if_neg (by simp), Array.getElem?_push, if_pos (by simp)]
  have e4 : W.heap[w.heap.size + 1 + 1 + 1 + 1]? = some (.cells #[u5] t5) := by
    rw [e, Array.getElem?_push, if_pos (by simp)]
  refine ⟨?_, ?_, ?_, ?_⟩ <;> simp [World.cell?, e0, e1, e2, e4]

theorem prod_func (args : Array Value) (w : World) : (callFunc 69 args).run Tryz.prog w = .ok (.enter 69 args) w := by kernel_rfl

set_option maxHeartbeats 1600000 in
theorem implProductBox_any (v1 : Value) (xs : List Int) (v2 : Value) (ys : List Int) (m : Int) (w : World) (h1 : RdI w v1 xs) (h2 : RdI w v2 ys) :
    Calls Tryz.prog 24 #[v1, v2, .int .i64 m] w (BoxRes w (prodD xs ys m) (prodOk xs ys m)) := by
  have r1 : ∀ w', Below w.heap.size w w' → RdI w' v1 xs := fun w' hb => h1.kept (Nat.le_refl _) hb
  have r2 : ∀ w', Below w.heap.size w w' → RdI w' v2 ys := fun w' hb => h2.kept (Nat.le_refl _) hb
  obtain ⟨a1, b1, o1, k1, rfl, m1, e1, c1⟩ := h1
  obtain ⟨a2, b2, o2, k2, rfl, m2, e2, c2⟩ := h2
  unfold maxLen at m1 m2
  clear e1 c1 e2 c2
  rcases Bool.eq_false_or_eq_true (prodOk xs ys m) with hok | hok
  · have hD : prodD xs ys m = ⟨xs.length, ys.length, m * m, rowsTo (prodN m xs ys) ys.length (xs.length * ys.length)⟩ := by unfold prodD; rw [hok]; simp
    rw [hD, hok]
    rw [prodOk_eq] at hok
    obtain ⟨q1, q2, q3, q4⟩ := and4_true hok
    clear hok hD
    have hm := inB_iff.1 q2
    have hs := sizesB_iff.1 q1
    have hmm := prod_bound m m m hm.2 ⟨by omega, by omega⟩ ⟨by omega, by omega⟩
    obtain ⟨hm0, hm1⟩ := hm
    obtain ⟨hmm0, hmm1⟩ := hmm
    have hst : ∀ (p : Addr) (fn : Fn) (cap : Array Value) (w : World), (store p (.func fn #[] cap)).run Tryz.prog w = stored Tryz.prog w p (.func fn #[] cap) .plain := fun p fn cap w => run_store _ w p _ .plain rfl
    go_enter Tryz.func24, Tryz.ntmps24
    go_wp2_with (first | (go_at_call 39; refine (areQuestions_any _ _ _).mono ?_; rintro e w' ⟨rfl, rfl⟩) | (go_at_call 40; refine (within_any _ _ _ _).mono ?_; rintro e w' ⟨rfl, rfl⟩) | (go_at_call 41; (with_reducible refine (allWithin_any (.slice a1 xs.length k1) xs _ _ _ (r1 _ ?_)).mono ?_); exact (by repeat' (first | with_reducible exact Below.refl _ _ | with_reducible assumption | with_reducible apply Below.alloc | with_reducible apply Below.setCell | with_reducible apply Below.drew | exact Nat.le_refl _ | omega | (simp only [World.size_alloc, World.size_setCell]; omega))); rintro e w' ⟨rfl, rfl⟩) | (go_at_call 41; (with_reducible refine (allWithin_any (.slice a2 ys.length k2) ys _ _ _ (r2 _ ?_)).mono ?_); exact (by repeat' (first | with_reducible exact Below.refl _ _ | with_reducible assumption | with_reducible apply Below.alloc | with_reducible apply Below.setCell | with_reducible apply Below.drew | exact Nat.le_refl _ | omega | (simp only [World.size_alloc, World.size_setCell]; omega))); rintro e w' ⟨rfl, rfl⟩))
    refine (newBox_any xs.length ys.length ⟨by omega, by omega⟩ ⟨by omega, by omega⟩ (m * m) 69 #[.pointer (some ⟨w.heap.size + 1 + 1 + 1 + 1, 0, none⟩), .pointer (some ⟨w.heap.size, 0, none⟩), .pointer (some ⟨w.heap.size + 1, 0, none⟩)] (prodN m xs ys) _ prod_func (fun wr hB i j a c hi0 hi1 hj0 hj1 _ _ _ _ => ?_)).mono ?_
    · obtain ⟨I, rfl⟩ := Int.eq_ofNat_of_zero_le hi0
      obtain ⟨J, rfl⟩ := Int.eq_ofNat_of_zero_le hj0
      refine (prod_call wr (w.heap.size + 1 + 1 + 1 + 1) w.heap.size (w.heap.size + 1) (w.heap.size + 1 + 1) (.slice a1 xs.length k1) (.slice a2 ys.length k2) xs ys m hm1 (r1 wr (Below.trans (by repeat' (first | with_reducible exact Below.refl _ _ | with_reducible assumption | with_reducible apply Below.alloc | with_reducible apply Below.setCell | with_reducible apply Below.drew | exact Nat.le_refl _ | omega | (simp only [World.size_alloc, World.size_setCell]; omega))) (hB.mono (by first | exact Nat.le_refl _ | omega | (simp only [World.size_alloc, World.size_setCell]; omega))))) (r2 wr (Below.trans (by repeat' (first | with_reducible exact Below.refl _ _ | with_reducible assumption | with_reducible apply Below.alloc | with_reducible apply Below.setCell | with_reducible apply Below.drew | exact Nat.le_refl _ | omega | (simp only [World.size_alloc, World.size_setCell]; omega))) (hB.mono (by first | exact Nat.le_refl _ | omega | (simp only [World.size_alloc, World.size_setCell]; omega))))) ?_ ?_ ?_ ?_ q3 q4 I J (by omega) (by omega) a c).mono ?_
      · rw [hB.cell (p := ⟨w.heap.size + 1 + 1 + 1 + 1, 0, none⟩) (by simp only [World.size_alloc]; omega)]; exact (cells_five _ _ _ _ _ _ _ _ _ _ _ _ rfl).2.2.2
      · rw [hB.cell (p := ⟨w.heap.size, 0, none⟩) (by simp only [World.size_alloc]; omega)]; exact (cells_five _ _ _ _ _ _ _ _ _ _ _ _ rfl).1
      · rw [hB.cell (p := ⟨w.heap.size + 1, 0, none⟩) (by simp only [World.size_alloc]; omega)]; exact (cells_five _ _ _ _ _ _ _ _ _ _ _ _ rfl).2.1
      · rw [hB.cell (p := ⟨w.heap.size + 1 + 1, 0, none⟩) (by simp only [World.size_alloc]; omega)]; exact (cells_five _ _ _ _ _ _ _ _ _ _ _ _ rfl).2.2.1
      · rintro e w' ⟨rfl, d⟩
        exact ⟨rfl, d.below _⟩
    rintro e w1 ⟨a, c, vs, rfl, o1, b1⟩
    have B1 : Below w.heap.size w w1 := Below.trans (by repeat' (first | with_reducible exact Below.refl _ _ | with_reducible assumption | with_reducible apply Below.alloc | with_reducible apply Below.setCell | with_reducible apply Below.drew | exact Nat.le_refl _ | omega | (simp only [World.size_alloc, World.size_setCell]; omega))) (b1.mono (by first | exact Nat.le_refl _ | omega | (simp only [World.size_alloc, World.size_setCell]; omega)))
    obtain ⟨hc, hf⟩ := bcell b1
    have hz := b1.size
    simp only [World.size_alloc] at hc hf hz o1
    clear b1
    rw [rowsTo_length] at o1
    have hend := (((((o1.setCell_off (p := ⟨w.heap.size + 1 + 1 + 1, 0, none⟩) (Or.inl (by simp only []; omega)) (.int .i64 xs.length)).setCell_off (p := ⟨w.heap.size + 1 + 1 + 1, 1, none⟩) (Or.inl (by simp only []; omega)) (.int .i64 ys.length)).setCell_off (p := ⟨w.heap.size + 1 + 1 + 1, 2, none⟩) (Or.inl (by simp only []; omega)) (.int .i64 (m * m))).setCell_off (p := ⟨w.heap.size + 1 + 1 + 1, 3, none⟩) (Or.inl (by simp only []; omega)) (.slice a (xs.length * ys.length) c))).weaken (lo' := w.heap.size) (by omega) (Nat.le_refl _)
    have hB2 : Below w.heap.size w ((((w1.setCell ⟨w.heap.size + 1 + 1 + 1, 0, none⟩ (.int .i64 xs.length)).setCell ⟨w.heap.size + 1 + 1 + 1, 1, none⟩ (.int .i64 ys.length)).setCell ⟨w.heap.size + 1 + 1 + 1, 2, none⟩ (.int .i64 (m * m))).setCell ⟨w.heap.size + 1 + 1 + 1, 3, none⟩ (.slice a (xs.length * ys.length) c)) := (by repeat' (first | with_reducible exact Below.refl _ _ | with_reducible assumption | with_reducible apply Below.alloc | with_reducible apply Below.setCell | with_reducible apply Below.drew | exact Nat.le_refl _ | omega | (simp only [World.size_alloc, World.size_setCell]; omega)))
    clear o1
    go_wp2
    refine bodyPost_ret (v := .tuple #[.agg #[.int .i64 xs.length, .int .i64 ys.length, .int .i64 (m * m), .slice a (xs.length * ys.length) c], .bool true]) ?_ rfl ?_
    · simp [results, Tryz.results24, go_sem, hc]
    · exact ⟨a, c, vs, by rw [rowsTo_length], by rw [rowsTo_length]; simpa only [World.size_setCell] using hend, hB2⟩
  · have hD : prodD xs ys m = zeroD := by unfold prodD; rw [hok]; simp
    rw [hD, hok]
    rw [prodOk_eq] at hok
    clear hD
    rcases and4_false hok with q1 | ⟨q1, q2⟩ | ⟨q1, q2, q3⟩ | ⟨q1, q2, q3, q4⟩ <;>
    (clear hok
     go_enter Tryz.func24, Tryz.ntmps24
     go_wp2_with (first | (go_at_call 39; refine (areQuestions_any _ _ _).mono ?_; rintro e w' ⟨rfl, rfl⟩) | (go_at_call 40; refine (within_any _ _ _ _).mono ?_; rintro e w' ⟨rfl, rfl⟩) | (go_at_call 41; (with_reducible refine (allWithin_any (.slice a1 xs.length k1) xs _ _ _ (r1 _ ?_)).mono ?_); exact (by repeat' (first | with_reducible exact Below.refl _ _ | with_reducible assumption | with_reducible apply Below.alloc | with_reducible apply Below.setCell | with_reducible apply Below.drew | exact Nat.le_refl _ | omega | (simp only [World.size_alloc, World.size_setCell]; omega))); rintro e w' ⟨rfl, rfl⟩) | (go_at_call 41; (with_reducible refine (allWithin_any (.slice a2 ys.length k2) ys _ _ _ (r2 _ ?_)).mono ?_); exact (by repeat' (first | with_reducible exact Below.refl _ _ | with_reducible assumption | with_reducible apply Below.alloc | with_reducible apply Below.setCell | with_reducible apply Below.drew | exact Nat.le_refl _ | omega | (simp only [World.size_alloc, World.size_setCell]; omega))); rintro e w' ⟨rfl, rfl⟩))
     refine bodyPost_ret (v := .tuple #[.agg #[.int .i64 0, .int .i64 0, .int .i64 0, .slice none 0 0], .bool false]) ?_ rfl ?_
     · simp [results, Tryz.results24, go_sem]
     · exact BoxRes.zero (by repeat' (first | with_reducible exact Below.refl _ _ | with_reducible assumption | with_reducible apply Below.alloc | with_reducible apply Below.setCell | with_reducible apply Below.drew | exact Nat.le_refl _ | omega | (simp only [World.size_alloc, World.size_setCell]; omega))))

theorem and3_false {a b c : Bool} (h : (a && (b && c)) = false) : a = false ∨ (a = true ∧ b = false) ∨ (a = true ∧ b = true ∧ c = false) := by
  revert h; cases a <;> cases b <;> cases c <;> decide

set_option maxHeartbeats 1600000 in
theorem specProductBox_any (v1 : Value) (xs : List Int) (v2 : Value) (ys : List Int) (m : Int) (w : World) (h1 : RdI w v1 xs) (h2 : RdI w v2 ys) :
    Calls Tryz.prog 25 #[v1, v2, .int .i64 m] w (BoxRes w (prodD xs ys m) (prodOk xs ys m)) := by
  have r1 : ∀ w', Below w.heap.size w w' → RdI w' v1 xs := fun w' hb => h1.kept (Nat.le_refl _) hb
  have r2 : ∀ w', Below w.heap.size w w' → RdI w' v2 ys := fun w' hb => h2.kept (Nat.le_refl _) hb
  obtain ⟨a1, b1, o1, k1, rfl, m1, e1, c1⟩ := h1
  obtain ⟨a2, b2, o2, k2, rfl, m2, e2, c2⟩ := h2
  unfold maxLen at m1 m2
  rcases Bool.eq_false_or_eq_true (prodOk xs ys m) with hok | hok
  · have hD : prodD xs ys m = ⟨xs.length, ys.length, m * m, rowsTo (prodN m xs ys) ys.length (xs.length * ys.length)⟩ := by unfold prodD; rw [hok]; simp
    have q : inB m 1 31 = true ∧ chancesB xs m = true ∧ chancesB ys m = true := by unfold prodOk at hok; rw [Bool.and_eq_true, Bool.and_eq_true] at hok; exact hok
    rw [hD, hok]
    clear hok hD
    obtain ⟨q1, q2, q3⟩ := q
    have hm := inB_iff.1 q1
    obtain ⟨q5, hx0, hx1⟩ := chancesB_iff.1 q2
    obtain ⟨q6, hy0, hy1⟩ := chancesB_iff.1 q3
    have hmm := prod_bound m m m hm.2 ⟨by omega, by omega⟩ ⟨by omega, by omega⟩
    obtain ⟨hm0, hm1⟩ := hm
    obtain ⟨hmm0, hmm1⟩ := hmm
    obtain rfl := e1 (by omega)
    obtain rfl := e2 (by omega)
    have hXY : xs.length * ys.length ≤ 9 := Nat.mul_le_mul hx1 hy1
    have C1 := Lib.hid c1
    have C2 := Lib.hid c2
    clear c1 c2 e1 e2
    go_enter Tryz.func25, Tryz.ntmps25
    go_wp2_with (first | (go_at_call 64; refine (l1In_any _ _ _ _).mono ?_; rintro e w' ⟨rfl, rfl⟩) | (go_at_call 70; (with_reducible refine (l2Chances_any (.slice (some ⟨b1, o1, none⟩) xs.length k1) xs _ _ (r1 _ ?_)).mono ?_); exact (by repeat' (first | with_reducible exact Below.refl _ _ | with_reducible assumption | with_reducible apply Below.alloc | with_reducible apply Below.setCell | with_reducible apply Below.drew | exact Nat.le_refl _ | omega | (simp only [World.size_alloc, World.size_setCell]; omega))); rintro e w' ⟨rfl, rfl⟩) | (go_at_call 70; (with_reducible refine (l2Chances_any (.slice (some ⟨b2, o2, none⟩) ys.length k2) ys _ _ (r2 _ ?_)).mono ?_); exact (by repeat' (first | with_reducible exact Below.refl _ _ | with_reducible assumption | with_reducible apply Below.alloc | with_reducible apply Below.setCell | with_reducible apply Below.drew | exact Nat.le_refl _ | omega | (simp only [World.size_alloc, World.size_setCell]; omega))); rintro e w' ⟨rfl, rfl⟩))
    obtain ⟨W3, hW3⟩ : ∃ W3, W3 = (((w.alloc (.cells #[.int .i64 0, .int .i64 0, .int .i64 0, .slice none 0 0] 26)).alloc (.cells #[] 33)).alloc (.cells #[.int .i64 xs.length, .int .i64 ys.length, .int .i64 (m * m), .slice (some ⟨w.heap.size + 1, 0, none⟩) 0 0] 26)) := ⟨_, rfl⟩
    obtain ⟨hst, hret, hB3, hs3⟩ := BoxRel.start w W3 xs.length ys.length (m * m) hW3
    have HW := Lib.hid hW3
    have HS := Lib.hid hs3
    clear hW3 hs3
    go_loopw [9] (fun s wr => ∃ i : Nat, i ≤ xs.length ∧ s = .int .i64 i ∧ ∃ a c vs, BoxRel W3 (w.heap.size + 1) (w.heap.size + 1 + 1) (w.heap.size + 1) wr xs.length ys.length (m * m) (rowsTo (prodN m xs ys) ys.length (i * ys.length)) a c vs) (fun s _ => xs.length - (intOf s).toNat)
    case atStart => exact ⟨0, by omega, rfl, _, _, _, by rw [← HW.out]; simpa [rowsTo] using hst⟩
    case round =>
      clear hst
      obtain ⟨i, hi, rfl, a, c, vs, hR⟩ := hrel
      obtain ⟨⟨g0, g1, g2, g3⟩, gf⟩ := hR.cells
      by_cases hlt : i < xs.length
      · go_wp2
        clear g0 g1 g2 g3 gf
        go_loopw [10] (fun s wr => ∃ j : Nat, j ≤ ys.length ∧ s = .int .i64 j ∧ ∃ a c vs, BoxRel W3 (w.heap.size + 1) (w.heap.size + 1 + 1) (w.heap.size + 1) wr xs.length ys.length (m * m) (rowsTo (prodN m xs ys) ys.length (i * ys.length + j)) a c vs) (fun s _ => ys.length - (intOf s).toNat)
        case atStart => exact ⟨0, by omega, rfl, _, _, _, hR⟩
        case round =>
          clear hR
          obtain ⟨j, hj, rfl, a, c, vs, hR⟩ := hrel
          obtain ⟨⟨g0, g1, g2, g3⟩, gf⟩ := hR.cells
          by_cases hjt : j < ys.length
          · obtain ⟨p, hp⟩ : ∃ p, xs[i]? = some p := ⟨_, List.getElem?_eq_getElem hlt⟩
            obtain ⟨q, hq⟩ : ∃ q, ys[j]? = some q := ⟨_, List.getElem?_eq_getElem hjt⟩
            have hBw : Below w.heap.size w wr := hB3.trans (hR.below.mono (by omega))
            have cp : wr.cell? ⟨b1, o1 + i, none⟩ = some (.int .i64 p) := by rw [hBw.cell (p := ⟨b1, o1 + i, none⟩) (World.block_lt_of_cell? _ _ (C1.out i p hp))]; exact C1.out i p hp
            have cq : wr.cell? ⟨b2, o2 + j, none⟩ = some (.int .i64 q) := by rw [hBw.cell (p := ⟨b2, o2 + j, none⟩) (World.block_lt_of_cell? _ _ (C2.out j q hq))]; exact C2.out j q hq
            have bp := allIn_get q5 hp
            have bq := allIn_get q6 hq
            have n1 := prod_bound (m - p) (m - q) m hm1 ⟨by omega, by omega⟩ ⟨by omega, by omega⟩
            have n2 := prod_bound (m - p) q m hm1 ⟨by omega, by omega⟩ bq
            have n3 := prod_bound p (m - q) m hm1 bp ⟨by omega, by omega⟩
            have n4 := prod_bound p q m hm1 bp bq
            have hro : rowOf (prodN m xs ys) (i : Int) (j : Int) = [(m - p) * (m - q), (m - p) * q, p * (m - q), p * q] := by
              simp [rowOf, prodN, partN, List.getD_eq_getElem?_getD, hp, hq]
            have hrr := rowsTo_succ (prodN m xs ys) ys.length i j hjt
            rw [hro] at hrr
            obtain ⟨n10, n11⟩ := n1
            obtain ⟨n20, n21⟩ := n2
            obtain ⟨n30, n31⟩ := n3
            obtain ⟨n40, n41⟩ := n4
            obtain ⟨p0, p1⟩ := bp
            obtain ⟨qq0, qq1⟩ := bq
            have HR := Lib.hid hrr
            clear hrr hro hp hq
            have hRd : ∀ n, BoxRel W3 (w.heap.size + 1) (w.heap.size + 1 + 1) (w.heap.size + 1) (wr.drewN n) xs.length ys.length (m * m) (rowsTo (prodN m xs ys) ys.length (i * ys.length + j)) a c vs := fun n => hR.later ((Drw.mk wr n).below _)
            clear hR
            go_wp2
            clear g0 g1 g2 g3 gf
            go_quiet (fail)
            have hR := hRd nq
            clear hRd
            generalize wr.drewN nq = wd at *
            obtain ⟨⟨g0, g1, g2, g3⟩, gf⟩ := hR.cells
            have hrow := OwnV.lit 3 wd (ints [(m - p) * (m - q), (m - p) * q, p * (m - q), p * q]) (by simp [maxLen])
            have hb1 : Below wd.heap.size wd (wd.alloc (.cells (ints [(m - p) * (m - q), (m - p) * q, p * (m - q), p * q]).toArray 3)) := (by repeat' (first | with_reducible exact Below.refl _ _ | with_reducible assumption | with_reducible apply Below.alloc | with_reducible apply Below.setCell | with_reducible apply Below.drew | exact Nat.le_refl _ | omega | (simp only [World.size_alloc, World.size_setCell]; omega)))
            have ht := hR.rows.top.kept hb1 (Nat.le_refl _)
            have hlen := hR.rows.len
            rw [rowsTo_length] at hlen ht g3
            have hn9 : vs.length ≤ 9 := by
              have h1 : i * ys.length + j < (i + 1) * ys.length := by rw [Nat.succ_mul]; omega
              have h2 : (i + 1) * ys.length ≤ xs.length * ys.length := Nat.mul_le_mul_right _ hlt
              omega
            have HL := Lib.hid hlen
            have hlo : w.heap.size + 1 ≤ (wd.alloc (.cells (ints [(m - p) * (m - q), (m - p) * q, p * (m - q), p * q]).toArray 3)).heap.size := by rw [World.size_alloc]; have := hR.b4; omega
            clear hlen
            simp only [ints, List.map_cons, List.map_nil] at ht hlo
            go_wp2_with (at_builtin; refine append1_at rfl _ _ 24 33 rfl Tryz.underlying24 Tryz.infoInts rfl ht (World.size_alloc _ _) rfl rfl rfl (by omega) (by omega) hlo ?_)
            intro a2 c2 w2 hT2 hg2
            have hp := hR.push hb1 (rs := [(m - p) * (m - q), (m - p) * q, p * (m - q), p * q]) (by simpa [ints] using hrow) hT2 (by rw [rowsTo_length]; exact hg2) (by rw [HL.out]; simp)
            obtain ⟨hp1, f1, f2⟩ := hp
            rw [← HR.out] at hp1
            clear g0 g1 g2 g3 gf hR ht hT2 hrow
            go_wp2
            go_roundw
            case rel => exact ⟨j + 1, by omega, by go_num, a2, c2, _, hp1⟩
            case measure => simp [intOf]; omega
          · obtain rfl : j = ys.length := by omega
            go_wp2
            go_roundw
            case rel => exact ⟨i + 1, by omega, by go_num, a, c, vs, by rw [Nat.succ_mul]; exact hR⟩
            case measure => simp [intOf]; omega
      · obtain rfl : i = xs.length := by omega
        have hlt3 : w.heap.size + 1 ≤ wr.heap.size := by have := hR.b4; omega
        have hrt := hret.kept hR.below (by omega)
        have hrows := hR.rows
        have hBw : Below w.heap.size w wr := hB3.trans (hR.below.mono (by omega))
        rw [rowsTo_length] at g3 hrows
        obtain ⟨e0, e1, e2, e3, ef⟩ := hrt
        have hend := (((((hrows.setCell_off (p := ⟨w.heap.size, 0, none⟩) (Or.inl (by simp only []; omega)) (.int .i64 xs.length)).setCell_off (p := ⟨w.heap.size, 1, none⟩) (Or.inl (by simp only []; omega)) (.int .i64 ys.length)).setCell_off (p := ⟨w.heap.size, 2, none⟩) (Or.inl (by simp only []; omega)) (.int .i64 (m * m))).setCell_off (p := ⟨w.heap.size, 3, none⟩) (Or.inl (by simp only []; omega)) (.slice a (xs.length * ys.length) c))).weaken (lo' := w.heap.size) (hi' := wr.heap.size) (by omega) (Nat.le_refl _)
        have hB5 : Below w.heap.size w ((((wr.setCell ⟨w.heap.size, 0, none⟩ (.int .i64 xs.length)).setCell ⟨w.heap.size, 1, none⟩ (.int .i64 ys.length)).setCell ⟨w.heap.size, 2, none⟩ (.int .i64 (m * m))).setCell ⟨w.heap.size, 3, none⟩ (.slice a (xs.length * ys.length) c)) := (by repeat' (first | with_reducible exact Below.refl _ _ | with_reducible assumption | with_reducible apply Below.alloc | with_reducible apply Below.setCell | with_reducible apply Below.drew | exact Nat.le_refl _ | omega | (simp only [World.size_alloc, World.size_setCell]; omega)))
        clear hrows hR
        go_wp2
        refine bodyPost_ret (v := .tuple #[.agg #[.int .i64 xs.length, .int .i64 ys.length, .int .i64 (m * m), .slice a (xs.length * ys.length) c], .bool true]) ?_ rfl ?_
        · simp [results, Tryz.results25, go_sem, e0, e1, e2, e3]
        · exact ⟨a, c, vs, by rw [rowsTo_length], by rw [rowsTo_length]; simpa only [World.size_setCell] using hend, hB5⟩
  · have hD : prodD xs ys m = zeroD := by unfold prodD; rw [hok]; simp
    rw [hD, hok]
    unfold prodOk at hok
    clear hD c1 c2 e1 e2
    rcases and3_false hok with q1 | ⟨q1, q2⟩ | ⟨q1, q2, q3⟩ <;>
    (clear hok
     go_enter Tryz.func25, Tryz.ntmps25
     go_wp2_with (first | (go_at_call 64; refine (l1In_any _ _ _ _).mono ?_; rintro e w' ⟨rfl, rfl⟩) | (go_at_call 70; (with_reducible refine (l2Chances_any (.slice a1 xs.length k1) xs _ _ (r1 _ ?_)).mono ?_); exact (by repeat' (first | with_reducible exact Below.refl _ _ | with_reducible assumption | with_reducible apply Below.alloc | with_reducible apply Below.setCell | with_reducible apply Below.drew | exact Nat.le_refl _ | omega | (simp only [World.size_alloc, World.size_setCell]; omega))); rintro e w' ⟨rfl, rfl⟩) | (go_at_call 70; (with_reducible refine (l2Chances_any (.slice a2 ys.length k2) ys _ _ (r2 _ ?_)).mono ?_); exact (by repeat' (first | with_reducible exact Below.refl _ _ | with_reducible assumption | with_reducible apply Below.alloc | with_reducible apply Below.setCell | with_reducible apply Below.drew | exact Nat.le_refl _ | omega | (simp only [World.size_alloc, World.size_setCell]; omega))); rintro e w' ⟨rfl, rfl⟩))
     refine bodyPost_ret (v := .tuple #[.agg #[.int .i64 0, .int .i64 0, .int .i64 0, .slice none 0 0], .bool false]) ?_ rfl ?_
     · simp [results, Tryz.results25, go_sem]
     · exact BoxRes.zero (by repeat' (first | with_reducible exact Below.refl _ _ | with_reducible assumption | with_reducible apply Below.alloc | with_reducible apply Below.setCell | with_reducible apply Below.drew | exact Nat.le_refl _ | omega | (simp only [World.size_alloc, World.size_setCell]; omega))))
end Go.Proofs.YtcifpfdlkpddeaaGreatDoor
