/- GreatestTriple: contracts of the program's and the reference's functions. Slices of pairs, of the call's own: each element lies in two cells. -/
import Derived.Test.YtadnjljpceeolaaLobk
import Derived.Test.YtadnjljpceeolaaLoai
set_option linter.unusedSimpArgs false
set_option linter.unusedVariables false
namespace Go.Proofs.Ytadnjljpceeolaa
open Go.RowKit

def mostD (b : BoxD) : Int := if tripleOk b then mostT b else 0
set_option maxHeartbeats 800000 in
theorem specGreatestTriple_any (v : Value) (b : BoxD) (w : World) (h : RdII w v b.Rows) :
    Calls Try.prog 24 #[.agg #[.int .i64 b.X, .int .i64 b.Y, .int .i64 b.Whole, v]] w fun e w' => e = .returned (.tuple #[.int .i64 (mostD b), .bool (tripleOk b)]) ∧ Below w.heap.size w w' := by
  go_enter Try.func24, Try.ntmps24
  go_wp2_with fail
  refine (l3Three_any v b _ (h.kept (Nat.le_refl _) (by repeat' (first | with_reducible exact Below.refl _ _ | with_reducible assumption | with_reducible apply Below.alloc | with_reducible apply Below.setCell | with_reducible apply Below.drew | exact Nat.le_refl _ | omega | (simp only [World.size_alloc, World.size_setCell]; omega))))).mono ?_
  rintro e w1 ⟨rfl, b1⟩
  have B1 : Below w.heap.size w w1 := Below.trans (by repeat' (first | with_reducible exact Below.refl _ _ | with_reducible assumption | with_reducible apply Below.alloc | with_reducible apply Below.setCell | with_reducible apply Below.drew | exact Nat.le_refl _ | omega | (simp only [World.size_alloc, World.size_setCell]; omega))) (b1.mono (by first | exact Nat.le_refl _ | omega | (simp only [World.size_alloc, World.size_setCell]; omega)))
  have A1 : BoxAt w1 w.heap.size b.X b.Y b.Whole v := ⟨keepCell b1 (by repeat' (first | with_reducible assumption | (refine cell_top ?_ rfl; first | with_reducible rfl | (simp only [World.size_alloc, World.size_setCell]; done)) | (refine cell_under ?_ ?_; (first | omega | (simp only [World.size_alloc, World.size_setCell]; omega))) | refine cell_drew ?_)), keepCell b1 (by repeat' (first | with_reducible assumption | (refine cell_top ?_ rfl; first | with_reducible rfl | (simp only [World.size_alloc, World.size_setCell]; done)) | (refine cell_under ?_ ?_; (first | omega | (simp only [World.size_alloc, World.size_setCell]; omega))) | refine cell_drew ?_)), keepCell b1 (by repeat' (first | with_reducible assumption | (refine cell_top ?_ rfl; first | with_reducible rfl | (simp only [World.size_alloc, World.size_setCell]; done)) | (refine cell_under ?_ ?_; (first | omega | (simp only [World.size_alloc, World.size_setCell]; omega))) | refine cell_drew ?_)), keepCell b1 (by repeat' (first | with_reducible assumption | (refine cell_top ?_ rfl; first | with_reducible rfl | (simp only [World.size_alloc, World.size_setCell]; done)) | (refine cell_under ?_ ?_; (first | omega | (simp only [World.size_alloc, World.size_setCell]; omega))) | refine cell_drew ?_))⟩
  clear b1
  rcases Bool.eq_false_or_eq_true (tripleOk b) with hok | hok
  · obtain ⟨a0, a1, a2, a3⟩ := A1
    have HM := Lib.hid hok
    have HD := Lib.hid (show mostD b = mostT b by unfold mostD; rw [hok]; rfl)
    rw [hok]
    clear hok
    go_wp2_with fail
    refine (l3Most_any v b (tripleOk_iff.1 HM.out).1 (tripleOk_iff.1 HM.out).2.2.1 (tripleOk_iff.1 HM.out).2.2.2 _ (h.kept (Nat.le_refl _) B1)).mono ?_
    rintro e w2 ⟨rfl, b2⟩
    have B2 := B1.trans (b2.mono B1.size)
    go_wp2
    refine bodyPost_ret (v := .tuple #[.int .i64 (mostT b), .bool true]) (by simp [results, Try.results24, go_sem]) rfl ⟨by rw [HD.out, HM.out], B2⟩
  · have HM := Lib.hid hok
    have HD := Lib.hid (show mostD b = 0 by unfold mostD; rw [hok]; rfl)
    rw [hok]
    clear hok
    go_wp2
    refine bodyPost_ret (v := .tuple #[.int .i64 0, .bool false]) (by simp [results, Try.results24, go_sem]) rfl ⟨by rw [HD.out, HM.out], B1⟩
set_option maxHeartbeats 800000 in
theorem implGreatestTriple_any (v : Value) (b : BoxD) (w : World) (h : RdII w v b.Rows) :
    Calls Try.prog 26 #[.agg #[.int .i64 b.X, .int .i64 b.Y, .int .i64 b.Whole, v]] w fun e w' => e = .returned (.tuple #[.int .i64 (mostD b), .bool (tripleOk b)]) ∧ Below w.heap.size w w' := by
  go_enter Try.func26, Try.ntmps26
  go_wp2_with fail
  refine (isTriple_any v b _ (h.kept (Nat.le_refl _) (by repeat' (first | with_reducible exact Below.refl _ _ | with_reducible assumption | with_reducible apply Below.alloc | with_reducible apply Below.setCell | with_reducible apply Below.drew | exact Nat.le_refl _ | omega | (simp only [World.size_alloc, World.size_setCell]; omega))))).mono ?_
  rintro e w1 ⟨rfl, b1⟩
  have B1 : Below w.heap.size w w1 := Below.trans (by repeat' (first | with_reducible exact Below.refl _ _ | with_reducible assumption | with_reducible apply Below.alloc | with_reducible apply Below.setCell | with_reducible apply Below.drew | exact Nat.le_refl _ | omega | (simp only [World.size_alloc, World.size_setCell]; omega))) (b1.mono (by first | exact Nat.le_refl _ | omega | (simp only [World.size_alloc, World.size_setCell]; omega)))
  have A1 : BoxAt w1 w.heap.size b.X b.Y b.Whole v := ⟨keepCell b1 (by repeat' (first | with_reducible assumption | (refine cell_top ?_ rfl; first | with_reducible rfl | (simp only [World.size_alloc, World.size_setCell]; done)) | (refine cell_under ?_ ?_; (first | omega | (simp only [World.size_alloc, World.size_setCell]; omega))) | refine cell_drew ?_)), keepCell b1 (by repeat' (first | with_reducible assumption | (refine cell_top ?_ rfl; first | with_reducible rfl | (simp only [World.size_alloc, World.size_setCell]; done)) | (refine cell_under ?_ ?_; (first | omega | (simp only [World.size_alloc, World.size_setCell]; omega))) | refine cell_drew ?_)), keepCell b1 (by repeat' (first | with_reducible assumption | (refine cell_top ?_ rfl; first | with_reducible rfl | (simp only [World.size_alloc, World.size_setCell]; done)) | (refine cell_under ?_ ?_; (first | omega | (simp only [World.size_alloc, World.size_setCell]; omega))) | refine cell_drew ?_)), keepCell b1 (by repeat' (first | with_reducible assumption | (refine cell_top ?_ rfl; first | with_reducible rfl | (simp only [World.size_alloc, World.size_setCell]; done)) | (refine cell_under ?_ ?_; (first | omega | (simp only [World.size_alloc, World.size_setCell]; omega))) | refine cell_drew ?_))⟩
  clear b1
  rcases Bool.eq_false_or_eq_true (tripleOk b) with hok | hok
  · obtain ⟨a0, a1, a2, a3⟩ := A1
    have HM := Lib.hid hok
    have HD := Lib.hid (show mostD b = mostT b by unfold mostD; rw [hok]; rfl)
    rw [hok]
    clear hok
    go_wp2_with fail
    refine (greatestTriple_any v b (tripleOk_iff.1 HM.out).1 (tripleOk_iff.1 HM.out).2.2.1 (tripleOk_iff.1 HM.out).2.2.2 _ (h.kept (Nat.le_refl _) B1)).mono ?_
    rintro e w2 ⟨rfl, b2⟩
    have B2 := B1.trans (b2.mono B1.size)
    go_wp2
    refine bodyPost_ret (v := .tuple #[.int .i64 (mostT b), .bool true]) (by simp [results, Try.results26, go_sem]) rfl ⟨by rw [HD.out, HM.out], B2⟩
  · have HM := Lib.hid hok
    have HD := Lib.hid (show mostD b = 0 by unfold mostD; rw [hok]; rfl)
    rw [hok]
    clear hok
    go_wp2
    refine bodyPost_ret (v := .tuple #[.int .i64 0, .bool false]) (by simp [results, Try.results26, go_sem]) rfl ⟨by rw [HD.out, HM.out], B1⟩
end Go.Proofs.Ytadnjljpceeolaa
set_option linter.unusedSimpArgs false
set_option linter.unusedVariables false
namespace Go.Proofs.Ytadnjljpceeolaa
open Go.RowKit

def flatP : List (Nat × Nat) → List Value
  | [] => []
  | p :: ps => .int .i64 (p.1 : Int) :: .int .i64 (p.2 : Int) :: flatP ps
theorem flatP_length : ∀ ps : List (Nat × Nat), (flatP ps).length = ps.length * 2
  | [] => rfl
  | p :: ps => by
    show (flatP ps).length + 1 + 1 = (ps.length + 1) * 2
    rw [flatP_length ps]; omega
theorem flatP_snoc : ∀ (ps : List (Nat × Nat)) (i k : Nat), flatP ps ++ [.int .i64 (i : Int), .int .i64 (k : Int)] = flatP (ps ++ [(i, k)])
  | [], _, _ => rfl
  | p :: ps, i, k => by
    show _ :: _ :: (flatP ps ++ _) = _ :: _ :: flatP (ps ++ [(i, k)])
    rw [flatP_snoc ps i k]
theorem flatP_get : ∀ (ps : List (Nat × Nat)) (j : Nat) (p : Nat × Nat), ps[j]? = some p → (flatP ps)[j * 2]? = some (.int .i64 (p.1 : Int)) ∧ (flatP ps)[j * 2 + 1]? = some (.int .i64 (p.2 : Int))
  | [], j, p, h => by simp at h
  | q :: ps, 0, p, h => by
    simp at h; subst h
    exact ⟨rfl, rfl⟩
  | q :: ps, j + 1, p, h => by
    have h' : ps[j]? = some p := by simpa using h
    have := flatP_get ps j p h'
    rw [show (j + 1) * 2 = j * 2 + 1 + 1 by omega]
    exact this
/-- The pairs that begin with i, the first c of them. -/
def pairsRow (i : Nat) : Nat → List (Nat × Nat)
  | 0 => []
  | c + 1 => pairsRow i c ++ [(i, i + 1 + c)]
def pairsTo (n : Nat) : Nat → List (Nat × Nat)
  | 0 => []
  | i + 1 => pairsTo n i ++ pairsRow i (n - (i + 1))
theorem pairsRow_length (i : Nat) : ∀ c, (pairsRow i c).length = c
  | 0 => rfl
  | c + 1 => by show (pairsRow i c ++ _).length = _; simp [pairsRow_length i c]
theorem pairsTo_length (n i : Nat) : (pairsTo n i).length ≤ i * n := by
  induction i with
  | zero => simp [pairsTo]
  | succ i ih =>
    show (pairsTo n i ++ pairsRow i (n - (i + 1))).length ≤ _
    rw [List.length_append, pairsRow_length, Nat.succ_mul]
    omega
theorem pairsRow_mem {i c : Nat} {p : Nat × Nat} (h : p ∈ pairsRow i c) : p.1 = i ∧ i < p.2 ∧ p.2 < i + 1 + c := by
  induction c with
  | zero => cases h
  | succ c ih =>
    rcases List.mem_append.1 h with h | h
    · obtain ⟨h1, h2, h3⟩ := ih h
      exact ⟨h1, h2, by omega⟩
    · simp at h; subst h
      exact ⟨rfl, by show i < i + 1 + c; omega, by show i + 1 + c < i + 1 + (c + 1); omega⟩
theorem pairsTo_mem {n i : Nat} {p : Nat × Nat} (hi : i ≤ n) (h : p ∈ pairsTo n i) : p.1 < p.2 ∧ p.2 < n := by
  induction i with
  | zero => cases h
  | succ i ih =>
    rcases List.mem_append.1 h with h | h
    · exact ih (by omega) h
    · obtain ⟨h1, h2, h3⟩ := pairsRow_mem h
      omega

def OwnP (T lo hi : Nat) (w : World) (v : Value) (ps : List (Nat × Nat)) : Prop :=
  w.ownsRow lo T 2 v ps.length (flatP ps) ∧ ∀ g, v.ownBlock = some g → g < hi
theorem OwnP.lt {T lo hi : Nat} {w : World} {v : Value} {ps : List (Nat × Nat)} (h : OwnP T lo hi w v ps) : ∀ g, v.ownBlock = some g → lo ≤ g ∧ g < hi ∧ g < w.heap.size :=
  fun g hg => ⟨(h.1.lt g hg).1, h.2 g hg, (h.1.lt g hg).2⟩
theorem OwnP.empty (T : Nat) (w : World) : OwnP T w.heap.size (w.heap.size + 1) (w.alloc (.cells #[] T)) (.slice (some ⟨w.heap.size, 0, none⟩) 0 0) [] :=
  ⟨World.ownsRow_made w #[] 0 (Nat.le_refl _) (Nat.zero_le _) rfl, fun g hg => by simp [Value.ownBlock] at hg; omega⟩
theorem OwnP.of_block {T lo hi : Nat} {w w' : World} {v : Value} {ps : List (Nat × Nat)} (h : OwnP T lo hi w v ps)
    (hs : ∀ g, v.ownBlock = some g → w'.heap[g]? = w.heap[g]?) : OwnP T lo hi w' v ps := by
  obtain ⟨⟨h1, h2⟩, h3⟩ := h
  refine ⟨⟨h1, ?_⟩, h3⟩
  rcases h2 with h2 | ⟨g, cap, cur, rfl, hb, hh, r⟩
  · exact Or.inl h2
  · exact Or.inr ⟨g, cap, cur, rfl, hb, by rw [hs g rfl]; exact hh, r⟩

/-- A slice that reads as pairs, its cells in a block from lo on. -/
def RdP (lo : Nat) (w : World) (v : Value) (ps : List (Nat × Nat)) : Prop :=
  ∃ (b cap : Nat) (a : Option Addr), v = .slice a ps.length cap ∧ ps.length ≤ maxLen ∧ (0 < ps.length → a = some ⟨b, 0, none⟩ ∧ lo ≤ b ∧ b < w.heap.size) ∧
    ∀ j p, ps[j]? = some p → w.cell? ⟨b, j * 2, none⟩ = some (.int .i64 (p.1 : Int)) ∧ w.cell? ⟨b, j * 2 + 1, none⟩ = some (.int .i64 (p.2 : Int))
theorem OwnP.rd {T lo hi : Nat} {w : World} {v : Value} {ps : List (Nat × Nat)} (h : OwnP T lo hi w v ps) : RdP lo w v ps := by
  have hlt := h.lt
  obtain ⟨⟨h1, h2⟩, h3⟩ := h
  rcases h2 with ⟨rfl, hn⟩ | ⟨g, cap, cur, rfl, hb, hh, hnc, hcm, hcs, htk⟩
  · refine ⟨0, 0, none, by rw [hn], by rw [hn]; exact Nat.zero_le _, fun hp => by omega, fun j p hp => ?_⟩
    have : ps = [] := List.eq_nil_of_length_eq_zero hn
    subst this
    simp at hp
  · refine ⟨g, cap, some ⟨g, 0, none⟩, rfl, Nat.le_trans hnc hcm, fun _ => ⟨rfl, hb, (hlt g rfl).2.2⟩, fun j p hp => ?_⟩
    obtain ⟨q1, q2⟩ := flatP_get ps j p hp
    have key : ∀ k u, (flatP ps)[k]? = some u → w.cell? ⟨g, k, none⟩ = some u := by
      intro k u hu
      rw [← htk, List.getElem?_take] at hu
      split at hu
      · rw [cell_of_row w g k cur T (0, 0) hh]; simpa using hu
      · cases hu
    exact ⟨key _ _ q1, key _ _ q2⟩
theorem Mid.cell {lo hi : Nat} {w w' : World} (h : Mid lo hi w w') {b o : Nat} (hb : b < w.heap.size) (hx : b < lo ∨ hi ≤ b) : w'.cell? ⟨b, o, none⟩ = w.cell? ⟨b, o, none⟩ :=
  World.cell?_of_block (h.block b hb hx)
theorem Mid.keep {lo hi : Nat} {w w' : World} (h : Mid lo hi w w') {b o : Nat} {u : Value} (hx : b < lo ∨ hi ≤ b) (hc : w.cell? ⟨b, o, none⟩ = some u) : w'.cell? ⟨b, o, none⟩ = some u :=
  (h.cell (World.block_lt_of_cell? _ _ hc) hx).trans hc
theorem RdP.mid {lo lo' hi' : Nat} {w w' : World} {v : Value} {ps : List (Nat × Nat)} (h : RdP lo w v ps) (hm : Mid lo' hi' w w') (hd : hi' ≤ lo) : RdP lo w' v ps := by
  obtain ⟨b, cap, a, hv, hl, ha, hc⟩ := h
  refine ⟨b, cap, a, hv, hl, fun hp => ⟨(ha hp).1, (ha hp).2.1, Nat.lt_of_lt_of_le (ha hp).2.2 hm.size⟩, fun j p hp => ?_⟩
  have hp0 : 0 < ps.length := by have := (List.getElem?_eq_some_iff.1 hp).1; omega
  have hb := ha hp0
  obtain ⟨c1, c2⟩ := hc j p hp
  exact ⟨hm.keep (Or.inr (by omega)) c1, hm.keep (Or.inr (by omega)) c2⟩
theorem RdP.kept {lo : Nat} {w w' : World} {v : Value} {ps : List (Nat × Nat)} (h : RdP lo w v ps) (hb : Below w.heap.size w w') : RdP lo w' v ps :=
  h.mid (lo' := lo) (hi' := lo) (Mid.of_below hb (Nat.le_refl _)) (Nat.le_refl _)

section
variable {P : Program} {ops : Array Oper} {rest : List Oper} {o : Oper} {a : Act} {Q : Exit → Act → World → Prop}
/-- append(s, [2]int{i, k}): the pair lies in a block that was laid just before. -/
theorem append2_own (hgd : o.guard = none) (s x : Operand) (t e : TypeId)
    (ho : o.op = .call { callee := .builtin .append, args := #[s, x], argTypes := #[t, t] })
    {z : Value} {bytes : Nat} (ht : P.underlying t = some (.slice e)) (hinfo : (P.info? e).map (fun i => (i.zero, i.size, i.bytes)) = some (some z, 2, bytes)) (hz : z.cells.size = 2)
    {lo hi : Nat} {W : World} {v : Value} {i k : Nat} {x1 x2 : Value} {ps : List (Nat × Nat)} (hown : OwnP e lo hi W v ps) (hs : a.eval s = v) (e1 : x1 = .int .i64 (i : Int)) (e2 : x2 = .int .i64 (k : Int))
    (hx : a.eval x = .slice (some ⟨W.heap.size, 0, none⟩) 1 1) (hlen : ps.length ≤ 4194304) (hby : bytes ≤ 1024) (hlo : lo ≤ W.heap.size)
    (h : ∀ (a' : Option Addr) (c : Nat) (w' : World), OwnP e lo w'.heap.size w' (.slice a' (ps.length + 1) c) (ps ++ [(i, k)]) → W.grownBy w' v.ownBlock →
      wpList P ops Q rest (a.put o.dst (.slice a' (ps.length + 1) c)) w') :
    wpList P ops Q (o :: rest) a (W.alloc (.cells #[x1, x2] e)) := by
  subst e1 e2
  obtain ⟨i', hi0, hi1, hi2, hi3⟩ := info_parts hinfo
  refine wpList_append_own _ hgd s x t ho lo e i' z 2 bytes ht hi0 hi1 hi2 hi3 hz (by omega) v ps.length (flatP ps) hs (hown.1.alloc _) ⟨W.heap.size, 0, none⟩ 1 1 [.int .i64 (i : Int), .int .i64 (k : Int)] hx rfl ?_ ?_ ?_ ?_ ?_ ?_
  · intro j u' hj
    match j, hj with
    | 0, hj => simp at hj; subst hj; simp [Addr.add]
    | 1, hj => simp at hj; subst hj; simp [Addr.add]
  · intro u' hu'
    simp at hu'
    rcases hu' with rfl | rfl <;> rfl
  · unfold maxLen; omega
  · have : (ps.length + 1) * bytes ≤ 4194305 * 1024 := Nat.mul_le_mul (by omega) hby
    omega
  · simp; omega
  · intro v' w' hown' hg _
    rw [flatP_snoc] at hown'
    have hl : (ps ++ [(i, k)]).length = ps.length + 1 := by simp
    have hsh : ∃ a c, v' = .slice a (ps.length + 1) c := by
      rcases hown'.2 with ⟨rfl, h0⟩ | ⟨g, cap, cur, rfl, _⟩
      · omega
      · exact ⟨_, cap, rfl⟩
    obtain ⟨a', c, rfl⟩ := hsh
    exact h a' c w' ⟨by rw [hl]; exact hown', fun g hg' => (hown'.lt g hg').2⟩ (grown_trans (World.grownBy_alloc W _ _) hg)
end
end Go.Proofs.Ytadnjljpceeolaa
