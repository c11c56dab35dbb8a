/- Slices of pairs, of the call's own: each element lies in two cells. The greatest worth of a play. AskAgain: contracts of the program's function. SwapPlayers: contracts of the program's and the reference's function. Boxes by other names: swapped, asked again, flipped. No program in sight. -/
import Derived.Test.YtcifpfdlkpddeaaGreatDoorQxad
import Derived.Test.YtcifpfdlkpddeaaGreatDoorQxaz
import Derived.Test.YtcifpfdlkpddeaaGreatDoorQxbj
import Derived.Test.YtcifpfdlkpddeaaGreatDoorQxay
import Derived.Test.YtcifpfdlkpddeaaGreatDoorQxbh
import Derived.Test.YtcifpfdlkpddeaaGreatDoorQxba
set_option linter.unusedSimpArgs false
set_option linter.unusedVariables false
namespace Go.Proofs.YtcifpfdlkpddeaaGreatDoor
open Go.RowKit

def flatP : List (Nat × Nat) → List Value
  | [] => []
  | p :: ps => .int .i64 (p.1 : Int) :: .int .i64 (p.2 : Int) :: flatP ps
theorem flatP_length : ∀ ps : List (Nat × Nat), (flatP ps).length = ps.length * 2
  | [] => rfl
  | p :: ps => by
    show (flatP ps).length + 1 + 1 = (ps.length + 1) * 2
    rw [flatP_length ps]; omega
theorem flatP_snoc : ∀ (ps : List (Nat × Nat)) (i k : Nat), flatP ps ++ [.int .i64 (i : Int), .int .i64 (k : Int)] = flatP (ps ++ [(i, k)])
  | [], _, _ => rfl
  | p :: ps, i, k => by
    show _ :: _ :: (flatP ps ++ _) = _ :: _ :: flatP (ps ++ [(i, k)])
    rw [flatP_snoc ps i k]
theorem flatP_get : ∀ (ps : List (Nat × Nat)) (j : Nat) (p : Nat × Nat), ps[j]? = some p → (flatP ps)[j * 2]? = some (.int .i64 (p.1 : Int)) ∧ (flatP ps)[j * 2 + 1]? = some (.int .i64 (p.2 : Int))
  | [], j, p, h => by simp at h
  | q :: ps, 0, p, h => by
    simp at h; subst h
    exact ⟨rfl, rfl⟩
  | q :: ps, j + 1, p, h => by
    have h' : ps[j]? = some p := by simpa using h
    have := flatP_get ps j p h'
    rw [show (j + 1) * 2 = j * 2 + 1 + 1 by omega]
    exact this
/-- The pairs that begin with i, the first c of them. -/
def pairsRow (i : Nat) : Nat → List (Nat × Nat)
  | 0 => []
  | c + 1 => pairsRow i c ++ [(i, i + 1 + c)]
def pairsTo (n : Nat) : Nat → List (Nat × Nat)
  | 0 => []
  | i + 1 => pairsTo n i ++ pairsRow i (n - (i + 1))
theorem pairsRow_length (i : Nat) : ∀ c, (pairsRow i c).length = c
  | 0 => rfl
  | c + 1 => by show (pairsRow i c ++ _).length = _; simp [pairsRow_length i c]
theorem pairsTo_length (n i : Nat) : (pairsTo n i).length ≤ i * n := by
  induction i with
  | zero => simp [pairsTo]
  | succ i ih =>
    show (pairsTo n i ++ pairsRow i (n - (i + 1))).length ≤ _
    rw [List.length_append, pairsRow_length, Nat.succ_mul]
    omega
theorem pairsRow_mem {i c : Nat} {p : Nat × Nat} (h : p ∈ pairsRow i c) : p.1 = i ∧ i < p.2 ∧ p.2 < i + 1 + c := by
  induction c with
  | zero => cases h
  | succ c ih =>
    rcases List.mem_append.1 h with h | h
    · obtain ⟨h1, h2, h3⟩ := ih h
      exact ⟨h1, h2, by omega⟩
    · simp at h; subst h
      exact ⟨rfl, by show i < i + 1 + c; omega, by show i + 1 + c < i + 1 + (c + 1); omega⟩
theorem pairsTo_mem {n i : Nat} {p : Nat × Nat} (hi : i ≤ n) (h : p ∈ pairsTo n i) : p.1 < p.2 ∧ p.2 < n := by
  induction i with
  | zero => cases h
  | succ i ih =>
    rcases List.mem_append.1 h with h | h
    · exact ih (by omega) h
    · obtain ⟨h1, h2, h3⟩ := pairsRow_mem h
      omega

def OwnP (T lo hi : Nat) (w : World) (v : Value) (ps : List (Nat × Nat)) : Prop :=
  w.ownsRow lo T 2 v ps.length (flatP ps) ∧ ∀ g, v.ownBlock = some g → g < hi
theorem OwnP.lt {T lo hi : Nat} {w : World} {v : Value} {ps : List (Nat × Nat)} (h : OwnP T lo hi w v ps) : ∀ g, v.ownBlock = some g → lo ≤ g ∧ g < hi ∧ g < w.heap.size :=
  fun g hg => ⟨(h.1.lt g hg).1, h.2 g hg, (h.1.lt g hg).2⟩
theorem OwnP.empty (T : Nat) (w : World) : OwnP T w.heap.size (w.heap.size + 1) (w.alloc (.cells #[] T)) (.slice (some ⟨w.heap.size, 0, none⟩) 0 0) [] :=
  ⟨World.ownsRow_made w #[] 0 (Nat.le_refl _) (Nat.zero_le _) rfl, fun g hg => by simp [Value.ownBlock] at hg; omega⟩
theorem OwnP.of_block {T lo hi : Nat} {w w' : World} {v : Value} {ps : List (Nat × Nat)} (h : OwnP T lo hi w v ps)
    (hs : ∀ g, v.ownBlock = some g → w'.heap[g]? = w.heap[g]?) : OwnP T lo hi w' v ps := by
  obtain ⟨⟨h1, h2⟩, h3⟩ := h
  refine ⟨⟨h1, ?_⟩, h3⟩
  rcases h2 with h2 | ⟨g, cap, cur, rfl, hb, hh, r⟩
  · exact Or.inl h2
  · exact Or.inr ⟨g, cap, cur, rfl, hb, by rw [hs g rfl]; exact hh, r⟩

/-- A slice that reads as pairs, its cells in a block from lo on. -/
def RdP (lo : Nat) (w : World) (v : Value) (ps : List (Nat × Nat)) : Prop :=
  ∃ (b cap : Nat) (a : Option Addr), v = .slice a ps.length cap ∧ ps.length ≤ maxLen ∧ (0 < ps.length → a = some ⟨b, 0, none⟩ ∧ lo ≤ b ∧ b < w.heap.size) ∧
    ∀ j p, ps[j]? = some p → w.cell? ⟨b, j * 2, none⟩ = some (.int .i64 (p.1 : Int)) ∧ w.cell? ⟨b, j * 2 + 1, none⟩ = some (.int .i64 (p.2 : Int))
theorem OwnP.rd {T lo hi : Nat} {w : World} {v : Value} {ps : List (Nat × Nat)} (h : OwnP T lo hi w v ps) : RdP lo w v ps := by
  have hlt := h.lt
  obtain ⟨⟨h1, h2⟩, h3⟩ := h
  rcases h2 with ⟨rfl, hn⟩ | ⟨g, cap, cur, rfl, hb, hh, hnc, hcm, hcs, htk⟩
  · refine ⟨0, 0, none, by rw [hn], by rw [hn]; exact Nat.zero_le _, fun hp => by omega, fun j p hp => ?_⟩
    have : ps = [] := List.eq_nil_of_length_eq_zero hn
    subst this
    simp at hp
  · refine ⟨g, cap, some ⟨g, 0, none⟩, rfl, Nat.le_trans hnc hcm, fun _ => ⟨rfl, hb, (hlt g rfl).2.2⟩, fun j p hp => ?_⟩
    obtain ⟨q1, q2⟩ := flatP_get ps j p hp
    have key : ∀ k u, (flatP ps)[k]? = some u → w.cell? ⟨g, k, none⟩ = some u := by
      intro k u hu
      rw [← htk, List.getElem?_take] at hu
      split at hu
      · rw [cell_of_row w g k cur T (0, 0) hh]; simpa using hu
      · cases hu
    exact ⟨key _ _ q1, key _ _ q2⟩
theorem Mid.cell {lo hi : Nat} {w w' : World} (h : Mid lo hi w w') {b o : Nat} (hb : b < w.heap.size) (hx : b < lo ∨ hi ≤ b) : w'.cell? ⟨b, o, none⟩ = w.cell? ⟨b, o, none⟩ :=
  World.cell?_of_block (h.block b hb hx)
theorem Mid.keep {lo hi : Nat} {w w' : World} (h : Mid lo hi w w') {b o : Nat} {u : Value} (hx : b < lo ∨ hi ≤ b) (hc : w.cell? ⟨b, o, none⟩ = some u) : w'.cell? ⟨b, o, none⟩ = some u :=
  (h.cell (World.block_lt_of_cell? _ _ hc) hx).trans hc
theorem RdP.mid {lo lo' hi' : Nat} {w w' : World} {v : Value} {ps : List (Nat × Nat)} (h : RdP lo w v ps) (hm : Mid lo' hi' w w') (hd : hi' ≤ lo) : RdP lo w' v ps := by
  obtain ⟨b, cap, a, hv, hl, ha, hc⟩ := h
  refine ⟨b, cap, a, hv, hl, fun hp => ⟨(ha hp).1, (ha hp).2.1, Nat.lt_of_lt_of_le (ha hp).2.2 hm.size⟩, fun j p hp => ?_⟩
  have hp0 : 0 < ps.length := by have := (List.getElem?_eq_some_iff.1 hp).1; omega
  have hb := ha hp0
  obtain ⟨c1, c2⟩ := hc j p hp
  exact ⟨hm.keep (Or.inr (by omega)) c1, hm.keep (Or.inr (by omega)) c2⟩
theorem RdP.kept {lo : Nat} {w w' : World} {v : Value} {ps : List (Nat × Nat)} (h : RdP lo w v ps) (hb : Below w.heap.size w w') : RdP lo w' v ps :=
  h.mid (lo' := lo) (hi' := lo) (Mid.of_below hb (Nat.le_refl _)) (Nat.le_refl _)

section
variable {P : Program} {ops : Array Oper} {rest : List Oper} {o : Oper} {a : Act} {Q : Exit → Act → World → Prop}
/-- append(s, [2]int{i, k}): the pair lies in a block that was laid just before. -/
theorem append2_own (hgd : o.guard = none) (s x : Operand) (t e : TypeId)
    (ho : o.op = .call { callee := .builtin .append, args := #[s, x], argTypes := #[t, t] })
    {z : Value} {bytes : Nat} (ht : P.underlying t = some (.slice e)) (hinfo : (P.info? e).map (fun i => (i.zero, i.size, i.bytes)) = some (some z, 2, bytes)) (hz : z.cells.size = 2)
    {lo hi : Nat} {W : World} {v : Value} {i k : Nat} {x1 x2 : Value} {ps : List (Nat × Nat)} (hown : OwnP e lo hi W v ps) (hs : a.eval s = v) (e1 : x1 = .int .i64 (i : Int)) (e2 : x2 = .int .i64 (k : Int))
    (hx : a.eval x = .slice (some ⟨W.heap.size, 0, none⟩) 1 1) (hlen : ps.length ≤ 4194304) (hby : bytes ≤ 1024) (hlo : lo ≤ W.heap.size)
    (h : ∀ (a' : Option Addr) (c : Nat) (w' : World), OwnP e lo w'.heap.size w' (.slice a' (ps.length + 1) c) (ps ++ [(i, k)]) → W.grownBy w' v.ownBlock →
      wpList P ops Q rest (a.put o.dst (.slice a' (ps.length + 1) c)) w') :
    wpList P ops Q (o :: rest) a (W.alloc (.cells #[x1, x2] e)) := by
  subst e1 e2
  obtain ⟨i', hi0, hi1, hi2, hi3⟩ := info_parts hinfo
  refine wpList_append_own _ hgd s x t ho lo e i' z 2 bytes ht hi0 hi1 hi2 hi3 hz (by omega) v ps.length (flatP ps) hs (hown.1.alloc _) ⟨W.heap.size, 0, none⟩ 1 1 [.int .i64 (i : Int), .int .i64 (k : Int)] hx rfl ?_ ?_ ?_ ?_ ?_ ?_
  · intro j u' hj
    match j, hj with
    | 0, hj => simp at hj; subst hj; simp [Addr.add]
    | 1, hj => simp at hj; subst hj; simp [Addr.add]
  · intro u' hu'
    simp at hu'
    rcases hu' with rfl | rfl <;> rfl
  · unfold maxLen; omega
  · have : (ps.length + 1) * bytes ≤ 4194305 * 1024 := Nat.mul_le_mul (by omega) hby
    omega
  · simp; omega
  · intro v' w' hown' hg _
    rw [flatP_snoc] at hown'
    have hl : (ps ++ [(i, k)]).length = ps.length + 1 := by simp
    have hsh : ∃ a c, v' = .slice a (ps.length + 1) c := by
      rcases hown'.2 with ⟨rfl, h0⟩ | ⟨g, cap, cur, rfl, _⟩
      · omega
      · exact ⟨_, cap, rfl⟩
    obtain ⟨a', c, rfl⟩ := hsh
    exact h a' c w' ⟨by rw [hl]; exact hown', fun g hg' => (hown'.lt g hg').2⟩ (grown_trans (World.grownBy_alloc W _ _) hg)
end
end Go.Proofs.YtcifpfdlkpddeaaGreatDoor
set_option linter.unusedSimpArgs false
set_option linter.unusedVariables false
namespace Go.Proofs.YtcifpfdlkpddeaaGreatDoor
open Go.RowKit

def bestUp (g : Nat → Int) : Nat → Int
  | 0 => 0
  | n + 1 => if n = 0 ∨ bestUp g n < g n then g n else bestUp g n
theorem bestUp_new {g : Nat → Int} {n : Nat} {u z : Int} (hu : u = bestUp g n) (hz : z = g n) (h : n = 0 ∨ u < z) : z = bestUp g (n + 1) := by
  subst hu hz; show _ = if _ then _ else _; rw [if_pos h]
theorem bestUp_old {g : Nat → Int} {n : Nat} {u z : Int} (hu : u = bestUp g n) (hz : z = g n) (h : ¬ n = 0) (h2 : ¬ u < z) : u = bestUp g (n + 1) := by
  subst hu hz; show _ = if _ then _ else _; rw [if_neg (fun h' => h'.elim h h2)]
theorem bestUp_bd {g : Nat → Int} {B : Int} (hB : 0 ≤ B) (n : Nat) (h : ∀ k, k < n → -B ≤ g k ∧ g k ≤ B) : -B ≤ bestUp g n ∧ bestUp g n ≤ B := by
  induction n with
  | zero => unfold bestUp; omega
  | succ n ih =>
    have h1 := ih (fun k hk => h k (by omega))
    have h2 := h n (by omega)
    unfold bestUp
    split <;> assumption
def valP (x y : Int) (f : List (List Int)) (c : Nat) : Int := playW x y f (bitsTo (x.toNat + y.toNat) c (x.toNat + y.toNat))
def localV (x y : Int) (f : List (List Int)) : Int := bestUp (valP x y f) (2 ^ (x.toNat + y.toNat))
theorem bitsTo_len (n k j : Nat) : (bitsTo n k j).length = j := by simp [bitsTo]
theorem bitsTo_bits (n k : Nat) (m : Int) (hm : (n : Int) = m) : bitsB (bitsTo n k n) m = true := by
  refine bits_iff.2 ⟨allIn_true (fun j x hx => ?_), by rw [bitsTo_len]; exact hm⟩
  unfold bitsTo at hx
  rw [List.getElem?_map] at hx
  obtain ⟨c, _, rfl⟩ := Option.map_eq_some_iff.1 hx
  have := Nat.mod_lt (k / 2 ^ (n - 1 - c)) (show 0 < 2 by omega)
  exact inB_iff.2 ⟨by omega, by omega⟩
theorem playsTo_get {n M c : Nat} (h : c < M) : (playsTo n M)[c]? = some (bitsTo n c n) := by simp [playsTo, h]
theorem playsTo_len (n M : Nat) : (playsTo n M).length = M := by simp [playsTo]
/-- The way to a play of the list of all plays. -/
theorem plays_path {lo hi N M : Nat} {w : World} {a : Option Addr} {c : Nat} {vs : List Value} (o : OwnII 33 3 lo hi w (.slice a (playsTo N M).length c) (playsTo N M) vs) (hM : 0 < M) :
    ∃ g, a = some ⟨g, 0, none⟩ ∧ g < w.heap.size ∧ lo ≤ g ∧ ∀ n, n < M → ∃ a2 c2, vs[n]? = some (.slice a2 N c2) ∧ w.cell? ⟨g, n, none⟩ = some (.slice a2 N c2) ∧ RdI w (.slice a2 N c2) (bitsTo N n N) := by
  obtain ⟨a', g, cap, hv, hm, ha, hc, _⟩ := o.top.shape
  have hl : vs.length = M := by rw [o.len, playsTo_len]
  injection hv with e1 e2 e3
  obtain ⟨h1, h2, h3, h4⟩ := ha (by omega)
  refine ⟨g, by rw [e1, h1], h4, h2, fun n hn => ?_⟩
  have hvn : vs[n]? = some vs[n] := List.getElem?_eq_getElem (by omega)
  have hr := (o.row n _ _ hvn (playsTo_get hn)).rdI
  have hr' := hr
  obtain ⟨a2, _, _, c2, hv2, _⟩ := hr'
  rw [bitsTo_len] at hv2
  exact ⟨a2, c2, by rw [← hv2]; exact hvn, by rw [← hv2]; exact hc n _ hvn, by rw [← hv2]; exact hr⟩
theorem pow_M (X Y : Nat) (hX : X ≤ 3) (hY : Y ≤ 3) : 1 ≤ 2 ^ (X + Y) ∧ 2 ^ (X + Y) ≤ 64 :=
  ⟨Nat.two_pow_pos _, Nat.le_trans (Nat.pow_le_pow_right (by omega) (show X + Y ≤ 6 by omega)) (by decide)⟩
theorem playW_bd {x y : Int} {f : List (List Int)} {ps : List Int} (hf : funcB x y f = true) (hp : bitsB ps (x + y) = true) : -891 ≤ playW x y f ps ∧ playW x y f ps ≤ 891 := by
  obtain ⟨hs, hfl, hfa⟩ := funcB_iff.1 hf
  obtain ⟨⟨hx0, hx1⟩, hy0, hy1⟩ := sizesB_iff.1 hs
  obtain ⟨X, rfl⟩ := Int.eq_ofNat_of_zero_le (show 0 ≤ x by omega)
  obtain ⟨Y, rfl⟩ := Int.eq_ofNat_of_zero_le (show 0 ≤ y by omega)
  have hXY : X * Y ≤ 9 := Nat.mul_le_mul (show X ≤ 3 by omega) (show Y ≤ 3 by omega)
  have hfn : f.length = X * Y := by exact_mod_cast hfl
  have key : ∀ n, n ≤ X * Y → -(99 * (n : Int)) ≤ worthTo f (playRows X Y ps) n ∧ worthTo f (playRows X Y ps) n ≤ 99 * (n : Int) := by
    intro n
    induction n with
    | zero => intro _; rw [worthTo_zero]; omega
    | succ n ih =>
      intro hn
      have h1 := ih (by omega)
      obtain ⟨hi, hk⟩ := div_lt_of (show n < X * Y by omega)
      obtain ⟨p, hp1, p2⟩ := bits_get hp (j := n / Y) (by omega)
      obtain ⟨q, hq1, q2⟩ := bits_get hp (j := X + n % Y) (by omega)
      have hw := wRow_one (f := f) hi hk hp1 hq1 p2 q2 (n := n) (by rw [Nat.mul_comm]; exact Nat.div_add_mod n Y)
      rw [worthTo_succ, hw]
      have hrs : f[n]? = some f[n] := List.getElem?_eq_getElem (by omega)
      obtain ⟨p0, p1, p2', p3, hrow, h0, h1', h2, h3⟩ := funcRow_four (all_get hfa hrs)
      rw [hrow] at hrs
      have hc : -99 ≤ cellAt f n (2 * p + q) ∧ cellAt f n (2 * p + q) ≤ 99 := by
        have : p = 0 ∨ p = 1 := by omega
        have : q = 0 ∨ q = 1 := by omega
        rcases ‹p = 0 ∨ p = 1› with rfl | rfl <;> rcases ‹q = 0 ∨ q = 1› with rfl | rfl
        · rw [cellAt_get hrs rfl]; exact h0
        · rw [cellAt_get hrs rfl]; exact h1'
        · rw [cellAt_get hrs rfl]; exact h2
        · rw [cellAt_get hrs rfl]; exact h3
      push_cast
      omega
  have := key (X * Y) (Nat.le_refl _)
  rw [playW_eq]
  omega
theorem valP_bd {x y : Int} {f : List (List Int)} (hf : funcB x y f = true) (c : Nat) : -891 ≤ valP x y f c ∧ valP x y f c ≤ 891 := by
  obtain ⟨⟨hx0, hx1⟩, hy0, hy1⟩ := sizesB_iff.1 (funcB_iff.1 hf).1
  exact playW_bd hf (bitsTo_bits _ _ _ (by omega))
theorem localV_bd {x y : Int} {f : List (List Int)} (hf : funcB x y f = true) : -891 ≤ localV x y f ∧ localV x y f ≤ 891 :=
  bestUp_bd (by omega) _ (fun k _ => valP_bd hf k)
end Go.Proofs.YtcifpfdlkpddeaaGreatDoor
set_option linter.unusedSimpArgs false
set_option linter.unusedVariables false
namespace Go.Proofs.YtcifpfdlkpddeaaGreatDoor
open Go.RowKit

end Go.Proofs.YtcifpfdlkpddeaaGreatDoor
set_option linter.unusedSimpArgs false
set_option linter.unusedVariables false
namespace Go.Proofs.YtcifpfdlkpddeaaGreatDoor
open Go.RowKit

def swapN (b : BoxD) : Num := fun i j a c => numB b j i c a
def swapL (b : BoxD) : BoxD := ⟨b.Y, b.X, b.Whole, rowsTo (swapN b) b.X.toNat (b.Y.toNat * b.X.toNat)⟩
def swapD (b : BoxD) : BoxD := if boxB b then swapL b else zeroD
theorem swapD_size (b : BoxD) : (swapD b).Rows.length + sumLen (swapD b).Rows ≤ 4194304 := by
  unfold swapD swapL
  split
  · rename_i h
    obtain ⟨⟨⟨hx0, hx1⟩, hy0, hy1⟩, _⟩ := boxB_iff.1 h
    apply rows_size
    exact Nat.mul_le_mul (show b.Y.toNat ≤ 3 by omega) (show b.X.toNat ≤ 3 by omega)
  · simp [zeroD, sumLen]

theorem cell_at_new {W : World} {m : Nat} {u : Value} {T : Nat} (h : W.heap.size = m) : (W.alloc (.cells #[u] T)).cell? ⟨m, 0, none⟩ = some u := by subst h; simp
end Go.Proofs.YtcifpfdlkpddeaaGreatDoor
set_option linter.unusedSimpArgs false
set_option linter.unusedVariables false
namespace Go.Proofs.YtcifpfdlkpddeaaGreatDoor

theorem nat2 {a : Nat} (h : a < 2) : a = 0 ∨ a = 1 := by omega
theorem swapL_eq (b : BoxD) : swapL b = boxOf b.Y b.X b.Whole (swapN b) := rfl
theorem four_swap {b : BoxD} (hb : boxB b = true) (i j : Nat) (hi : (i : Int) < b.Y) (hj : (j : Int) < b.X) : FourN (swapN b) b.Whole i j := by
  obtain ⟨h0, h1, h2, h3, h4⟩ := boxB_four hb j i hj hi
  exact ⟨h0, h2, h1, h3, by show numB b j i 0 0 + numB b j i 1 0 + numB b j i 0 1 + numB b j i 1 1 = _; omega⟩
theorem boxB_in {b : BoxD} (hb : boxB b = true) : inB b.Whole 1 1000 = true := inB_iff.2 (boxB_iff.1 hb).2.1
theorem swapL_box {b : BoxD} (hb : boxB b = true) : boxB (swapL b) = true := by
  obtain ⟨hx, hy⟩ := (boxB_iff.1 hb).1
  rw [swapL_eq, boxOf_boxB _ _ _ _ (sizesB_iff.2 ⟨hy, hx⟩) (fun i j hi hj => four_swap hb i j hi hj)]
  exact boxB_in hb
theorem numB_swap {b : BoxD} (i j a c : Nat) (hi : (i : Int) < b.Y) (hj : (j : Int) < b.X) (ha : a < 2) (hc : c < 2) : numB (swapL b) i j a c = numB b j i c a := by
  rw [swapL_eq, numB_boxOf _ _ _ _ i j a c hi hj ha hc]; rfl
theorem box_ext {a b : BoxD} (ha : boxB a = true) (hb : boxB b = true) (hx : a.X = b.X) (hy : a.Y = b.Y) (hw : a.Whole = b.Whole)
    (h : ∀ i j p q : Nat, (i : Int) < b.X → (j : Int) < b.Y → p < 2 → q < 2 → numB a i j p q = numB b i j p q) : a = b := by
  rw [box_eq_boxOf ha, box_eq_boxOf hb, hx, hy, hw]
  refine boxOf_congr _ _ _ _ _ fun i j hi hj => ?_
  have := h i j
  have h0 := this 0 0 hi hj (by omega) (by omega)
  have h1 := this 0 1 hi hj (by omega) (by omega)
  have h2 := this 1 0 hi hj (by omega) (by omega)
  have h3 := this 1 1 hi hj (by omega) (by omega)
  rw [show ((0 : Nat) : Int) = 0 from rfl] at *
  rw [show ((1 : Nat) : Int) = 1 from rfl] at *
  unfold rowOf
  rw [h0, h1, h2, h3]
theorem swap_swap {b : BoxD} (hb : boxB b = true) : swapL (swapL b) = b := by
  refine box_ext (swapL_box (swapL_box hb)) hb rfl rfl rfl fun i j p q hi hj hp hq => ?_
  rw [numB_swap (b := swapL b) i j p q hi hj hp hq, numB_swap j i q p hj hi hq hp]

theorem mem_getD {fs : List Int} {lo hi : Int} (h : allIn fs lo hi = true) (i : Nat) (hi' : i < fs.length) : lo ≤ fs.getD i 0 ∧ fs.getD i 0 ≤ hi := by
  obtain ⟨f, hf⟩ : ∃ f, fs[i]? = some f := ⟨_, List.getElem?_eq_getElem hi'⟩
  have := allIn_get h hf
  rw [List.getD_eq_getElem?_getD, hf]
  exact this
theorem bits_at {fl : List Int} {n : Int} (h : bitsB fl n = true) (i : Nat) (hi : (i : Int) < n) : ∃ f : Nat, fl.getD i 0 = (f : Int) ∧ f < 2 := by
  obtain ⟨hall, hlen⟩ := bits_iff.1 h
  have := mem_getD hall i (by omega)
  obtain ⟨f, e⟩ := Int.eq_ofNat_of_zero_le this.1
  exact ⟨f, e, by omega⟩
def xorN (a f : Nat) : Nat := if a = f then 0 else 1
theorem xorN_lt (a f : Nat) : xorN a f < 2 := by unfold xorN; split <;> omega
theorem xorN_xorN (a f : Nat) (ha : a < 2) (hf : f < 2) : xorN (xorN a f) f = a := by
  rcases nat2 ha with rfl | rfl <;> rcases nat2 hf with rfl | rfl <;> rfl
theorem xorB_n (a f : Nat) : xorB a f = (xorN a f : Int) := by
  unfold xorB xorN
  by_cases h : a = f
  · rw [if_pos h, if_pos (by omega)]; rfl
  · rw [if_neg h, if_neg (by omega)]; rfl
theorem numB_flipN {b : BoxD} {fl : List Int} (i j p q f g : Nat) (e1 : fl.getD i 0 = (f : Int)) (e2 : fl.getD (b.X.toNat + j) 0 = (g : Int)) : flipN b fl i j p q = numB b i j (xorN p f) (xorN q g) := by
  unfold flipN
  simp only [Int.toNat_natCast, e1, e2, xorB_n]
theorem flip_two {b : BoxD} {fl : List Int} (hb : boxB b = true) (hf : bitsB fl (b.X + b.Y) = true) (i j : Nat) (hi : (i : Int) < b.X) (hj : (j : Int) < b.Y) :
    ∃ f g : Nat, fl.getD i 0 = (f : Int) ∧ fl.getD (b.X.toNat + j) 0 = (g : Int) ∧ f < 2 ∧ g < 2 := by
  have hs := (boxB_iff.1 hb).1
  obtain ⟨f, e1, h1⟩ := bits_at hf i (by omega)
  obtain ⟨g, e2, h2⟩ := bits_at hf (b.X.toNat + j) (by omega)
  exact ⟨f, g, e1, e2, h1, h2⟩
theorem flip_four {b : BoxD} {fl : List Int} (hb : boxB b = true) (hf : bitsB fl (b.X + b.Y) = true) (i j : Nat) (hi : (i : Int) < b.X) (hj : (j : Int) < b.Y) : FourN (flipN b fl) b.Whole i j := by
  obtain ⟨f, g, e1, e2, h1, h2⟩ := flip_two hb hf i j hi hj
  have h := boxB_four hb i j hi hj
  have e : ∀ p q : Nat, flipN b fl i j p q = numB b i j (xorN p f) (xorN q g) := fun p q => numB_flipN i j p q f g e1 e2
  have e00 := e 0 0
  have e01 := e 0 1
  have e10 := e 1 0
  have e11 := e 1 1
  rw [show ((0 : Nat) : Int) = 0 from rfl] at *
  rw [show ((1 : Nat) : Int) = 1 from rfl] at *
  unfold FourN at *
  rw [e00, e01, e10, e11]
  rcases nat2 h1 with rfl | rfl <;> rcases nat2 h2 with rfl | rfl <;> simp only [show xorN 0 0 = 0 from rfl, show xorN 0 1 = 1 from rfl, show xorN 1 0 = 1 from rfl, show xorN 1 1 = 0 from rfl, show ((0 : Nat) : Int) = 0 from rfl, show ((1 : Nat) : Int) = 1 from rfl] <;> omega
theorem flip_box {b : BoxD} {fl : List Int} (hb : boxB b = true) (hf : bitsB fl (b.X + b.Y) = true) : boxB (flipBL b fl) = true := by
  obtain ⟨hx, hy⟩ := (boxB_iff.1 hb).1
  unfold flipBL
  rw [boxOf_boxB _ _ _ _ (sizesB_iff.2 ⟨hx, hy⟩) (fun i j hi hj => flip_four hb hf i j hi hj)]
  exact boxB_in hb
theorem numB_flip {b : BoxD} {fl : List Int} (i j p q f g : Nat) (hi : (i : Int) < b.X) (hj : (j : Int) < b.Y) (hp : p < 2) (hq : q < 2) (e1 : fl.getD i 0 = (f : Int)) (e2 : fl.getD (b.X.toNat + j) 0 = (g : Int)) :
    numB (flipBL b fl) i j p q = numB b i j (xorN p f) (xorN q g) := by
  unfold flipBL
  rw [numB_boxOf _ _ _ _ i j p q hi hj hp hq]
  exact numB_flipN i j p q f g e1 e2
theorem flip_flip {b : BoxD} {fl : List Int} (hb : boxB b = true) (hf : bitsB fl (b.X + b.Y) = true) : flipBL (flipBL b fl) fl = b := by
  refine box_ext (flip_box (b := flipBL b fl) (flip_box hb hf) hf) hb rfl rfl rfl fun i j p q hi hj hp hq => ?_
  obtain ⟨f, g, e1, e2, h1, h2⟩ := flip_two hb hf i j hi hj
  rw [numB_flip (b := flipBL b fl) i j p q f g hi hj hp hq e1 e2, numB_flip i j _ _ f g hi hj (xorN_lt _ _) (xorN_lt _ _) e1 e2, xorN_xorN p f hp h1, xorN_xorN q g hq h2]

/-! ### The greatest triple -/
def ords : List (List Int) := [[0, 1, 2], [0, 2, 1], [1, 0, 2], [1, 2, 0], [2, 0, 1], [2, 1, 0]]
def ordAt (i : Nat) : List Int := ords.getD i []
theorem ordAt_ok (i : Nat) (h : i < 6) : (ordAt i).length = 3 ∧ allIn (ordAt i) 0 2 = true := by
  have : i = 0 ∨ i = 1 ∨ i = 2 ∨ i = 3 ∨ i = 4 ∨ i = 5 := by omega
  rcases this with rfl | rfl | rfl | rfl | rfl | rfl <;> decide
end Go.Proofs.YtcifpfdlkpddeaaGreatDoor
