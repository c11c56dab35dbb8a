/- Plain facts of valid boxes. Plain facts of boxes that are told by their numbers. append on a slice of the call's own, in this seat's words. -/
import Derived.Test.YtcifpfdlkpddeaaGreatDoorQxab
import Derived.Test.YtcifpfdlkpddeaaGreatDoorQxaa
import Derived.Laws.AppendOwnNone
set_option linter.unusedSimpArgs false
set_option linter.unusedVariables false
namespace Go.Proofs.YtcifpfdlkpddeaaGreatDoor

theorem boxB_iff {b : BoxD} : boxB b = true ↔ ((1 ≤ b.X ∧ b.X ≤ 3) ∧ (1 ≤ b.Y ∧ b.Y ≤ 3)) ∧ (1 ≤ b.Whole ∧ b.Whole ≤ 1000) ∧ (b.Rows.length : Int) = b.X * b.Y ∧ rowsB b.Rows b.Whole = true := by
  unfold boxB
  rw [Bool.and_eq_true, Bool.and_eq_true, Bool.and_eq_true, sizesB_iff, inB_iff, decide_eq_true_iff]

theorem fourB_four {rs : List Int} {whole : Int} (h : fourB rs whole = true) : ∃ p q r s : Int, rs = [p, q, r, s] ∧ (0 ≤ p ∧ p ≤ whole) ∧ (0 ≤ q ∧ q ≤ whole) ∧ (0 ≤ r ∧ r ≤ whole) ∧ (0 ≤ s ∧ s ≤ whole) ∧ p + q + r + s = whole := by
  obtain ⟨h1, h2, h3⟩ := fourB_iff.1 h
  match rs, h1 with
  | [p, q, r, s], _ =>
    refine ⟨p, q, r, s, rfl, allIn_get h2 (k := 0) rfl, allIn_get h2 (k := 1) rfl, allIn_get h2 (k := 2) rfl, allIn_get h2 (k := 3) rfl, ?_⟩
    simp at h3
    omega

/-- The agreement of a row. -/
def agreeL (rs : List Int) : Int := rs.getD 0 0 - rs.getD 1 0 - rs.getD 2 0 + rs.getD 3 0
theorem boxB_len {b : BoxD} (h : boxB b = true) : b.Rows.length ≤ 9 := by
  obtain ⟨⟨⟨hx0, hx1⟩, hy0, hy1⟩, _, hl, _⟩ := boxB_iff.1 h
  have e1 : b.X = 1 ∨ b.X = 2 ∨ b.X = 3 := by omega
  rcases e1 with e1 | e1 | e1 <;> rw [e1] at hl <;> omega
theorem bits_iff {xs : List Int} {n : Int} : bitsB xs n = true ↔ allIn xs 0 1 = true ∧ (xs.length : Int) = n := by
  simp [bitsB]
theorem rows_size (num : Num) (Y n : Nat) (hn : n ≤ 9) : (rowsTo num Y n).length + sumLen (rowsTo num Y n) ≤ 4194304 := by
  have h : ∀ k, sumLen ((rowsTo num Y n).take k) ≤ 4 * k := by
    intro k
    induction k with
    | zero => simp [sumLen]
    | succ k ih =>
      cases hx : (rowsTo num Y n)[k]? with
      | none =>
        have hl : (rowsTo num Y n).length ≤ k := by simpa using hx
        rw [List.take_of_length_le (by omega)]
        rw [List.take_of_length_le hl] at ih
        omega
      | some rs =>
        rw [sumLen_take _ _ _ hx]
        have : rs.length = 4 := by
          unfold rowsTo at hx
          rw [List.getElem?_map] at hx
          obtain ⟨p, _, rfl⟩ := Option.map_eq_some_iff.1 hx
          rfl
        omega
  have h9 := h n
  rw [List.take_of_length_le (by simp)] at h9
  rw [rowsTo_length]
  omega

theorem rows_next (num : Num) (Y k : Nat) : rowsTo num Y (k + 1) = rowsTo num Y k ++ [rowOf num ((k / Y : Nat) : Int) ((k % Y : Nat) : Int)] := by
  unfold rowsTo
  rw [List.range_succ, List.map_append, List.map_cons, List.map_nil]

end Go.Proofs.YtcifpfdlkpddeaaGreatDoor
set_option linter.unusedSimpArgs false
set_option linter.unusedVariables false
namespace Go.Proofs.YtcifpfdlkpddeaaGreatDoor

/-- The number of a box at questions and answers. -/
def numB (b : BoxD) : Num := fun i j a c => (b.Rows.getD (i.toNat * b.Y.toNat + j.toNat) []).getD (2 * a.toNat + c.toNat) 0
/-- The box with told numbers. -/
def boxOf (x y whole : Int) (num : Num) : BoxD := ⟨x, y, whole, rowsTo num y.toNat (x.toNat * y.toNat)⟩
@[simp] theorem boxOf_X (x y whole : Int) (num : Num) : (boxOf x y whole num).X = x := rfl
@[simp] theorem boxOf_Y (x y whole : Int) (num : Num) : (boxOf x y whole num).Y = y := rfl
@[simp] theorem boxOf_Whole (x y whole : Int) (num : Num) : (boxOf x y whole num).Whole = whole := rfl
theorem boxOf_len (x y whole : Int) (num : Num) : (boxOf x y whole num).Rows.length = x.toNat * y.toNat := by simp [boxOf]
theorem boxOf_size (x y whole : Int) (num : Num) (h : sizesB x y = true) : (boxOf x y whole num).Rows.length + sumLen (boxOf x y whole num).Rows ≤ 4194304 := by
  obtain ⟨⟨hx0, hx1⟩, hy0, hy1⟩ := sizesB_iff.1 h
  unfold boxOf
  exact rows_size _ _ _ (Nat.mul_le_mul (show x.toNat ≤ 3 by omega) (show y.toNat ≤ 3 by omega))

theorem rowsTo_congr (f g : Num) (Y n : Nat) (h : ∀ k, k < n → rowOf f ((k / Y : Nat) : Int) ((k % Y : Nat) : Int) = rowOf g ((k / Y : Nat) : Int) ((k % Y : Nat) : Int)) : rowsTo f Y n = rowsTo g Y n := by
  unfold rowsTo
  apply List.map_congr_left
  intro k hk
  exact h k (List.mem_range.1 hk)

theorem div_lt_of {X Y k : Nat} (h : k < X * Y) : k / Y < X ∧ k % Y < Y := by
  have hY : 0 < Y := by
    rcases Nat.eq_zero_or_pos Y with rfl | h0
    · simp at h
    · exact h0
  exact ⟨(Nat.div_lt_iff_lt_mul hY).2 h, Nat.mod_lt _ hY⟩

theorem boxOf_congr (x y whole : Int) (f g : Num) (h : ∀ i j : Nat, (i : Int) < x → (j : Int) < y → rowOf f i j = rowOf g i j) : boxOf x y whole f = boxOf x y whole g := by
  unfold boxOf
  congr 1
  apply rowsTo_congr
  intro k hk
  obtain ⟨h1, h2⟩ := div_lt_of hk
  exact h _ _ (Int.lt_toNat.1 h1) (Int.lt_toNat.1 h2)

/-- What a box's row tells: four numbers of at least 0 with the sum whole. -/
def FourN (num : Num) (whole : Int) (i j : Int) : Prop := 0 ≤ num i j 0 0 ∧ 0 ≤ num i j 0 1 ∧ 0 ≤ num i j 1 0 ∧ 0 ≤ num i j 1 1 ∧ num i j 0 0 + num i j 0 1 + num i j 1 0 + num i j 1 1 = whole

theorem rowOf_fourB {num : Num} {whole i j : Int} (h : FourN num whole i j) : fourB (rowOf num i j) whole = true := by
  obtain ⟨h0, h1, h2, h3, h4⟩ := h
  rw [fourB_iff]
  refine ⟨rfl, ?_, ?_⟩
  · simp [allIn, rowOf, inB]; omega
  · simp [rowOf]; omega

theorem boxOf_boxB (x y whole : Int) (num : Num) (hs : sizesB x y = true) (h : ∀ i j : Nat, (i : Int) < x → (j : Int) < y → FourN num whole i j) : boxB (boxOf x y whole num) = inB whole 1 1000 := by
  obtain ⟨⟨hx0, hx1⟩, hy0, hy1⟩ := sizesB_iff.1 hs
  have e1 : decide ((((boxOf x y whole num).Rows.length : Nat) : Int) = x * y) = true := by
    rw [boxOf_len]
    apply decide_eq_true
    rw [Int.natCast_mul, Int.toNat_of_nonneg (by omega), Int.toNat_of_nonneg (by omega)]
  have e2 : rowsB (boxOf x y whole num).Rows whole = true := by
    apply rowsB_true
    intro k rs hrs
    have hk : k < x.toNat * y.toNat := by have := (List.getElem?_eq_some_iff.1 hrs).1; rwa [boxOf_len] at this
    obtain ⟨h1, h2⟩ := div_lt_of hk
    unfold boxOf rowsTo at hrs
    simp only [] at hrs
    rw [List.getElem?_map, List.getElem?_range hk, Option.map_some] at hrs
    cases hrs
    exact rowOf_fourB (h _ _ (Int.lt_toNat.1 h1) (Int.lt_toNat.1 h2))
  unfold boxB
  show (sizesB x y && (inB whole 1 1000 && (decide (((boxOf x y whole num).Rows.length : Int) = x * y) && rowsB (boxOf x y whole num).Rows whole))) = _
  rw [hs, e1, e2]
  simp

theorem numB_boxOf (x y whole : Int) (num : Num) (i j a c : Nat) (hi : (i : Int) < x) (hj : (j : Int) < y) (ha : a < 2) (hc : c < 2) : numB (boxOf x y whole num) i j a c = num i j a c := by
  have h1 : (i + 1) * y.toNat ≤ x.toNat * y.toNat := Nat.mul_le_mul_right _ (by omega)
  rw [Nat.succ_mul] at h1
  have hg := rowsTo_get num y.toNat (x.toNat * y.toNat) i j (by omega) (by omega)
  unfold numB boxOf
  simp only [Int.toNat_natCast, List.getD_eq_getElem?_getD, hg, Option.getD_some]
  have : a = 0 ∨ a = 1 := by omega
  have : c = 0 ∨ c = 1 := by omega
  rcases ‹a = 0 ∨ a = 1› with rfl | rfl <;> rcases ‹c = 0 ∨ c = 1› with rfl | rfl <;> rfl

/-- A valid box's row by its place. -/
theorem boxB_row {b : BoxD} (hb : boxB b = true) (k : Nat) (hk : k < b.Rows.length) :
    ∃ p q r s : Int, b.Rows[k]? = some [p, q, r, s] ∧ (0 ≤ p ∧ p ≤ b.Whole) ∧ (0 ≤ q ∧ q ≤ b.Whole) ∧ (0 ≤ r ∧ r ≤ b.Whole) ∧ (0 ≤ s ∧ s ≤ b.Whole) ∧ p + q + r + s = b.Whole ∧
      rowOf (numB b) ((k / b.Y.toNat : Nat) : Int) ((k % b.Y.toNat : Nat) : Int) = [p, q, r, s] := by
  obtain ⟨⟨⟨hx0, hx1⟩, hy0, hy1⟩, hw, hl, hr⟩ := boxB_iff.1 hb
  obtain ⟨p, q, r, s, hrow, hp, hq, hrr, hs, hsum⟩ := fourB_four (rowsB_get hr (List.getElem?_eq_getElem hk))
  refine ⟨p, q, r, s, by rw [List.getElem?_eq_getElem hk, hrow], hp, hq, hrr, hs, hsum, ?_⟩
  have e : k / b.Y.toNat * b.Y.toNat + k % b.Y.toNat = k := Nat.div_add_mod' k _
  have e2 : ∀ n : Nat, ((n : Nat) : Int).toNat = n := fun n => by simp
  unfold rowOf numB
  simp only [e2, e]
  simp [List.getD_eq_getElem?_getD, hk, hrow]

theorem boxB_len2 {b : BoxD} (hb : boxB b = true) : b.Rows.length = b.X.toNat * b.Y.toNat := by
  obtain ⟨⟨⟨hx0, hx1⟩, hy0, hy1⟩, _, hl, _⟩ := boxB_iff.1 hb
  apply Int.ofNat_inj.1
  rw [hl, Int.natCast_mul, Int.toNat_of_nonneg (by omega), Int.toNat_of_nonneg (by omega)]

theorem box_eq_boxOf {b : BoxD} (hb : boxB b = true) : b = boxOf b.X b.Y b.Whole (numB b) := by
  have hl := boxB_len2 hb
  have : b.Rows = rowsTo (numB b) b.Y.toNat (b.X.toNat * b.Y.toNat) := by
    apply List.ext_getElem?
    intro k
    by_cases hk : k < b.Rows.length
    · obtain ⟨p, q, r, s, hrow, _, _, _, _, _, hf⟩ := boxB_row hb k hk
      rw [hrow]
      unfold rowsTo
      rw [List.getElem?_map, List.getElem?_range (by omega), Option.map_some, hf]
    · rw [List.getElem?_eq_none (by omega), List.getElem?_eq_none (by simp; omega)]
  unfold boxOf
  rw [← this]

theorem boxB_four {b : BoxD} (hb : boxB b = true) (i j : Nat) (hi : (i : Int) < b.X) (hj : (j : Int) < b.Y) : FourN (numB b) b.Whole i j := by
  obtain ⟨⟨⟨hx0, hx1⟩, hy0, hy1⟩, _, _, _⟩ := boxB_iff.1 hb
  have hl := boxB_len2 hb
  have h1 : (i + 1) * b.Y.toNat ≤ b.X.toNat * b.Y.toNat := Nat.mul_le_mul_right _ (by omega)
  rw [Nat.succ_mul] at h1
  have hj' : j < b.Y.toNat := by omega
  obtain ⟨p, q, r, s, _, hp, hq, hr, hs, hsum, hf⟩ := boxB_row hb (i * b.Y.toNat + j) (by omega)
  have e1 : (i * b.Y.toNat + j) / b.Y.toNat = i := by
    rw [Nat.add_comm, Nat.add_mul_div_right _ _ (by omega), Nat.div_eq_of_lt hj', Nat.zero_add]
  have e2 : (i * b.Y.toNat + j) % b.Y.toNat = j := by
    rw [Nat.add_comm, Nat.add_mul_mod_self_right, Nat.mod_eq_of_lt hj']
  rw [e1, e2] at hf
  simp only [rowOf, List.cons.injEq, and_true] at hf
  obtain ⟨f0, f1, f2, f3⟩ := hf
  unfold FourN
  rw [f0, f1, f2, f3]
  exact ⟨hp.1, hq.1, hr.1, hs.1, hsum⟩
/-- A valid box's number by its places. -/
theorem boxB_cell {b : BoxD} (hb : boxB b = true) (k q : Nat) (hk : k < b.Rows.length) (hq : q < 4) :
    ∃ (rs : List Int) (x : Int), b.Rows[k]? = some rs ∧ rs.length = 4 ∧ rs[q]? = some x ∧ (0 ≤ x ∧ x ≤ b.Whole) ∧ numB b ((k / b.Y.toNat : Nat) : Int) ((k % b.Y.toNat : Nat) : Int) ((q : Int) / 2) ((q : Int) % 2) = x := by
  obtain ⟨p0, p1, p2, p3, hrow, h0, h1, h2, h3, _, hf⟩ := boxB_row hb k hk
  simp only [rowOf, List.cons.injEq, and_true] at hf
  obtain ⟨f0, f1, f2, f3⟩ := hf
  have : q = 0 ∨ q = 1 ∨ q = 2 ∨ q = 3 := by omega
  rcases this with rfl | rfl | rfl | rfl
  · exact ⟨_, p0, hrow, rfl, rfl, h0, f0⟩
  · exact ⟨_, p1, hrow, rfl, rfl, h1, f1⟩
  · exact ⟨_, p2, hrow, rfl, rfl, h2, f2⟩
  · exact ⟨_, p3, hrow, rfl, rfl, h3, f3⟩
theorem boxB_sizes {b : BoxD} (hb : boxB b = true) : sizesB b.X b.Y = true := sizesB_iff.2 (boxB_iff.1 hb).1

end Go.Proofs.YtcifpfdlkpddeaaGreatDoor
set_option linter.unusedSimpArgs false
set_option linter.unusedVariables false
namespace Go.Proofs.YtcifpfdlkpddeaaGreatDoor
open Go.RowKit

theorem ownsRow_shape {w : World} {base : Nat} {e : TypeId} {v : Value} {n : Nat} {xs : List Value} (h : w.ownsRow base e 1 v n xs) : ∃ a c, v = .slice a n c := by
  rcases h.2 with ⟨rfl, rfl⟩ | ⟨g, cap, cur, rfl, _⟩
  · exact ⟨none, 0, rfl⟩
  · exact ⟨_, cap, rfl⟩

section
variable {P : Program} {ops : Array Oper} {rest : List Oper} {o : Oper} {a : Act} {Q : Exit → Act → World → Prop}

/-- append(s, u): the one element lies in a block that was laid just before. -/
theorem append1_own (hgd : o.guard = none) (s x : Operand) (t e : TypeId)
    (ho : o.op = .call { callee := .builtin .append, args := #[s, x], argTypes := #[t, t] })
    {z : Value} {bytes : Nat} (ht : P.underlying t = some (.slice e)) (hinfo : (P.info? e).map (fun i => (i.zero, i.size, i.bytes)) = some (some z, 1, bytes)) (hz : z.cells.size = 1)
    {lo hi : Nat} {W : World} {v u : Value} {vs : List Value} (hown : OwnV e lo hi W v vs) (hs : a.eval s = v)
    (hx : a.eval x = .slice (some ⟨W.heap.size, 0, none⟩) 1 1) (hu : u.oneCell' = true) (hlen : vs.length ≤ 4194304) (hby : bytes ≤ 1024) (hlo : lo ≤ W.heap.size)
    (h : ∀ (a' : Option Addr) (c : Nat) (w' : World), OwnV e lo w'.heap.size w' (.slice a' (vs.length + 1) c) (vs ++ [u]) → W.grownBy w' v.ownBlock →
      wpList P ops Q rest (a.put o.dst (.slice a' (vs.length + 1) c)) w') :
    wpList P ops Q (o :: rest) a (W.alloc (.cells #[u] e)) := by
  obtain ⟨i, hi0, hi1, hi2, hi3⟩ := info_parts hinfo
  refine wpList_append_own _ hgd s x t ho lo e i z 1 bytes ht hi0 hi1 hi2 hi3 hz (by omega) v vs.length vs hs (hown.1.alloc _) ⟨W.heap.size, 0, none⟩ 1 1 [u] hx rfl ?_ ?_ ?_ ?_ ?_ ?_
  · intro j u' hj
    match j, hj with
    | 0, hj => simp at hj; subst hj; simp [Addr.add]
  · intro u' hu'; simp at hu'; subst hu'; exact hu
  · unfold maxLen; omega
  · have : (vs.length + 1) * bytes ≤ 4194305 * 1024 := Nat.mul_le_mul (by omega) hby
    omega
  · simp; omega
  · intro v' w' hown' hg _
    obtain ⟨a', c, rfl⟩ := ownsRow_shape hown'
    have hl : (vs ++ [u]).length = vs.length + 1 := by simp
    exact h a' c w' ⟨by rw [hl]; exact hown', fun g hg' => (hown'.lt g hg').2⟩ (grown_trans (World.grownBy_alloc W _ _) hg)

/-- append(s, xs...): a whole slice that reads as xs. -/
theorem appendAll_own (hgd : o.guard = none) (s x : Operand) (t e : TypeId)
    (ho : o.op = .call { callee := .builtin .append, args := #[s, x], argTypes := #[t, t] })
    {bytes : Nat} (ht : P.underlying t = some (.slice e)) (hinfo : (P.info? e).map (fun i => (i.zero, i.size, i.bytes)) = some (some (.int .i64 0), 1, bytes))
    {lo hi : Nat} {W : World} {v vx : Value} {vs : List Value} {xs : List Int} (hown : OwnV e lo hi W v vs) (hs : a.eval s = v)
    (hx : a.eval x = vx) (hr : RdI W vx xs) (hlen : vs.length + xs.length ≤ 4194304) (hby : bytes ≤ 1024) (hlo : lo ≤ W.heap.size) (hcapn : ∀ c : Nat, vx = .slice none 0 c → c = 0)
    (h : ∀ (a' : Option Addr) (c : Nat) (w' : World), OwnV e lo w'.heap.size w' (.slice a' (vs.length + xs.length) c) (vs ++ ints xs) → W.grownBy w' v.ownBlock →
      wpList P ops Q rest (a.put o.dst (.slice a' (vs.length + xs.length) c)) w') :
    wpList P ops Q (o :: rest) a W := by
  obtain ⟨i, hi0, hi1, hi2, hi3⟩ := info_parts hinfo
  obtain ⟨ax, b, off, cap, rfl, hm, ha, hc⟩ := hr
  have key : ∀ ad : Addr, ax = some ad → (0 < xs.length → ad = ⟨b, off, none⟩) → wpList P ops Q (o :: rest) a W := by
    intro ad hax had
    refine wpList_append_own _ hgd s x t ho lo e i (.int .i64 0) 1 bytes ht hi0 hi1 hi2 hi3 rfl (by omega) v vs.length vs hs hown.1 ad xs.length cap (ints xs) (by rw [hx, hax]) (by simp) ?_ ?_ ?_ ?_ hlo ?_
    · intro j u hj
      simp only [ints, List.getElem?_map, Option.map_eq_some_iff] at hj
      obtain ⟨y, hy, rfl⟩ := hj
      have hjl := (List.getElem?_eq_some_iff.1 hy).1
      rw [had (by omega), Go.WideShapes.add_plain]
      exact hc j y hy
    · intro u hu
      simp only [ints, List.mem_map] at hu
      obtain ⟨y, _, rfl⟩ := hu
      rfl
    · unfold maxLen; omega
    · have : (vs.length + xs.length) * bytes ≤ 4194304 * 1024 := Nat.mul_le_mul (by omega) hby
      omega
    · intro v' w' hown' hg _
      obtain ⟨a', c, rfl⟩ := ownsRow_shape hown'
      have hl : (vs ++ ints xs).length = vs.length + xs.length := by simp
      exact h a' c w' ⟨by rw [hl]; exact hown', fun g hg' => (hown'.lt g hg').2⟩ hg
  cases ax with
  | some ad => exact key ad rfl (fun hp => by have := ha hp; simpa using this)
  | none =>
    have h0 : xs.length = 0 := by
      cases hp : xs.length with
      | zero => rfl
      | succ n => have := ha (by omega); cases this
    have hnil : xs = [] := List.eq_nil_of_length_eq_zero h0
    subst hnil
    obtain rfl : cap = 0 := hcapn cap rfl
    refine wpList_append_own_none hgd s x t ho lo e i 1 ht hi0 v vs.length vs hs hown.1 (by rw [hx]; rfl) ?_
    obtain ⟨a', c, hv⟩ := ownsRow_shape hown.1
    subst hv
    have hq : OwnV e lo W.heap.size W (.slice a' vs.length c) vs := ⟨hown.1, fun g hg => (hown.1.lt g hg).2⟩
    have := h a' c W (by simpa [ints] using hq) (grown_refl _ _)
    simpa using this
end

theorem OwnV.capn {T lo hi : Nat} {w : World} {v : Value} {vs : List Value} (h : OwnV T lo hi w v vs) : ∀ c : Nat, v = .slice none 0 c → c = 0 := by
  intro c hv
  rcases h.1.2 with ⟨rfl, _⟩ | ⟨g', cap, cur, rfl, _⟩
  · simp at hv; exact hv.symm
  · simp at hv

/-- What '[]T{}' lays. -/
theorem OwnV.empty (T : Nat) (w : World) : OwnV T w.heap.size (w.heap.size + 1) (w.alloc (.cells #[] T)) (.slice (some ⟨w.heap.size, 0, none⟩) 0 0) [] :=
  ⟨World.ownsRow_made w #[] 0 (Nat.le_refl _) (Nat.zero_le _) rfl, fun g hg => by simp [Value.ownBlock] at hg; omega⟩
theorem OwnII.empty (T2 T1 : Nat) (w : World) : OwnII T2 T1 w.heap.size (w.heap.size + 1) (w.alloc (.cells #[] T2)) (.slice (some ⟨w.heap.size, 0, none⟩) 0 0) [] [] :=
  ⟨rfl, OwnV.empty T2 w, fun i v' rs h => by simp at h, fun i j a b g h => by simp at h, fun i a g h => by simp at h⟩

theorem OwnV.block {T lo hi : Nat} {w : World} {v : Value} {vs : List Value} (h : OwnV T lo hi w v vs) {g : Nat} (hg : v.ownBlock = some g) : ∃ cur, w.heap[g]? = some (.cells cur T (0, 0)) := by
  rcases h.1.2 with ⟨rfl, _⟩ | ⟨g', cap, cur, rfl, _, hh, _⟩
  · simp [Value.ownBlock] at hg
  · simp only [Value.ownBlock, Option.some.injEq] at hg
    subst hg
    exact ⟨cur, hh⟩
theorem OwnV.ne {T T' lo hi lo' hi' : Nat} {w : World} {v v' : Value} {vs vs' : List Value} (h : OwnV T lo hi w v vs) (h' : OwnV T' lo' hi' w v' vs') (hT : T ≠ T') {g : Nat} (hg : v.ownBlock = some g) : v'.ownBlock ≠ some g := by
  intro hg'
  obtain ⟨c, hc⟩ := h.block hg
  obtain ⟨c', hc'⟩ := h'.block hg'
  rw [hc] at hc'
  simp only [Option.some.injEq, Obj.cells.injEq] at hc'
  exact hT hc'.2.1

/-- A fresh row goes behind the rows of rows. -/
theorem OwnII.snoc {T2 T1 lo hi m hi' : Nat} {w w' : World} {v v' u : Value} {rss : List (List Int)} {vs : List Value} {rs : List Int}
    (h : OwnII T2 T1 lo hi w v rss vs) (hu : OwnV T1 m hi' w u (ints rs)) (hm : hi ≤ m) (hlo : lo ≤ m) (hh : hi ≤ hi')
    (ht : OwnV T2 lo w'.heap.size w' v' (vs ++ [u])) (hg : w.grownBy w' v.ownBlock) (hi'w : hi' ≤ w'.heap.size)
    (hT : T2 ≠ T1) : OwnII T2 T1 lo w'.heap.size w' v' (rss ++ [rs]) (vs ++ [u]) := by
  have hrowk : ∀ i u' rs', vs[i]? = some u' → rss[i]? = some rs' → OwnV T1 lo hi w u' (ints rs') := h.row
  have hrd : ∀ i u', vs[i]? = some u' → ∃ rs', rss[i]? = some rs' := fun i u' hv => by
    have : i < vs.length := (List.getElem?_eq_some_iff.1 hv).1
    rw [h.len] at this
    exact ⟨_, List.getElem?_eq_getElem this⟩
  have hub : ∀ g, u.ownBlock = some g → v.ownBlock ≠ some g := fun g hg' hv => by
    have h1 := h.top.lt g hv
    have h2 := hu.lt g hg'
    omega
  have split : ∀ {i : Nat} {x : Value}, (vs ++ [u])[i]? = some x → (i < vs.length ∧ vs[i]? = some x) ∨ (i = vs.length ∧ x = u) := by
    intro i x hx
    rw [List.getElem?_append] at hx
    split at hx
    · rename_i hlt; exact Or.inl ⟨hlt, hx⟩
    · rename_i hge
      have h0 : i - vs.length = 0 := by
        have := (List.getElem?_eq_some_iff.1 hx).1
        simp at this; omega
      rw [h0] at hx
      simp at hx
      exact Or.inr ⟨by omega, hx.symm⟩
  have hrows : ∀ (i : Nat) (u' : Value) (rs' : List Int), (vs ++ [u])[i]? = some u' → (rss ++ [rs])[i]? = some rs' → OwnV T1 lo w'.heap.size w' u' (ints rs') := by
    intro i u' rs' hv hr
    rcases split hv with ⟨hlt, hv⟩ | ⟨rfl, rfl⟩
    · rw [List.getElem?_append_left (by rw [← h.len]; exact hlt)] at hr
      have h1 := hrowk i u' rs' hv hr
      exact (h1.of_block fun g hg' => hg.block g (h1.lt g hg').2.2 (fun e => h.off i u' g hv hg' e.symm)).weaken (Nat.le_refl _) (by omega)
    · rw [h.len, List.getElem?_append_right (Nat.le_refl _)] at hr
      simp at hr
      subst hr
      exact (hu.of_block fun g hg' => hg.block g (hu.lt g hg').2.2 (fun e => hub g hg' e.symm)).weaken hlo hi'w
  have hlen : (vs ++ [u]).length = (rss ++ [rs]).length := by simp [h.len]
  refine ⟨hlen, ht, hrows, ?_, ?_⟩
  · intro i j x y g hx hy hgx hgy
    rcases split hx with ⟨hlt, hx'⟩ | ⟨hi0, hx'⟩ <;> rcases split hy with ⟨hlt', hy'⟩ | ⟨hj0, hy'⟩
    · exact h.apart i j x y g hx' hy' hgx hgy
    · subst hy'
      obtain ⟨rs', hr⟩ := hrd i x hx'
      have h1 := (hrowk i x rs' hx' hr).lt g hgx
      have h2 := hu.lt g hgy
      omega
    · subst hx'
      obtain ⟨rs', hr⟩ := hrd j y hy'
      have h1 := (hrowk j y rs' hy' hr).lt g hgy
      have h2 := hu.lt g hgx
      omega
    · omega
  · intro i x g hx hgx
    have hil : i < (rss ++ [rs]).length := by rw [← hlen]; exact (List.getElem?_eq_some_iff.1 hx).1
    exact (hrows i x _ hx (List.getElem?_eq_getElem hil)).ne ht (fun e => hT e.symm) hgx

end Go.Proofs.YtcifpfdlkpddeaaGreatDoor
