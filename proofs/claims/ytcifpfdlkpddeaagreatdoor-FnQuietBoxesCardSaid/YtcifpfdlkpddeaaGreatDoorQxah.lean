/- The numbers of a box: contracts. newBox for whole numbers; the end of a function that hands a box back. append of one element at a step of a region that draws its order. Plain facts of functionals, of the worth of a functional, and of boxes that are alike. -/
import Derived.Test.YtcifpfdlkpddeaaGreatDoorQxac
import Derived.Test.YtcifpfdlkpddeaaGreatDoorQxag
import Derived.Test.YtcifpfdlkpddeaaGreatDoorQxad
import Derived.Deep.RegionHeld3
import Derived.Deep.AppendLies
set_option linter.unusedSimpArgs false
set_option linter.unusedVariables false
namespace Go.Proofs.YtcifpfdlkpddeaaGreatDoor
open Go.RowKit

/-- What a valid box holds at questions and answers. -/
theorem boxB_at {b : BoxD} (hb : boxB b = true) (i j : Nat) (hi : (i : Int) < b.X) (hj : (j : Int) < b.Y) :
    ∃ (n : Nat) (p q r s : Int), (i : Int) * b.Y + (j : Int) = (n : Int) ∧ (0 ≤ (i : Int) * b.Y ∧ (i : Int) * b.Y ≤ 6) ∧ n ≤ 8 ∧ b.Rows[n]? = some [p, q, r, s] ∧ n < b.Rows.length ∧
      (0 ≤ p ∧ p ≤ b.Whole) ∧ (0 ≤ q ∧ q ≤ b.Whole) ∧ (0 ≤ r ∧ r ≤ b.Whole) ∧ (0 ≤ s ∧ s ≤ b.Whole) ∧ p + q + r + s = b.Whole ∧
      numB b i j 0 0 = p ∧ numB b i j 0 1 = q ∧ numB b i j 1 0 = r ∧ numB b i j 1 1 = s := by
  obtain ⟨⟨⟨hx0, hx1⟩, hy0, hy1⟩, hw, hl, hr⟩ := boxB_iff.1 hb
  obtain ⟨Y, hY⟩ := Int.eq_ofNat_of_zero_le (show 0 ≤ b.Y by omega)
  obtain ⟨X, hX⟩ := Int.eq_ofNat_of_zero_le (show 0 ≤ b.X by omega)
  have hl' : b.Rows.length = X * Y := by rw [hX, hY, ← Int.natCast_mul] at hl; exact Int.ofNat_inj.1 hl
  have h1 : (i + 1) * Y ≤ X * Y := Nat.mul_le_mul_right _ (by omega)
  rw [Nat.succ_mul] at h1
  have h2 : i * Y ≤ 2 * 3 := Nat.mul_le_mul (by omega) (by omega)
  have h3 : i * Y + j < b.Rows.length := by omega
  obtain ⟨p, q, r, s, hrow, hp, hq, hrr, hs, hsum⟩ := fourB_four (rowsB_get hr (List.getElem?_eq_getElem h3))
  refine ⟨i * Y + j, p, q, r, s, by rw [hY]; simp, by rw [hY, ← Int.natCast_mul]; omega, by omega, ?_, h3, hp, hq, hrr, hs, hsum, ?_, ?_, ?_, ?_⟩
  · rw [List.getElem?_eq_getElem h3, hrow]
  all_goals (unfold numB; rw [hY]; simp [List.getD_eq_getElem?_getD, h3, hrow])

theorem numB_bound {b : BoxD} (hb : boxB b = true) (i j : Nat) (hi : (i : Int) < b.X) (hj : (j : Int) < b.Y) (a c : Nat) (ha : a < 2) (hc : c < 2) : 0 ≤ numB b i j a c ∧ numB b i j a c ≤ b.Whole := by
  obtain ⟨n, p, q, r, s, _, _, _, _, _, hp, hq, hr, hs, _, e0, e1, e2, e3⟩ := boxB_at hb i j hi hj
  have : a = 0 ∨ a = 1 := by omega
  have : c = 0 ∨ c = 1 := by omega
  rcases ‹a = 0 ∨ a = 1› with rfl | rfl <;> rcases ‹c = 0 ∨ c = 1› with rfl | rfl
  · exact e0 ▸ hp
  · exact e1 ▸ hq
  · exact e2 ▸ hr
  · exact e3 ▸ hs

set_option maxHeartbeats 400000 in
theorem at_any (v : Value) (b : BoxD) (hb : boxB b = true) (i j a c : Nat) (hi : (i : Int) < b.X) (hj : (j : Int) < b.Y) (ha : a < 2) (hc : c < 2) (w : World) (h : RdII w v b.Rows) :
    Calls Tryz.prog 91 #[.agg #[.int .i64 b.X, .int .i64 b.Y, .int .i64 b.Whole, v], .int .i64 i, .int .i64 j, .int .i64 a, .int .i64 c] w fun e w' => e = .returned (.int .i64 (numB b i j a c)) ∧ Below w.heap.size w w' := by
  obtain ⟨n, p, q, r, s, hn, ⟨hm0, hm1⟩, hn8, hrow, hlt, _, _, _, _, _, e0, e1, e2, e3⟩ := boxB_at hb i j hi hj
  obtain ⟨av, ba, off, cap, rfl, hm, hav, hcell⟩ := h
  unfold maxLen at hm
  obtain rfl := hav (by omega)
  obtain ⟨v', hv', hrd⟩ := hcell n _ hrow
  obtain ⟨a2, b2, o2, c2, rfl, hm2, ha2, hc2⟩ := hrd
  obtain rfl := ha2 (by simp)
  obtain ⟨m, x, hm3, hx, hxe⟩ : ∃ (m : Nat) (x : Int), 2 * (a : Int) + (c : Int) = (m : Int) ∧ [p, q, r, s][m]? = some x ∧ numB b i j a c = x := by
    have : a = 0 ∨ a = 1 := by omega
    have : c = 0 ∨ c = 1 := by omega
    rcases ‹a = 0 ∨ a = 1› with rfl | rfl <;> rcases ‹c = 0 ∨ c = 1› with rfl | rfl
    · exact ⟨0, p, rfl, rfl, e0⟩
    · exact ⟨1, q, rfl, rfl, e1⟩
    · exact ⟨2, r, rfl, rfl, e2⟩
    · exact ⟨3, s, rfl, rfl, e3⟩
  have hcx := hc2 m x hx
  have hm4 : m < 4 := by omega
  rw [hxe]
  clear hc2 ha2 hcell hav hrow e0 e1 e2 e3 hx hxe hb
  have l1 := World.block_lt_of_cell? _ _ hv'
  have l2 := World.block_lt_of_cell? _ _ hcx
  simp only [] at l1 l2
  go_enter Tryz.func91, Tryz.ntmps91
  go_wp2
  go_ret
  exact ⟨rfl, (by repeat' (first | with_reducible exact Below.refl _ _ | with_reducible assumption | with_reducible apply Below.alloc | with_reducible apply Below.setCell | with_reducible apply Below.drew | exact Nat.le_refl _ | omega | (simp only [World.size_alloc, World.size_setCell]; omega)))⟩
set_option maxHeartbeats 400000 in
theorem l2Row_any (v : Value) (b : BoxD) (i j n : Nat) (p q r s : Int) (hn : (i : Int) * b.Y + (j : Int) = (n : Int)) (hm : 0 ≤ (i : Int) * b.Y ∧ (i : Int) * b.Y ≤ 6) (hn8 : n ≤ 8) (hlt : n < b.Rows.length) (hrow : b.Rows[n]? = some [p, q, r, s]) (w0 w : World) (h : RdII w0 v b.Rows) (hB : Below w0.heap.size w0 w) :
    Calls Tryz.prog 45 #[.agg #[.int .i64 b.X, .int .i64 b.Y, .int .i64 b.Whole, v], .int .i64 i, .int .i64 j] w fun e w' => ∃ b2 o2 c2 : Nat, e = .returned (.slice (some ⟨b2, o2, none⟩) 4 c2) ∧
      (w0.cell? ⟨b2, o2, none⟩ = some (.int .i64 p) ∧ w0.cell? ⟨b2, o2 + 1, none⟩ = some (.int .i64 q) ∧ w0.cell? ⟨b2, o2 + 2, none⟩ = some (.int .i64 r) ∧ w0.cell? ⟨b2, o2 + 3, none⟩ = some (.int .i64 s)) ∧ Below w.heap.size w w' := by
  obtain ⟨av, ba, off, cap, rfl, hm2, hav, hcell⟩ := h
  unfold maxLen at hm2
  obtain rfl := hav (by omega)
  obtain ⟨v', hv0, hrd⟩ := hcell n _ hrow
  have hv' := (hB.cell (p := ⟨ba, off + n, none⟩) (World.block_lt_of_cell? _ _ hv0)).trans hv0
  clear hv0
  obtain ⟨a2, b2, o2, c2, rfl, hm3, ha2, hc2⟩ := hrd
  obtain rfl := ha2 (by simp)
  have d0 := hc2 0 p rfl
  have d1 := hc2 1 q rfl
  have d2 := hc2 2 r rfl
  have d3 := hc2 3 s rfl
  have l1 := World.block_lt_of_cell? _ _ hv'
  simp only [] at l1
  obtain ⟨hm0, hm1⟩ := hm
  have D := Lib.hid (And.intro d0 (And.intro d1 (And.intro d2 d3)))
  clear hc2 ha2 hcell hav hrow d0 d1 d2 d3
  go_enter Tryz.func45, Tryz.ntmps45
  go_wp2
  go_ret
  exact ⟨b2, o2, c2, rfl, D.out, (by repeat' (first | with_reducible exact Below.refl _ _ | with_reducible assumption | with_reducible apply Below.alloc | with_reducible apply Below.setCell | with_reducible apply Below.drew | exact Nat.le_refl _ | omega | (simp only [World.size_alloc, World.size_setCell]; omega)))⟩
end Go.Proofs.YtcifpfdlkpddeaaGreatDoor
set_option linter.unusedSimpArgs false
set_option linter.unusedVariables false
namespace Go.Proofs.YtcifpfdlkpddeaaGreatDoor
open Go.RowKit

theorem OwnII.set4 {T2 T1 lo hi : Nat} {w : World} {v : Value} {rss : List (List Int)} {vs : List Value} (o : OwnII T2 T1 lo hi w v rss vs) {g : Nat} (hg : g < lo) (x y z u : Value) :
    OwnII T2 T1 lo hi ((((w.setCell ⟨g, 0, none⟩ x).setCell ⟨g, 1, none⟩ y).setCell ⟨g, 2, none⟩ z).setCell ⟨g, 3, none⟩ u) v rss vs :=
  (((o.setCell_off (p := ⟨g, 0, none⟩) (Or.inl hg) x).setCell_off (p := ⟨g, 1, none⟩) (Or.inl hg) y).setCell_off (p := ⟨g, 2, none⟩) (Or.inl hg) z).setCell_off (p := ⟨g, 3, none⟩) (Or.inl hg) u

theorem newBoxZ_any (x y : Int) (hx : 1 ≤ x ∧ x ≤ 3) (hy : 1 ≤ y ∧ y ≤ 3) (whole : Int) (k : Nat) (caps : Array Value) (num : Num) (w : World)
    (hk : ∀ (args : Array Value) (w : World), (callFunc k args).run Tryz.prog w = .ok (.enter k args) w)
    (hcall : ∀ wr : World, Below w.heap.size w wr → ∀ i j a c : Nat, (i : Int) < x → (j : Int) < y → a < 2 → c < 2 →
      Calls Tryz.prog k (#[.int .i64 i, .int .i64 j, .int .i64 a, .int .i64 c] ++ caps) wr fun e w' => e = .returned (.int .i64 (num i j a c)) ∧ Below wr.heap.size wr w') :
    Calls Tryz.prog 68 #[.int .i64 x, .int .i64 y, .int .i64 whole, .func (.func k) #[] caps] w fun e w' => ∃ a c vs, e = .returned (.agg #[.int .i64 x, .int .i64 y, .int .i64 whole, .slice a (x.toNat * y.toNat) c]) ∧
      OwnII 33 3 w.heap.size w'.heap.size w' (.slice a (x.toNat * y.toNat) c) (rowsTo num y.toNat (x.toNat * y.toNat)) vs ∧ Below w.heap.size w w' := by
  obtain ⟨X, rfl⟩ := Int.eq_ofNat_of_zero_le (show 0 ≤ x by omega)
  obtain ⟨Y, rfl⟩ := Int.eq_ofNat_of_zero_le (show 0 ≤ y by omega)
  refine (newBox_any X Y ⟨by omega, by omega⟩ ⟨by omega, by omega⟩ whole k caps num w hk ?_).mono ?_
  · intro wr hB i j a c hi0 hi1 hj0 hj1 ha0 ha1 hc0 hc1
    obtain ⟨i, rfl⟩ := Int.eq_ofNat_of_zero_le hi0
    obtain ⟨j, rfl⟩ := Int.eq_ofNat_of_zero_le hj0
    obtain ⟨a, rfl⟩ := Int.eq_ofNat_of_zero_le ha0
    obtain ⟨c, rfl⟩ := Int.eq_ofNat_of_zero_le hc0
    exact hcall wr hB i j a c hi1 hj1 (by omega) (by omega)
  · rintro e w' ⟨a, c, vs, rfl, o, b⟩
    rw [rowsTo_length] at o
    exact ⟨a, c, vs, by rw [rowsTo_length]; simp, by simpa using o, b⟩
/-- A box variable begun in a world of some age. -/
theorem BoxRel.start2 (w1 W3 : World) (x y whole : Int)
    (hW : W3 = ((w1.alloc (.cells #[] 33)).alloc (.cells #[.int .i64 x, .int .i64 y, .int .i64 whole, .slice (some ⟨w1.heap.size, 0, none⟩) 0 0] 26))) :
    BoxRel W3 w1.heap.size (w1.heap.size + 1) w1.heap.size W3 x y whole [] (some ⟨w1.heap.size, 0, none⟩) 0 [] ∧ Below w1.heap.size w1 W3 ∧ W3.heap.size = w1.heap.size + 1 + 1 := by
  subst hW
  have hE := OwnII.empty 33 3 w1
  have hE2 := (hE.kept (B := w1.heap.size + 1) (w' := ((w1.alloc (.cells #[] 33)).alloc (.cells #[.int .i64 x, .int .i64 y, .int .i64 whole, .slice (some ⟨w1.heap.size, 0, none⟩) 0 0] 26))) (by repeat' (first | with_reducible exact Below.refl _ _ | with_reducible assumption | with_reducible apply Below.alloc | with_reducible apply Below.setCell | with_reducible apply Below.drew | exact Nat.le_refl _ | omega | (simp only [World.size_alloc, World.size_setCell]; omega))) (Nat.le_refl _)).weaken (hi' := w1.heap.size + 1 + 1) (Nat.le_refl _) (by omega)
  refine ⟨⟨Below.refl _ _, by omega, Nat.le_refl _, by simp only [World.size_alloc]; omega, by simp only [World.size_alloc]; omega, ?_, by simpa only [World.size_alloc, List.length_nil] using hE2⟩, (by repeat' (first | with_reducible exact Below.refl _ _ | with_reducible assumption | with_reducible apply Below.alloc | with_reducible apply Below.setCell | with_reducible apply Below.drew | exact Nat.le_refl _ | omega | (simp only [World.size_alloc, World.size_setCell]; omega))), by simp only [World.size_alloc]⟩
  show ((w1.heap.push _).push _)[w1.heap.size + 1]? = _
  rw [Array.getElem?_push, if_pos (by simp)]
  rfl
end Go.Proofs.YtcifpfdlkpddeaaGreatDoor
set_option linter.unusedSimpArgs false
set_option linter.unusedVariables false
namespace Go.Proofs.YtcifpfdlkpddeaaGreatDoor
open Go.RowKit

theorem step_append1 {P : Program} {ops : Array Oper} {o : Oper} {a : Act} {K : Act → World → Prop} {Q : Exit → Act → World → Prop} {E : Prop} (hgd : o.guard = none) (s x : Operand) (t e : TypeId)
    (ho : o.op = .call { callee := .builtin .append, args := #[s, x], argTypes := #[t, t] })
    {z : Value} {bytes : Nat} (ht : P.underlying t = some (.slice e)) (hinfo : (P.info? e).map (fun i => (i.zero, i.size, i.bytes)) = some (some z, 1, bytes)) (hz : z.cells.size = 1)
    {lo hi m : Nat} {V : World} {v u : Value} {vs : List Value} (hown : OwnV e lo hi V v vs) (hs : a.eval s = v)
    (hx : a.eval x = .slice (some ⟨m, 0, none⟩) 1 1) (hm : V.cell? ⟨m, 0, none⟩ = some u) (hu : u.oneCell' = true) (hlen : vs.length ≤ 4194304) (hby : bytes ≤ 1024) (hlo : lo ≤ V.heap.size)
    (h : ∀ (a' : Option Addr) (c : Nat) (w' : World), OwnV e lo w'.heap.size w' (.slice a' (vs.length + 1) c) (vs ++ [u]) → V.grownBy w' v.ownBlock → K (a.put o.dst (.slice a' (vs.length + 1) c)) w') :
    if Region.wanted o (yielded ops a.tmps) = true then Oper.wp P o a V K Q else E := by
  have hw : Region.wanted o (yielded ops a.tmps) = true := by simp [Region.wanted, hgd]
  rw [if_pos hw]
  obtain ⟨i, hi0, hi1, hi2, hi3⟩ := info_parts hinfo
  refine wp_append_own V s x t ho lo e i z 1 bytes ht hi0 hi1 hi2 hi3 hz (by omega) v vs.length vs hs hown.1 ⟨m, 0, none⟩ 1 1 [u] hx rfl ?_ ?_ ?_ ?_ hlo ?_
  · intro j u' hj
    match j, hj with
    | 0, hj => simp at hj; subst hj; simpa [Addr.add] using hm
  · intro u' hu'; simp at hu'; subst hu'; exact hu
  · unfold maxLen; omega
  · have : (vs.length + 1) * bytes ≤ 4194305 * 1024 := Nat.mul_le_mul (by omega) hby
    omega
  · intro v' w' hown' hg _
    obtain ⟨a', c, rfl⟩ := ownsRow_shape hown'
    have hl : (vs ++ [u]).length = vs.length + 1 := by simp
    exact h a' c w' ⟨by rw [hl]; exact hown', fun g hg' => (hown'.lt g hg').2⟩ hg

/-- At an append alone: a guard ahead of an arm. -/
def isAppendOp : Op → Bool
  | .call c => match c.callee with
    | .builtin .append => true
    | _ => false
  | _ => false
theorem step_is_append {P : Program} {ops : Array Oper} {o : Oper} {a : Act} {V : World} {K : Act → World → Prop} {Q : Exit → Act → World → Prop} {E : Prop}
    (_ : isAppendOp o.op = true) (h : if Region.wanted o (yielded ops a.tmps) = true then Oper.wp P o a V K Q else E) :
    if Region.wanted o (yielded ops a.tmps) = true then Oper.wp P o a V K Q else E := h

end Go.Proofs.YtcifpfdlkpddeaaGreatDoor
set_option linter.unusedSimpArgs false
set_option linter.unusedVariables false
namespace Go.Proofs.YtcifpfdlkpddeaaGreatDoor

theorem mul_bd (a b A B : Int) (h : -A ≤ a ∧ a ≤ A) (hb : 0 ≤ b ∧ b ≤ B) : -(A * B) ≤ a * b ∧ a * b ≤ A * B := by
  have hA : 0 ≤ A := by omega
  have h1 : a * b ≤ A * b := Int.mul_le_mul_of_nonneg_right h.2 hb.1
  have h2 : A * b ≤ A * B := Int.mul_le_mul_of_nonneg_left hb.2 hA
  have h3 : (-A) * b ≤ a * b := Int.mul_le_mul_of_nonneg_right h.1 hb.1
  rw [Int.neg_mul] at h3
  omega

/-! ### Functionals -/
def funcRowB (rs : List Int) : Bool := decide (rs.length = 4) && allIn rs (-99) 99
def funcB (x y : Int) (f : List (List Int)) : Bool := sizesB x y && (decide ((f.length : Int) = x * y) && f.all funcRowB)
theorem all_true {α : Type} {p : α → Bool} {l : List α} (h : ∀ (j : Nat) (r : α), l[j]? = some r → p r = true) : l.all p = true := by
  rw [List.all_eq_true]
  intro x hx
  obtain ⟨j, hj⟩ := List.mem_iff_getElem?.1 hx
  exact h j x hj
theorem all_false {α : Type} {p : α → Bool} {l : List α} {k : Nat} {r : α} (h : l[k]? = some r) (hr : p r = false) : l.all p = false := by
  rw [List.all_eq_false]
  exact ⟨r, List.mem_of_getElem? h, by simp [hr]⟩
theorem all_get {α : Type} {p : α → Bool} {l : List α} (h : l.all p = true) {k : Nat} {r : α} (hr : l[k]? = some r) : p r = true := by
  rw [List.all_eq_true] at h
  exact h r (List.mem_of_getElem? hr)
theorem funcB_iff {x y : Int} {f : List (List Int)} : funcB x y f = true ↔ sizesB x y = true ∧ (f.length : Int) = x * y ∧ f.all funcRowB = true := by
  unfold funcB
  rw [Bool.and_eq_true, Bool.and_eq_true, decide_eq_true_iff]
theorem funcRow_four {rs : List Int} (h : funcRowB rs = true) : ∃ p q r s : Int, rs = [p, q, r, s] ∧ (-99 ≤ p ∧ p ≤ 99) ∧ (-99 ≤ q ∧ q ≤ 99) ∧ (-99 ≤ r ∧ r ≤ 99) ∧ (-99 ≤ s ∧ s ≤ 99) := by
  unfold funcRowB at h
  rw [Bool.and_eq_true, decide_eq_true_iff] at h
  obtain ⟨h1, h2⟩ := h
  match rs, h1 with
  | [p, q, r, s], _ => exact ⟨p, q, r, s, rfl, allIn_get h2 (k := 0) rfl, allIn_get h2 (k := 1) rfl, allIn_get h2 (k := 2) rfl, allIn_get h2 (k := 3) rfl⟩

/-! ### Worth -/
def cellAt (rss : List (List Int)) (i k : Nat) : Int := (rss.getD i []).getD k 0
theorem cellAt_get {rss : List (List Int)} {i k : Nat} {rs : List Int} {x : Int} (h : rss[i]? = some rs) (hx : rs[k]? = some x) : cellAt rss i k = x := by
  simp [cellAt, List.getD_eq_getElem?_getD, h, hx]
def wRow (f rows : List (List Int)) (i k : Nat) : Int := (List.map (fun q => cellAt f i q * cellAt rows i q) (List.range k)).sum
theorem wRow_zero (f rows : List (List Int)) (i : Nat) : wRow f rows i 0 = 0 := rfl
theorem wRow_succ (f rows : List (List Int)) (i k : Nat) : wRow f rows i (k + 1) = wRow f rows i k + cellAt f i k * cellAt rows i k := by
  simp [wRow, List.range_succ]
def worthTo (f rows : List (List Int)) (n : Nat) : Int := (List.map (fun i => wRow f rows i 4) (List.range n)).sum
theorem worthTo_zero (f rows : List (List Int)) : worthTo f rows 0 = 0 := rfl
theorem worthTo_succ (f rows : List (List Int)) (n : Nat) : worthTo f rows (n + 1) = worthTo f rows n + wRow f rows n 4 := by
  simp [worthTo, List.range_succ]
def worthR (f rows : List (List Int)) : Int := worthTo f rows rows.length

/-! ### Alike -/
/-- All places before place k of row n agree. -/
def AlikeTo (ra rb : List (List Int)) (wa wb : Int) (n k : Nat) : Prop := ∀ i q : Nat, q < 4 → (i < n ∨ (i = n ∧ q < k)) → cellAt ra i q * wb = cellAt rb i q * wa
def alikeR (ra rb : List (List Int)) (wa wb : Int) : Bool := (List.range ra.length).all fun i => (List.range 4).all fun q => decide (cellAt ra i q * wb = cellAt rb i q * wa)
theorem alikeR_true {ra rb : List (List Int)} {wa wb : Int} (h : AlikeTo ra rb wa wb ra.length 0) : alikeR ra rb wa wb = true := by
  unfold alikeR
  rw [List.all_eq_true]
  intro i hi
  rw [List.all_eq_true]
  intro q hq
  exact decide_eq_true (h i q (List.mem_range.1 hq) (Or.inl (List.mem_range.1 hi)))
theorem alikeR_false {ra rb : List (List Int)} {wa wb : Int} {i q : Nat} (hi : i < ra.length) (hq : q < 4) (h : ¬ cellAt ra i q * wb = cellAt rb i q * wa) : alikeR ra rb wa wb = false := by
  unfold alikeR
  rw [List.all_eq_false]
  refine ⟨i, List.mem_range.2 hi, ?_⟩
  rw [Bool.not_eq_true, List.all_eq_false]
  exact ⟨q, List.mem_range.2 hq, by simp [h]⟩
theorem AlikeTo.next {ra rb : List (List Int)} {wa wb : Int} {n k : Nat} (h : AlikeTo ra rb wa wb n k) (e : cellAt ra n k * wb = cellAt rb n k * wa) : AlikeTo ra rb wa wb n (k + 1) := by
  intro i q hq hd
  by_cases h1 : i < n ∨ (i = n ∧ q < k)
  · exact h i q hq h1
  · obtain rfl : i = n := by omega
    obtain rfl : q = k := by omega
    exact e
theorem AlikeTo.row {ra rb : List (List Int)} {wa wb : Int} {n : Nat} (h : AlikeTo ra rb wa wb n 4) : AlikeTo ra rb wa wb (n + 1) 0 := by
  intro i q hq hd
  exact h i q hq (by omega)

end Go.Proofs.YtcifpfdlkpddeaaGreatDoor
