/- Boxes by other names: swapped, asked again, flipped. No program in sight. PlayBox: contracts of the reference's function. The worth of a play by places. Functionals: contracts of the program's and the reference's test. -/
import Derived.Test.YtnmnmnpeoiblhaaSuaq
import Derived.Test.YtnmnmnpeoiblhaaSuar
import Derived.Test.YtnmnmnpeoiblhaaSuat
import Derived.Test.YtnmnmnpeoiblhaaSuag
import Derived.Test.YtnmnmnpeoiblhaaSuae
import Derived.Test.YtnmnmnpeoiblhaaSuab
set_option linter.unusedSimpArgs false
set_option linter.unusedVariables false
namespace Go.Proofs.Ytnmnmnpeoiblhaa

theorem nat2 {a : Nat} (h : a < 2) : a = 0 ∨ a = 1 := by omega
theorem swapL_eq (b : BoxD) : swapL b = boxOf b.Y b.X b.Whole (swapN b) := rfl
theorem four_swap {b : BoxD} (hb : boxB b = true) (i j : Nat) (hi : (i : Int) < b.Y) (hj : (j : Int) < b.X) : FourN (swapN b) b.Whole i j := by
  obtain ⟨h0, h1, h2, h3, h4⟩ := boxB_four hb j i hj hi
  exact ⟨h0, h2, h1, h3, by show numB b j i 0 0 + numB b j i 1 0 + numB b j i 0 1 + numB b j i 1 1 = _; omega⟩
theorem boxB_in {b : BoxD} (hb : boxB b = true) : inB b.Whole 1 1000 = true := inB_iff.2 (boxB_iff.1 hb).2.1
theorem swapL_box {b : BoxD} (hb : boxB b = true) : boxB (swapL b) = true := by
  obtain ⟨hx, hy⟩ := (boxB_iff.1 hb).1
  rw [swapL_eq, boxOf_boxB _ _ _ _ (sizesB_iff.2 ⟨hy, hx⟩) (fun i j hi hj => four_swap hb i j hi hj)]
  exact boxB_in hb
theorem numB_swap {b : BoxD} (i j a c : Nat) (hi : (i : Int) < b.Y) (hj : (j : Int) < b.X) (ha : a < 2) (hc : c < 2) : numB (swapL b) i j a c = numB b j i c a := by
  rw [swapL_eq, numB_boxOf _ _ _ _ i j a c hi hj ha hc]; rfl
theorem box_ext {a b : BoxD} (ha : boxB a = true) (hb : boxB b = true) (hx : a.X = b.X) (hy : a.Y = b.Y) (hw : a.Whole = b.Whole)
    (h : ∀ i j p q : Nat, (i : Int) < b.X → (j : Int) < b.Y → p < 2 → q < 2 → numB a i j p q = numB b i j p q) : a = b := by
  rw [box_eq_boxOf ha, box_eq_boxOf hb, hx, hy, hw]
  refine boxOf_congr _ _ _ _ _ fun i j hi hj => ?_
  have := h i j
  have h0 := this 0 0 hi hj (by omega) (by omega)
  have h1 := this 0 1 hi hj (by omega) (by omega)
  have h2 := this 1 0 hi hj (by omega) (by omega)
  have h3 := this 1 1 hi hj (by omega) (by omega)
  rw [show ((0 : Nat) : Int) = 0 from rfl] at *
  rw [show ((1 : Nat) : Int) = 1 from rfl] at *
  unfold rowOf
  rw [h0, h1, h2, h3]
theorem swap_swap {b : BoxD} (hb : boxB b = true) : swapL (swapL b) = b := by
  refine box_ext (swapL_box (swapL_box hb)) hb rfl rfl rfl fun i j p q hi hj hp hq => ?_
  rw [numB_swap (b := swapL b) i j p q hi hj hp hq, numB_swap j i q p hj hi hq hp]

theorem mem_getD {fs : List Int} {lo hi : Int} (h : allIn fs lo hi = true) (i : Nat) (hi' : i < fs.length) : lo ≤ fs.getD i 0 ∧ fs.getD i 0 ≤ hi := by
  obtain ⟨f, hf⟩ : ∃ f, fs[i]? = some f := ⟨_, List.getElem?_eq_getElem hi'⟩
  have := allIn_get h hf
  rw [List.getD_eq_getElem?_getD, hf]
  exact this
theorem againB_iff {b : BoxD} {fs ss : List Int} : againB b fs ss = true ↔ ((1 ≤ (fs.length : Int) ∧ (fs.length : Int) ≤ 3) ∧ (1 ≤ (ss.length : Int) ∧ (ss.length : Int) ≤ 3)) ∧ allIn fs 0 (b.X - 1) = true ∧ allIn ss 0 (b.Y - 1) = true := by
  unfold againB
  rw [Bool.and_eq_true, Bool.and_eq_true, sizesB_iff]
/-- What a question of the box asked again is. -/
theorem again_at {b : BoxD} {fs ss : List Int} (hq : againB b fs ss = true) (i j : Nat) (hi : (i : Int) < fs.length) (hj : (j : Int) < ss.length) :
    ∃ i' j' : Nat, fs.getD i 0 = (i' : Int) ∧ ss.getD j 0 = (j' : Int) ∧ (i' : Int) < b.X ∧ (j' : Int) < b.Y := by
  obtain ⟨_, hf, hs⟩ := againB_iff.1 hq
  have h1 := mem_getD hf i (by omega)
  have h2 := mem_getD hs j (by omega)
  obtain ⟨i', e1⟩ := Int.eq_ofNat_of_zero_le h1.1
  obtain ⟨j', e2⟩ := Int.eq_ofNat_of_zero_le h2.1
  exact ⟨i', j', e1, e2, by omega, by omega⟩
theorem again_box {b : BoxD} {fs ss : List Int} (hb : boxB b = true) (hq : againB b fs ss = true) : boxB (againL b fs ss) = true := by
  obtain ⟨hx, hy⟩ := (againB_iff.1 hq).1
  unfold againL
  rw [boxOf_boxB _ _ _ _ (sizesB_iff.2 ⟨hx, hy⟩) (fun i j hi hj => ?_)]
  · exact boxB_in hb
  · obtain ⟨i', j', e1, e2, h1, h2⟩ := again_at hq i j hi hj
    have := boxB_four hb i' j' h1 h2
    unfold FourN againN
    simp only [Int.toNat_natCast, e1, e2]
    exact this
theorem numB_again {b : BoxD} {fs ss : List Int} (i j p q i' j' : Nat) (hi : (i : Int) < fs.length) (hj : (j : Int) < ss.length) (hp : p < 2) (hq : q < 2) (e1 : fs.getD i 0 = (i' : Int)) (e2 : ss.getD j 0 = (j' : Int)) :
    numB (againL b fs ss) i j p q = numB b i' j' p q := by
  unfold againL
  rw [numB_boxOf _ _ _ _ i j p q hi hj hp hq]
  unfold againN
  simp only [Int.toNat_natCast, e1, e2]

theorem bits_at {fl : List Int} {n : Int} (h : bitsB fl n = true) (i : Nat) (hi : (i : Int) < n) : ∃ f : Nat, fl.getD i 0 = (f : Int) ∧ f < 2 := by
  obtain ⟨hall, hlen⟩ := bits_iff.1 h
  have := mem_getD hall i (by omega)
  obtain ⟨f, e⟩ := Int.eq_ofNat_of_zero_le this.1
  exact ⟨f, e, by omega⟩
def xorN (a f : Nat) : Nat := if a = f then 0 else 1
theorem xorN_lt (a f : Nat) : xorN a f < 2 := by unfold xorN; split <;> omega
theorem xorN_xorN (a f : Nat) (ha : a < 2) (hf : f < 2) : xorN (xorN a f) f = a := by
  rcases nat2 ha with rfl | rfl <;> rcases nat2 hf with rfl | rfl <;> rfl
theorem xorB_n (a f : Nat) : xorB a f = (xorN a f : Int) := by
  unfold xorB xorN
  by_cases h : a = f
  · rw [if_pos h, if_pos (by omega)]; rfl
  · rw [if_neg h, if_neg (by omega)]; rfl
theorem numB_flipN {b : BoxD} {fl : List Int} (i j p q f g : Nat) (e1 : fl.getD i 0 = (f : Int)) (e2 : fl.getD (b.X.toNat + j) 0 = (g : Int)) : flipN b fl i j p q = numB b i j (xorN p f) (xorN q g) := by
  unfold flipN
  simp only [Int.toNat_natCast, e1, e2, xorB_n]
theorem flip_two {b : BoxD} {fl : List Int} (hb : boxB b = true) (hf : bitsB fl (b.X + b.Y) = true) (i j : Nat) (hi : (i : Int) < b.X) (hj : (j : Int) < b.Y) :
    ∃ f g : Nat, fl.getD i 0 = (f : Int) ∧ fl.getD (b.X.toNat + j) 0 = (g : Int) ∧ f < 2 ∧ g < 2 := by
  have hs := (boxB_iff.1 hb).1
  obtain ⟨f, e1, h1⟩ := bits_at hf i (by omega)
  obtain ⟨g, e2, h2⟩ := bits_at hf (b.X.toNat + j) (by omega)
  exact ⟨f, g, e1, e2, h1, h2⟩
theorem flip_four {b : BoxD} {fl : List Int} (hb : boxB b = true) (hf : bitsB fl (b.X + b.Y) = true) (i j : Nat) (hi : (i : Int) < b.X) (hj : (j : Int) < b.Y) : FourN (flipN b fl) b.Whole i j := by
  obtain ⟨f, g, e1, e2, h1, h2⟩ := flip_two hb hf i j hi hj
  have h := boxB_four hb i j hi hj
  have e : ∀ p q : Nat, flipN b fl i j p q = numB b i j (xorN p f) (xorN q g) := fun p q => numB_flipN i j p q f g e1 e2
  have e00 := e 0 0
  have e01 := e 0 1
  have e10 := e 1 0
  have e11 := e 1 1
  rw [show ((0 : Nat) : Int) = 0 from rfl] at *
  rw [show ((1 : Nat) : Int) = 1 from rfl] at *
  unfold FourN at *
  rw [e00, e01, e10, e11]
  rcases nat2 h1 with rfl | rfl <;> rcases nat2 h2 with rfl | rfl <;> simp only [show xorN 0 0 = 0 from rfl, show xorN 0 1 = 1 from rfl, show xorN 1 0 = 1 from rfl, show xorN 1 1 = 0 from rfl, show ((0 : Nat) : Int) = 0 from rfl, show ((1 : Nat) : Int) = 1 from rfl] <;> omega
theorem flip_box {b : BoxD} {fl : List Int} (hb : boxB b = true) (hf : bitsB fl (b.X + b.Y) = true) : boxB (flipBL b fl) = true := by
  obtain ⟨hx, hy⟩ := (boxB_iff.1 hb).1
  unfold flipBL
  rw [boxOf_boxB _ _ _ _ (sizesB_iff.2 ⟨hx, hy⟩) (fun i j hi hj => flip_four hb hf i j hi hj)]
  exact boxB_in hb
theorem numB_flip {b : BoxD} {fl : List Int} (i j p q f g : Nat) (hi : (i : Int) < b.X) (hj : (j : Int) < b.Y) (hp : p < 2) (hq : q < 2) (e1 : fl.getD i 0 = (f : Int)) (e2 : fl.getD (b.X.toNat + j) 0 = (g : Int)) :
    numB (flipBL b fl) i j p q = numB b i j (xorN p f) (xorN q g) := by
  unfold flipBL
  rw [numB_boxOf _ _ _ _ i j p q hi hj hp hq]
  exact numB_flipN i j p q f g e1 e2
theorem flip_flip {b : BoxD} {fl : List Int} (hb : boxB b = true) (hf : bitsB fl (b.X + b.Y) = true) : flipBL (flipBL b fl) fl = b := by
  refine box_ext (flip_box (b := flipBL b fl) (flip_box hb hf) hf) hb rfl rfl rfl fun i j p q hi hj hp hq => ?_
  obtain ⟨f, g, e1, e2, h1, h2⟩ := flip_two hb hf i j hi hj
  rw [numB_flip (b := flipBL b fl) i j p q f g hi hj hp hq e1 e2, numB_flip i j _ _ f g hi hj (xorN_lt _ _) (xorN_lt _ _) e1 e2, xorN_xorN p f hp h1, xorN_xorN q g hq h2]

/-! ### The greatest triple -/
def ords : List (List Int) := [[0, 1, 2], [0, 2, 1], [1, 0, 2], [1, 2, 0], [2, 0, 1], [2, 1, 0]]
def ordAt (i : Nat) : List Int := ords.getD i []
theorem ordAt_ok (i : Nat) (h : i < 6) : (ordAt i).length = 3 ∧ allIn (ordAt i) 0 2 = true := by
  have : i = 0 ∨ i = 1 ∨ i = 2 ∨ i = 3 ∨ i = 4 ∨ i = 5 := by omega
  rcases this with rfl | rfl | rfl | rfl | rfl | rfl <;> decide
end Go.Proofs.Ytnmnmnpeoiblhaa
set_option linter.unusedSimpArgs false
set_option linter.unusedVariables false
namespace Go.Proofs.Ytnmnmnpeoiblhaa
open Go.RowKit

theorem play_row {x : Int} {ps : List Int} {whole : Int} {i k : Nat} {p q n : Nat} (hp : ps[i]? = some (p : Int)) (hq : ps[x.toNat + k]? = some (q : Int)) (p2 : p < 2) (q2 : q < 2) (hn : 2 * p + q = n) :
    rowOf (playN x ps whole) i k = (List.replicate 4 (0 : Int)).set n whole := by
  subst hn
  unfold rowOf playN
  simp only [Int.toNat_natCast, List.getD_eq_getElem?_getD, hp, hq, Option.getD_some]
  have : p = 0 ∨ p = 1 := by omega
  have : q = 0 ∨ q = 1 := by omega
  rcases ‹p = 0 ∨ p = 1› with rfl | rfl <;> rcases ‹q = 0 ∨ q = 1› with rfl | rfl <;> simp [List.replicate]

set_option maxHeartbeats 3200000 in
theorem l2PlayBox_any (x y : Int) (v : Value) (ps : List Int) (whole : Int) (hs : sizesB x y = true) (hp : bitsB ps (x + y) = true) (w : World) (h : RdI w v ps) :
    Calls Try.prog 72 #[.int .i64 x, .int .i64 y, v, .int .i64 whole] w (BoxOnly w x y whole (rowsTo (playN x ps whole) y.toNat (x.toNat * y.toNat))) := by
  obtain ⟨⟨hx0, hx1⟩, hy0, hy1⟩ := sizesB_iff.1 hs
  obtain ⟨hall, hlen⟩ := bits_iff.1 hp
  obtain ⟨X, rfl⟩ := Int.eq_ofNat_of_zero_le (show 0 ≤ x by omega)
  obtain ⟨Y, rfl⟩ := Int.eq_ofNat_of_zero_le (show 0 ≤ y by omega)
  obtain ⟨a1, b1, o1, k1, rfl, m1, e1, d1⟩ := h
  unfold maxLen at m1
  obtain rfl := e1 (by omega)
  have hXY : X * Y ≤ 9 := Nat.mul_le_mul (show X ≤ 3 by omega) (show Y ≤ 3 by omega)
  simp only [Int.toNat_natCast]
  have HL := Lib.hid hlen
  have HA := Lib.hid hall
  have HD := Lib.hid d1
  clear hlen hall d1 e1 hp hs
  go_enter Try.func72, Try.ntmps72
  go_wp2
  obtain ⟨W3, hW3⟩ : ∃ W3, W3 = (((w.alloc (.cells #[.int .i64 0, .int .i64 0, .int .i64 0, .slice none 0 0] 26)).alloc (.cells #[] 27)).alloc (.cells #[.int .i64 X, .int .i64 Y, .int .i64 whole, .slice (some ⟨w.heap.size + 1, 0, none⟩) 0 0] 26)) := ⟨_, rfl⟩
  obtain ⟨hst, hB3, hs3⟩ := BoxRel.start3 (w.alloc (.cells #[.int .i64 0, .int .i64 0, .int .i64 0, .slice none 0 0] 26)) W3 (w.heap.size + 1) X Y whole (World.size_alloc _ _) hW3
  have hret3 : RetAt W3 w.heap.size := by rw [hW3]; exact (by repeat' (first | with_reducible assumption | (refine RetAt.top ?_; first | with_reducible rfl | (simp only [World.size_alloc, World.size_setCell]; done)) | refine RetAt.under ?_))
  have BW : Below w.heap.size w W3 := by rw [hW3]; exact (by repeat' (first | with_reducible exact Below.refl _ _ | with_reducible assumption | with_reducible apply Below.alloc | with_reducible apply Below.setCell | with_reducible apply Below.drew | exact Nat.le_refl _ | omega | (simp only [World.size_alloc, World.size_setCell]; omega)))
  have HW := Lib.hid hW3
  clear hW3 hB3
  go_loopw [10] (fun s wr => ∃ i : Nat, i ≤ X ∧ s = .int .i64 i ∧ ∃ a c vs, BoxRel W3 (w.heap.size + 1) (w.heap.size + 1 + 1) (w.heap.size + 1) wr X Y whole (rowsTo (playN X ps whole) Y (i * Y)) a c vs) (fun s _ => X - (intOf s).toNat)
  case atStart => exact ⟨0, by omega, rfl, _, _, _, by rw [← HW.out]; simpa [rowsTo] using hst⟩
  case round =>
    clear hst
    obtain ⟨i, hi, rfl, a, c, vs, hR⟩ := hrel
    by_cases hlt : i < X
    · go_wp2
      go_loopw [11] (fun s wr => ∃ j : Nat, j ≤ Y ∧ s = .int .i64 j ∧ ∃ a c vs, BoxRel W3 (w.heap.size + 1) (w.heap.size + 1 + 1) (w.heap.size + 1) wr X Y whole (rowsTo (playN X ps whole) Y (i * Y + j)) a c vs) (fun s _ => Y - (intOf s).toNat)
      case atStart => exact ⟨0, by omega, rfl, _, _, _, hR⟩
      case round =>
        clear hR
        obtain ⟨j, hj, rfl, a, c, vs, hR⟩ := hrel
        by_cases hjt : j < Y
        · have hBw : Below w.heap.size w wr := BW.trans (hR.below.mono (by have := BW.size; omega))
          have hsz := hBw.size
          have hl := HL.out
          obtain ⟨m, hm⟩ : ∃ m : Nat, X + j = m := ⟨_, rfl⟩
          have hmi : (X : Int) + (j : Int) = (m : Int) := by omega
          have hil : i < ps.length := by omega
          have hml : m < ps.length := by omega
          obtain ⟨p, hpi⟩ : ∃ p, ps[i]? = some p := ⟨_, List.getElem?_eq_getElem hil⟩
          obtain ⟨q, hqm⟩ : ∃ q, ps[m]? = some q := ⟨_, List.getElem?_eq_getElem hml⟩
          have p01 := allIn_get HA.out hpi
          have q01 := allIn_get HA.out hqm
          obtain ⟨p, rfl⟩ := Int.eq_ofNat_of_zero_le p01.1
          obtain ⟨q, rfl⟩ := Int.eq_ofNat_of_zero_le q01.1
          obtain ⟨n, hn⟩ : ∃ n : Nat, 2 * p + q = n := ⟨_, rfl⟩
          have hrow := play_row (whole := whole) (x := (X : Int)) hpi (by rw [Int.toNat_natCast, hm]; exact hqm) (by omega) (by omega) hn
          have hn4 : n < 4 := by omega
          have cp0 := HD.out i _ hpi
          have cq0 := HD.out m _ hqm
          have lb := World.block_lt_of_cell? _ _ cp0
          simp only [] at lb
          have hne : wr.heap.size ≠ b1 := by omega
          have cp := ((hBw.alloc (by omega) (.cells zero4 3)).cell (p := ⟨b1, o1 + i, none⟩) lb).trans cp0
          have cq := ((hBw.alloc (by omega) (.cells zero4 3)).cell (p := ⟨b1, o1 + m, none⟩) lb).trans cq0
          have hz := zero4_own wr
          have i0 : (0 : Int) ≤ (i : Int) := by omega
          have i1 : (i : Int) < (ps.length : Int) := by omega
          have j0 : (0 : Int) ≤ (m : Int) := by omega
          have j1 : (m : Int) < (ps.length : Int) := by omega
          have n0 : (0 : Int) ≤ (n : Int) := by omega
          have n1 : (n : Int) < 4 := by omega
          have w1 : IntKind.i64.wrap (2 * (p : Int)) = 2 * (p : Int) := wrap_in _ (by omega) (by omega)
          have w2 : 2 * (p : Int) + (q : Int) = (n : Int) := by omega
          have w3 : IntKind.i64.wrap (n : Int) = (n : Int) := wrap_in _ (by omega) (by omega)
          have w4 : IntKind.i64.wrap (m : Int) = (m : Int) := wrap_in _ (by omega) (by omega)
          have hmk := mk4_run wr
          have HR := Lib.hid hrow
          clear hrow hpi hqm cp0 cq0 p01 q01 hl hm hn
          go_wp2
          clear hmk
          have cn : (wr.alloc (.cells zero4 3)).cell? ⟨wr.heap.size, n, none⟩ = some (.int .i64 0) := cell_top rfl (by
            have : n = 0 ∨ n = 1 ∨ n = 2 ∨ n = 3 := by omega
            rcases this with rfl | rfl | rfl | rfl <;> rfl)
          have cf : (wr.alloc (.cells zero4 3)).frozen? ⟨wr.heap.size, n, none⟩ = false := by simp
          generalize hwm : wr.alloc (.cells zero4 3) = wm at *
          have HM := Lib.hid hwm
          clear hwm
          go_region_held3 (fun w' => w'.cell? ⟨b1, o1 + i, none⟩ = some (.int .i64 p) ∧ w'.cell? ⟨b1, o1 + m, none⟩ = some (.int .i64 q)) (first | exact ⟨cp, cq⟩ | exact ⟨(World.cell?_setCell_far _ _ _ _ hne).trans cp, (World.cell?_setCell_far _ _ _ _ hne).trans cq⟩) (fail)
          have hrow : OwnV 3 wr.heap.size (wr.heap.size + 1) (wm.setCell ⟨wr.heap.size, n, none⟩ (.int .i64 whole)).drew (.slice (some ⟨wr.heap.size, 0, none⟩) 4 4) (ints (rowOf (playN X ps whole) i j)) := by
            have h1 := (hz.set (g := wr.heap.size) (j := n) rfl (by simpa using hn4) (.int .i64 whole)).of_block (w' := (wm.setCell ⟨wr.heap.size, n, none⟩ (.int .i64 whole)).drew) (fun _ _ => rfl)
            rw [HR.out]
            simpa [ints] using h1
          have hsz2 : (wm.setCell ⟨wr.heap.size, n, none⟩ (.int .i64 whole)).drew.heap.size = wr.heap.size + 1 := by
            show (wm.setCell ⟨wr.heap.size, n, none⟩ (.int .i64 whole)).heap.size = _
            rw [World.size_setCell, ← HM.out, World.size_alloc]
          have hb1 : Below wr.heap.size wr (wm.setCell ⟨wr.heap.size, n, none⟩ (.int .i64 whole)).drew := by
            rw [← HM.out]; exact (((Below.refl _ _).alloc (Nat.le_refl _) _).setCell (Nat.le_refl _) _).drew
          clear hz cn cf cp cq
          generalize (wm.setCell ⟨wr.heap.size, n, none⟩ (.int .i64 whole)).drew = wd at *
          have hrow' : OwnV 3 wr.heap.size wd.heap.size wd (.slice (some ⟨wr.heap.size, 0, none⟩) 4 4) (ints (rowOf (playN X ps whole) i j)) := by rw [hsz2]; exact hrow
          clear hrow hsz2
          have hrow := hrow'
          have hn9 : i * Y + j ≤ 9 := by
            have h1 : i * Y + j < (i + 1) * Y := by rw [Nat.succ_mul]; omega
            have h2 : (i + 1) * Y ≤ X * Y := Nat.mul_le_mul_right _ (by omega)
            omega
          clear hrow'
          have hRd := hR.later hb1
          obtain ⟨⟨g0, g1, g2, g3⟩, gf⟩ := hRd.cells
          have ht := hRd.rows.top
          have hlen := hRd.rows.len
          rw [rowsTo_length] at hlen ht g3
          have HN := Lib.hid hlen
          have hn9 : vs.length ≤ 4194304 := by omega
          have hlo := hRd.b4
          clear hlen
          go_wp2_with (at_builtin; refine append1_at rfl _ _ 24 27 rfl Try.underlying24 Try.infoInts rfl ht rfl rfl rfl rfl hn9 (by omega) hlo ?_)
          intro a2 c2 w2 hT2 hg2
          have hp := hR.push hb1 hrow hT2 (by rw [rowsTo_length]; exact hg2) (by rw [HN.out]; simp)
          obtain ⟨hp1, f1, f2⟩ := hp
          clear g0 g1 g2 g3 gf hR hRd ht hT2 hrow
          rw [← rowsTo_succ (playN X ps whole) Y i j hjt] at hp1
          go_wp2
          go_roundw
          case rel => exact ⟨j + 1, by omega, by go_num, a2, c2, _, hp1⟩
          case measure => simp [intOf]; omega
        · obtain rfl : j = Y := by omega
          go_wp2
          go_roundw
          case rel => exact ⟨i + 1, by omega, by go_num, a, c, vs, by rw [Nat.succ_mul]; exact hR⟩
          case measure => simp [intOf]; omega
    · obtain rfl : i = X := by omega
      have hrt := hret3.kept hR.below (by omega)
      obtain ⟨⟨g0, g1, g2, g3⟩, gf⟩ := hR.cells
      have hrows := hR.rows
      have B5 := BW.trans (hR.below.mono (by have := BW.size; omega))
      rw [rowsTo_length] at g3 hrows
      obtain ⟨e0, e1, e2, e3, ef⟩ := hrt
      have hend := box_out (g := w.heap.size) B5 (by omega) (by omega) hrows (.int .i64 i) (.int .i64 Y) (.int .i64 whole) (.slice a (i * Y) c)
      clear hrows hR
      go_wp2
      refine bodyPost_ret (v := .agg #[.int .i64 i, .int .i64 Y, .int .i64 whole, .slice a (i * Y) c]) ?_ rfl ?_
      · simp [results, Try.results72, go_sem, e0, e1, e2, e3]
      · exact ⟨a, c, vs, rfl, hend.1, hend.2⟩
end Go.Proofs.Ytnmnmnpeoiblhaa
set_option linter.unusedSimpArgs false
set_option linter.unusedVariables false
namespace Go.Proofs.Ytnmnmnpeoiblhaa
open Go.RowKit

def playRows (x y : Int) (ps : List Int) : List (List Int) := rowsTo (playN x ps 1) y.toNat (x.toNat * y.toNat)
def playW (x y : Int) (f : List (List Int)) (ps : List Int) : Int := worthR f (playRows x y ps)
theorem playRows_len (x y : Int) (ps : List Int) : (playRows x y ps).length = x.toNat * y.toNat := by simp [playRows]
theorem wRow_one {X Y : Nat} {f : List (List Int)} {ps : List Int} {i k p q n : Nat} (hi : i < X) (hk : k < Y) (hp : ps[i]? = some (p : Int)) (hq : ps[X + k]? = some (q : Int)) (p2 : p < 2) (q2 : q < 2) (hn : i * Y + k = n) :
    wRow f (playRows X Y ps) n 4 = cellAt f n (2 * p + q) := by
  have hr : (playRows X Y ps)[n]? = some ((List.replicate 4 (0 : Int)).set (2 * p + q) 1) := by
    unfold playRows
    rw [← hn, Int.toNat_natCast, Int.toNat_natCast, rowsTo_get _ _ _ _ _ hk (by
      have : (i + 1) * Y ≤ X * Y := Nat.mul_le_mul_right Y hi
      rw [Nat.add_mul] at this
      omega)]
    rw [play_row (x := (X : Int)) hp hq p2 q2 rfl]
  have c : ∀ t, t < 4 → cellAt (playRows X Y ps) n t = if t = 2 * p + q then 1 else 0 := by
    intro t ht
    unfold cellAt
    rw [show (playRows X Y ps).getD n [] = (List.replicate 4 (0 : Int)).set (2 * p + q) 1 by rw [List.getD_eq_getElem?_getD, hr, Option.getD_some]]
    have hp' : p = 0 ∨ p = 1 := by omega
    have hq' : q = 0 ∨ q = 1 := by omega
    have ht' : t = 0 ∨ t = 1 ∨ t = 2 ∨ t = 3 := by omega
    rcases hp' with rfl | rfl <;> rcases hq' with rfl | rfl <;> rcases ht' with rfl | rfl | rfl | rfl <;> rfl
  rw [wRow_succ, wRow_succ, wRow_succ, wRow_succ, wRow_zero, c 0 (by omega), c 1 (by omega), c 2 (by omega), c 3 (by omega)]
  have hp' : p = 0 ∨ p = 1 := by omega
  have hq' : q = 0 ∨ q = 1 := by omega
  rcases hp' with rfl | rfl <;> rcases hq' with rfl | rfl <;> simp
theorem playW_eq {X Y : Nat} (f : List (List Int)) (ps : List Int) : playW X Y f ps = worthTo f (playRows X Y ps) (X * Y) := by
  unfold playW worthR; rw [playRows_len]; rfl
/-- The numbers of a play by places. -/
theorem bits_get {ps : List Int} {n : Int} (h : bitsB ps n = true) {j : Nat} (hj : (j : Int) < n) : ∃ p : Nat, ps[j]? = some (p : Int) ∧ p < 2 := by
  obtain ⟨h1, h2⟩ := bits_iff.1 h
  have hl : j < ps.length := by omega
  obtain ⟨k0, k1⟩ := allIn_get h1 (List.getElem?_eq_getElem hl)
  exact ⟨(ps[j]).toNat, by rw [List.getElem?_eq_getElem hl]; congr 1; omega, by omega⟩
end Go.Proofs.Ytnmnmnpeoiblhaa
set_option linter.unusedSimpArgs false
set_option linter.unusedVariables false
namespace Go.Proofs.Ytnmnmnpeoiblhaa
open Go.RowKit

theorem funcB_sizes {x y : Int} {f : List (List Int)} (h : sizesB x y = false) : funcB x y f = false := by unfold funcB; rw [h]; rfl
theorem funcB_len {x y : Int} {f : List (List Int)} (h : ¬ (f.length : Int) = x * y) : funcB x y f = false := by unfold funcB; rw [decide_eq_false h]; simp
theorem funcB_row {x y : Int} {f : List (List Int)} {k : Nat} {rs : List Int} (h : f[k]? = some rs) (hr : funcRowB rs = false) : funcB x y f = false := by
  unfold funcB; rw [all_false h hr]; simp
theorem funcRow_in {rs : List Int} (h : allIn rs (-99) 99 = false) : funcRowB rs = false := by unfold funcRowB; rw [h]; simp
theorem funcRow_len {rs : List Int} (h : ¬ rs.length = 4) : funcRowB rs = false := by unfold funcRowB; rw [decide_eq_false h]; simp
theorem sizes_mul {x y : Int} (h : sizesB x y = true) : 0 ≤ x * y ∧ x * y ≤ 9 := by
  obtain ⟨⟨hx0, hx1⟩, hy0, hy1⟩ := sizesB_iff.1 h
  have e1 : x = 1 ∨ x = 2 ∨ x = 3 := by omega
  rcases e1 with e1 | e1 | e1 <;> rw [e1] <;> omega

set_option maxHeartbeats 1600000 in
theorem isFunctional_any (x y : Int) (v : Value) (f : List (List Int)) (w : World) (h : RdII w v f) :
    Calls Try.prog 93 #[.int .i64 x, .int .i64 y, v] w fun e w' => e = .returned (.bool (funcB x y f)) ∧ w = w' := by
  obtain ⟨a, ba, off, cap, rfl, hm, ha, hc⟩ := h
  unfold maxLen at hm
  go_enter Try.func93, Try.ntmps93
  go_wp2
  go_loop [11] (fun s => ∃ n : Nat, n ≤ f.length ∧ s = .int .i64 n ∧ ∀ (j : Nat) (rs : List Int), j < n → f[j]? = some rs → funcRowB rs = true) (fun s => f.length - (intOf s).toNat)
  case atStart => exact ⟨0, by omega, rfl, fun j rs hj => by omega⟩
  case round =>
    obtain ⟨n, hn, rfl, hA⟩ := hrel
    have HA := Lib.hid hA
    clear hA
    by_cases hlt : n < f.length
    · obtain rfl := ha (by omega)
      obtain ⟨rs, hrs⟩ : ∃ rs, f[n]? = some rs := ⟨_, List.getElem?_eq_getElem hlt⟩
      obtain ⟨v', hcell, hrd⟩ := hc n rs hrs
      have hrd' := hrd
      obtain ⟨a2, b2, o2, c2, rfl, hm2, _, _⟩ := hrd'
      unfold maxLen at hm2
      have HX := Lib.hid hrs
      clear hc hrs
      by_cases h4 : rs.length = 4
      · have h4z : ((rs.length : Int) != 4) = false := by simp; omega
        have H4 := Lib.hid h4
        clear h4
        rcases Bool.eq_false_or_eq_true (allIn rs (-99) 99) with h5 | h5
        · go_wp2_with (go_at_call 62; refine (allWithin_any _ rs _ _ _ hrd).mono ?_; rintro e w' ⟨rfl, rfl⟩)
          go_round
          case rel => exact ⟨n + 1, by omega, by go_num, fun j rs' hj hr' => by
            by_cases e : j = n
            · subst e; rw [HX.out] at hr'; cases hr'
              unfold funcRowB
              rw [decide_eq_true H4.out, h5]; rfl
            · exact HA.out j rs' (by omega) hr'⟩
          case measure => simp [intOf]; omega
        · go_wp2_with (go_at_call 62; refine (allWithin_any _ rs _ _ _ hrd).mono ?_; rintro e w' ⟨rfl, rfl⟩)
          go_ret
          exact ⟨ret_bool (funcB_row HX.out (funcRow_in h5)).symm, rfl⟩
      · have h4z : ((rs.length : Int) != 4) = true := by simp; omega
        have H4 := Lib.hid h4
        clear h4
        go_wp2
        go_ret
        exact ⟨ret_bool (funcB_row HX.out (funcRow_len H4.out)).symm, rfl⟩
    · obtain rfl : n = f.length := by omega
      rcases Bool.eq_false_or_eq_true (sizesB x y) with h1 | h1
      · obtain ⟨hm0, hm9⟩ := sizes_mul h1
        by_cases h3 : (f.length : Int) = x * y
        · have h3z : ((f.length : Int) == x * y) = true := by simp [h3]
          have H3 := Lib.hid h3
          clear h3
          go_wp2_with (go_at_call 61; refine (areQuestions_any _ _ _).mono ?_; rintro e w' ⟨rfl, rfl⟩)
          go_ret
          exact ⟨ret_bool (by unfold funcB; rw [h1, decide_eq_true H3.out, all_true (fun j rs hx => HA.out j rs (List.getElem?_eq_some_iff.1 hx).1 hx)]; rfl), rfl⟩
        · have h3z : ((f.length : Int) == x * y) = false := by simp [h3]
          have H3 := Lib.hid h3
          clear h3
          go_wp2_with (go_at_call 61; refine (areQuestions_any _ _ _).mono ?_; rintro e w' ⟨rfl, rfl⟩)
          go_ret
          exact ⟨ret_bool (funcB_len H3.out).symm, rfl⟩
      · go_wp2_with (go_at_call 61; refine (areQuestions_any _ _ _).mono ?_; rintro e w' ⟨rfl, rfl⟩)
        go_ret
        exact ⟨ret_bool (funcB_sizes h1).symm, rfl⟩
end Go.Proofs.Ytnmnmnpeoiblhaa
