/- The reference's cursor that draws choices from bytes: what its steps may hand back, and that they turn the cursor's own block alone. What a law's variables hold while it goes on: boxes, lists, tables, bytes. -/
import Derived.Test.YtcifpfdlkpddeaaGreatDoorQxai
import Derived.Test.YtcifpfdlkpddeaaGreatDoorQxab
import Derived.Laws.Bits64b
set_option linter.unusedSimpArgs false
set_option linter.unusedVariables false
namespace Go.Proofs.YtcifpfdlkpddeaaGreatDoor
open Go.RowKit Go.WideShapes

theorem wrapC64 (x : Int) (h0 : -9223372036854775808 ≤ x) (h1 : x ≤ 9223372036854775807) : IntKind.i64.wrap x = x := IntWalk.i64_in _ (by omega)
/-- A slice of n bytes, none of them in block g. -/
def RdC (g : Nat) (w : World) (v : Value) (n : Nat) : Prop :=
  ∃ (a : Option Addr) (b off cap : Nat), v = .slice a n cap ∧ n ≤ 65536 ∧ (0 < n → a = some ⟨b, off, none⟩) ∧ b ≠ g ∧ ∀ j : Nat, j < n → ∃ x : Nat, x ≤ 255 ∧ w.cell? ⟨b, off + j, none⟩ = some (.int .u8 x)
theorem RdC.mid {g : Nat} {w w' : World} {v : Value} {n : Nat} (h : RdC g w v n) (hm : Mid g (g + 1) w w') : RdC g w' v n := by
  obtain ⟨a, b, off, cap, hv, hn, ha, hb, hc⟩ := h
  refine ⟨a, b, off, cap, hv, hn, ha, hb, fun j hj => ?_⟩
  obtain ⟨x, hx, h1⟩ := hc j hj
  have h2 := World.block_lt_of_cell? _ _ h1
  exact ⟨x, hx, by rw [show w'.cell? ⟨b, off + j, none⟩ = w.cell? ⟨b, off + j, none⟩ from World.cell?_of_block (w := w) (hm.block b h2 (by omega))]; exact h1⟩
/-- The cursor in block g. -/
structure Cur (g : Nat) (v : Value) (A : Nat) (w : World) : Prop where
  code : w.cell? ⟨g, 0, none⟩ = some v
  pos : ∃ k : Nat, k ≤ A ∧ w.cell? ⟨g, 1, none⟩ = some (.int .i64 k)
  seed : ∃ s : Int, 0 ≤ s ∧ s < 18446744073709551616 ∧ w.cell? ⟨g, 2, none⟩ = some (.int .u64 s)
  fz : ∀ j, w.frozen? ⟨g, j, none⟩ = false

theorem u64wrap_bd (x : Int) : 0 ≤ IntKind.u64.wrap x ∧ IntKind.u64.wrap x < 18446744073709551616 := by
  simp only [IntKind.wrap, IntKind.signed, IntKind.bits]
  simp
  omega
theorem and255 (s : Int) (h0 : 0 ≤ s) (h1 : s < 18446744073709551616) : ∃ y : Nat, y ≤ 255 ∧ bits .and .u64 (s / 1099511627776) 255 = (y : Int) := by
  obtain ⟨m, hm⟩ : ∃ m : Nat, s / 1099511627776 = (m : Int) := ⟨(s / 1099511627776).toNat, by omega⟩
  refine ⟨m &&& 255, Nat.and_le_right, ?_⟩
  rw [hm]
  exact bits_and_u64_nat m 255 (by omega) (by decide)
theorem cur_after {g : Nat} {v : Value} {A k : Nat} {S : Int} {w : World} (c0 : w.cell? ⟨g, 0, none⟩ = some v) (hk : k ≤ A) {u1 u2 : Value} (c1 : w.cell? ⟨g, 1, none⟩ = some u1) (c2 : w.cell? ⟨g, 2, none⟩ = some u2) (fz : ∀ j, w.frozen? ⟨g, j, none⟩ = false) (h0 : 0 ≤ S) (h1 : S < 18446744073709551616) (q r : Nat) :
    Cur g v (A + 1) ((((w.drewN q).setCell ⟨g, 1, none⟩ (.int .i64 ((k : Int) + 1))).setCell ⟨g, 2, none⟩ (.int .u64 S)).drewN r) ∧ Mid g (g + 1) w ((((w.drewN q).setCell ⟨g, 1, none⟩ (.int .i64 ((k : Int) + 1))).setCell ⟨g, 2, none⟩ (.int .u64 S)).drewN r) := by
  have d1 : (w.drewN q).cell? ⟨g, 1, none⟩ = some u1 := c1
  have d2 : (w.drewN q).cell? ⟨g, 2, none⟩ = some u2 := c2
  have e2 : ((w.drewN q).setCell ⟨g, 1, none⟩ (.int .i64 ((k : Int) + 1))).cell? ⟨g, 2, none⟩ = some u2 := (World.cell?_setCell_other _ _ _ _ (by simp)).trans d2
  refine ⟨⟨?_, ⟨k + 1, by omega, ?_⟩, ⟨S, h0, h1, ?_⟩, ?_⟩, ?_⟩
  · show (((w.drewN q).setCell ⟨g, 1, none⟩ _).setCell ⟨g, 2, none⟩ _).cell? ⟨g, 0, none⟩ = _
    rw [World.cell?_setCell_other _ _ _ _ (by simp), World.cell?_setCell_other _ _ _ _ (by simp)]
    exact c0
  · show (((w.drewN q).setCell ⟨g, 1, none⟩ _).setCell ⟨g, 2, none⟩ _).cell? ⟨g, 1, none⟩ = _
    rw [World.cell?_setCell_other _ _ _ _ (by simp), World.cell?_setCell_same _ _ _ d1]
    simp
  · show (((w.drewN q).setCell ⟨g, 1, none⟩ _).setCell ⟨g, 2, none⟩ _).cell? ⟨g, 2, none⟩ = _
    exact World.cell?_setCell_same _ _ _ e2
  · intro j
    show (((w.drewN q).setCell ⟨g, 1, none⟩ _).setCell ⟨g, 2, none⟩ _).frozen? ⟨g, j, none⟩ = _
    have := fz j
    simp only [World.frozen?_setCell]
    exact this
  · refine ⟨rfl, rfl, rfl, ?_, fun b hb hx => ?_⟩
    · show w.heap.size ≤ (((w.drewN q).setCell ⟨g, 1, none⟩ _).setCell ⟨g, 2, none⟩ _).heap.size
      rw [World.size_setCell, World.size_setCell]
      exact Nat.le_refl _
    · show (((w.drewN q).setCell ⟨g, 1, none⟩ _).setCell ⟨g, 2, none⟩ _).heap[b]? = _
      rw [Below.heap_setCell _ _ _ _ (by simp; omega), Below.heap_setCell _ _ _ _ (by simp; omega)]
      rfl

set_option maxRecDepth 20000 in
set_option maxHeartbeats 2000000 in
theorem next_any (g : Nat) (v : Value) (n A : Nat) (w : World) (hc : Cur g v A w) (hv : RdC g w v n) (hA : A ≤ 1099511627776) :
    Calls Tryz.prog 90 #[.pointer (some ⟨g, 0, none⟩)] w fun e w' => ∃ x : Nat, e = .returned (.int .i64 x) ∧ x ≤ 255 ∧ Cur g v (A + 1) w' ∧ Mid g (g + 1) w w' := by
  obtain ⟨c0, ⟨k, hk, c1⟩, ⟨s, s0, s1, c2⟩, fz⟩ := hc
  obtain ⟨a, b, off, cap, rfl, hn, ha, hb, hcl⟩ := hv
  have f1 := fz 1
  have f2 := fz 2
  have hg := World.block_lt_of_cell? _ _ c0
  have KA := Lib.hid (fun (S : Int) (h0 : 0 ≤ S) (h1 : S < 18446744073709551616) (q r : Nat) => cur_after c0 hk c1 c2 fz h0 h1 q r)
  by_cases hlt : k < n
  · obtain rfl := ha (by omega)
    obtain ⟨x, hx, h1⟩ := hcl k hlt
    clear hcl fz
    have hle : (k : Int) + 1 ≤ n := by omega
    go_enter Tryz.func90, Tryz.ntmps90
    go_wp2
    go_quiet (fail)
    go_wp2
    go_quiet (fail)
    go_wp2
    obtain ⟨S0, S1⟩ := u64wrap_bd (IntKind.u64.wrap (IntKind.u64.wrap (s * 6364136223846793005) + (x : Int)) + 462197)
    generalize IntKind.u64.wrap (IntKind.u64.wrap (IntKind.u64.wrap (s * 6364136223846793005) + (x : Int)) + 462197) = S at *
    go_quiet (fail)
    go_wp2
    go_ret
    exact ⟨x, rfl, hx, KA.out S S0 S1 _ _⟩
  · clear hcl fz
    go_enter Tryz.func90, Tryz.ntmps90
    go_wp2
    go_quiet (fail)
    go_wp2
    obtain ⟨S0, S1⟩ := u64wrap_bd (IntKind.u64.wrap (IntKind.u64.wrap (s * 6364136223846793005)) + 462197)
    generalize IntKind.u64.wrap (IntKind.u64.wrap (IntKind.u64.wrap (s * 6364136223846793005)) + 462197) = S at *
    obtain ⟨y, hy, hbit⟩ := and255 S S0 S1
    have hyw : IntKind.i64.wrap (y : Int) = (y : Int) := wrapC64 _ (by omega) (by omega)
    go_quiet (fail)
    go_wp2
    go_ret
    exact ⟨y, rfl, hy, KA.out S S0 S1 _ _⟩

theorem tmod_lt {x m : Nat} (hm : 1 ≤ m) : ((x : Int).tmod (m : Int)) = ((x % m : Nat) : Int) := by
  rw [Int.tmod_eq_emod_of_nonneg (by omega)]
  rfl

set_option maxRecDepth 20000 in
set_option maxHeartbeats 2000000 in
theorem pick_any (g : Nat) (v : Value) (n A m : Nat) (w : World) (hc : Cur g v A w) (hv : RdC g w v n) (hA : A ≤ 1000000) (h1 : 1 ≤ m) (hm : m ≤ 65536) :
    Calls Tryz.prog 66 #[.pointer (some ⟨g, 0, none⟩), .int .i64 m] w fun e w' => ∃ x : Nat, e = .returned (.int .i64 x) ∧ x < m ∧ Cur g v (A + 2) w' ∧ Mid g (g + 1) w w' := by
  have hup : ∀ {W : World} {B C : Nat}, B ≤ C → Cur g v B W → Cur g v C W := fun hBC h => ⟨h.code, (by obtain ⟨k, hk, h1⟩ := h.pos; exact ⟨k, by omega, h1⟩), h.seed, h.fz⟩
  have C1 := next_any g v n A w hc hv (by omega)
  have C2 := fun W (h1 : Cur g v (A + 1) W) (h2 : RdC g W v n) => next_any g v n (A + 1) W h1 h2 (by omega)
  by_cases h2 : m = 1
  · have h2' : ((m : Int) ≤ 1) := by omega
    go_enter Tryz.func66, Tryz.ntmps66
    go_wp2
    go_ret
    exact ⟨0, rfl, by omega, hup (by omega) hc, Mid.refl _ _ _⟩
  · have h2' : ¬ ((m : Int) ≤ 1) := by omega
    have hm0 : ¬ (m : Int) = 0 := by omega
    clear h2
    go_enter Tryz.func66, Tryz.ntmps66
    go_wp2_with fail
    refine C1.mono ?_
    rintro e w1 ⟨x, rfl, hx, hc1, hm1⟩
    have hv1 := hv.mid hm1
    by_cases h3 : (200 : Int) < (m : Int)
    · go_wp2_with fail
      refine (C2 _ hc1 hv1).mono ?_
      rintro e w2 ⟨x2, rfl, hx2, hc2, hm2⟩
      obtain ⟨z, hz⟩ : ∃ z : Nat, z = x * 256 + x2 := ⟨_, rfl⟩
      have e1 : (x : Int) * 256 + (x2 : Int) = (z : Int) := by omega
      have e2 := tmod_lt (x := z) h1
      have e3 : IntKind.i64.wrap ((z % m : Nat) : Int) = ((z % m : Nat) : Int) := wrapC64 _ (by omega) (by have := Nat.mod_lt z h1; omega)
      have e4 : z % m < m := Nat.mod_lt z h1
      have hzb : z ≤ 70000 := by omega
      generalize z % m = r at *
      clear hz C1 C2
      go_wp2
      go_ret
      exact ⟨r, rfl, e4, hc2, hm1.trans hm2⟩
    · have e2 := tmod_lt (x := x) h1
      have e3 : IntKind.i64.wrap ((x % m : Nat) : Int) = ((x % m : Nat) : Int) := wrapC64 _ (by omega) (by have := Nat.mod_lt x h1; omega)
      have e4 : x % m < m := Nat.mod_lt x h1
      generalize x % m = r at *
      clear C1 C2
      go_wp2
      go_ret
      exact ⟨r, rfl, e4, hup (by omega) hc1, hm1⟩

theorem one_any (g : Nat) (v : Value) (n A m : Nat) (w : World) (hc : Cur g v A w) (hv : RdC g w v n) (hA : A ≤ 1000000) (h1 : 1 ≤ m) (hm : m ≤ 65536) :
    Calls Tryz.prog 53 #[.pointer (some ⟨g, 0, none⟩), .int .i64 m] w fun e w' => ∃ b : Bool, e = .returned (.bool b) ∧ Cur g v (A + 2) w' ∧ Mid g (g + 1) w w' := by
  have C := pick_any g v n A m w hc hv hA h1 hm
  go_enter Tryz.func53, Tryz.ntmps53
  go_wp2_with fail
  refine C.mono ?_
  rintro e w1 ⟨x, rfl, hx, hc1, hm1⟩
  go_wp2
  go_ret
  exact ⟨_, rfl, hc1, hm1⟩

theorem among_any (g : Nat) (v : Value) (n A lb : Nat) (xs : List Int) (w : World) (hc : Cur g v A w) (hv : RdC g w v n) (hA : A ≤ 1000000) (hl : 1 ≤ xs.length) (hl2 : xs.length ≤ 200) (hb : lb ≠ g)
    (hs : ∀ (j : Nat) (x : Int), xs[j]? = some x → w.cell? ⟨lb, j, none⟩ = some (.int .i64 x)) :
    Calls Tryz.prog 60 #[.pointer (some ⟨g, 0, none⟩), .slice (some ⟨lb, 0, none⟩) xs.length xs.length] w fun e w' => ∃ x ∈ xs, e = .returned (.int .i64 x) ∧ Cur g v (A + 2) w' ∧ Mid g (g + 1) w w' := by
  have C := pick_any g v n A xs.length w hc hv hA hl (by omega)
  go_enter Tryz.func60, Tryz.ntmps60
  go_wp2_with fail
  refine C.mono ?_
  rintro e w1 ⟨k, rfl, hk, hc1, hm1⟩
  have hg := List.getElem?_eq_getElem hk
  have hcw := hs k _ hg
  have hcell : w1.cell? ⟨lb, k, none⟩ = some (.int .i64 xs[k]) := by
    rw [World.cell?_of_block (w := w) (a := ⟨lb, k, none⟩) (hm1.block lb (World.block_lt_of_cell? _ _ hcw) (by omega))]
    exact hcw
  have hmem := List.mem_of_getElem? hg
  generalize xs[k] = x at *
  clear hs hcw hg C
  go_wp2
  go_ret
  exact ⟨x, hmem, rfl, hc1, hm1⟩
/-- A slice of n bytes, wherever it lies. -/
def RdB (w : World) (v : Value) (n : Nat) : Prop :=
  ∃ (a : Option Addr) (b off cap : Nat), v = .slice a n cap ∧ n ≤ 65536 ∧ (0 < n → a = some ⟨b, off, none⟩) ∧ ∀ j : Nat, j < n → ∃ x : Nat, x ≤ 255 ∧ w.cell? ⟨b, off + j, none⟩ = some (.int .u8 x)
theorem RdB.kept {w w' : World} {v : Value} {n : Nat} (h : RdB w v n) (hb : Below w.heap.size w w') : RdB w' v n := by
  obtain ⟨a, b, off, cap, hv, hn, ha, hc⟩ := h
  refine ⟨a, b, off, cap, hv, hn, ha, fun j hj => ?_⟩
  obtain ⟨x, hx, h1⟩ := hc j hj
  exact ⟨x, hx, by rw [hb.cell (p := ⟨b, off + j, none⟩) (World.block_lt_of_cell? _ _ h1)]; exact h1⟩
theorem RdB.cur {w : World} {v : Value} {n : Nat} (h : RdB w v n) (o : Obj) : RdC w.heap.size (w.alloc o) v n := by
  obtain ⟨a, b, off, cap, hv, hn, ha, hc⟩ := h
  by_cases h0 : 0 < n
  · obtain ⟨x0, _, h1⟩ := hc 0 h0
    have hb := World.block_lt_of_cell? _ _ h1
    simp only at hb
    refine ⟨a, b, off, cap, hv, hn, ha, by omega, fun j hj => ?_⟩
    obtain ⟨x, hx, h2⟩ := hc j hj
    exact ⟨x, hx, by rw [((Below.refl w.heap.size w).alloc (Nat.le_refl _) o).cell (p := ⟨b, off + j, none⟩) hb]; exact h2⟩
  · exact ⟨a, w.heap.size + 1, off, cap, hv, hn, fun h => absurd h h0, by omega, fun j hj => by omega⟩
theorem cell_made (w : World) (T : Nat) (vs : List Value) (j : Nat) (u : Value) (h : vs[j]? = some u) : (w.alloc (.cells vs.toArray T)).cell? ⟨w.heap.size, j, none⟩ = some u := by
  rw [cell_of_row (w.alloc (.cells vs.toArray T)) w.heap.size j vs.toArray T (0, 0) (by show (w.heap.push _)[w.heap.size]? = _; simp)]
  simpa using h
theorem Cur.start (w : World) (v : Value) : Cur w.heap.size v 0 (w.alloc (.cells #[v, .int .i64 0, .int .u64 0] 75)) :=
  ⟨cell_made w _ [v, .int .i64 0, .int .u64 0] 0 _ rfl, ⟨0, Nat.le_refl _, cell_made w _ [v, .int .i64 0, .int .u64 0] 1 _ rfl⟩, ⟨0, by decide, by decide, cell_made w _ [v, .int .i64 0, .int .u64 0] 2 _ rfl⟩,
    fun j => by
      have : (w.alloc (.cells #[v, .int .i64 0, .int .u64 0] 75)).heap[w.heap.size]? = some (.cells #[v, .int .i64 0, .int .u64 0] 75 (0, 0)) := by show (w.heap.push _)[w.heap.size]? = _; simp
      unfold World.frozen?
      rw [this]
      rfl⟩
theorem Cur.of_block {g A : Nat} {v : Value} {w w' : World} (h : Cur g v A w) (hg : w'.heap[g]? = w.heap[g]?) : Cur g v A w' := by
  have hc : ∀ j, w'.cell? ⟨g, j, none⟩ = w.cell? ⟨g, j, none⟩ := fun j => World.cell?_of_block (w := w) (a := ⟨g, j, none⟩) hg
  refine ⟨by rw [hc]; exact h.code, by rw [hc]; exact h.pos, by rw [hc]; exact h.seed, fun j => ?_⟩
  have := h.fz j
  unfold World.frozen? at this ⊢
  simp only at this ⊢
  rw [hg]
  exact this
theorem Cur.lt {g A : Nat} {v : Value} {w : World} (h : Cur g v A w) : g < w.heap.size := World.block_lt_of_cell? _ _ h.code
theorem Cur.alloc {g A : Nat} {v : Value} {w : World} (h : Cur g v A w) (o : Obj) : Cur g v A (w.alloc o) := h.of_block (((Below.refl w.heap.size w).alloc (Nat.le_refl _) o).block g h.lt)
theorem Cur.up {g A B : Nat} {v : Value} {w : World} (h : Cur g v A w) (hAB : A ≤ B) : Cur g v B w :=
  ⟨h.code, (by obtain ⟨k, hk, h1⟩ := h.pos; exact ⟨k, by omega, h1⟩), h.seed, h.fz⟩
theorem mid_alloc (g : Nat) (w : World) (o : Obj) : Mid g (g + 1) w (w.alloc o) := Mid.of_below ((Below.refl w.heap.size w).alloc (Nat.le_refl _) o) (Nat.le_refl _)
theorem mid_below {w w' : World} {o : Obj} (h : Mid w.heap.size (w.heap.size + 1) (w.alloc o) w') : Below w.heap.size w w' :=
  ((Below.refl w.heap.size w).alloc (Nat.le_refl _) o).trans (h.below (Nat.le_refl _) (by simp))

theorem among_made (g : Nat) (v : Value) (n A : Nat) (xs : List Int) (w : World) (hc : Cur g v A w) (hv : RdC g w v n) (hA : A ≤ 1000000) (hl : 1 ≤ xs.length) (hl2 : xs.length ≤ 200) :
    Calls Tryz.prog 60 #[.pointer (some ⟨g, 0, none⟩), .slice (some ⟨w.heap.size, 0, none⟩) xs.length xs.length] (w.alloc (.cells (ints xs).toArray 3)) fun e w' => ∃ x ∈ xs, e = .returned (.int .i64 x) ∧ Cur g v (A + 2) w' ∧ Mid g (g + 1) w w' := by
  refine (among_any g v n A w.heap.size xs _ (hc.alloc _) (hv.mid (mid_alloc _ _ _)) hA hl hl2 (by have := hc.lt; omega) (fun j x hx => cell_made w _ (ints xs) j _ (by simp [ints, hx]))).mono ?_
  rintro e w' ⟨x, hx, he, h1, h2⟩
  exact ⟨x, hx, he, h1, (mid_alloc _ _ _).trans h2⟩

theorem RdB.curAt {w W : World} {v : Value} {n : Nat} (h : RdB w v n) (hB : Below w.heap.size w W) : RdC w.heap.size W v n := by
  obtain ⟨a, b, off, cap, hv, hn, ha, hc⟩ := h
  by_cases h0 : 0 < n
  · obtain ⟨x0, _, h1⟩ := hc 0 h0
    have hb := World.block_lt_of_cell? _ _ h1
    simp only at hb
    refine ⟨a, b, off, cap, hv, hn, ha, by omega, fun j hj => ?_⟩
    obtain ⟨x, hx, h2⟩ := hc j hj
    exact ⟨x, hx, by rw [hB.cell (p := ⟨b, off + j, none⟩) hb]; exact h2⟩
  · exact ⟨a, w.heap.size + 1, off, cap, hv, hn, fun h => absurd h h0, by omega, fun j hj => by omega⟩

end Go.Proofs.YtcifpfdlkpddeaaGreatDoor
set_option linter.unusedSimpArgs false
set_option linter.unusedVariables false
namespace Go.Proofs.YtcifpfdlkpddeaaGreatDoor
open Go.RowKit

theorem RdI.stay {w w' : World} {v : Value} {xs : List Int} (h : RdI w v xs) (hb : Below w.heap.size w w') : RdI w' v xs := h.kept (Nat.le_refl _) hb
theorem RdII.stay {w w' : World} {v : Value} {rss : List (List Int)} (h : RdII w v rss) (hb : Below w.heap.size w w') : RdII w' v rss := h.kept (Nat.le_refl _) hb
theorem RdB.stay {w w' : World} {v : Value} {n : Nat} (h : RdB w v n) (hb : Below w.heap.size w w') : RdB w' v n := h.kept hb
theorem RdI.cells {w : World} {a : Option Addr} {n c : Nat} {xs : List Int} (h : RdI w (.slice a n c) xs) : ∃ b off, (0 < xs.length → a = some ⟨b, off, none⟩) ∧ xs.length ≤ maxLen ∧ ∀ (j : Nat) (x : Int), xs[j]? = some x → w.cell? ⟨b, off + j, none⟩ = some (.int .i64 x) := by
  obtain ⟨a1, b, off, c1, hv, hm, ha, hc⟩ := h
  injection hv with q1 q2 q3
  subst q1
  exact ⟨b, off, ha, hm, hc⟩
/-- A box that a variable holds. -/
structure BoxIn (W : World) (g : Nat) (b : BoxD) (a : Option Addr) (c : Nat) : Prop where
  spot : BoxAt W g b.X b.Y b.Whole (.slice a b.Rows.length c)
  rd : RdII W (.slice a b.Rows.length c) b.Rows
theorem BoxIn.lt {W : World} {g : Nat} {b : BoxD} {a : Option Addr} {c : Nat} (h : BoxIn W g b a c) : g < W.heap.size := h.spot.lt
theorem BoxIn.stay {w w' : World} {g : Nat} {b : BoxD} {a : Option Addr} {c : Nat} (h : BoxIn w g b a c) (hb : Below w.heap.size w w') : BoxIn w' g b a c :=
  ⟨h.spot.kept hb h.lt, h.rd.stay hb⟩
theorem BoxIn.made {w : World} {b : BoxD} {a : Option Addr} {c : Nat} (h : RdII w (.slice a b.Rows.length c) b.Rows) :
    BoxIn (w.alloc (.cells #[.int .i64 b.X, .int .i64 b.Y, .int .i64 b.Whole, .slice a b.Rows.length c] 26)) w.heap.size b a c :=
  ⟨BoxAt.top rfl, h.stay ((Below.refl _ _).alloc (Nat.le_refl _) _)⟩
theorem below_alloc (w : World) (o : Obj) : Below w.heap.size w (w.alloc o) := (Below.refl _ _).alloc (Nat.le_refl _) _
theorem below_drew (w : World) : Below w.heap.size w w.drew := (Below.refl _ _).drew
theorem belowOn {w w1 w2 : World} (h : Below w.heap.size w w1) (k : Below w1.heap.size w1 w2) : Below w.heap.size w w2 := h.trans (k.mono h.size)

theorem rBox_same (va vb : Value) (b : BoxD) (w : World) (ha : RdII w va b.Rows) (hb : RdII w vb b.Rows) :
    Calls Tryz.prog 17 #[.agg #[.int .i64 b.X, .int .i64 b.Y, .int .i64 b.Whole, va], .agg #[.int .i64 b.X, .int .i64 b.Y, .int .i64 b.Whole, vb]] w fun e w' => e = .returned (.bool true) ∧ Below w.heap.size w w' :=
  (rBox_any va vb b b w ha hb).mono fun e w' ⟨h, k⟩ => ⟨by rw [h]; simp, k⟩
theorem rInts_same (va vb : Value) (xs : List Int) (w : World) (ha : RdI w va xs) (hb : RdI w vb xs) :
    Calls Tryz.prog 13 #[va, vb] w fun e w' => e = .returned (.bool true) ∧ Below w.heap.size w w' :=
  (rInts_any va vb xs xs w ha hb).mono fun e w' ⟨h, k⟩ => ⟨by rw [h]; simp, k.below _⟩
end Go.Proofs.YtcifpfdlkpddeaaGreatDoor
