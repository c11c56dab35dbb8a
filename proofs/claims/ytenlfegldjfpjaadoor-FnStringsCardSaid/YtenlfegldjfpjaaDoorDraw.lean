/- What the reference draws: texts and numbers within bounds. -/
import Derived.Test.YtenlfegldjfpjaaDoorCur
set_option linter.unusedSimpArgs false
set_option linter.unusedVariables false
namespace Go.Proofs.YtenlfegldjfpjaaDoor
open Go.RowKit Go.WideShapes

/-- A slice of n bytes, wherever it lies. -/
def RdB (w : World) (v : Value) (n : Nat) : Prop :=
  ∃ (a : Option Addr) (b off cap : Nat), v = .slice a n cap ∧ n ≤ 65536 ∧ (0 < n → a = some ⟨b, off, none⟩) ∧ ∀ j : Nat, j < n → ∃ x : Nat, x ≤ 255 ∧ w.cell? ⟨b, off + j, none⟩ = some (.int .u8 x)
theorem RdB.kept {w w' : World} {v : Value} {n : Nat} (h : RdB w v n) (hb : Below w.heap.size w w') : RdB w' v n := by
  obtain ⟨a, b, off, cap, hv, hn, ha, hc⟩ := h
  refine ⟨a, b, off, cap, hv, hn, ha, fun j hj => ?_⟩
  obtain ⟨x, hx, h1⟩ := hc j hj
  exact ⟨x, hx, by rw [hb.cell (p := ⟨b, off + j, none⟩) (World.block_lt_of_cell? _ _ h1)]; exact h1⟩
theorem RdB.cur {w : World} {v : Value} {n : Nat} (h : RdB w v n) (o : Obj) : RdC w.heap.size (w.alloc o) v n := by
  obtain ⟨a, b, off, cap, hv, hn, ha, hc⟩ := h
  by_cases h0 : 0 < n
  · obtain ⟨x0, _, h1⟩ := hc 0 h0
    have hb := World.block_lt_of_cell? _ _ h1
    simp only at hb
    refine ⟨a, b, off, cap, hv, hn, ha, by omega, fun j hj => ?_⟩
    obtain ⟨x, hx, h2⟩ := hc j hj
    exact ⟨x, hx, by rw [((Below.refl w.heap.size w).alloc (Nat.le_refl _) o).cell (p := ⟨b, off + j, none⟩) hb]; exact h2⟩
  · exact ⟨a, w.heap.size + 1, off, cap, hv, hn, fun h => absurd h h0, by omega, fun j hj => by omega⟩
theorem cell_made (w : World) (T : Nat) (vs : List Value) (j : Nat) (u : Value) (h : vs[j]? = some u) : (w.alloc (.cells vs.toArray T)).cell? ⟨w.heap.size, j, none⟩ = some u := by
  rw [cell_of_row (w.alloc (.cells vs.toArray T)) w.heap.size j vs.toArray T (0, 0) (by show (w.heap.push _)[w.heap.size]? = _; simp)]
  simpa using h
theorem Cur.start (w : World) (v : Value) : Cur w.heap.size v 0 (w.alloc (.cells #[v, .int .i64 0, .int .u64 0] 60)) :=
  ⟨cell_made w _ [v, .int .i64 0, .int .u64 0] 0 _ rfl, ⟨0, Nat.le_refl _, cell_made w _ [v, .int .i64 0, .int .u64 0] 1 _ rfl⟩, ⟨0, by decide, by decide, cell_made w _ [v, .int .i64 0, .int .u64 0] 2 _ rfl⟩,
    fun j => by
      have : (w.alloc (.cells #[v, .int .i64 0, .int .u64 0] 60)).heap[w.heap.size]? = some (.cells #[v, .int .i64 0, .int .u64 0] 60 (0, 0)) := by show (w.heap.push _)[w.heap.size]? = _; simp
      unfold World.frozen?
      rw [this]
      rfl⟩
theorem Cur.of_block {g A : Nat} {v : Value} {w w' : World} (h : Cur g v A w) (hg : w'.heap[g]? = w.heap[g]?) : Cur g v A w' := by
  have hc : ∀ j, w'.cell? ⟨g, j, none⟩ = w.cell? ⟨g, j, none⟩ := fun j => World.cell?_of_block (w := w) (a := ⟨g, j, none⟩) hg
  refine ⟨by rw [hc]; exact h.code, by rw [hc]; exact h.pos, by rw [hc]; exact h.seed, fun j => ?_⟩
  have := h.fz j
  unfold World.frozen? at this ⊢
  simp only at this ⊢
  rw [hg]
  exact this
theorem Cur.lt {g A : Nat} {v : Value} {w : World} (h : Cur g v A w) : g < w.heap.size := World.block_lt_of_cell? _ _ h.code
theorem Cur.alloc {g A : Nat} {v : Value} {w : World} (h : Cur g v A w) (o : Obj) : Cur g v A (w.alloc o) := h.of_block (((Below.refl w.heap.size w).alloc (Nat.le_refl _) o).block g h.lt)
theorem Cur.up {g A B : Nat} {v : Value} {w : World} (h : Cur g v A w) (hAB : A ≤ B) : Cur g v B w :=
  ⟨h.code, (by obtain ⟨k, hk, h1⟩ := h.pos; exact ⟨k, by omega, h1⟩), h.seed, h.fz⟩
theorem mid_alloc (g : Nat) (w : World) (o : Obj) : Mid g (g + 1) w (w.alloc o) := Mid.of_below ((Below.refl w.heap.size w).alloc (Nat.le_refl _) o) (Nat.le_refl _)
theorem mid_below {w w' : World} {o : Obj} (h : Mid w.heap.size (w.heap.size + 1) (w.alloc o) w') : Below w.heap.size w w' :=
  ((Below.refl w.heap.size w).alloc (Nat.le_refl _) o).trans (h.below (Nat.le_refl _) (by simp))

/-- One of some texts that are laid just ahead. -/
theorem of_made (g : Nat) (v : Value) (n A : Nat) (ss : List ByteArray) (w : World) (hc : Cur g v A w) (hv : RdC g w v n) (hA : A ≤ 1000000) (hl : 1 ≤ ss.length) (hl2 : ss.length ≤ 200) :
    Calls Tryd.prog 53 #[.pointer (some ⟨g, 0, none⟩), .slice (some ⟨w.heap.size, 0, none⟩) ss.length ss.length] (w.alloc (.cells (strs ss).toArray 9)) fun e w' => ∃ x ∈ ss, e = .returned (.string x) ∧ Cur g v (A + 2) w' ∧ Mid g (g + 1) w w' := by
  refine (of_any g v n A w.heap.size ss _ (hc.alloc _) (hv.mid (mid_alloc _ _ _)) hA hl hl2 (by have := hc.lt; omega) (fun j x hx => cell_made w _ (strs ss) j _ (by rw [strs_get, hx]; rfl))).mono ?_
  rintro e w' ⟨x, hx, he, h1, h2⟩
  exact ⟨x, hx, he, h1, (mid_alloc _ _ _).trans h2⟩
theorem among_made (g : Nat) (v : Value) (n A : Nat) (xs : List Int) (w : World) (hc : Cur g v A w) (hv : RdC g w v n) (hA : A ≤ 1000000) (hl : 1 ≤ xs.length) (hl2 : xs.length ≤ 200) :
    Calls Tryd.prog 46 #[.pointer (some ⟨g, 0, none⟩), .slice (some ⟨w.heap.size, 0, none⟩) xs.length xs.length] (w.alloc (.cells (ints xs).toArray 3)) fun e w' => ∃ x ∈ xs, e = .returned (.int .i64 x) ∧ Cur g v (A + 2) w' ∧ Mid g (g + 1) w w' := by
  refine (among_any g v n A w.heap.size xs _ (hc.alloc _) (hv.mid (mid_alloc _ _ _)) hA hl hl2 (by have := hc.lt; omega) (fun j x hx => cell_made w _ (ints xs) j _ (by simp [ints, hx]))).mono ?_
  rintro e w' ⟨x, hx, he, h1, h2⟩
  exact ⟨x, hx, he, h1, (mid_alloc _ _ _).trans h2⟩

/-- The texts of any1. -/
def anyL : List ByteArray := [⟨#[]⟩, ⟨#[97]⟩, ⟨#[97, 44, 98]⟩, ⟨#[115, 111, 109, 101, 32, 119, 111, 114, 100, 115]⟩, ⟨#[120, 35, 121]⟩, ⟨#[45, 49, 50]⟩, ⟨#[0, 255]⟩, ⟨#[44, 44]⟩, ⟨#[48]⟩]
theorem any1_any (g : Nat) (v : Value) (n A : Nat) (w : World) (hc : Cur g v A w) (hv : RdC g w v n) (hA : A ≤ 1000000) :
    Calls Tryd.prog 56 #[.pointer (some ⟨g, 0, none⟩)] w fun e w' => ∃ x ∈ anyL, e = .returned (.string x) ∧ Cur g v (A + 2) w' ∧ Mid g (g + 1) w w' := by
  have C := of_made g v n A anyL w hc hv hA (by decide) (by decide)
  go_enter Tryd.func56, Tryd.ntmps56
  go_wp2_with fail
  refine C.mono ?_
  rintro e w1 ⟨x, hx, rfl, hc1, hm1⟩
  go_wp2
  go_ret
  exact ⟨x, hx, rfl, hc1, hm1⟩
theorem anyL_size {x : ByteArray} (h : x ∈ anyL) : x.size ≤ 10 := by
  have : anyL.all (fun x => decide (x.size ≤ 10)) = true := by decide
  exact of_decide_eq_true (List.all_eq_true.1 this x h)

set_option maxHeartbeats 1000000 in
theorem drawFormatInt_any (v : Value) (n : Nat) (w : World) (h : RdB w v n) :
    Calls Tryd.prog 13 #[v] w fun e w' => ∃ x : Int, e = .returned (.int .i64 x) ∧ -1000000 ≤ x ∧ x ≤ 1000000 ∧ Below w.heap.size w w' := by
  obtain ⟨va, vcap, rfl⟩ : ∃ a c, v = .slice a n c := by obtain ⟨a, _, _, c, hv, _⟩ := h; exact ⟨a, c, hv⟩
  have hc := Cur.start w (.slice va n vcap)
  have hv := h.cur (.cells #[.slice va n vcap, .int .i64 0, .int .u64 0] 60)
  have C1 := pick_any w.heap.size (.slice va n vcap) n 0 1000 _ hc hv (by decide) (by decide) (by decide)
  have C2 := fun (y : Nat) W (h1 : Cur w.heap.size (.slice va n vcap) 2 W) (h2 : RdC w.heap.size W (.slice va n vcap) n) => among_made w.heap.size (.slice va n vcap) n 2 [0, 1, -1, 10, 999999, -999999, 1000000, -1000000, (y : Int) - 500] W h1 h2 (by decide) (by simp) (by simp)
  go_enter Tryd.func13, Tryd.ntmps13
  go_wp2_with fail
  refine C1.mono ?_
  rintro e w1 ⟨y, rfl, hy, hc1, hm1⟩
  have hv1 := hv.mid hm1
  go_wp2_with fail
  refine (C2 y _ hc1 hv1).mono ?_
  rintro e w2 ⟨x, hx, rfl, hc2, hm2⟩
  have hb : -1000000 ≤ x ∧ x ≤ 1000000 := by simp at hx; omega
  have hmm := mid_below (hm1.trans hm2)
  clear hx C1 C2
  go_wp2
  go_ret
  exact ⟨x, rfl, hb.1, hb.2, hmm⟩

set_option maxHeartbeats 1000000 in
theorem drawSplitString_any (v : Value) (n : Nat) (w : World) (h : RdB w v n) :
    Calls Tryd.prog 35 #[v] w fun e w' => ∃ s t : ByteArray, e = .returned (.tuple #[.string s, .string t]) ∧ s.size ≤ 10 ∧ t.size ≤ 10 ∧ Below w.heap.size w w' := by
  obtain ⟨va, vcap, rfl⟩ : ∃ a c, v = .slice a n c := by obtain ⟨a, _, _, c, hv, _⟩ := h; exact ⟨a, c, hv⟩
  have hc := Cur.start w (.slice va n vcap)
  have hv := h.cur (.cells #[.slice va n vcap, .int .i64 0, .int .u64 0] 60)
  have C1 := any1_any w.heap.size (.slice va n vcap) n 0 _ hc hv (by decide)
  have C2 := fun W (h1 : Cur w.heap.size (.slice va n vcap) 2 W) (h2 : RdC w.heap.size W (.slice va n vcap) n) => of_made w.heap.size (.slice va n vcap) n 2 [⟨#[44]⟩, ⟨#[44]⟩, ⟨#[32]⟩, ⟨#[]⟩, ⟨#[44, 44]⟩] W h1 h2 (by decide) (by decide) (by decide)
  go_enter Tryd.func35, Tryd.ntmps35
  go_wp2_with fail
  refine C1.mono ?_
  rintro e w1 ⟨s, hs, rfl, hc1, hm1⟩
  have hv1 := hv.mid hm1
  go_wp2_with fail
  refine (C2 _ hc1 hv1).mono ?_
  rintro e w2 ⟨t, ht, rfl, hc2, hm2⟩
  have hs10 := anyL_size hs
  have ht10 : t.size ≤ 10 := by
    have : ([⟨#[44]⟩, ⟨#[44]⟩, ⟨#[32]⟩, ⟨#[]⟩, ⟨#[44, 44]⟩] : List ByteArray).all (fun x => decide (x.size ≤ 10)) = true := by decide
    exact of_decide_eq_true (List.all_eq_true.1 this t ht)
  have hmm := mid_below (hm1.trans hm2)
  clear hs ht C1 C2
  go_wp2
  go_ret2
  exact ⟨s, t, rfl, hs10, ht10, hmm⟩

set_option maxHeartbeats 1000000 in
theorem drawLessString_any (v : Value) (n : Nat) (w : World) (h : RdB w v n) :
    Calls Tryd.prog 39 #[v] w fun e w' => ∃ s t : ByteArray, e = .returned (.tuple #[.string s, .string t]) ∧ s.size ≤ 10 ∧ t.size ≤ 10 ∧ Below w.heap.size w w' := by
  obtain ⟨va, vcap, rfl⟩ : ∃ a c, v = .slice a n c := by obtain ⟨a, _, _, c, hv, _⟩ := h; exact ⟨a, c, hv⟩
  have hc := Cur.start w (.slice va n vcap)
  have hv := h.cur (.cells #[.slice va n vcap, .int .i64 0, .int .u64 0] 60)
  have C1 := any1_any w.heap.size (.slice va n vcap) n 0 _ hc hv (by decide)
  have C2 := fun W (h1 : Cur w.heap.size (.slice va n vcap) 2 W) (h2 : RdC w.heap.size W (.slice va n vcap) n) => any1_any w.heap.size (.slice va n vcap) n 2 W h1 h2 (by decide)
  go_enter Tryd.func39, Tryd.ntmps39
  go_wp2_with fail
  refine C1.mono ?_
  rintro e w1 ⟨s, hs, rfl, hc1, hm1⟩
  have hv1 := hv.mid hm1
  go_wp2_with fail
  refine (C2 _ hc1 hv1).mono ?_
  rintro e w2 ⟨t, ht, rfl, hc2, hm2⟩
  have hs10 := anyL_size hs
  have ht10 := anyL_size ht
  have hmm := mid_below (hm1.trans hm2)
  clear hs ht C1 C2
  go_wp2
  go_ret2
  exact ⟨s, t, rfl, hs10, ht10, hmm⟩

set_option maxHeartbeats 1000000 in
theorem drawParseInt_any (v : Value) (n : Nat) (w : World) (h : RdB w v n) :
    Calls Tryd.prog 16 #[v] w fun e w' => ∃ s : ByteArray, e = .returned (.string s) ∧ s.size ≤ 30 ∧ Below w.heap.size w w' := by
  obtain ⟨va, vcap, rfl⟩ : ∃ a c, v = .slice a n c := by obtain ⟨a, _, _, c, hv, _⟩ := h; exact ⟨a, c, hv⟩
  have hc := Cur.start w (.slice va n vcap)
  have hv := h.cur (.cells #[.slice va n vcap, .int .i64 0, .int .u64 0] 60)
  have C1 := one_any w.heap.size (.slice va n vcap) n 0 2 _ hc hv (by decide) (by decide) (by decide)
  have C2 := fun W (h1 : Cur w.heap.size (.slice va n vcap) 2 W) (h2 : RdC w.heap.size W (.slice va n vcap) n) => of_made w.heap.size (.slice va n vcap) n 2 [⟨#[]⟩, ⟨#[45]⟩, ⟨#[45, 48]⟩, ⟨#[48, 48]⟩, ⟨#[48, 49]⟩, ⟨#[45, 45, 49]⟩, ⟨#[49, 120]⟩, ⟨#[57, 57, 57, 57, 57, 57]⟩, ⟨#[49, 48, 48, 48, 48, 48, 48]⟩, ⟨#[45, 57, 57, 57, 57, 57, 57]⟩, ⟨#[49, 56, 52, 52, 54, 55, 52, 52, 48, 55, 51, 55, 48, 57, 53, 53, 49, 54, 49, 55]⟩] W h1 h2 (by decide) (by decide) (by decide)
  have C3 := fun W (h1 : Cur w.heap.size (.slice va n vcap) 2 W) (h2 : RdC w.heap.size W (.slice va n vcap) n) => pick_any w.heap.size (.slice va n vcap) n 2 2000 W h1 h2 (by decide) (by decide) (by decide)
  go_enter Tryd.func16, Tryd.ntmps16
  go_wp2_with fail
  refine C1.mono ?_
  rintro e w1 ⟨b, rfl, hc1, hm1⟩
  have hv1 := hv.mid hm1
  cases b with
  | true =>
    go_wp2_with fail
    refine (C2 _ hc1 hv1).mono ?_
    rintro e w2 ⟨t, ht, rfl, hc2, hm2⟩
    have ht10 : t.size ≤ 30 := by
      have : ([⟨#[]⟩, ⟨#[45]⟩, ⟨#[45, 48]⟩, ⟨#[48, 48]⟩, ⟨#[48, 49]⟩, ⟨#[45, 45, 49]⟩, ⟨#[49, 120]⟩, ⟨#[57, 57, 57, 57, 57, 57]⟩, ⟨#[49, 48, 48, 48, 48, 48, 48]⟩, ⟨#[45, 57, 57, 57, 57, 57, 57]⟩, ⟨#[49, 56, 52, 52, 54, 55, 52, 52, 48, 55, 51, 55, 48, 57, 53, 53, 49, 54, 49, 55]⟩] : List ByteArray).all (fun x => decide (x.size ≤ 30)) = true := by decide
      exact of_decide_eq_true (List.all_eq_true.1 this t ht)
    have hmm := mid_below (hm1.trans hm2)
    clear ht C1 C2 C3
    go_wp2
    go_ret
    exact ⟨t, rfl, ht10, hmm⟩
  | false =>
    go_wp2_with fail
    refine (C3 _ hc1 hv1).mono ?_
    rintro e w2 ⟨y, rfl, hy, hc2, hm2⟩
    have hmm := mid_below (hm1.trans hm2)
    have C4 := l1Num_any ((y : Int) - 1000) w2 (by omega) (by omega)
    have hl := Lib.itoa_length_le ((y : Int) - 1000) (by omega) (by omega)
    clear C1 C2 C3
    go_wp2_with (go_at_call 51; refine C4.mono ?_; rintro e w3 ⟨rfl, d3⟩)
    go_ret
    exact ⟨_, rfl, by show (Lib.itoa ((y : Int) - 1000)).length ≤ 30; omega, hmm.trans (d3.below _)⟩

theorem RdB.curAt {w W : World} {v : Value} {n : Nat} (h : RdB w v n) (hB : Below w.heap.size w W) : RdC w.heap.size W v n := by
  obtain ⟨a, b, off, cap, hv, hn, ha, hc⟩ := h
  by_cases h0 : 0 < n
  · obtain ⟨x0, _, h1⟩ := hc 0 h0
    have hb := World.block_lt_of_cell? _ _ h1
    simp only at hb
    refine ⟨a, b, off, cap, hv, hn, ha, by omega, fun j hj => ?_⟩
    obtain ⟨x, hx, h2⟩ := hc j hj
    exact ⟨x, hx, by rw [hB.cell (p := ⟨b, off + j, none⟩) hb]; exact h2⟩
  · exact ⟨a, w.heap.size + 1, off, cap, hv, hn, fun h => absurd h h0, by omega, fun j hj => by omega⟩

theorem Tryd.infoByte : (Tryd.prog.info? 5).map (fun i => (i.zero, i.size, i.bytes)) = some (some (.int .u8 0), 1, 1) := by kernel_rfl
/-- A text of m zero bytes. -/
def zeroT (m : Nat) : ByteArray := ⟨(List.replicate m (0 : UInt8)).toArray⟩
theorem zeroT_size (m : Nat) : (zeroT m).size = m := by show (List.replicate m (0 : UInt8)).length = m; simp
theorem zero_text (w : World) (m : Nat) : (convert 22 9 (.slice (some ⟨w.heap.size, 0, none⟩) m m)).run Tryd.prog (w.alloc (.cells (madeCells #[.int .u8 0] m) 5)) = .ok (.string (zeroT m)) (w.alloc (.cells (madeCells #[.int .u8 0] m) 5)) := by
  have h := run_convert_bytes_back (P := Tryd.prog) (w.alloc (.cells (madeCells #[.int .u8 0] m) 5)) 22 9 5 ⟨w.heap.size, 0, none⟩ m (List.replicate m 0) Tryd.underlying22 Tryd.underlying5 Tryd.underlying9 (fun j hj => by
    have hj' : j < m := by simpa using hj
    rw [add_plain, Nat.zero_add, ((World.rowIs_made w _ m 5).cell hj')]
    simp)
  rw [List.length_replicate] at h
  exact h

set_option maxHeartbeats 1000000 in
theorem drawAppendChecksum_any (v : Value) (n : Nat) (w : World) (h : RdB w v n) :
    Calls Tryd.prog 19 #[v] w fun e w' => ∃ s : ByteArray, e = .returned (.string s) ∧ s.size ≤ 4000 ∧ Below w.heap.size w w' := by
  obtain ⟨va, vcap, rfl⟩ : ∃ a c, v = .slice a n c := by obtain ⟨a, _, _, c, hv, _⟩ := h; exact ⟨a, c, hv⟩
  have hc := Cur.start w (.slice va n vcap)
  have hv := h.cur (.cells #[.slice va n vcap, .int .i64 0, .int .u64 0] 60)
  have C1 := one_any w.heap.size (.slice va n vcap) n 0 20 _ hc hv (by decide) (by decide) (by decide)
  have C2 := fun W (h1 : Cur w.heap.size (.slice va n vcap) 2 W) (h2 : RdC w.heap.size W (.slice va n vcap) n) => pick_any w.heap.size (.slice va n vcap) n 2 10 W h1 h2 (by decide) (by decide) (by decide)
  have C3 := fun W (h1 : Cur w.heap.size (.slice va n vcap) 2 W) (h2 : RdC w.heap.size W (.slice va n vcap) n) => any1_any w.heap.size (.slice va n vcap) n 2 W h1 h2 (by decide)
  go_enter Tryd.func19, Tryd.ntmps19
  go_wp2_with fail
  refine C1.mono ?_
  rintro e w1 ⟨b, rfl, hc1, hm1⟩
  have hv1 := hv.mid hm1
  cases b with
  | true =>
    go_wp2_with fail
    refine (C2 _ hc1 hv1).mono ?_
    rintro e w2 ⟨y, rfl, hy, hc2, hm2⟩
    have hmm := mid_below (hm1.trans hm2)
    obtain ⟨m, hm⟩ : ∃ m : Nat, m = 3990 + y := ⟨_, rfl⟩
    have e1 : 3990 + (y : Int) = (m : Int) := by omega
    have hmb : m ≤ 4000 := by omega
    have hmk := run_make_row' (P := Tryd.prog) 22 5 (.int .u8 0) 1 Tryd.underlying22 Tryd.infoByte rfl .i64 .i64 m (by omega) (by omega)
    have hz := zero_text w2 m
    have hzs := zeroT_size m
    have HZ := Lib.hid hzs
    clear C1 C2 C3 hm hzs
    go_wp2
    try rw [hz]
    go_wp2
    go_ret
    exact ⟨zeroT m, rfl, by rw [HZ.out]; exact hmb, hmm.alloc hmm.size _⟩
  | false =>
    go_wp2_with fail
    refine (C3 _ hc1 hv1).mono ?_
    rintro e w2 ⟨t, ht, rfl, hc2, hm2⟩
    have ht10 := anyL_size ht
    have hmm := mid_below (hm1.trans hm2)
    clear ht C1 C2 C3
    go_wp2
    go_ret
    exact ⟨t, rfl, by omega, hmm⟩

theorem vBig_any (a : Option Addr) (n cap : Nat) (w : World) (hn : n ≤ maxLen) :
    Calls Tryd.prog 12 #[.slice a n cap] w fun e w' => e = .returned (.bool (decide ((65536 : Int) < (n : Int)))) ∧ w = w' := by
  unfold maxLen at hn
  by_cases h : (65536 : Int) < (n : Int)
  · have HD := Lib.hid (decide_eq_true h)
    go_enter Tryd.func12, Tryd.ntmps12
    go_wp2
    go_ret
    exact ⟨ret_bool (by rw [HD.out]), rfl⟩
  · have HD := Lib.hid (decide_eq_false h)
    go_enter Tryd.func12, Tryd.ntmps12
    go_wp2
    go_ret
    exact ⟨ret_bool (by rw [HD.out]), rfl⟩
end Go.Proofs.YtenlfegldjfpjaaDoor
