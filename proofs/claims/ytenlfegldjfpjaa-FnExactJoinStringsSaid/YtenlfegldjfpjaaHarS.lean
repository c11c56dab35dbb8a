/- Slices of texts: readings, and the laws' own helpers over one slice of texts: copy, compare, size, mark, ask. -/
import Derived.Test.YtenlfegldjfpjaaHarA
import Derived.Test.YtenlfegldjfpjaaPlainN
import Derived.Test.YtenlfegldjfpjaaApp
import Derived.Deep.RegionHeld3
import Derived.Laws.IdiomStrings
set_option linter.unusedSimpArgs false
set_option linter.unusedVariables false
namespace Go.Proofs.Ytenlfegldjfpjaa
open Go.RowKit Go.WideShapes

theorem wrapIn64 (x : Int) (h0 : -9223372036854775808 ≤ x) (h1 : x ≤ 9223372036854775807) : IntKind.i64.wrap x = x := IntWalk.i64_in _ (by omega)
def strs (ss : List ByteArray) : List Value := ss.map Value.string
@[simp] theorem strs_length (ss : List ByteArray) : (strs ss).length = ss.length := by simp [strs]
theorem strs_get (ss : List ByteArray) (j : Nat) : (strs ss)[j]? = ss[j]?.map Value.string := by simp [strs]

/-- A slice of texts that reads as ss, wherever it lies. -/
def RdS (w : World) (v : Value) (ss : List ByteArray) : Prop :=
  ∃ (a : Option Addr) (b off cap : Nat), v = .slice a ss.length cap ∧ ss.length ≤ maxLen ∧ (0 < ss.length → a = some ⟨b, off, none⟩) ∧ ∀ (j : Nat) (x : ByteArray), ss[j]? = some x → w.cell? ⟨b, off + j, none⟩ = some (.string x)
theorem RdS.kept {w w' : World} {v : Value} {ss : List ByteArray} (h : RdS w v ss) {B : Nat} (hB : w.heap.size ≤ B) (hb : Below B w w') : RdS w' v ss := by
  obtain ⟨a, b, off, cap, hv, hm, ha, hc⟩ := h
  refine ⟨a, b, off, cap, hv, hm, ha, fun j x hx => ?_⟩
  have h1 := hc j x hx
  have h2 := World.block_lt_of_cell? _ _ h1
  rw [hb.cell (p := ⟨b, off + j, none⟩) (Nat.lt_of_lt_of_le h2 hB)]
  exact h1
theorem OwnV.rdS {T lo hi : Nat} {w : World} {v : Value} {ss : List ByteArray} (h : OwnV T lo hi w v (strs ss)) : RdS w v ss := by
  obtain ⟨a, g, cap, hv, hm, ha, hc, _⟩ := h.shape
  rw [strs_length] at hv hm ha
  exact ⟨a, g, 0, cap, hv, hm, fun hp => (ha hp).1, fun j x hx => by rw [Nat.zero_add]; exact hc j _ (by simp [strs, hx])⟩

theorem Try.infoStr : (Try.prog.info? 9).map (fun i => (i.zero, i.size, i.bytes)) = some (some (.string ⟨#[]⟩), 1, 16) := by kernel_rfl

set_option maxHeartbeats 400000 in
theorem eqStringS_any (v1 v2 : Value) (xs ys : List ByteArray) (w : World) (h1 : RdS w v1 xs) (h2 : RdS w v2 ys) :
    Calls Try.prog 8 #[v1, v2] w fun e w' => e = .returned (.bool (decide (xs = ys))) ∧ Drw w w' := by
  obtain ⟨a1, b1, o1, c1, rfl, m1, e1, k1⟩ := h1
  obtain ⟨a2, b2, o2, c2, rfl, m2, e2, k2⟩ := h2
  unfold maxLen at m1 m2
  by_cases hl : xs.length = ys.length
  · have hlz : ((xs.length : Int) != (ys.length : Int)) = false := by rw [hl]; simp
    have H := Lib.hid hl
    clear hl
    go_enter Try.func8, Try.ntmps8
    go_wp2
    go_loopw [5] (fun i wr => ∃ k : Nat, k ≤ xs.length ∧ i = .int .i64 k ∧ (∀ j, j < k → xs[j]? = ys[j]?) ∧ Drw w wr) (fun i _ => xs.length - (intOf i).toNat)
    case atStart => exact ⟨0, by omega, rfl, fun j hj => by omega, Drw.refl _⟩
    case round =>
      obtain ⟨k, hk, rfl, hj, hd⟩ := hrel
      by_cases hlt : k < xs.length
      · have hlt2 : k < ys.length := by rw [← H.out]; exact hlt
        obtain rfl := e1 (by omega)
        obtain rfl := e2 (by omega)
        have hx := k1 k _ (List.getElem?_eq_getElem hlt)
        rw [← hd.cell] at hx
        have hy := k2 k _ (List.getElem?_eq_getElem hlt2)
        rw [← hd.cell] at hy
        clear k1 k2
        by_cases he : xs[k] = ys[k]
        · have hjk : ∀ j, j < k + 1 → xs[j]? = ys[j]? := fun j hjk => by
            by_cases e : j = k
            · subst e; rw [List.getElem?_eq_getElem hlt, List.getElem?_eq_getElem hlt2, he]
            · exact hj j (by omega)
          rw [← he] at hy
          generalize xs[k] = x at *
          clear he hj
          go_wp2
          go_quiet (fail)
          go_wp2
          go_roundw
          case rel => exact ⟨k + 1, by omega, by go_num, hjk, hd.trans (Drw.mk _ _)⟩
          case measure => simp [intOf]; omega
        · have HNE := Lib.hid (lists_ne hlt hlt2 he)
          have hez : ((xs[k]).toList == (ys[k]).toList) = false := by
            rw [beq_eq_false_iff_ne, ByteArray.toList_eq, ByteArray.toList_eq]
            intro e
            exact he (bytes_inj e)
          generalize xs[k] = x at *
          generalize ys[k] = y at *
          clear he
          go_wp2
          go_quiet (fail)
          go_wp2
          go_ret
          exact ⟨ret_bool HNE.out, hd.trans (Drw.mk _ _)⟩
      · go_wp2
        go_ret
        obtain rfl : k = xs.length := by omega
        exact ⟨ret_bool (lists_eq H.out hj), hd⟩
  · have hlz : ((xs.length : Int) != (ys.length : Int)) = true := by simp; omega
    go_enter Try.func8, Try.ntmps8
    go_wp2
    go_ret
    exact ⟨ret_bool (lists_len hl), Drw.refl _⟩
/-! ### toStringS -/
structure ToS (w wr : World) (n k : Nat) (f : Nat → ByteArray) : Prop where
  below : Below w.heap.size w wr
  size : wr.heap.size = w.heap.size + 1
  row : wr.rowIs w.heap.size 9 n (fun i => if i < k then .string (f i) else .string ⟨#[]⟩)
theorem ToS.start (w : World) (n : Nat) (f : Nat → ByteArray) : ToS w (w.alloc (.cells (madeCells #[.string ⟨#[]⟩] n) 9)) n 0 f :=
  ⟨(Below.refl _ _).alloc (Nat.le_refl _) _, by simp, (World.rowIs_made w _ n 9).congr (fun j _ => by simp)⟩
theorem ToS.step {w wr : World} {n k : Nat} {f : Nat → ByteArray} (h : ToS w wr n k f) : ToS w (wr.setCell ⟨w.heap.size, k, none⟩ (.string (f k))) n (k + 1) f := by
  refine ⟨h.below.setCell (Nat.le_refl _) _, by simp [h.size], (h.row.set k _).congr (fun j _ => ?_)⟩
  by_cases e : j = k
  · subst e; simp
  · rw [if_neg e]
    by_cases hlt : j < k
    · rw [if_pos hlt, if_pos (by omega)]
    · rw [if_neg hlt, if_neg (by omega)]

set_option maxHeartbeats 400000 in
theorem toStringS_cells (a : Option Addr) (b off n cap : Nat) (f : Nat → ByteArray) (w : World) (ha : 0 < n → a = some ⟨b, off, none⟩)
   (hc : ∀ j, j < n → w.cell? ⟨b, off + j, none⟩ = some (.string (f j))) (hn : 16 * n ≤ 281474976710656) :
    Calls Try.prog 6 #[.slice a n cap] w fun e w' => e = .returned (.slice (some ⟨w.heap.size, 0, none⟩) n n) ∧ ToS w w' n n f := by
  have hmk := run_make_row' (P := Try.prog) 22 9 (.string ⟨#[]⟩) 16 Try.underlying22 Try.infoStr rfl .i64 .i64 n hn (by omega)
  go_enter Try.func6, Try.ntmps6
  go_wp2
  clear hmk
  go_loopw [4] (fun i wr => ∃ k : Nat, k ≤ n ∧ i = .int .i64 k ∧ ToS w wr n k f) (fun i _ => n - (intOf i).toNat)
  case atStart => exact ⟨0, by omega, rfl, ToS.start w n f⟩
  case round =>
    obtain ⟨k, hk, rfl, hT⟩ := hrel
    by_cases hlt : k < n
    · obtain rfl := ha (by omega)
      have h1 : wr.cell? ⟨b, off + k, none⟩ = some (.string (f k)) := by
        rw [hT.below.cell (p := ⟨b, off + k, none⟩) (World.block_lt_of_cell? _ _ (hc k hlt))]; exact hc k hlt
      have h2 : wr.cell? ⟨w.heap.size, k, none⟩ = some (.string ⟨#[]⟩) := by
        have := hT.row.cell hlt; simpa using this
      have h3 := hT.row.frozen k
      go_wp2
      go_roundw
      case rel => exact ⟨k + 1, by omega, by go_num, hT.step⟩
      case measure => simp [intOf]; omega
    · go_wp2
      go_ret
      exact ⟨rfl, (by obtain rfl : k = n := by omega
                      exact hT)⟩

/-- toStringS: a copy of its own. -/
theorem toStringS_any (v : Value) (xs : List ByteArray) (w : World) (h : RdS w v xs) (hn : xs.length ≤ 1048576) :
    Calls Try.prog 6 #[v] w fun e w' => ∃ a c, e = .returned (.slice a xs.length c) ∧ OwnV 9 w.heap.size w'.heap.size w' (.slice a xs.length c) (strs xs) ∧ Below w.heap.size w w' := by
  obtain ⟨a, b, off, cap, rfl, hm, ha, hc⟩ := h
  refine (toStringS_cells a b off xs.length cap (fun j => xs.getD j ⟨#[]⟩) w ha (fun j hj => hc j _ ?_) (by omega)).mono ?_
  · rw [List.getD_eq_getElem?_getD, List.getElem?_eq_getElem hj]; rfl
  rintro e w' ⟨rfl, hT⟩
  refine ⟨_, _, rfl, ?_, hT.below⟩
  have hr : w'.rowIs w.heap.size 9 (strs xs).length (fun j => .string (xs.getD j ⟨#[]⟩)) := by
    rw [strs_length]
    exact hT.row.congr fun j hj => by rw [if_pos hj]
  have := ownV_of_rowIs (lo := w.heap.size) hr (Nat.le_refl _) (fun j u hu => by
    simp only [strs, List.getElem?_map, Option.map_eq_some_iff] at hu
    obtain ⟨x, hx, rfl⟩ := hu
    simp [List.getD_eq_getElem?_getD, hx]) (by rw [strs_length]; exact hm)
  rw [strs_length] at this
  rw [hT.size]
  exact this
/-! ### szStringS -/
def sumSz (ss : List ByteArray) : Nat := (ss.map ByteArray.size).sum
theorem sumSz_take (ss : List ByteArray) (k : Nat) (x : ByteArray) (h : ss[k]? = some x) : sumSz (ss.take (k + 1)) = sumSz (ss.take k) + x.size := by
  simp [sumSz, List.take_add_one, h]
theorem sumSz_take_le (ss : List ByteArray) (k : Nat) : sumSz (ss.take k) ≤ sumSz ss := by
  have h : sumSz ss = sumSz (ss.take k) + sumSz (ss.drop k) := by
    have : ss = ss.take k ++ ss.drop k := (List.take_append_drop k ss).symm
    unfold sumSz
    rw [← List.sum_append, ← List.map_append, ← this]
  omega
theorem sumSz_get {ss : List ByteArray} {k : Nat} {x : ByteArray} (h : ss[k]? = some x) : x.size ≤ sumSz ss := by
  have h1 := sumSz_take ss k x h
  have h2 := sumSz_take_le ss (k + 1)
  omega

set_option maxHeartbeats 400000 in
theorem szStringS_any (v : Value) (xs : List ByteArray) (left : Int) (w : World) (h : RdS w v xs) (h0 : 0 ≤ left) (h1 : left ≤ 1048576) (hx : ∀ (j : Nat) (x : ByteArray), xs[j]? = some x → x.size ≤ maxLen) :
    Calls Try.prog 4 #[v, .int .i64 left] w fun e w' =>
      (∃ r : Int, e = .returned (.int .i64 r) ∧ (r < 0 ∨ (xs.length : Int) + sumSz xs + r = left)) ∧ w = w' := by
  obtain ⟨a, b, off, cap, hv, hm, ha, hc⟩ := h
  subst hv
  unfold maxLen at hm hx
  go_enter Try.func4, Try.ntmps4
  by_cases hneg : left - xs.length < 0
  · go_wp2
    go_ret
    exact ⟨⟨-1, rfl, Or.inl (by omega)⟩, rfl⟩
  go_wp2
  go_loop [1, 5] (fun s1 s6 => ∃ k : Nat, k ≤ xs.length ∧ s6 = .int .i64 k ∧ ∃ r : Int, s1 = .int .i64 r ∧ 0 ≤ r ∧ (xs.length : Int) + sumSz (xs.take k) + r = left) (fun _ s6 => xs.length - (intOf s6).toNat)
  case atStart => exact ⟨0, Nat.zero_le _, rfl, left - xs.length, rfl, by omega, by simp [sumSz]; omega⟩
  case round =>
    obtain ⟨k, hk, rfl, r, rfl, hr, hsum⟩ := hrel
    by_cases hlt : k < xs.length
    · obtain rfl := ha (by omega)
      have hg := List.getElem?_eq_getElem hlt
      have hcell := hc k _ hg
      have hsz := hx k _ hg
      have hst := sumSz_take xs k _ hg
      generalize xs[k] = x at *
      have hwr : IntKind.i64.wrap (r - (x.size : Int)) = r - (x.size : Int) := wrapIn64 _ (by omega) (by omega)
      clear hc hx hg
      by_cases hn2 : r - x.size < 0
      · go_wp2
        go_ret
        exact ⟨⟨-1, rfl, Or.inl (by omega)⟩, rfl⟩
      · have HS := Lib.hid hst
        have HQ := Lib.hid hsum
        clear hst hsum
        go_wp2
        go_round
        case rel => exact ⟨k + 1, by omega, by go_num, r - x.size, by go_num, by omega, by have := HS.out; have := HQ.out; omega⟩
        case measure => simp [intOf]; omega
    · go_wp2
      go_ret
      obtain rfl : k = xs.length := by omega
      rw [List.take_length] at hsum
      exact ⟨⟨r, rfl, Or.inr hsum⟩, rfl⟩
end Go.Proofs.Ytenlfegldjfpjaa
