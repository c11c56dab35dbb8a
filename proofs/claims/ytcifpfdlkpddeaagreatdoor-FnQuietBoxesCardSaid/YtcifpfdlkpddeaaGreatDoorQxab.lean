/- Plain definitions and lemmas on numbers and lists: what the walks compute. No program in sight. Contracts of the laws' own helpers over one slice of ints: copy, compare, mark, ask. Contracts of the laws' own helpers over a slice of slices of ints. Contracts of the laws' own helpers over boxes. The laws' own comparisons of lists, tables and boxes. Plain definitions and lemmas: boxes by their numbers. -/
import Derived.Test.YtcifpfdlkpddeaaGreatDoorQxaa
import Derived.Test.YtcifpfdlkpddeaaGreatDoorChecked
import Derived.Deep.QuietTactic
import Derived.BigQuiet
import Derived.StillTailTactics
import Derived.Deep.RegionWith
set_option linter.unusedSimpArgs false
set_option linter.unusedVariables false
namespace Go.Proofs.YtcifpfdlkpddeaaGreatDoor

/-- Between two numbers. -/
def inB (n lo hi : Int) : Bool := decide (lo ≤ n) && decide (n ≤ hi)
theorem inB_iff {n lo hi : Int} : inB n lo hi = true ↔ lo ≤ n ∧ n ≤ hi := by simp [inB]
theorem inB_not {n lo hi : Int} : inB n lo hi = false ↔ n < lo ∨ hi < n := by
  simp only [inB, Bool.and_eq_false_iff, decide_eq_false_iff_not]; omega

def allIn (xs : List Int) (lo hi : Int) : Bool := xs.all fun x => inB x lo hi
theorem allIn_true {xs : List Int} {lo hi : Int} (h : ∀ (j : Nat) (x : Int), xs[j]? = some x → inB x lo hi = true) : allIn xs lo hi = true := by
  unfold allIn
  rw [List.all_eq_true]
  intro x hx
  obtain ⟨j, hj⟩ := List.mem_iff_getElem?.1 hx
  exact h j x hj
theorem allIn_false {xs : List Int} {lo hi : Int} {k : Nat} {x : Int} (h : xs[k]? = some x) (hx : inB x lo hi = false) : allIn xs lo hi = false := by
  unfold allIn
  rw [List.all_eq_false]
  exact ⟨x, List.mem_of_getElem? h, by simp [hx]⟩
theorem allIn_get {xs : List Int} {lo hi : Int} (h : allIn xs lo hi = true) {k : Nat} {x : Int} (hx : xs[k]? = some x) : lo ≤ x ∧ x ≤ hi := by
  unfold allIn at h
  rw [List.all_eq_true] at h
  exact inB_iff.1 (h x (List.mem_of_getElem? hx))
theorem allIn_mem {xs : List Int} {lo hi : Int} (h : allIn xs lo hi = true) {x : Int} (hx : x ∈ xs) : lo ≤ x ∧ x ≤ hi := by
  unfold allIn at h
  rw [List.all_eq_true] at h
  exact inB_iff.1 (h x hx)

def sizesB (x y : Int) : Bool := inB x 1 3 && inB y 1 3
theorem sizesB_iff {x y : Int} : sizesB x y = true ↔ (1 ≤ x ∧ x ≤ 3) ∧ (1 ≤ y ∧ y ≤ 3) := by
  unfold sizesB
  rw [Bool.and_eq_true, inB_iff, inB_iff]

def bitsB (xs : List Int) (n : Int) : Bool := allIn xs 0 1 && decide ((xs.length : Int) = n)

theorem sum_take (xs : List Int) (k : Nat) (x : Int) (h : xs[k]? = some x) : (xs.take (k + 1)).sum = (xs.take k).sum + x := by
  simp [List.take_add_one, h]
theorem sum_take_bound (xs : List Int) (lo hi : Int) (hlo : lo ≤ 0) (hhi : 0 ≤ hi) (h : ∀ (j : Nat) (x : Int), xs[j]? = some x → lo ≤ x ∧ x ≤ hi) (k : Nat) : lo * k ≤ (xs.take k).sum ∧ (xs.take k).sum ≤ hi * k := by
  induction k with
  | zero => simp
  | succ k ih =>
    rw [Int.natCast_add, Int.mul_add, Int.mul_add]
    cases hx : xs[k]? with
    | none =>
      have hl : xs.length ≤ k := by simpa using hx
      rw [List.take_of_length_le (by omega)]
      rw [List.take_of_length_le hl] at ih
      omega
    | some x =>
      rw [sum_take xs k x hx]
      have := h k x hx
      omega

def fourB (xs : List Int) (whole : Int) : Bool := decide (xs.length = 4) && allIn xs 0 whole && decide (xs.sum = whole)

/-! ### The checksum -/
def csum (l : List UInt8) : Int := l.foldl (fun h c => (41 * h + (c.toNat : Int) + 1) % 999979) 7
theorem csum_snoc (l : List UInt8) (c : UInt8) : csum (l ++ [c]) = (41 * csum l + (c.toNat : Int) + 1) % 999979 := by
  simp [csum, List.foldl_append]
theorem csum_fold (l : List UInt8) : ∀ h : Int, 0 ≤ h ∧ h < 999979 → 0 ≤ l.foldl (fun h c => (41 * h + (c.toNat : Int) + 1) % 999979) h ∧ l.foldl (fun h c => (41 * h + (c.toNat : Int) + 1) % 999979) h < 999979 := by
  induction l with
  | nil => intro h hh; exact hh
  | cons c l ih =>
    intro h hh
    exact ih _ (by constructor <;> dsimp only <;> omega)
theorem csum_bound (l : List UInt8) : 0 ≤ csum l ∧ csum l < 999979 := csum_fold l 7 (by omega)
theorem bytes_take (s : ByteArray) (k : Nat) (h : k < s.size) : s.data.toList.take (k + 1) = s.data.toList.take k ++ [s[k]] := by
  rw [List.take_succ_eq_append_getElem (by simpa using h)]; rfl
theorem byte_bound (c : UInt8) : 0 ≤ (c.toNat : Int) ∧ (c.toNat : Int) ≤ 255 := by
  have := c.toNat_lt
  omega

/-! ### Boxes -/
def rowsB (rss : List (List Int)) (whole : Int) : Bool := rss.all fun rs => fourB rs whole
theorem rowsB_true {rss : List (List Int)} {whole : Int} (h : ∀ (j : Nat) (rs : List Int), rss[j]? = some rs → fourB rs whole = true) : rowsB rss whole = true := by
  unfold rowsB
  rw [List.all_eq_true]
  intro x hx
  obtain ⟨j, hj⟩ := List.mem_iff_getElem?.1 hx
  exact h j x hj
theorem rowsB_false {rss : List (List Int)} {whole : Int} {k : Nat} {rs : List Int} (h : rss[k]? = some rs) (hx : fourB rs whole = false) : rowsB rss whole = false := by
  unfold rowsB
  rw [List.all_eq_false]
  exact ⟨rs, List.mem_of_getElem? h, by simp [hx]⟩
theorem rowsB_get {rss : List (List Int)} {whole : Int} (h : rowsB rss whole = true) {k : Nat} {rs : List Int} (hx : rss[k]? = some rs) : fourB rs whole = true := by
  unfold rowsB at h
  rw [List.all_eq_true] at h
  exact h rs (List.mem_of_getElem? hx)
def boxB (b : BoxD) : Bool := sizesB b.X b.Y && (inB b.Whole 1 1000 && (decide ((b.Rows.length : Int) = b.X * b.Y) && rowsB b.Rows b.Whole))
theorem fourB_iff {xs : List Int} {whole : Int} : fourB xs whole = true ↔ xs.length = 4 ∧ allIn xs 0 whole = true ∧ xs.sum = whole := by
  simp [fourB, and_assoc]
theorem fourB_len {xs : List Int} {whole : Int} (h : ¬ xs.length = 4) : fourB xs whole = false := by
  simp [fourB, h]
theorem fourB_in {xs : List Int} {whole : Int} (h : allIn xs 0 whole = false) : fourB xs whole = false := by
  simp [fourB, h]
theorem fourB_sum {xs : List Int} {whole : Int} (h : xs.length = 4) (h2 : allIn xs 0 whole = true) : fourB xs whole = decide (xs.sum = whole) := by
  simp [fourB, h, h2]

end Go.Proofs.YtcifpfdlkpddeaaGreatDoor
set_option linter.unusedSimpArgs false
set_option linter.unusedVariables false
namespace Go.Proofs.YtcifpfdlkpddeaaGreatDoor
open Go.RowKit

theorem Tryz.infoInt : (Tryz.prog.info? 3).map (fun i => (i.zero, i.size, i.bytes)) = some (some (.int .i64 0), 1, 8) := by kernel_rfl

theorem l1In_any (n lo hi : Int) (w : World) :
    Calls Tryz.prog 64 #[.int .i64 n, .int .i64 lo, .int .i64 hi] w fun e w' => e = .returned (.bool (inB n lo hi)) ∧ w = w' := by
  unfold inB
  by_cases h1 : lo ≤ n <;> by_cases h2 : n ≤ hi <;>
  (go_enter Tryz.func64, Tryz.ntmps64
   go_wp2
   go_ret
   exact ⟨by simp [h1, h2], rfl⟩)
theorem within_any (n lo hi : Int) (w : World) :
    Calls Tryz.prog 40 #[.int .i64 n, .int .i64 lo, .int .i64 hi] w fun e w' => e = .returned (.bool (inB n lo hi)) ∧ w = w' := by
  unfold inB
  by_cases h1 : lo ≤ n <;> by_cases h2 : n ≤ hi <;>
  (go_enter Tryz.func40, Tryz.ntmps40
   go_wp2
   go_ret
   exact ⟨by simp [h1, h2], rfl⟩)

/-- A row that is known whole is the call's own. -/
theorem ownV_of_rowIs {T lo : Nat} {w : World} {g : Nat} {vs : List Value} {f : Nat → Value} (h : w.rowIs g T vs.length f) (hlo : lo ≤ g) (hf : ∀ j u, vs[j]? = some u → f j = u) (hm : vs.length ≤ maxLen) :
    OwnV T lo (g + 1) w (.slice (some ⟨g, 0, none⟩) vs.length vs.length) vs := by
  obtain ⟨c, hh, hs, hc⟩ := h
  refine ⟨⟨by omega, Or.inr ⟨g, vs.length, c, rfl, hlo, hh, Nat.le_refl _, hm, by omega, ?_⟩⟩, fun g' hg => by simp [Value.ownBlock] at hg; omega⟩
  apply List.ext_getElem?
  intro j
  rw [List.getElem?_take]
  by_cases hj : j < vs.length
  · rw [if_pos (by omega)]
    have h1 := hc j (by omega)
    rw [hf j _ (List.getElem?_eq_getElem hj)] at h1
    rw [List.getElem?_eq_getElem hj]
    simpa using h1
  · rw [if_neg (by omega), List.getElem?_eq_none (by omega)]

end Go.Proofs.YtcifpfdlkpddeaaGreatDoor
set_option linter.unusedSimpArgs false
set_option linter.unusedVariables false
namespace Go.Proofs.YtcifpfdlkpddeaaGreatDoor
open Go.RowKit

theorem Tryz.infoInts : (Tryz.prog.info? 33).map (fun i => (i.zero, i.size, i.bytes)) = some (some (.slice none 0 0), 1, 24) := by kernel_rfl






end Go.Proofs.YtcifpfdlkpddeaaGreatDoor
set_option linter.unusedSimpArgs false
set_option linter.unusedVariables false
namespace Go.Proofs.YtcifpfdlkpddeaaGreatDoor
open Go.RowKit





end Go.Proofs.YtcifpfdlkpddeaaGreatDoor
set_option linter.unusedSimpArgs false
set_option linter.unusedVariables false
namespace Go.Proofs.YtcifpfdlkpddeaaGreatDoor
open Go.RowKit

set_option maxHeartbeats 400000 in
theorem rInts_any (v1 v2 : Value) (xs ys : List Int) (w : World) (h1 : RdI w v1 xs) (h2 : RdI w v2 ys) :
    Calls Tryz.prog 13 #[v1, v2] w fun e w' => e = .returned (.bool (decide (xs = ys))) ∧ Drw w w' := by
  obtain ⟨a1, b1, o1, c1, rfl, m1, e1, k1⟩ := h1
  obtain ⟨a2, b2, o2, c2, rfl, m2, e2, k2⟩ := h2
  unfold maxLen at m1 m2
  by_cases hl : xs.length = ys.length
  · have hlz : ((xs.length : Int) != (ys.length : Int)) = false := by rw [hl]; simp
    have H := Lib.hid hl
    clear hl
    go_enter Tryz.func13, Tryz.ntmps13
    go_wp2
    go_loopw [5] (fun i wr => ∃ k : Nat, k ≤ xs.length ∧ i = .int .i64 k ∧ (∀ j, j < k → xs[j]? = ys[j]?) ∧ Drw w wr) (fun i _ => xs.length - (intOf i).toNat)
    case atStart => exact ⟨0, by omega, rfl, fun j hj => by omega, Drw.refl _⟩
    case round =>
      obtain ⟨k, hk, rfl, hj, hd⟩ := hrel
      by_cases hlt : k < xs.length
      · have hlt2 : k < ys.length := by rw [← H.out]; exact hlt
        obtain rfl := e1 (by omega)
        obtain rfl := e2 (by omega)
        have hx := k1 k _ (List.getElem?_eq_getElem hlt)
        rw [← hd.cell] at hx
        have hy := k2 k _ (List.getElem?_eq_getElem hlt2)
        rw [← hd.cell] at hy
        clear k1 k2
        by_cases he : xs[k] = ys[k]
        · have hez : (xs[k] != ys[k]) = false := by simp [he]
          have HE := Lib.hid he
          clear he
          go_wp2
          go_quiet (fail)
          go_wp2
          go_roundw
          case rel => exact ⟨k + 1, by omega, by go_num, fun j hjk => by
            by_cases e : j = k
            · subst e; rw [List.getElem?_eq_getElem hlt, List.getElem?_eq_getElem hlt2, HE.out]
            · exact hj j (by omega), hd.trans (Drw.mk _ _)⟩
          case measure => simp [intOf]; omega
        · have hez : (xs[k] != ys[k]) = true := by simp [he]
          have HE := Lib.hid he
          clear he
          go_wp2
          go_quiet (fail)
          go_wp2
          go_ret
          exact ⟨ret_bool (lists_ne hlt hlt2 HE.out), hd.trans (Drw.mk _ _)⟩
      · go_wp2
        go_ret
        obtain rfl : k = xs.length := by omega
        exact ⟨ret_bool (lists_eq H.out hj), hd⟩
  · have hlz : ((xs.length : Int) != (ys.length : Int)) = true := by simp; omega
    go_enter Tryz.func13, Tryz.ntmps13
    go_wp2
    go_ret
    exact ⟨ret_bool (lists_len hl), Drw.refl _⟩
set_option maxHeartbeats 400000 in
theorem rTable_any (v1 v2 : Value) (xs ys : List (List Int)) (w : World) (h1 : RdII w v1 xs) (h2 : RdII w v2 ys) :
    Calls Tryz.prog 51 #[v1, v2] w fun e w' => e = .returned (.bool (decide (xs = ys))) ∧ Drw w w' := by
  obtain ⟨a1, b1, o1, c1, rfl, m1, e1, k1⟩ := h1
  obtain ⟨a2, b2, o2, c2, rfl, m2, e2, k2⟩ := h2
  unfold maxLen at m1 m2
  by_cases hl : xs.length = ys.length
  · have hlz : ((xs.length : Int) != (ys.length : Int)) = false := by rw [hl]; simp
    have H := Lib.hid hl
    clear hl
    go_enter Tryz.func51, Tryz.ntmps51
    go_wp2
    go_loopw [5] (fun i wr => ∃ k : Nat, k ≤ xs.length ∧ i = .int .i64 k ∧ (∀ j, j < k → xs[j]? = ys[j]?) ∧ Drw w wr) (fun i _ => xs.length - (intOf i).toNat)
    case atStart => exact ⟨0, by omega, rfl, fun j hj => by omega, Drw.refl _⟩
    case round =>
      obtain ⟨k, hk, rfl, hj, hd⟩ := hrel
      by_cases hlt : k < xs.length
      · have hlt2 : k < ys.length := by rw [← H.out]; exact hlt
        obtain rfl := e1 (by omega)
        obtain rfl := e2 (by omega)
        obtain ⟨u1, hx, r1⟩ := k1 k _ (List.getElem?_eq_getElem hlt)
        rw [← hd.cell] at hx
        obtain ⟨u2, hy, r2⟩ := k2 k _ (List.getElem?_eq_getElem hlt2)
        rw [← hd.cell] at hy
        clear k1 k2
        have r1' : ∀ m, RdI (wr.drewN m) u1 xs[k] := fun m => (r1.drw hd).drw (Drw.mk _ _)
        have r2' : ∀ m, RdI (wr.drewN m) u2 ys[k] := fun m => (r2.drw hd).drw (Drw.mk _ _)
        by_cases he : xs[k] = ys[k]
        · have hez : decide (xs[k] = ys[k]) = true := by simp [he]
          have HE := Lib.hid he
          clear he
          go_wp2
          go_quiet ((go_at_call 13; exact quietDrw (rInts_any u1 u2 _ _ _ (r1' _) (r2' _))))
          go_wp2
          go_roundw
          case rel => exact ⟨k + 1, by omega, by go_num, fun j hjk => by
            by_cases e : j = k
            · subst e; rw [List.getElem?_eq_getElem hlt, List.getElem?_eq_getElem hlt2, HE.out]
            · exact hj j (by omega), hd.trans (Drw.mk _ _)⟩
          case measure => simp [intOf]; omega
        · have hez : decide (xs[k] = ys[k]) = false := by simp [he]
          have HE := Lib.hid he
          clear he
          go_wp2
          go_quiet ((go_at_call 13; exact quietDrw (rInts_any u1 u2 _ _ _ (r1' _) (r2' _))))
          go_wp2
          go_ret
          exact ⟨ret_bool (lists_ne hlt hlt2 HE.out), hd.trans (Drw.mk _ _)⟩
      · go_wp2
        go_ret
        obtain rfl : k = xs.length := by omega
        exact ⟨ret_bool (lists_eq H.out hj), hd⟩
  · have hlz : ((xs.length : Int) != (ys.length : Int)) = true := by simp; omega
    go_enter Tryz.func51, Tryz.ntmps51
    go_wp2
    go_ret
    exact ⟨ret_bool (lists_len hl), Drw.refl _⟩
set_option maxHeartbeats 400000 in
theorem rBox_any (va vb : Value) (a b : BoxD) (w : World) (ha : RdII w va a.Rows) (hb : RdII w vb b.Rows) :
    Calls Tryz.prog 17 #[.agg #[.int .i64 a.X, .int .i64 a.Y, .int .i64 a.Whole, va], .agg #[.int .i64 b.X, .int .i64 b.Y, .int .i64 b.Whole, vb]] w fun e w' => e = .returned (.bool (decide (a = b))) ∧ Below w.heap.size w w' := by
  by_cases h1 : a.X = b.X
  · have h1z : (a.X != b.X) = false := by simp [h1]
    have H1 := Lib.hid h1
    clear h1
    by_cases h2 : a.Y = b.Y
    · have h2z : (a.Y != b.Y) = false := by simp [h2]
      have H2 := Lib.hid h2
      clear h2
      by_cases h3 : a.Whole = b.Whole
      · have h3z : (a.Whole != b.Whole) = false := by simp [h3]
        have H3 := Lib.hid h3
        clear h3
        go_enter Tryz.func17, Tryz.ntmps17
        go_wp2_with fail
        refine (rTable_any va vb a.Rows b.Rows _ (ha.kept (Nat.le_refl _) (by repeat' (first | with_reducible exact Below.refl _ _ | with_reducible assumption | with_reducible apply Below.alloc | with_reducible apply Below.setCell | with_reducible apply Below.drew | exact Nat.le_refl _ | omega | (simp only [World.size_alloc, World.size_setCell]; omega)))) (hb.kept (Nat.le_refl _) (by repeat' (first | with_reducible exact Below.refl _ _ | with_reducible assumption | with_reducible apply Below.alloc | with_reducible apply Below.setCell | with_reducible apply Below.drew | exact Nat.le_refl _ | omega | (simp only [World.size_alloc, World.size_setCell]; omega))))).mono ?_
        rintro e w1 ⟨rfl, hd⟩
        have hB : Below w.heap.size w w1 := Below.trans (by repeat' (first | with_reducible exact Below.refl _ _ | with_reducible assumption | with_reducible apply Below.alloc | with_reducible apply Below.setCell | with_reducible apply Below.drew | exact Nat.le_refl _ | omega | (simp only [World.size_alloc, World.size_setCell]; omega))) (hd.below _)
        by_cases h4 : a.Rows = b.Rows
        · have h4z : decide (a.Rows = b.Rows) = true := by simp [h4]
          have H4 := Lib.hid h4z
          clear h4
          go_wp2
          go_ret
          exact ⟨ret_bool (by rw [← BoxD.eq_of H1.out H2.out H3.out, H4.out]), hB⟩
        · have h4z : decide (a.Rows = b.Rows) = false := by simp [h4]
          have H4 := Lib.hid h4z
          clear h4
          go_wp2
          go_ret
          exact ⟨ret_bool (by rw [← BoxD.eq_of H1.out H2.out H3.out, H4.out]), hB⟩
      · have h3z : (a.Whole != b.Whole) = true := by simp [h3]
        have H3 := Lib.hid h3
        clear h3
        go_enter Tryz.func17, Tryz.ntmps17
        go_wp2
        go_ret
        exact ⟨ret_bool (BoxD.ne_W H3.out), (by repeat' (first | with_reducible exact Below.refl _ _ | with_reducible assumption | with_reducible apply Below.alloc | with_reducible apply Below.setCell | with_reducible apply Below.drew | exact Nat.le_refl _ | omega | (simp only [World.size_alloc, World.size_setCell]; omega)))⟩
    · have h2z : (a.Y != b.Y) = true := by simp [h2]
      have H2 := Lib.hid h2
      clear h2
      go_enter Tryz.func17, Tryz.ntmps17
      go_wp2
      go_ret
      exact ⟨ret_bool (BoxD.ne_Y H2.out), (by repeat' (first | with_reducible exact Below.refl _ _ | with_reducible assumption | with_reducible apply Below.alloc | with_reducible apply Below.setCell | with_reducible apply Below.drew | exact Nat.le_refl _ | omega | (simp only [World.size_alloc, World.size_setCell]; omega)))⟩
  · have h1z : (a.X != b.X) = true := by simp [h1]
    have H1 := Lib.hid h1
    clear h1
    go_enter Tryz.func17, Tryz.ntmps17
    go_wp2
    go_ret
    exact ⟨ret_bool (BoxD.ne_X H1.out), (by repeat' (first | with_reducible exact Below.refl _ _ | with_reducible assumption | with_reducible apply Below.alloc | with_reducible apply Below.setCell | with_reducible apply Below.drew | exact Nat.le_refl _ | omega | (simp only [World.size_alloc, World.size_setCell]; omega)))⟩
theorem rBig_any (a : Option Addr) (n cap : Nat) (w : World) (hn : n ≤ maxLen) :
    Calls Tryz.prog 4 #[.slice a n cap] w fun e w' => e = .returned (.bool (decide ((65536 : Int) < (n : Int)))) ∧ w = w' := by
  unfold maxLen at hn
  by_cases h : (65536 : Int) < (n : Int)
  · have HD := Lib.hid (decide_eq_true h)
    go_enter Tryz.func4, Tryz.ntmps4
    go_wp2
    go_ret
    exact ⟨ret_bool (by rw [HD.out]), rfl⟩
  · have HD := Lib.hid (decide_eq_false h)
    go_enter Tryz.func4, Tryz.ntmps4
    go_wp2
    go_ret
    exact ⟨ret_bool (by rw [HD.out]), rfl⟩
end Go.Proofs.YtcifpfdlkpddeaaGreatDoor
set_option linter.unusedSimpArgs false
set_option linter.unusedVariables false
namespace Go.Proofs.YtcifpfdlkpddeaaGreatDoor

abbrev Num := Int → Int → Int → Int → Int
/-- The first q numbers of a row, by the answers. -/
def rowTo (num : Num) (i j : Int) (q : Nat) : List Int := List.map (fun p : Nat => num i j ((p : Int) / 2) ((p : Int) % 2)) (List.range q)
def rowOf (num : Num) (i j : Int) : List Int := [num i j 0 0, num i j 0 1, num i j 1 0, num i j 1 1]
theorem rowTo_four (num : Num) (i j : Int) : rowTo num i j 4 = rowOf num i j := by
  simp [rowTo, rowOf, List.range_succ]
theorem rowTo_succ (num : Num) (i j : Int) (q : Nat) : rowTo num i j (q + 1) = rowTo num i j q ++ [num i j ((q : Int) / 2) ((q : Int) % 2)] := by
  simp [rowTo, List.range_succ]
@[simp] theorem rowTo_length (num : Num) (i j : Int) (q : Nat) : (rowTo num i j q).length = q := by simp [rowTo]

/-- The first n rows of a box with Y questions of the second player. -/
def rowsTo (num : Num) (Y n : Nat) : List (List Int) := List.map (fun p : Nat => rowOf num ((p / Y : Nat) : Int) ((p % Y : Nat) : Int)) (List.range n)
@[simp] theorem rowsTo_length (num : Num) (Y n : Nat) : (rowsTo num Y n).length = n := by simp [rowsTo]
theorem rowsTo_succ (num : Num) (Y i j : Nat) (hj : j < Y) : rowsTo num Y (i * Y + j + 1) = rowsTo num Y (i * Y + j) ++ [rowOf num (i : Int) (j : Int)] := by
  have h1 : (i * Y + j) / Y = i := by
    rw [Nat.add_comm, Nat.add_mul_div_right _ _ (by omega), Nat.div_eq_of_lt hj, Nat.zero_add]
  have h2 : (i * Y + j) % Y = j := by
    rw [Nat.add_comm, Nat.add_mul_mod_self_right, Nat.mod_eq_of_lt hj]
  unfold rowsTo
  rw [List.range_succ, List.map_append, List.map_cons, List.map_nil, h1, h2]
theorem rowsTo_get (num : Num) (Y n i j : Nat) (hj : j < Y) (hn : i * Y + j < n) : (rowsTo num Y n)[i * Y + j]? = some (rowOf num (i : Int) (j : Int)) := by
  have h1 : (i * Y + j) / Y = i := by
    rw [Nat.add_comm, Nat.add_mul_div_right _ _ (by omega), Nat.div_eq_of_lt hj, Nat.zero_add]
  have h2 : (i * Y + j) % Y = j := by
    rw [Nat.add_comm, Nat.add_mul_mod_self_right, Nat.mod_eq_of_lt hj]
  unfold rowsTo
  rw [List.getElem?_map, List.getElem?_range hn, Option.map_some, h1, h2]

end Go.Proofs.YtcifpfdlkpddeaaGreatDoor
