/- Texts tell boxes: the box of a box's text. No program in sight. Two valid boxes with as many questions; the cells that lead to a valid box's numbers. Sums for the answer 1: contracts of the program's and the reference's function. -/
import Derived.Test.YtcifpfdlkpddeaaGreatDoorQxaq
import Derived.Test.YtcifpfdlkpddeaaGreatDoorQxai
set_option linter.unusedSimpArgs false
set_option linter.unusedVariables false
namespace Go.Proofs.YtcifpfdlkpddeaaGreatDoor

theorem pieces_app (c : UInt8) : ∀ (x l : List UInt8), c ∉ x → pieces c (x ++ c :: l) = x :: pieces c l
  | [], l, _ => by simp [pieces]
  | b :: x, l, h => by
    have hb : ¬ b = c := fun e => h (by rw [e]; exact List.mem_cons_self ..)
    have ih := pieces_app c x l (fun hm => h (List.mem_cons_of_mem _ hm))
    show pieces c (b :: (x ++ c :: l)) = _
    rw [pieces, if_neg hb, ih]
    rfl
theorem pieces_self (c : UInt8) (x : List UInt8) (h : c ∉ x) : pieces c x = [x] :=
  pieces_none fun k hk => h (List.mem_of_getElem? hk)
theorem pieces_join (c : UInt8) : ∀ (x : List UInt8) (r : List (List UInt8)), c ∉ x → (∀ y ∈ r, c ∉ y) → pieces c (Lib.join (x :: r) [c]) = x :: r
  | x, [], hx, _ => by rw [Lib.join_one]; exact pieces_self c x hx
  | x, y :: r, hx, hr => by
    have ih := pieces_join c y r (hr y (List.mem_cons_self ..)) (fun z hz => hr z (List.mem_cons_of_mem _ hz))
    have e : Lib.join (x :: y :: r) [c] = x ++ c :: Lib.join (y :: r) [c] := by
      rw [Lib.join_cons, Lib.join_cons]
      simp [Lib.joinTail]
    rw [e, pieces_app c x _ hx, ih]
theorem piecesB_join (c : UInt8) {ss : List ByteArray} (h0 : ss ≠ []) (h : ∀ s ∈ ss, c ∉ s.data.toList) : piecesB c (joinB c ss) = ss := by
  cases ss with
  | nil => exact absurd rfl h0
  | cons s r =>
    unfold piecesB joinB
    rw [List.map_cons]
    show (pieces c (Lib.join (s.data.toList :: r.map (·.data.toList)) [c])).map _ = _
    rw [pieces_join c _ _ (h s (List.mem_cons_self ..)) (fun y hy => by
      obtain ⟨z, hz, rfl⟩ := List.mem_map.1 hy
      exact h z (List.mem_cons_of_mem _ hz))]
    simp only [List.map_cons, List.map_map]
    congr 1
    · conv => rhs; rw [← List.map_id r]
      apply List.map_congr_left
      intro x _
      rfl
/-- The bytes of a number's text. -/
theorem itoa_bytes {n : Int} (h0 : 0 ≤ n) {c : UInt8} (h : c ∈ Lib.itoa n) : 48 ≤ c.toNat ∧ c.toNat ≤ 57 := by
  obtain ⟨u, rfl⟩ := Int.eq_ofNat_of_zero_le h0
  obtain ⟨j, hj⟩ := List.mem_iff_getElem?.1 h
  rw [Lib.itoa_nonneg] at hj
  obtain ⟨d, hd⟩ := Lib.digit_of_decFrom _ _ _ (decFrom_digits u u (Nat.le_refl _)) j c hj
  unfold Lib.digitVal at hd
  split at hd
  · rename_i hc
    first
      | exact hc
      | (have := hc; simp at this; exact ⟨UInt8.le_iff_toNat_le.1 this.1, UInt8.le_iff_toNat_le.1 this.2⟩)
  · cases hd
theorem join_mem (c : UInt8) : ∀ (ss : List (List UInt8)) (x : UInt8), x ∈ Lib.join ss [c] → x = c ∨ ∃ s ∈ ss, x ∈ s
  | [], x, h => by rw [Lib.join_nil] at h; cases h
  | [s], x, h => by rw [Lib.join_one] at h; exact Or.inr ⟨s, List.mem_cons_self .., h⟩
  | s :: t :: r, x, h => by
    have e : Lib.join (s :: t :: r) [c] = s ++ c :: Lib.join (t :: r) [c] := by
      rw [Lib.join_cons, Lib.join_cons]
      simp [Lib.joinTail]
    rw [e, List.mem_append, List.mem_cons] at h
    rcases h with h | h | h
    · exact Or.inr ⟨s, List.mem_cons_self .., h⟩
    · exact Or.inl h
    · rcases join_mem c (t :: r) x h with h | ⟨u, hu, hx⟩
      · exact Or.inl h
      · exact Or.inr ⟨u, List.mem_cons_of_mem _ hu, hx⟩
theorem rowT_bytes {rs : List Int} (h : ∀ x ∈ rs, 0 ≤ x) {c : UInt8} (hc : c ∈ (rowT rs).data.toList) : c = 44 ∨ (48 ≤ c.toNat ∧ c.toNat ≤ 57) := by
  unfold rowT joinB at hc
  rcases join_mem 44 _ c hc with h1 | ⟨s, hs, hx⟩
  · exact Or.inl h1
  · right
    obtain ⟨t, ht, rfl⟩ := List.mem_map.1 hs
    obtain ⟨n, hn, rfl⟩ := List.mem_map.1 ht
    exact itoa_bytes (h n hn) hx
theorem readV_itoa {n : Int} (h : inB n (-999999) 999999 = true) : readV (itoaB n) = n ∧ readOk (itoaB n) = true := read_some (s := itoaB n) (readI_itoa h)
theorem nums_rowT {rs : List Int} (h0 : rs ≠ []) (h : ∀ x ∈ rs, 0 ≤ x ∧ x ≤ 1000) : numsL (rowT rs) = rs ∧ numsOk (rowT rs) = true := by
  have hp : piecesB 44 (rowT rs) = rs.map itoaB := by
    unfold rowT
    refine piecesB_join 44 (by simpa using h0) fun s hs hc => ?_
    obtain ⟨n, hn, rfl⟩ := List.mem_map.1 hs
    have := itoa_bytes (h n hn).1 hc
    have h44 : (44 : UInt8).toNat = 44 := rfl
    omega
  unfold numsL numsOk
  rw [hp, List.map_map]
  refine ⟨?_, ?_⟩
  · conv => rhs; rw [← List.map_id rs]
    apply List.map_congr_left
    intro n hn
    have := h n hn
    exact (readV_itoa (inB_iff.2 (by omega))).1
  · rw [List.all_eq_true]
    intro s hs
    obtain ⟨n, hn, rfl⟩ := List.mem_map.1 hs
    have := h n hn
    exact (readV_itoa (inB_iff.2 (by omega))).2
theorem qb_text {b : BoxD} (hb : boxB b = true) : parseOk (txtB b) = true ∧ parseD (txtB b) = b := by
  obtain ⟨⟨⟨x1, x3⟩, y1, y3⟩, ⟨w1, w2⟩, hl, _⟩ := boxB_iff.1 hb
  have h4 : ∀ rs ∈ b.Rows, rs.length = 4 ∧ ∀ x ∈ rs, 0 ≤ x ∧ x ≤ 1000 := fun rs hrs => by
    obtain ⟨k, hk⟩ := List.mem_iff_getElem?.1 hrs
    obtain ⟨h1, h2⟩ := boxB_row4 hb k rs hk
    refine ⟨h1, fun x hx => ?_⟩
    obtain ⟨q, hq⟩ := List.mem_iff_getElem?.1 hx
    have := h2 q x hq
    omega
  have hw : wordsB (txtB b) = boxW b := by
    unfold wordsB txtB
    refine piecesB_join 32 (by simp [boxW]) fun s hs hc => ?_
    have h32 : (32 : UInt8).toNat = 32 := rfl
    unfold boxW at hs
    rcases List.mem_cons.1 hs with rfl | hs
    · have := itoa_bytes (n := b.X) (by omega) hc; omega
    · rcases List.mem_cons.1 hs with rfl | hs
      · have := itoa_bytes (n := b.Y) (by omega) hc; omega
      · obtain ⟨rs, hrs, rfl⟩ := List.mem_map.1 hs
        rcases rowT_bytes (fun x hx => ((h4 rs hrs).2 x hx).1) hc with h | h
        · cases h
        · omega
  have hXY : 0 < b.X * b.Y := Int.mul_pos (by omega) (by omega)
  have hlen := boxB_len hb
  have hl1 : 1 ≤ b.Rows.length := by omega
  obtain ⟨r0, hr0⟩ : ∃ r0, b.Rows[0]? = some r0 := ⟨_, List.getElem?_eq_getElem (by omega)⟩
  have hrow : ∀ rs ∈ b.Rows, numsL (rowT rs) = rs ∧ numsOk (rowT rs) = true := fun rs hrs => nums_rowT (by intro e; have := (h4 rs hrs).1; rw [e] at this; cases this) (h4 rs hrs).2
  have hd : (wordsB (txtB b)).drop 2 = b.Rows.map rowT := by rw [hw]; rfl
  have hw0 : word (txtB b) 0 = itoaB b.X := by unfold word; rw [hw]; rfl
  have hw1 : word (txtB b) 1 = itoaB b.Y := by unfold word; rw [hw]; rfl
  have hw2 : word (txtB b) 2 = rowT r0 := by
    unfold word
    rw [hw, List.getD_eq_getElem?_getD, boxW_get b 0 r0 hr0]
    rfl
  have hX := readV_itoa (n := b.X) (inB_iff.2 (by omega))
  have hY := readV_itoa (n := b.Y) (inB_iff.2 (by omega))
  have hcand : candB (txtB b) = b := by
    unfold candB
    rw [hd, hw0, hw1, hw2, hX.1, hY.1, (hrow r0 (List.mem_of_getElem? hr0)).1, boxB_rowS hb 0 r0 hr0, List.map_map]
    have : b.Rows.map (numsL ∘ rowT) = b.Rows := by
      conv => rhs; rw [← List.map_id b.Rows]
      apply List.map_congr_left
      intro rs hrs
      exact (hrow rs hrs).1
    rw [this]
  have hok : parseOk (txtB b) = true := by
    rw [parse_rest (by rw [hw, boxW_length]; omega) (by rw [hw0]; exact hX.2) (by rw [hw1]; exact hY.2) (fun k t hk => by
      rw [hd, List.getElem?_map, Option.map_eq_some_iff] at hk
      obtain ⟨rs, hrs, rfl⟩ := hk
      exact (hrow rs (List.mem_of_getElem? hrs)).2), hcand, hb]
    simp
  exact ⟨hok, by rw [parse_yes hok, hcand]⟩
end Go.Proofs.YtcifpfdlkpddeaaGreatDoor
set_option linter.unusedSimpArgs false
set_option linter.unusedVariables false
namespace Go.Proofs.YtcifpfdlkpddeaaGreatDoor
open Go.RowKit

def sameB (a b : BoxD) : Bool := boxB a && (boxB b && (decide (a.X = b.X) && decide (a.Y = b.Y)))
theorem sameB_iff {a b : BoxD} : sameB a b = true ↔ boxB a = true ∧ boxB b = true ∧ a.X = b.X ∧ a.Y = b.Y := by
  unfold sameB
  rw [Bool.and_eq_true, Bool.and_eq_true, Bool.and_eq_true, decide_eq_true_iff, decide_eq_true_iff]

theorem keepAt {B : Nat} {w w' : World} {b o : Nat} {v : Value} (hB : Below B w w') (hb : b < B) (h : w.cell? ⟨b, o, none⟩ = some v) : w'.cell? ⟨b, o, none⟩ = some v :=
  (hB.cell (p := ⟨b, o, none⟩) hb).trans h

/-- The cells that lead to a valid box's number, by its places. -/
theorem boxB_path {b : BoxD} (hb : boxB b = true) {w : World} {v : Value} (h : RdII w v b.Rows) (k : Nat) (hk : k < b.Rows.length) :
    ∃ (ba off cap b2 o2 c2 : Nat), v = .slice (some ⟨ba, off, none⟩) b.Rows.length cap ∧ b.Rows.length ≤ 9 ∧ w.cell? ⟨ba, off + k, none⟩ = some (.slice (some ⟨b2, o2, none⟩) 4 c2) ∧ ba < w.heap.size ∧ b2 < w.heap.size ∧
      ∀ q, q < 4 → ∃ x : Int, w.cell? ⟨b2, o2 + q, none⟩ = some (.int .i64 x) ∧ (0 ≤ x ∧ x ≤ b.Whole) ∧ numB b ((k / b.Y.toNat : Nat) : Int) ((k % b.Y.toNat : Nat) : Int) ((q : Int) / 2) ((q : Int) % 2) = x ∧ cellAt b.Rows k q = x := by
  obtain ⟨av, ba, off, cap, rfl, hm, ha, hc⟩ := h
  obtain rfl := ha (by omega)
  obtain ⟨rs, x0, hrs, hl, hx0, _, _⟩ := boxB_cell hb k 0 hk (by omega)
  obtain ⟨v', hv', a2, b2, o2, c2, rfl, _, ha2, hc2⟩ := hc k rs hrs
  obtain rfl := ha2 (by omega)
  have l1 := World.block_lt_of_cell? _ _ hv'
  have l2 := World.block_lt_of_cell? _ _ (hc2 0 x0 hx0)
  rw [hl] at hv'
  refine ⟨ba, off, cap, b2, o2, c2, rfl, boxB_len hb, hv', l1, l2, fun q hq => ?_⟩
  obtain ⟨rs', x, hrs', _, hx, hb, hn⟩ := boxB_cell hb k q hk hq
  rw [hrs] at hrs'
  cases hrs'
  exact ⟨x, hc2 q x hx, hb, hn, cellAt_get hrs hx⟩

theorem mul_small {x k : Int} (h0 : 0 ≤ x) (h1 : x ≤ 1000) (k0 : 1 ≤ k) (k1 : k ≤ 1000) : 0 ≤ x * k ∧ x * k ≤ 1000000 := by
  refine ⟨Int.mul_nonneg h0 (by omega), ?_⟩
  have := Int.mul_le_mul h1 k1 (by omega) (by omega : (0 : Int) ≤ 1000)
  omega
theorem div_small {n d : Int} (h0 : 0 ≤ n) (h1 : n ≤ 1000000) (d0 : 1 ≤ d) : 0 ≤ n / d ∧ n / d ≤ 1000000 := by
  refine ⟨Int.ediv_nonneg h0 (by omega), ?_⟩
  have := Int.ediv_le_self d h0
  omega
theorem boxB_len1 {b : BoxD} (hb : boxB b = true) : 1 ≤ b.Rows.length := by
  obtain ⟨⟨⟨hx0, hx1⟩, hy0, hy1⟩, _⟩ := boxB_iff.1 hb
  rw [boxB_len2 hb]
  exact Nat.mul_le_mul (show 1 ≤ b.X.toNat by omega) (show 1 ≤ b.Y.toNat by omega)
end Go.Proofs.YtcifpfdlkpddeaaGreatDoor
set_option linter.unusedSimpArgs false
set_option linter.unusedVariables false
namespace Go.Proofs.YtcifpfdlkpddeaaGreatDoor
open Go.RowKit

/-- The sum for the answer 1 of a player, at the questions x and y. -/
def oneB (b : BoxD) (pl : Nat) (x y : Nat) : Int := if pl = 0 then numB b x y 1 0 + numB b x y 1 1 else numB b x y 0 1 + numB b x y 1 1
theorem oneB_0 (b : BoxD) (x y : Nat) : oneB b 0 x y = numB b x y 1 0 + numB b x y 1 1 := rfl
theorem oneB_1 (b : BoxD) (x y : Nat) : oneB b 1 x y = numB b x y 0 1 + numB b x y 1 1 := rfl
theorem oneB_bd {b : BoxD} (hb : boxB b = true) (pl x y : Nat) (hx : (x : Int) < b.X) (hy : (y : Int) < b.Y) : 0 ≤ oneB b pl x y ∧ oneB b pl x y ≤ b.Whole := by
  obtain ⟨h0, h1, h2, h3, h4⟩ := boxB_four hb x y hx hy
  unfold oneB
  split <;> omega

set_option maxHeartbeats 800000 in
theorem l2One0_any (b5 o5 c5 : Nat) (p q r s : Int) (hr : 0 ≤ r ∧ r ≤ 1000) (hs : 0 ≤ s ∧ s ≤ 1000) (w : World)
    (h : w.cell? ⟨b5, o5, none⟩ = some (.int .i64 p) ∧ w.cell? ⟨b5, o5 + 1, none⟩ = some (.int .i64 q) ∧ w.cell? ⟨b5, o5 + 2, none⟩ = some (.int .i64 r) ∧ w.cell? ⟨b5, o5 + 3, none⟩ = some (.int .i64 s)) :
    Calls Tryz.prog 44 #[.slice (some ⟨b5, o5, none⟩) 4 c5, .int .i64 0] w fun e w' => e = .returned (.int .i64 (r + s)) ∧ Drw w w' := by
  obtain ⟨k0, k1, k2, k3⟩ := h
  have hw := wrap_in (r + s) (by omega) (by omega)
  clear hr hs
  go_enter Tryz.func44, Tryz.ntmps44
  go_wp2
  go_quiet (fail)
  go_wp2
  go_ret
  exact ⟨rfl, Drw.mk _ _⟩
set_option maxHeartbeats 800000 in
theorem l2One1_any (b5 o5 c5 : Nat) (p q r s : Int) (hr : 0 ≤ q ∧ q ≤ 1000) (hs : 0 ≤ s ∧ s ≤ 1000) (w : World)
    (h : w.cell? ⟨b5, o5, none⟩ = some (.int .i64 p) ∧ w.cell? ⟨b5, o5 + 1, none⟩ = some (.int .i64 q) ∧ w.cell? ⟨b5, o5 + 2, none⟩ = some (.int .i64 r) ∧ w.cell? ⟨b5, o5 + 3, none⟩ = some (.int .i64 s)) :
    Calls Tryz.prog 44 #[.slice (some ⟨b5, o5, none⟩) 4 c5, .int .i64 1] w fun e w' => e = .returned (.int .i64 (q + s)) ∧ Drw w w' := by
  obtain ⟨k0, k1, k2, k3⟩ := h
  have hw := wrap_in (q + s) (by omega) (by omega)
  clear hr hs
  go_enter Tryz.func44, Tryz.ntmps44
  go_wp2
  go_quiet (fail)
  go_wp2
  go_ret
  exact ⟨rfl, Drw.mk _ _⟩
theorem at_lit (v : Value) (b : BoxD) (hb : boxB b = true) (i j a c : Nat) (a' c' : Int) (ea : (a : Int) = a') (ec : (c : Int) = c') (hi : (i : Int) < b.X) (hj : (j : Int) < b.Y) (ha : a < 2) (hc : c < 2) (w : World) (h : RdII w v b.Rows) :
    Calls Tryz.prog 91 #[.agg #[.int .i64 b.X, .int .i64 b.Y, .int .i64 b.Whole, v], .int .i64 i, .int .i64 j, .int .i64 a', .int .i64 c'] w fun e w' => e = .returned (.int .i64 (numB b i j a' c')) ∧ Below w.heap.size w w' := by
  subst ea ec
  exact at_any v b hb i j a c hi hj ha hc w h
set_option maxHeartbeats 1600000 in
theorem ones0_any (v : Value) (b : BoxD) (hb : boxB b = true) (x y : Nat) (hx : (x : Int) < b.X) (hy : (y : Int) < b.Y) (w : World) (h : RdII w v b.Rows) :
    Calls Tryz.prog 75 #[.agg #[.int .i64 b.X, .int .i64 b.Y, .int .i64 b.Whole, v], .int .i64 0, .int .i64 x, .int .i64 y] w fun e w' => e = .returned (.int .i64 (oneB b 0 x y)) ∧ Below w.heap.size w w' := by
  have n0 := numB_bound hb x y hx hy 1 0 (by omega) (by omega)
  have n1 := numB_bound hb x y hx hy 1 1 (by omega) (by omega)
  have hwb := (boxB_iff.1 hb).2.1
  have hw := wrap_in (numB b x y ((1 : Nat) : Int) ((0 : Nat) : Int) + numB b x y ((1 : Nat) : Int) ((1 : Nat) : Int)) (by omega) (by omega)
  have hw2 : IntKind.i64.wrap (numB b x y 1 0 + numB b x y 1 1) = numB b x y 1 0 + numB b x y 1 1 := hw
  rw [oneB_0]
  have A0 : BoxAt (w.alloc (.cells #[.int .i64 b.X, .int .i64 b.Y, .int .i64 b.Whole, v] 26)) w.heap.size b.X b.Y b.Whole v := BoxAt.top rfl
  have B0 : Below w.heap.size w (w.alloc (.cells #[.int .i64 b.X, .int .i64 b.Y, .int .i64 b.Whole, v] 26)) := (by repeat' (first | with_reducible exact Below.refl _ _ | with_reducible assumption | with_reducible apply Below.alloc | with_reducible apply Below.setCell | with_reducible apply Below.drew | exact Nat.le_refl _ | omega | (simp only [World.size_alloc, World.size_setCell]; omega)))
  clear n0 n1 hwb hw
  go_enter Tryz.func75, Tryz.ntmps75
  go_wp2
  generalize hw1 : w.alloc (.cells #[.int .i64 b.X, .int .i64 b.Y, .int .i64 b.Whole, v] 26) = w1 at *
  have ra := h.kept (Nat.le_refl _) B0
  go_region_held3 (fun w' => Below w1.heap.size w1 w' ∧ w'.cell? ⟨w.heap.size, 0, none⟩ = some (.int .i64 b.X) ∧ w'.cell? ⟨w.heap.size, 1, none⟩ = some (.int .i64 b.Y) ∧ w'.cell? ⟨w.heap.size, 2, none⟩ = some (.int .i64 b.Whole) ∧ w'.cell? ⟨w.heap.size, 3, none⟩ = some v)
    (first | exact held1 (Below.refl _ _).drew A0 | exact held1 hBn A0)
    (first
      | (go_at_call 91; have hS := And.left (by assumption : Below w1.heap.size w1 _ ∧ _); (with_reducible refine (at_lit v b hb x y 1 0 1 0 rfl rfl hx hy (by omega) (by omega) _ (ra.kept (Nat.le_refl _) hS)).mono ?_); rintro e w2 ⟨rfl, b2⟩; have hBn : Below w1.heap.size w1 w2 := hS.trans (b2.mono hS.size))
      | (go_at_call 91; have hS := And.left (by assumption : Below w1.heap.size w1 _ ∧ _); (with_reducible refine (at_lit v b hb x y 1 1 1 1 rfl rfl hx hy (by omega) (by omega) _ (ra.kept (Nat.le_refl _) hS)).mono ?_); rintro e w2 ⟨rfl, b2⟩; have hBn : Below w1.heap.size w1 w2 := hS.trans (b2.mono hS.size)))
  all_goals
    go_wp2
    go_ret
    exact ⟨rfl, B0.trans (hBn.mono B0.size)⟩
set_option maxHeartbeats 1600000 in
theorem ones1_any (v : Value) (b : BoxD) (hb : boxB b = true) (x y : Nat) (hx : (x : Int) < b.X) (hy : (y : Int) < b.Y) (w : World) (h : RdII w v b.Rows) :
    Calls Tryz.prog 75 #[.agg #[.int .i64 b.X, .int .i64 b.Y, .int .i64 b.Whole, v], .int .i64 1, .int .i64 y, .int .i64 x] w fun e w' => e = .returned (.int .i64 (oneB b 1 x y)) ∧ Below w.heap.size w w' := by
  have n0 := numB_bound hb x y hx hy 0 1 (by omega) (by omega)
  have n1 := numB_bound hb x y hx hy 1 1 (by omega) (by omega)
  have hwb := (boxB_iff.1 hb).2.1
  have hw := wrap_in (numB b x y ((0 : Nat) : Int) ((1 : Nat) : Int) + numB b x y ((1 : Nat) : Int) ((1 : Nat) : Int)) (by omega) (by omega)
  have hw2 : IntKind.i64.wrap (numB b x y 0 1 + numB b x y 1 1) = numB b x y 0 1 + numB b x y 1 1 := hw
  rw [oneB_1]
  have A0 : BoxAt (w.alloc (.cells #[.int .i64 b.X, .int .i64 b.Y, .int .i64 b.Whole, v] 26)) w.heap.size b.X b.Y b.Whole v := BoxAt.top rfl
  have B0 : Below w.heap.size w (w.alloc (.cells #[.int .i64 b.X, .int .i64 b.Y, .int .i64 b.Whole, v] 26)) := (by repeat' (first | with_reducible exact Below.refl _ _ | with_reducible assumption | with_reducible apply Below.alloc | with_reducible apply Below.setCell | with_reducible apply Below.drew | exact Nat.le_refl _ | omega | (simp only [World.size_alloc, World.size_setCell]; omega)))
  clear n0 n1 hwb hw
  go_enter Tryz.func75, Tryz.ntmps75
  go_wp2
  generalize hw1 : w.alloc (.cells #[.int .i64 b.X, .int .i64 b.Y, .int .i64 b.Whole, v] 26) = w1 at *
  have ra := h.kept (Nat.le_refl _) B0
  go_region_held3 (fun w' => Below w1.heap.size w1 w' ∧ w'.cell? ⟨w.heap.size, 0, none⟩ = some (.int .i64 b.X) ∧ w'.cell? ⟨w.heap.size, 1, none⟩ = some (.int .i64 b.Y) ∧ w'.cell? ⟨w.heap.size, 2, none⟩ = some (.int .i64 b.Whole) ∧ w'.cell? ⟨w.heap.size, 3, none⟩ = some v)
    (first | exact held1 (Below.refl _ _).drew A0 | exact held1 hBn A0)
    (first
      | (go_at_call 91; have hS := And.left (by assumption : Below w1.heap.size w1 _ ∧ _); (with_reducible refine (at_lit v b hb x y 0 1 0 1 rfl rfl hx hy (by omega) (by omega) _ (ra.kept (Nat.le_refl _) hS)).mono ?_); rintro e w2 ⟨rfl, b2⟩; have hBn : Below w1.heap.size w1 w2 := hS.trans (b2.mono hS.size))
      | (go_at_call 91; have hS := And.left (by assumption : Below w1.heap.size w1 _ ∧ _); (with_reducible refine (at_lit v b hb x y 1 1 1 1 rfl rfl hx hy (by omega) (by omega) _ (ra.kept (Nat.le_refl _) hS)).mono ?_); rintro e w2 ⟨rfl, b2⟩; have hBn : Below w1.heap.size w1 w2 := hS.trans (b2.mono hS.size)))
  all_goals
    go_wp2
    go_ret
    exact ⟨rfl, B0.trans (hBn.mono B0.size)⟩
end Go.Proofs.YtcifpfdlkpddeaaGreatDoor
