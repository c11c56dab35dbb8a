/- The text of a box: what the reference's and the program's BoxText hand back. -/
import Derived.Test.YtcifpfdlkpddeaaGreatDoorQxam
import Derived.Test.YtcifpfdlkpddeaaGreatDoorQxae
import Derived.Test.YtcifpfdlkpddeaaGreatDoorQxaf
import Derived.Test.YtcifpfdlkpddeaaGreatDoorQxac
set_option linter.unusedSimpArgs false
set_option linter.unusedVariables false
namespace Go.Proofs.YtcifpfdlkpddeaaGreatDoor
open Go.RowKit Go.WideShapes

theorem ownCap {T lo hi : Nat} {w : World} {a : Option Addr} {n c : Nat} {vs : List Value} (h : OwnV T lo hi w (.slice a n c) vs) : vs.length ≤ c := by
  rcases h.1.2 with ⟨h1, h2⟩ | ⟨g, cap, cur, h1, _, _, hnc, _⟩
  · omega
  · cases h1
    exact hnc
theorem ownV_made (T : Nat) (w : World) (vs : List Value) (lo : Nat) (hlo : lo ≤ w.heap.size) (hl : vs.length ≤ maxLen) :
    OwnV T lo (w.heap.size + 1) (w.alloc (.cells vs.toArray T)) (.slice (some ⟨w.heap.size, 0, none⟩) vs.length vs.length) vs := by
  have hr : (w.alloc (.cells vs.toArray T)).rowIs w.heap.size T vs.length (fun j => vs.getD j .nilIface) := by
    refine ⟨vs.toArray, by show (w.heap.push _)[w.heap.size]? = _; simp, by simp, fun j hj => ?_⟩
    show _ = some (vs.getD j .nilIface)
    rw [List.getD_eq_getElem?_getD, List.getElem?_eq_getElem hj]
    simp [List.getElem?_eq_getElem hj]
  exact ownV_of_rowIs hr hlo (fun j u hu => by rw [List.getD_eq_getElem?_getD, hu]; rfl) hl

/-- A number's text. -/
def itoaB (n : Int) : ByteArray := ⟨(Lib.itoa n).toArray⟩
theorem itoaB_size (n : Int) (h0 : -1000000 ≤ n) (h1 : n ≤ 1000000) : (itoaB n).size ≤ 21 := by
  have := Lib.itoa_length_le n (by omega) (by omega)
  show (Lib.itoa n).length ≤ 21
  exact this
/-- The text of a row, the words of a box, its text. -/
def rowT (rs : List Int) : ByteArray := joinB 44 (rs.map itoaB)
def boxW (b : BoxD) : List ByteArray := itoaB b.X :: itoaB b.Y :: b.Rows.map rowT
def txtB (b : BoxD) : ByteArray := joinB 32 (boxW b)
def txtR (b : BoxD) : ByteArray := if boxB b then txtB b else ⟨#[]⟩
theorem txtR_ok {b : BoxD} (h : boxB b = true) : txtR b = txtB b := by unfold txtR; rw [if_pos h]
theorem txtR_not {b : BoxD} (h : boxB b = false) : txtR b = ⟨#[]⟩ := by unfold txtR; rw [if_neg (by simp [h])]

theorem sumSz_le {ss : List ByteArray} {m : Nat} (h : ∀ x ∈ ss, x.size ≤ m) : sumSz ss ≤ m * ss.length := by
  induction ss with
  | nil => simp [sumSz]
  | cons x ss ih =>
    have h1 := h x (List.mem_cons_self ..)
    have h2 := ih (fun y hy => h y (List.mem_cons_of_mem _ hy))
    have : sumSz (x :: ss) = x.size + sumSz ss := by simp [sumSz]
    rw [this, List.length_cons, Nat.mul_add]
    omega
theorem joinB_all (c : UInt8) {ss : List ByteArray} (h : 0 < ss.length) : (joinB c ss).size = sumSz ss + (ss.length - 1) := by
  have := joinB_size c (ss := ss) (k := ss.length - 1) (by omega)
  rw [show ss.length - 1 + 1 = ss.length by omega, List.take_length] at this
  exact this
theorem joinB_le (c : UInt8) {ss : List ByteArray} {m : Nat} (h : ∀ x ∈ ss, x.size ≤ m) : (joinB c ss).size ≤ (m + 1) * ss.length := by
  by_cases h0 : 0 < ss.length
  · rw [joinB_all c h0, Nat.add_mul]
    have := sumSz_le h
    omega
  · obtain rfl : ss = [] := List.length_eq_zero_iff.1 (by omega)
    exact Nat.zero_le _
theorem rowT_size {rs : List Int} (hl : rs.length ≤ 4) (h : ∀ (q : Nat) (x : Int), rs[q]? = some x → 0 ≤ x ∧ x ≤ 1000) : (rowT rs).size ≤ 88 := by
  have h1 := joinB_le 44 (ss := rs.map itoaB) (m := 21) (fun x hx => by
    obtain ⟨n, hn, rfl⟩ := List.mem_map.1 hx
    obtain ⟨q, hq⟩ := List.mem_iff_getElem?.1 hn
    have := h q n hq
    exact itoaB_size n (by omega) (by omega))
  rw [List.length_map] at h1
  unfold rowT
  omega

/-- Joining what a slice of the call's own holds. -/
theorem join_any (v : Value) (ss : List ByteArray) (c : UInt8) (lo hi : Nat) (W : World) (a : Option Addr) (k : Nat) (h : OwnV 9 lo hi W (.slice a ss.length k) (strs ss)) (h0 : 0 < ss.length) (hz : (joinB c ss).size ≤ 1048576) (hl : ss.length ≤ 1048576) :
    Calls Tryz.prog 81 #[.slice a ss.length k, .string ⟨#[c]⟩] W fun e w' => e = .returned (.string (joinB c ss)) ∧ Below W.heap.size W w' := by
  have hcap := ownCap h
  rw [strs_length] at hcap
  have hlt := h.lt
  obtain ⟨a', g, cap, hv, _, ha, hc, _⟩ := h.shape
  rw [strs_length] at hv ha
  obtain ⟨rfl, _, hgW⟩ := ha h0
  obtain ⟨rfl, _, rfl⟩ := Value.slice.inj hv
  refine Tryz.strings_Join g 0 k ss ⟨#[c]⟩ W (fun j x hx => ?_) hgW.2 (by omega) hcap ?_
  · rw [Nat.zero_add]; exact hc j _ (by rw [strs_get, hx]; rfl)
  · show (Lib.join (ss.map (·.data.toList)) [c]).length ≤ _
    have : (joinB c ss).size = (Lib.join (ss.map (·.data.toList)) [c]).length := rfl
    omega

set_option maxRecDepth 20000 in
set_option maxHeartbeats 2000000 in
theorem decimals_any (v : Value) (xs : List Int) (w : World) (h : RdI w v xs) (hx : ∀ (q : Nat) (x : Int), xs[q]? = some x → 0 ≤ x ∧ x ≤ 1000) (hl : xs.length = 4) (ht : Tab w) :
    Calls Tryz.prog 80 #[v, .string ⟨#[44]⟩] w fun e w' => e = .returned (.string (rowT xs)) ∧ Below w.heap.size w w' := by
  obtain ⟨a, b, off, cap, rfl, hm, ha, hc⟩ := h
  unfold maxLen at hm
  obtain rfl := ha (by omega)
  have hE := OwnV.empty 9 w
  rw [← World.size_alloc w (.cells #[] 9)] at hE
  have hB0 : Below w.heap.size w (w.alloc (.cells #[] 9)) := (Below.refl _ _).alloc (Nat.le_refl _) _
  obtain ⟨lo, hlo⟩ : ∃ lo, lo = w.heap.size := ⟨_, rfl⟩
  have HT := Lib.hid ht
  have hl0 : 0 < xs.length := by omega
  have hl4 : xs.length ≤ 4 := by omega
  clear hl
  go_enter Tryz.func80, Tryz.ntmps80
  go_wp2
  go_loopw [5, 11] (fun s5 s11 wr => ∃ k : Nat, k ≤ xs.length ∧ s11 = .int .i64 k ∧ ∃ a4 c4, s5 = .slice a4 k c4 ∧ OwnV 9 lo wr.heap.size wr (.slice a4 k c4) (strs ((xs.take k).map itoaB)) ∧ Below lo w wr) (fun _ s11 _ => xs.length - (intOf s11).toNat)
  case atStart => exact ⟨0, by omega, rfl, _, _, rfl, by rw [hlo]; simpa [strs] using hE, by rw [hlo]; exact hB0⟩
  case round =>
    obtain ⟨k, hk, rfl, a4, c4, rfl, hO, hB⟩ := hrel
    have hz := hB.size
    by_cases hlt : k < xs.length
    · have hg := List.getElem?_eq_getElem hlt
      have hcw := hc k _ hg
      have hcell : wr.cell? ⟨b, off + k, none⟩ = some (.int .i64 xs[k]) := by
        rw [hB.cell (p := ⟨b, off + k, none⟩) (by rw [hlo]; exact World.block_lt_of_cell? _ _ hcw)]; exact hcw
      have hbd := hx k _ hg
      have hnext : (xs.take (k + 1)).map itoaB = (xs.take k).map itoaB ++ [itoaB xs[k]] := by rw [List.take_add_one, hg, List.map_append]; rfl
      have C := itoa_any xs[k] wr (by omega) (by omega) (HT.out.stays (by rw [← hlo]; exact hB))
      have HNX := Lib.hid hnext
      have hdl : (strs ((xs.take k).map itoaB)).length = k := by rw [strs_length, List.length_map, List.length_take]; omega
      have HDL := Lib.hid hdl
      generalize hL : strs ((xs.take k).map itoaB) = L at *
      have HL := Lib.hid hL
      generalize xs[k] = x at *
      have hix : (ByteArray.mk (Lib.itoa x).toArray) = itoaB x := rfl
      rw [hix] at C
      generalize itoaB x = t at *
      clear hc hcw hg hE hB0 hnext hdl hL hbd hx ht
      go_wp2_with fail
      refine C.mono ?_
      rintro e w1 ⟨rfl, hb1⟩
      have hz1 := hb1.size
      have hO1 := hO.kept hb1 (Nat.le_refl _)
      have hB1 : Below lo w w1 := hB.trans (hb1.mono (by omega))
      clear hO
      go_wp2_with (at_builtin; refine append1_own rfl _ _ 66 9 rfl Tryz.underlying66 Tryz.infoStr rfl hO1 rfl rfl rfl (by rw [HDL.out]; omega) (by omega) (by omega) ?_)
      intro a2 c2 w2 hO3 hg2
      have hBn : Below lo w w2 := hB1.grown hg2 (by omega) (fun g hg => (hO1.lt g hg).1)
      rw [HDL.out, ← HL.out] at hO3
      clear hO1
      go_wp2
      go_roundw
      case rel => exact ⟨k + 1, by omega, by go_num, a2, c2, by rw [HDL.out], by rw [HNX.out, hlo]; simpa [strs] using hO3, hBn⟩
      case measure => simp [intOf]; omega
    · obtain rfl : k = xs.length := by omega
      rw [List.take_length] at hO
      have hO' : OwnV 9 lo wr.heap.size wr (.slice a4 (xs.map itoaB).length c4) (strs (xs.map itoaB)) := by rw [List.length_map]; exact hO
      have hsz := rowT_size (rs := xs) (by omega) hx
      have C := join_any (.slice a4 (xs.map itoaB).length c4) (xs.map itoaB) 44 lo _ wr a4 c4 hO' (by rw [List.length_map]; omega) (by unfold rowT at hsz; omega) (by rw [List.length_map]; omega)
      rw [List.length_map] at C
      have hr : joinB 44 (xs.map itoaB) = rowT xs := rfl
      obtain ⟨R, hR⟩ : ∃ R, rowT xs = R := ⟨_, rfl⟩
      rw [hr, hR] at C
      have HR := Lib.hid hR
      clear hc hO hO' hr hsz hx hE hR
      go_wp2_with (go_at_call 81; refine C.mono ?_; rintro e w1 ⟨rfl, hb1⟩)
      go_ret
      exact ⟨by rw [HR.out]; rfl, by rw [← hlo]; exact hB.trans (hb1.mono (by omega))⟩
theorem boxW_length (b : BoxD) : (boxW b).length = b.Rows.length + 2 := by simp [boxW]
theorem boxW_take (b : BoxD) (k : Nat) : (boxW b).take (k + 2) = itoaB b.X :: itoaB b.Y :: (b.Rows.take k).map rowT := by simp [boxW, List.map_take]
theorem boxW_get (b : BoxD) (k : Nat) (rs : List Int) (h : b.Rows[k]? = some rs) : (boxW b)[k + 2]? = some (rowT rs) := by simp [boxW, h]
theorem boxB_row4 {b : BoxD} (hb : boxB b = true) (k : Nat) (rs : List Int) (hr : b.Rows[k]? = some rs) : rs.length = 4 ∧ ∀ (q : Nat) (x : Int), rs[q]? = some x → 0 ≤ x ∧ x ≤ b.Whole := by
  obtain ⟨_, _, _, h4⟩ := boxB_iff.1 hb
  obtain ⟨h1, h2, _⟩ := fourB_iff.1 (rowsB_get h4 hr)
  exact ⟨h1, fun q x hx => allIn_get h2 hx⟩
theorem boxW_le {b : BoxD} (hb : boxB b = true) : ∀ x ∈ boxW b, x.size ≤ 88 := by
  obtain ⟨⟨⟨hx0, hx1⟩, hy0, hy1⟩, ⟨hw0, hw1⟩, _, _⟩ := boxB_iff.1 hb
  intro x hx
  rcases List.mem_cons.1 hx with rfl | hx
  · have := itoaB_size b.X (by omega) (by omega); omega
  · rcases List.mem_cons.1 hx with rfl | hx
    · have := itoaB_size b.Y (by omega) (by omega); omega
    · obtain ⟨rs, hrs, rfl⟩ := List.mem_map.1 hx
      obtain ⟨k, hk⟩ := List.mem_iff_getElem?.1 hrs
      obtain ⟨h1, h2⟩ := boxB_row4 hb k rs hk
      exact rowT_size (by omega) (fun q x hq => by have := h2 q x hq; omega)
theorem boxW_join {b : BoxD} (hb : boxB b = true) (k : Nat) : (joinB 32 ((boxW b).take k)).size ≤ 979 := by
  have h1 := joinB_le 32 (ss := (boxW b).take k) (m := 88) (fun x hx => boxW_le hb x (List.mem_of_mem_take hx))
  have h2 := boxB_len hb
  have h3 : ((boxW b).take k).length ≤ 11 := by rw [List.length_take, boxW_length]; omega
  have : (88 + 1) * ((boxW b).take k).length ≤ 89 * 11 := Nat.mul_le_mul_left 89 h3
  omega

set_option maxRecDepth 20000 in
set_option maxHeartbeats 4000000 in
theorem boxText_any (v : Value) (b : BoxD) (w : World) (h : RdII w v b.Rows) (hb : boxB b = true) (ht : Tab w) :
    Calls Tryz.prog 46 #[.agg #[.int .i64 b.X, .int .i64 b.Y, .int .i64 b.Whole, v]] w fun e w' => e = .returned (.string (txtB b)) ∧ Below w.heap.size w w' := by
  obtain ⟨⟨⟨hx0, hx1⟩, hy0, hy1⟩, ⟨hw0, hw1⟩, hq1, hq2⟩ := boxB_iff.1 hb
  clear hq1 hq2
  have hlen := boxB_len hb
  obtain ⟨a, ba, off, cap, rfl, hm, ha, hc⟩ := h
  unfold maxLen at hm
  have CX := fun W => itoa_any b.X W (by omega) (by omega)
  have CY := fun W => itoa_any b.Y W (by omega) (by omega)
  have HT := Lib.hid ht
  have HBB := Lib.hid hb
  obtain ⟨lo, hlo⟩ : ∃ lo, lo = w.heap.size := ⟨_, rfl⟩
  have HB : Below w.heap.size w (w.alloc (.cells #[.int .i64 b.X, .int .i64 b.Y, .int .i64 b.Whole, .slice a b.Rows.length cap] 26)) := (Below.refl _ _).alloc (Nat.le_refl _) _
  have hXY : strs ((boxW b).take 2) = [.string (ByteArray.mk (Lib.itoa b.X).toArray), .string (ByteArray.mk (Lib.itoa b.Y).toArray)] := rfl
  generalize (ByteArray.mk (Lib.itoa b.X).toArray) = ix at *
  generalize (ByteArray.mk (Lib.itoa b.Y).toArray) = iy at *
  have HXY := Lib.hid hXY
  clear hXY hb ht
  go_enter Tryz.func46, Tryz.ntmps46
  go_wp2_with fail
  obtain ⟨w1, hw1e⟩ : ∃ W : World, W = w.alloc (.cells #[.int .i64 b.X, .int .i64 b.Y, .int .i64 b.Whole, .slice a b.Rows.length cap] 26) := ⟨_, rfl⟩
  rw [← hw1e]
  have c0 : w1.cell? ⟨w.heap.size, 0, none⟩ = some (.int .i64 b.X) := by rw [hw1e]; simp
  have c1 : w1.cell? ⟨w.heap.size, 1, none⟩ = some (.int .i64 b.Y) := by rw [hw1e]; simp
  have c3 : w1.cell? ⟨w.heap.size, 3, none⟩ = some (.slice a b.Rows.length cap) := by rw [hw1e]; simp
  have B1 : Below w.heap.size w w1 := by rw [hw1e]; exact HB
  have hz1 : w1.heap.size = w.heap.size + 1 := by rw [hw1e]; simp
  clear hw1e HB
  have KS := Lib.hid (fun (W : World) (h : Below w1.heap.size w1 W) => And.intro h (And.intro ((h.cell (p := ⟨w.heap.size, 0, none⟩) (by omega : w.heap.size < w1.heap.size)).trans c0) (And.intro ((h.cell (p := ⟨w.heap.size, 1, none⟩) (by omega : w.heap.size < w1.heap.size)).trans c1) ((h.cell (p := ⟨w.heap.size, 3, none⟩) (by omega : w.heap.size < w1.heap.size)).trans c3))))
  go_region_held3 (fun W => Below w1.heap.size w1 W ∧ W.cell? ⟨w.heap.size, 0, none⟩ = some (.int .i64 b.X) ∧ W.cell? ⟨w.heap.size, 1, none⟩ = some (.int .i64 b.Y) ∧ W.cell? ⟨w.heap.size, 3, none⟩ = some (.slice a b.Rows.length cap))
    (first | exact KS.out _ (Below.refl _ _).drew | exact KS.out _ hBn | exact KS.out _ (hBn.alloc hBn.size _))
    (first
      | (go_at_call 79; have hS := And.left (by assumption : Below w1.heap.size w1 _ ∧ _); (with_reducible refine (CX _ (HT.out.stays (B1.trans (hS.mono B1.size)))).mono ?_); rintro e wd ⟨rfl, bd⟩; have hBn := hS.trans (bd.mono hS.size))
      | (go_at_call 79; have hS := And.left (by assumption : Below w1.heap.size w1 _ ∧ _); (with_reducible refine (CY _ (HT.out.stays (B1.trans (hS.mono B1.size)))).mono ?_); rintro e wd ⟨rfl, bd⟩; have hBn := hS.trans (bd.mono hS.size)))
  have hO0 := ownV_made 9 wd [.string ix, .string iy] w1.heap.size hBn.size (by unfold maxLen; simp)
  rw [← HXY.out, ← World.size_alloc wd (.cells (strs ((boxW b).take 2)).toArray 9)] at hO0
  have hA : Below w1.heap.size w1 (wd.alloc (.cells (strs ((boxW b).take 2)).toArray 9)) := hBn.alloc hBn.size _
  have hAA : (Obj.cells #[.string ix, .string iy] 9) = Obj.cells (strs ((boxW b).take 2)).toArray 9 := by rw [HXY.out]
  rw [hAA]
  obtain ⟨w2, hw2⟩ : ∃ W : World, W = wd.alloc (.cells (strs ((boxW b).take 2)).toArray 9) := ⟨_, rfl⟩
  rw [← hw2] at hO0 hA
  rw [← hw2]
  have hl2 : (strs ((boxW b).take 2)).length = 2 := by rw [HXY.out]; rfl
  rw [hl2] at hO0
  have d3 : w2.cell? ⟨w.heap.size, 3, none⟩ = some (.slice a b.Rows.length cap) := (hA.cell (p := ⟨w.heap.size, 3, none⟩) (by omega : w.heap.size < w1.heap.size)).trans c3
  clear hw2 hAA hl2 KS CX CY c0 c1 c3
  go_wp2
  go_loopw [3, 16] (fun s3 s16 wr => ∃ k : Nat, k ≤ b.Rows.length ∧ s16 = .int .i64 k ∧ ∃ a4 c4, s3 = .slice a4 (k + 2) c4 ∧ OwnV 9 w1.heap.size wr.heap.size wr (.slice a4 (k + 2) c4) (strs ((boxW b).take (k + 2))) ∧ Below w1.heap.size w1 wr) (fun _ s16 _ => b.Rows.length - (intOf s16).toNat)
  case atStart => exact ⟨0, by omega, rfl, _, _, rfl, hO0.weaken (Nat.le_refl _) (Nat.le_refl _), hA⟩
  case round =>
    obtain ⟨k, hk, rfl, a4, c4, rfl, hO, hB⟩ := hrel
    have hz := hB.size
    have BW : Below w.heap.size w wr := B1.trans (hB.mono B1.size)
    by_cases hlt : k < b.Rows.length
    · obtain rfl := ha (by omega)
      have hg := List.getElem?_eq_getElem hlt
      obtain ⟨v', hcw, hrd⟩ := hc k _ hg
      have hcell : wr.cell? ⟨ba, off + k, none⟩ = some v' := by
        rw [BW.cell (p := ⟨ba, off + k, none⟩) (World.block_lt_of_cell? _ _ hcw)]; exact hcw
      obtain ⟨r1, r2⟩ := boxB_row4 HBB.out k _ hg
      have hgw := boxW_get b k _ hg
      generalize b.Rows[k] = rs at *
      have C := decimals_any v' rs wr (hrd.kept (Nat.le_refl _) BW) (fun q x hq => by have := r2 q x hq; omega) r1 (HT.out.stays BW)
      have hnext : strs ((boxW b).take (k + 2 + 1)) = strs ((boxW b).take (k + 2)) ++ [.string (rowT rs)] := by
        rw [List.take_add_one, hgw]
        simp [strs]
      have HNX := Lib.hid hnext
      have hdl : (strs ((boxW b).take (k + 2))).length = k + 2 := by rw [strs_length, List.length_take, boxW_length]; omega
      have HDL := Lib.hid hdl
      generalize hL : strs ((boxW b).take (k + 2)) = L at *
      have HL := Lib.hid hL
      generalize rowT rs = t at *
      clear hc hcw hg hO0 hnext hdl hL hrd r1 r2 hgw d3
      go_wp2_with fail
      refine C.mono ?_
      rintro e wb ⟨rfl, hb1⟩
      have hzb := hb1.size
      have hO1 := hO.kept hb1 (Nat.le_refl _)
      have hB1 : Below w1.heap.size w1 wb := hB.trans (hb1.mono hz)
      clear hO
      go_wp2_with (at_builtin; refine append1_own rfl _ _ 66 9 rfl Tryz.underlying66 Tryz.infoStr rfl hO1 rfl rfl rfl (by rw [HDL.out]; omega) (by omega) (by omega) ?_)
      intro a2 c2 wc hO3 hg2
      have hBn2 : Below w1.heap.size w1 wc := hB1.grown hg2 (by omega) (fun g hg => (hO1.lt g hg).1)
      rw [HDL.out, ← HNX.out] at hO3
      clear hO1
      go_wp2
      go_roundw
      case rel => exact ⟨k + 1, by omega, by go_num, a2, c2, by rw [HDL.out], by rw [hz1, show k + 1 + 2 = k + 2 + 1 by omega]; exact hO3, hBn2⟩
      case measure => simp [intOf]; omega
    · obtain rfl : k = b.Rows.length := by omega
      have htk : (boxW b).take (b.Rows.length + 2) = boxW b := List.take_of_length_le (by rw [boxW_length]; omega)
      rw [htk] at hO
      have hO' : OwnV 9 w1.heap.size wr.heap.size wr (.slice a4 (boxW b).length c4) (strs (boxW b)) := by rw [boxW_length]; exact hO
      have hsz := boxW_join HBB.out (b.Rows.length + 2)
      rw [htk] at hsz
      have C := join_any (.slice a4 (boxW b).length c4) (boxW b) 32 w1.heap.size _ wr a4 c4 hO' (by rw [boxW_length]; omega) (by omega) (by rw [boxW_length]; omega)
      rw [boxW_length] at C
      obtain ⟨R, hR⟩ : ∃ R, txtB b = R := ⟨_, rfl⟩
      have hr : joinB 32 (boxW b) = txtB b := rfl
      rw [hr, hR] at C
      have HR := Lib.hid hR
      clear hc hO hO' hr hsz hO0 hR htk d3
      go_wp2_with (go_at_call 81; refine C.mono ?_; rintro e wb ⟨rfl, hb1⟩)
      go_ret
      exact ⟨by rw [HR.out]; rfl, BW.trans (hb1.mono BW.size)⟩

set_option maxRecDepth 20000 in
set_option maxHeartbeats 4000000 in
theorem l2Text_any (v : Value) (b : BoxD) (w : World) (h : RdII w v b.Rows) (hb : boxB b = true) :
    Calls Tryz.prog 47 #[.agg #[.int .i64 b.X, .int .i64 b.Y, .int .i64 b.Whole, v]] w fun e w' => e = .returned (.string (txtB b)) ∧ Below w.heap.size w w' := by
  obtain ⟨⟨⟨hx0, hx1⟩, hy0, hy1⟩, ⟨hw0, hw1⟩, hq1, hq2⟩ := boxB_iff.1 hb
  clear hq1 hq2
  have hlen := boxB_len hb
  obtain ⟨a, ba, off, cap, rfl, hm, ha, hc⟩ := h
  unfold maxLen at hm
  have CX := fun W => l1Num_any b.X W (by omega) (by omega)
  have CY := fun W => l1Num_any b.Y W (by omega) (by omega)
  have HBB := Lib.hid hb
  have HB : Below w.heap.size w (w.alloc (.cells #[.int .i64 b.X, .int .i64 b.Y, .int .i64 b.Whole, .slice a b.Rows.length cap] 26)) := (Below.refl _ _).alloc (Nat.le_refl _) _
  have hXY : joinB 32 ((boxW b).take 2) = itoaB b.X ++ ⟨#[32]⟩ ++ itoaB b.Y := by
    have h1 := joinB_first 32 (ss := boxW b) (x := itoaB b.X) rfl
    have h2 := joinB_next 32 (ss := boxW b) (k := 1) (x := itoaB b.Y) (by omega) rfl
    rw [h1] at h2
    exact h2
  have sX := itoaB_size b.X (by omega) (by omega)
  have sY := itoaB_size b.Y (by omega) (by omega)
  unfold itoaB at hXY sX sY
  generalize (ByteArray.mk (Lib.itoa b.X).toArray) = ix at *
  generalize (ByteArray.mk (Lib.itoa b.Y).toArray) = iy at *
  have HXY := Lib.hid hXY
  have gd1 : ¬ (9223372036854775807 < ix.size + 1) := by omega
  have gd2 : ¬ (9223372036854775807 < ix.size + 1 + iy.size) := by omega
  clear hXY hb
  go_enter Tryz.func47, Tryz.ntmps47
  go_wp2_with fail
  obtain ⟨w1, hw1e⟩ : ∃ W : World, W = w.alloc (.cells #[.int .i64 b.X, .int .i64 b.Y, .int .i64 b.Whole, .slice a b.Rows.length cap] 26) := ⟨_, rfl⟩
  rw [← hw1e]
  have c0 : w1.cell? ⟨w.heap.size, 0, none⟩ = some (.int .i64 b.X) := by rw [hw1e]; simp
  have c1 : w1.cell? ⟨w.heap.size, 1, none⟩ = some (.int .i64 b.Y) := by rw [hw1e]; simp
  have c3 : w1.cell? ⟨w.heap.size, 3, none⟩ = some (.slice a b.Rows.length cap) := by rw [hw1e]; simp
  have B1 : Below w.heap.size w w1 := by rw [hw1e]; exact HB
  have hz1 : w.heap.size < w1.heap.size := by rw [hw1e]; simp
  clear hw1e HB
  have KS := Lib.hid (fun (W : World) (h : Below w1.heap.size w1 W) => And.intro h (And.intro ((h.cell (p := ⟨w.heap.size, 0, none⟩) hz1).trans c0) (And.intro ((h.cell (p := ⟨w.heap.size, 1, none⟩) hz1).trans c1) ((h.cell (p := ⟨w.heap.size, 3, none⟩) hz1).trans c3))))
  go_region_held3 (fun W => Below w1.heap.size w1 W ∧ W.cell? ⟨w.heap.size, 0, none⟩ = some (.int .i64 b.X) ∧ W.cell? ⟨w.heap.size, 1, none⟩ = some (.int .i64 b.Y) ∧ W.cell? ⟨w.heap.size, 3, none⟩ = some (.slice a b.Rows.length cap))
    (first | exact KS.out _ (Below.refl _ _).drew | exact KS.out _ hBn)
    (first
      | (go_at_call 82; have hS := And.left (by assumption : Below w1.heap.size w1 _ ∧ _); (with_reducible refine (CX _).mono ?_); rintro e wd ⟨rfl, bd⟩; have hBn := hS.trans (bd.below _))
      | (go_at_call 82; have hS := And.left (by assumption : Below w1.heap.size w1 _ ∧ _); (with_reducible refine (CY _).mono ?_); rintro e wd ⟨rfl, bd⟩; have hBn := hS.trans (bd.below _)))
  clear CX CY gd1 gd2 c0 c1 bd
  obtain ⟨w2, hw2⟩ : ∃ W : World, W = wd := ⟨_, rfl⟩
  rw [← hw2]
  rw [← hw2] at hBn
  have d3 : w2.cell? ⟨w.heap.size, 3, none⟩ = some (.slice a b.Rows.length cap) := (hBn.cell (p := ⟨w.heap.size, 3, none⟩) hz1).trans c3
  obtain ⟨S0, hS0⟩ : ∃ S0, joinB 32 ((boxW b).take 2) = S0 := ⟨_, rfl⟩
  have hstart : ix ++ ⟨#[32]⟩ ++ iy = S0 := by rw [← hS0]; exact HXY.out.symm
  rw [hstart]
  have HS0 := Lib.hid hS0
  clear hw2 hstart HXY sX sY hS0
  go_wp2
  go_loopw [3, 4] (fun s3 s4 wr => ∃ k : Nat, k ≤ b.Rows.length ∧ s4 = .int .i64 k ∧ s3 = .string (joinB 32 ((boxW b).take (k + 2))) ∧ Below w1.heap.size w1 wr) (fun _ s4 _ => b.Rows.length - (intOf s4).toNat)
  case atStart => exact ⟨0, by omega, rfl, by rw [← HS0.out], hBn⟩
  case round =>
    obtain ⟨k, hk, rfl, rfl, hB⟩ := hrel
    clear d3 hBn
    have BW : Below w.heap.size w wr := B1.trans (hB.mono B1.size)
    have e3 : wr.cell? ⟨w.heap.size, 3, none⟩ = some (.slice a b.Rows.length cap) := (hB.cell (p := ⟨w.heap.size, 3, none⟩) hz1).trans c3
    have hsz := boxW_join HBB.out (k + 2)
    by_cases hlt : k < b.Rows.length
    · obtain rfl := ha (by omega)
      have hg := List.getElem?_eq_getElem hlt
      obtain ⟨v', hcw, hrd⟩ := hc k _ hg
      have hcell : wr.cell? ⟨ba, off + k, none⟩ = some v' := by
        rw [BW.cell (p := ⟨ba, off + k, none⟩) (World.block_lt_of_cell? _ _ hcw)]; exact hcw
      obtain ⟨r1, r2⟩ := boxB_row4 HBB.out k _ hg
      have hgw := boxW_get b k _ hg
      have hnx := joinB_next 32 (ss := boxW b) (k := k + 2) (by omega) hgw
      generalize b.Rows[k] = rs at *
      have hrd2 := hrd.kept (Nat.le_refl _) BW
      obtain ⟨ra, rb, ro, rc, hv', rm, hra, hrc⟩ := hrd2
      have hrt := rowT_size (rs := rs) (by omega) (fun q x hq => by have := r2 q x hq; omega)
      rw [r1] at hv' hra
      subst hv'
      obtain rfl := hra (by omega)
      have R1 := Lib.hid r1
      have HNX := Lib.hid hnx
      obtain ⟨P0, hP0⟩ : ∃ P0, joinB 32 ((boxW b).take (k + 2)) = P0 := ⟨_, rfl⟩
      rw [hP0] at hsz
      rw [hP0]
      have HP0 := Lib.hid hP0
      have gdp : ¬ (9223372036854775807 < P0.size + 1) := by omega
      clear hc hcw hg hrd hgw hnx r1 hP0 rm
      obtain ⟨wo, rfl⟩ : ∃ wo, wo = wr := ⟨_, rfl⟩
      go_wp2
      go_loopw [3, 5] (fun s3 s5 wr => ∃ j : Nat, j ≤ 4 ∧ s5 = .int .i64 j ∧ s3 = .string (P0 ++ ⟨#[32]⟩ ++ joinB 44 ((rs.map itoaB).take j)) ∧ Drw wo wr) (fun _ s5 _ => 4 - (intOf s5).toNat)
      case atStart => exact ⟨0, by omega, rfl, by rw [List.take_zero]; exact congrArg Value.string (bytes_inj (by simp [ByteArray.data_append, joinB, Lib.join_nil])), Drw.refl _⟩
      case round =>
        obtain ⟨j, hj, rfl, rfl, hdi⟩ := hrel
        have f3 : wr.cell? ⟨w.heap.size, 3, none⟩ = some (.slice (some ⟨ba, off, none⟩) b.Rows.length cap) := by rw [hdi.cell]; exact e3
        have fr : wr.cell? ⟨ba, off + k, none⟩ = some (.slice (some ⟨rb, ro, none⟩) 4 rc) := by rw [hdi.cell]; exact hcell
        by_cases hj4 : j < 4
        · have hjl : j < rs.length := by rw [R1.out]; exact hj4
          have hjg := List.getElem?_eq_getElem hjl
          have hnum : wr.cell? ⟨rb, ro + j, none⟩ = some (.int .i64 rs[j]) := by rw [hdi.cell]; exact hrc j _ hjg
          have hjx := r2 j _ hjg
          have hjm : (rs.map itoaB)[j]? = some (itoaB rs[j]) := by rw [List.getElem?_map, hjg]; rfl
          have hts := itoaB_size rs[j] (by omega) (by omega)
          have C := fun W => l1Num_any rs[j] W (by omega) (by omega)
          have hjb := joinB_le 44 (ss := (rs.map itoaB).take j) (m := 21) (fun x hx => by
            obtain ⟨n, hn, rfl⟩ := List.mem_map.1 (List.mem_of_mem_take hx)
            obtain ⟨q, hq⟩ := List.mem_iff_getElem?.1 hn
            have := r2 q n hq
            exact itoaB_size n (by omega) (by omega))
          have hjt : ((rs.map itoaB).take j).length ≤ 4 := by rw [List.length_take]; omega
          have hyz : (P0 ++ ⟨#[32]⟩ ++ joinB 44 ((rs.map itoaB).take j)).size ≤ 2000 := by
            rw [ByteArray.size_append, ByteArray.size_append]
            show P0.size + 1 + _ ≤ _
            omega
          obtain ⟨Y, hY⟩ : ∃ Y, P0 ++ ⟨#[32]⟩ ++ joinB 44 ((rs.map itoaB).take j) = Y := ⟨_, rfl⟩
          obtain ⟨Y2, hY2⟩ : ∃ Y2, P0 ++ ⟨#[32]⟩ ++ joinB 44 ((rs.map itoaB).take (j + 1)) = Y2 := ⟨_, rfl⟩
          rw [hY] at hyz
          rw [hY]
          have hfst := fun h0 : j = 0 => joinB_first 44 (ss := rs.map itoaB) (x := itoaB rs[j]) (by subst h0; exact hjm)
          have hnxt := fun h0 : 0 < j => joinB_next 44 (ss := rs.map itoaB) (k := j) h0 hjm
          have hjq : rs.length = rs.length := rfl
          have hxt : (ByteArray.mk (Lib.itoa rs[j]).toArray) = itoaB rs[j] := rfl
          rw [hxt] at C
          generalize itoaB rs[j] = t at *
          generalize rs[j] = x at *
          clear hjg hjm hxt hjb hjt hjx hjl
          by_cases hj0 : j = 0
          · have hPj := (by subst hj0; exact hfst rfl : joinB 44 ((rs.map itoaB).take (j + 1)) = t)
            clear hfst hnxt
            obtain rfl := hj0
            have hstep : Y2 = Y ++ t := by rw [← hY2, ← hY, hPj]; exact bytes_inj (by simp [ByteArray.data_append, joinB, Lib.join_nil])
            replace hnum : wr.cell? ⟨rb, ro, none⟩ = some (.int .i64 x) := by simpa using hnum
            have hz2 : Y2.size = Y.size + t.size := by rw [hstep, ByteArray.size_append]
            have gd1 : ¬ (9223372036854775807 < Y.size + t.size) := by omega
            have HS := Lib.hid (And.intro hstep hY2)
            clear hstep hY2 hY hPj hz2 hyz hrc hjq
            go_wp2_with (go_at_call 82; refine (C _).mono ?_; rintro e wn ⟨rfl, dn⟩)
            go_roundw
            case rel => exact ⟨0 + 1, by omega, by go_num, by rw [HS.out.2, HS.out.1], hdi.trans dn⟩
            case measure => simp [intOf] <;> omega
          · have hPj := hnxt (by omega)
            clear hfst hnxt
            have hstep : Y2 = Y ++ ⟨#[44]⟩ ++ t := by rw [← hY2, ← hY, hPj]; exact bytes_inj (by simp [ByteArray.data_append])
            have hz2 : Y2.size = Y.size + 1 + t.size := by rw [hstep, ByteArray.size_append, ByteArray.size_append]; rfl
            have gd0 : ¬ (9223372036854775807 < Y.size + 1) := by omega
            have gd1 : ¬ (9223372036854775807 < Y.size + 1 + t.size) := by omega
            have hjp : (0 : Int) < (j : Int) := by omega
            have HS := Lib.hid (And.intro hstep hY2)
            clear hstep hY2 hY hPj hz2 hyz hrc hjq
            go_wp2_with (go_at_call 82; refine (C _).mono ?_; rintro e wn ⟨rfl, dn⟩)
            go_roundw
            case rel => exact ⟨j + 1, by omega, by go_num, by rw [HS.out.2, HS.out.1], hdi.trans dn⟩
            case measure => simp [intOf] <;> omega
        · obtain rfl : j = 4 := by omega
          have hfin : P0 ++ ⟨#[32]⟩ ++ joinB 44 ((rs.map itoaB).take 4) = joinB 32 ((boxW b).take (k + 1 + 2)) := by
            rw [show k + 1 + 2 = k + 2 + 1 by omega, HNX.out, HP0.out, List.take_of_length_le (by rw [List.length_map, R1.out]; omega)]
            rfl
          rw [hfin]
          clear hfin hrc
          go_wp2
          go_roundw
          case rel => exact ⟨k + 1, by omega, by go_num, rfl, hB.trans (hdi.below _)⟩
          case measure => simp [intOf]; omega
    · obtain rfl : k = b.Rows.length := by omega
      have htk : (boxW b).take (b.Rows.length + 2) = boxW b := List.take_of_length_le (by rw [boxW_length]; omega)
      rw [htk]
      obtain ⟨R, hR⟩ : ∃ R, txtB b = R := ⟨_, rfl⟩
      have hr : joinB 32 (boxW b) = txtB b := rfl
      rw [hr, hR]
      have HR := Lib.hid hR
      clear hc hsz htk hr hR
      go_wp2
      go_ret
      exact ⟨by rw [HR.out]; rfl, BW⟩

theorem specBoxText_any (v : Value) (b : BoxD) (w : World) (h : RdII w v b.Rows) :
    Calls Tryz.prog 15 #[.agg #[.int .i64 b.X, .int .i64 b.Y, .int .i64 b.Whole, v]] w fun e w' => e = .returned (.tuple #[.string (txtR b), .bool (boxB b)]) ∧ Below w.heap.size w w' := by
  have HB : Below w.heap.size w (w.alloc (.cells #[.int .i64 b.X, .int .i64 b.Y, .int .i64 b.Whole, v] 26)) := (Below.refl _ _).alloc (Nat.le_refl _) _
  have C1 := l2Box_any v b _ (h.kept (Nat.le_refl _) HB)
  have C2 := fun W (hW : RdII W v b.Rows) (hb : boxB b = true) => l2Text_any v b W hW hb
  go_enter Tryz.func15, Tryz.ntmps15
  go_wp2_with fail
  refine C1.mono ?_
  rintro e w1 ⟨rfl, b1⟩
  rw [World.size_alloc] at b1
  have BB : Below w.heap.size w w1 := HB.trans (b1.mono (Nat.le_succ _))
  have z1 := b1.size
  obtain ⟨c0, c1, c2, c3⟩ : w1.cell? ⟨w.heap.size, 0, none⟩ = some (.int .i64 b.X) ∧ w1.cell? ⟨w.heap.size, 1, none⟩ = some (.int .i64 b.Y) ∧ w1.cell? ⟨w.heap.size, 2, none⟩ = some (.int .i64 b.Whole) ∧ w1.cell? ⟨w.heap.size, 3, none⟩ = some v := by
    refine ⟨?_, ?_, ?_, ?_⟩ <;> (rw [b1.cell (by simp)]; simp)
  rcases Bool.eq_false_or_eq_true (boxB b) with hb | hb
  · have C3 := C2 w1 (h.kept (Nat.le_refl _) BB) hb
    have HR := Lib.hid (And.intro (txtR_ok hb) hb)
    obtain ⟨R, hR⟩ : ∃ R, txtB b = R := ⟨_, rfl⟩
    rw [hR] at C3
    have HRR := Lib.hid hR
    rw [hb]
    clear hb hR C1 C2
    go_wp2_with (go_at_call 47; refine C3.mono ?_; rintro e w2 ⟨rfl, b2⟩)
    go_ret2
    exact ⟨by rw [HR.out.1, HR.out.2, HRR.out]; rfl, BB.trans (b2.mono BB.size)⟩
  · have HR := Lib.hid (And.intro (txtR_not hb) hb)
    rw [hb]
    clear hb C1 C2
    go_wp2
    go_ret2
    exact ⟨by rw [HR.out.1, HR.out.2]; rfl, BB⟩

theorem implBoxText_any (v : Value) (b : BoxD) (w : World) (h : RdII w v b.Rows) (ht : Tab w) :
    Calls Tryz.prog 14 #[.agg #[.int .i64 b.X, .int .i64 b.Y, .int .i64 b.Whole, v]] w fun e w' => e = .returned (.tuple #[.string (txtR b), .bool (boxB b)]) ∧ Below w.heap.size w w' := by
  have HB : Below w.heap.size w (w.alloc (.cells #[.int .i64 b.X, .int .i64 b.Y, .int .i64 b.Whole, v] 26)) := (Below.refl _ _).alloc (Nat.le_refl _) _
  have C1 := implIsBox_any v b _ (h.kept (Nat.le_refl _) HB)
  have C2 := fun W (hW : RdII W v b.Rows) (hb : boxB b = true) (h1 : Tab W) => boxText_any v b W hW hb h1
  have HT := Lib.hid ht
  clear ht
  go_enter Tryz.func14, Tryz.ntmps14
  go_wp2_with fail
  refine C1.mono ?_
  rintro e w1 ⟨rfl, b1⟩
  rw [World.size_alloc] at b1
  have BB : Below w.heap.size w w1 := HB.trans (b1.mono (Nat.le_succ _))
  have z1 := b1.size
  obtain ⟨c0, c1, c2, c3⟩ : w1.cell? ⟨w.heap.size, 0, none⟩ = some (.int .i64 b.X) ∧ w1.cell? ⟨w.heap.size, 1, none⟩ = some (.int .i64 b.Y) ∧ w1.cell? ⟨w.heap.size, 2, none⟩ = some (.int .i64 b.Whole) ∧ w1.cell? ⟨w.heap.size, 3, none⟩ = some v := by
    refine ⟨?_, ?_, ?_, ?_⟩ <;> (rw [b1.cell (by simp)]; simp)
  rcases Bool.eq_false_or_eq_true (boxB b) with hb | hb
  · have C3 := C2 w1 (h.kept (Nat.le_refl _) BB) hb (HT.out.stays BB)
    have HR := Lib.hid (And.intro (txtR_ok hb) hb)
    obtain ⟨R, hR⟩ : ∃ R, txtB b = R := ⟨_, rfl⟩
    rw [hR] at C3
    have HRR := Lib.hid hR
    rw [hb]
    clear hb hR C1 C2
    go_wp2_with (go_at_call 46; refine C3.mono ?_; rintro e w2 ⟨rfl, b2⟩)
    go_ret2
    exact ⟨by rw [HR.out.1, HR.out.2, HRR.out]; rfl, BB.trans (b2.mono BB.size)⟩
  · have HR := Lib.hid (And.intro (txtR_not hb) hb)
    rw [hb]
    clear hb C1 C2
    go_wp2
    go_ret2
    exact ⟨by rw [HR.out.1, HR.out.2]; rfl, BB⟩
end Go.Proofs.YtcifpfdlkpddeaaGreatDoor
