/- Boxes that are alike: contracts of the program's and the reference's test. PlayBox: contracts of the program's function. -/
import Derived.Test.YtcifpfdlkpddeaaGreatDoorQxar
import Derived.Test.YtcifpfdlkpddeaaGreatDoorQxai
import Derived.Test.YtcifpfdlkpddeaaGreatDoorQxav
set_option linter.unusedSimpArgs false
set_option linter.unusedVariables false
namespace Go.Proofs.YtcifpfdlkpddeaaGreatDoor
open Go.RowKit

set_option maxHeartbeats 1600000 in
theorem alike_any (va : Value) (a : BoxD) (vb : Value) (b : BoxD) (hs : sameB a b = true) (w : World) (ra : RdII w va a.Rows) (rb : RdII w vb b.Rows) :
    Calls Tryz.prog 76 #[va, .int .i64 a.Whole, vb, .int .i64 b.Whole] w fun e w' => e = .returned (.bool (alikeR a.Rows b.Rows a.Whole b.Whole)) ∧ w = w' := by
  obtain ⟨qa, qb, hX, hY⟩ := sameB_iff.1 hs
  have la := boxB_len2 qa
  have lb := boxB_len2 qb
  have hlen : b.Rows.length = a.Rows.length := by rw [la, lb, hX, hY]
  have PA := Lib.hid (fun k hk => boxB_path qa ra k hk)
  have PB := Lib.hid (fun k hk => boxB_path qb rb k hk)
  have hl9 : a.Rows.length ≤ 9 := boxB_len qa
  have hl1 : 1 ≤ a.Rows.length := boxB_len1 qa
  obtain ⟨wa0, wa1⟩ := (boxB_iff.1 qa).2.1
  obtain ⟨wb0, wb1⟩ := (boxB_iff.1 qb).2.1
  obtain ⟨ba, off, cap, _, _, _, rfl, _⟩ := PA.out 0 (by omega)
  obtain ⟨bb, offb, capb, _, _, _, rfl, _⟩ := PB.out 0 (by omega)
  have HL := Lib.hid hlen
  clear hX hY hlen la lb hs qa qb ra rb
  go_enter Tryz.func76, Tryz.ntmps76
  go_wp2
  go_loop [15] (fun s => ∃ n : Nat, n ≤ a.Rows.length ∧ s = .int .i64 n ∧ AlikeTo a.Rows b.Rows a.Whole b.Whole n 0) (fun s => a.Rows.length - (intOf s).toNat)
  case atStart => exact ⟨0, by omega, rfl, fun i q _ hd => by omega⟩
  case round =>
    obtain ⟨n, hn, rfl, hA⟩ := hrel
    have HA := Lib.hid hA
    clear hA
    by_cases hlt : n < a.Rows.length
    · obtain ⟨_, _, _, b2, o2, c2, ev, _, ca, lba, lb2, PAk⟩ := PA.out n hlt
      obtain ⟨_, _, _, b4, o4, c4, ev2, _, cb, lbb, lb4, PBk⟩ := PB.out n (by rw [HL.out]; exact hlt)
      simp only [Value.slice.injEq, Option.some.injEq, Addr.mk.injEq, and_true, true_and] at ev ev2
      obtain ⟨⟨rfl, rfl⟩, rfl⟩ := ev
      obtain ⟨⟨rfl, rfl⟩, rfl⟩ := ev2
      have HPA := Lib.hid PAk
      have HPB := Lib.hid PBk
      clear PAk PBk
      go_wp2
      go_loop [22] (fun s => ∃ q : Nat, q ≤ 4 ∧ s = .int .i64 q ∧ AlikeTo a.Rows b.Rows a.Whole b.Whole n q) (fun s => 4 - (intOf s).toNat)
      case atStart => exact ⟨0, by omega, rfl, HA.out⟩
      case round =>
        clear HA
        obtain ⟨q, hq, rfl, hA⟩ := hrel
        have HA := Lib.hid hA
        clear hA
        by_cases hqt : q < 4
        · obtain ⟨x, cx, ⟨bx0, bx1⟩, _, nx⟩ := HPA.out q hqt
          obtain ⟨y, cy, ⟨by0, by1⟩, _, ny⟩ := HPB.out q hqt
          obtain ⟨p0, p1⟩ := mul_small (k := b.Whole) bx0 (by omega) wb0 wb1
          obtain ⟨p2, p3⟩ := mul_small (k := a.Whole) by0 (by omega) wa0 wa1
          have n2 : n < b.Rows.length := by have := HL.out; omega
          by_cases he : x * b.Whole = y * a.Whole
          · have hez : (x * b.Whole != y * a.Whole) = false := by simp [he]
            have HE := Lib.hid (show cellAt a.Rows n q * b.Whole = cellAt b.Rows n q * a.Whole by rw [nx, ny]; exact he)
            clear he nx ny
            go_wp2
            go_round
            case rel => exact ⟨q + 1, by omega, by go_num, HA.out.next HE.out⟩
            case measure => simp [intOf]; omega
          · have hez : (x * b.Whole != y * a.Whole) = true := by simp [he]
            have HE := Lib.hid (show ¬ cellAt a.Rows n q * b.Whole = cellAt b.Rows n q * a.Whole by rw [nx, ny]; exact he)
            clear he nx ny
            go_wp2
            go_ret
            exact ⟨ret_bool (alikeR_false hlt hqt HE.out).symm, rfl⟩
        · obtain rfl : q = 4 := by omega
          go_wp2
          go_round
          case rel => exact ⟨n + 1, by omega, by go_num, HA.out.row⟩
          case measure => simp [intOf]; omega
    · obtain rfl : n = a.Rows.length := by omega
      go_wp2
      go_ret
      exact ⟨ret_bool (alikeR_true HA.out).symm, rfl⟩
end Go.Proofs.YtcifpfdlkpddeaaGreatDoor
set_option linter.unusedSimpArgs false
set_option linter.unusedVariables false
namespace Go.Proofs.YtcifpfdlkpddeaaGreatDoor
open Go.RowKit

def playN (x : Int) (ps : List Int) (whole : Int) : Num := fun i k a b => if ps.getD i.toNat 0 = a ∧ ps.getD (x.toNat + k.toNat) 0 = b then whole else 0
set_option maxHeartbeats 400000 in
theorem play_call (w : World) (g6 g4 g7 : Nat) (v : Value) (ps : List Int) (x whole : Int) (h : RdI w v ps) (c6 : w.cell? ⟨g6, 0, none⟩ = some v) (c4 : w.cell? ⟨g4, 0, none⟩ = some (.int .i64 x))
    (c7 : w.cell? ⟨g7, 0, none⟩ = some (.int .i64 whole)) (hx : 1 ≤ x ∧ x ≤ 3) (i k a b : Nat) (hi : i < ps.length) (hk : x + (k : Int) < ps.length) (hk3 : k < 3) :
    Calls Tryz.prog 89 #[.int .i64 i, .int .i64 k, .int .i64 a, .int .i64 b, .pointer (some ⟨g6, 0, none⟩), .pointer (some ⟨g4, 0, none⟩), .pointer (some ⟨g7, 0, none⟩)] w fun e w' => e = .returned (.int .i64 (playN x ps whole i k a b)) ∧ w = w' := by
  obtain ⟨av, ba, off, cap, rfl, hm, hav, hcell⟩ := h
  unfold maxLen at hm
  obtain rfl := hav (by omega)
  obtain ⟨X, rfl⟩ := Int.eq_ofNat_of_zero_le (show 0 ≤ x by omega)
  obtain ⟨p, hp⟩ : ∃ p, ps[i]? = some p := ⟨_, List.getElem?_eq_getElem hi⟩
  obtain ⟨n, hn⟩ : ∃ n : Nat, X + k = n := ⟨_, rfl⟩
  have hni : (X : Int) + (k : Int) = (n : Int) := by omega
  have hnl : n < ps.length := by omega
  obtain ⟨q, hq⟩ : ∃ q, ps[n]? = some q := ⟨_, List.getElem?_eq_getElem hnl⟩
  have hp' := hcell i p hp
  have hq' := hcell n q hq
  have e : playN X ps whole i k a b = if p = a ∧ q = b then whole else 0 := by
    unfold playN
    simp only [Int.toNat_natCast, hn, List.getD_eq_getElem?_getD, hp, hq, Option.getD_some]
  rw [e]
  have hle : X ≤ 3 := by omega
  clear e hp hq hcell hav hx hn hk
  by_cases h1 : p = a
  · have h1z : (p == (a : Int)) = true := by simp [h1]
    by_cases h2 : q = b
    · have h2z : (q == (b : Int)) = true := by simp [h2]
      rw [if_pos ⟨h1, h2⟩]
      clear h1 h2
      go_enter Tryz.func89, Tryz.ntmps89
      go_wp2
      go_ret
      exact ⟨rfl, rfl⟩
    · have h2z : (q == (b : Int)) = false := by simp [h2]
      rw [if_neg (fun h => h2 h.2)]
      clear h1 h2
      go_enter Tryz.func89, Tryz.ntmps89
      go_wp2
      go_ret
      exact ⟨rfl, rfl⟩
  · have h1z : (p == (a : Int)) = false := by simp [h1]
    rw [if_neg (fun h => h1 h.1)]
    clear h1
    go_enter Tryz.func89, Tryz.ntmps89
    go_wp2
    go_ret
    exact ⟨rfl, rfl⟩
theorem play_func (args : Array Value) (w : World) : (callFunc 89 args).run Tryz.prog w = .ok (.enter 89 args) w := by kernel_rfl

set_option maxHeartbeats 800000 in
theorem playBox_any (x y : Int) (v : Value) (ps : List Int) (whole : Int) (hs : sizesB x y = true) (hp : (ps.length : Int) = x + y) (w : World) (h : RdI w v ps) :
    Calls Tryz.prog 62 #[.int .i64 x, .int .i64 y, v, .int .i64 whole] w (BoxOnly w x y whole (rowsTo (playN x ps whole) y.toNat (x.toNat * y.toNat))) := by
  have hr : ∀ w', Below w.heap.size w w' → RdI w' v ps := fun w' hb => h.kept (Nat.le_refl _) hb
  obtain ⟨av, ba, off, cap, rfl, _⟩ := h
  have hsz := sizesB_iff.1 hs
  have HP := Lib.hid hp
  clear hp hs
  go_enter Tryz.func62, Tryz.ntmps62
  go_wp2_with fail
  refine (newBoxZ_any x y hsz.1 hsz.2 whole 89 #[.pointer (some ⟨w.heap.size + 1, 0, none⟩), .pointer (some ⟨w.heap.size, 0, none⟩), .pointer (some ⟨w.heap.size + 1 + 1, 0, none⟩)] (playN x ps whole) _ play_func (fun wr hB i j a c hi hj ha hc => ?_)).mono ?_
  · obtain ⟨bc, _⟩ := bcell hB
    refine (play_call wr (w.heap.size + 1) w.heap.size (w.heap.size + 1 + 1) _ ps x whole (hr wr (Below.trans (by repeat' (first | with_reducible exact Below.refl _ _ | with_reducible assumption | with_reducible apply Below.alloc | with_reducible apply Below.setCell | with_reducible apply Below.drew | exact Nat.le_refl _ | omega | (simp only [World.size_alloc, World.size_setCell]; omega))) (hB.mono (by first | exact Nat.le_refl _ | omega | (simp only [World.size_alloc, World.size_setCell]; omega))))) (by rw [bc (w.heap.size + 1) 0 (by first | exact Nat.le_refl _ | omega | (simp only [World.size_alloc, World.size_setCell]; omega))]; exact (by repeat' (first | with_reducible assumption | (refine cell_top ?_ rfl; first | with_reducible rfl | (simp only [World.size_alloc, World.size_setCell]; done)) | (refine cell_under ?_ ?_; (first | omega | (simp only [World.size_alloc, World.size_setCell]; omega))) | refine cell_drew ?_))) (by rw [bc w.heap.size 0 (by first | exact Nat.le_refl _ | omega | (simp only [World.size_alloc, World.size_setCell]; omega))]; exact (by repeat' (first | with_reducible assumption | (refine cell_top ?_ rfl; first | with_reducible rfl | (simp only [World.size_alloc, World.size_setCell]; done)) | (refine cell_under ?_ ?_; (first | omega | (simp only [World.size_alloc, World.size_setCell]; omega))) | refine cell_drew ?_))) (by rw [bc (w.heap.size + 1 + 1) 0 (by first | exact Nat.le_refl _ | omega | (simp only [World.size_alloc, World.size_setCell]; omega))]; exact (by repeat' (first | with_reducible assumption | (refine cell_top ?_ rfl; first | with_reducible rfl | (simp only [World.size_alloc, World.size_setCell]; done)) | (refine cell_under ?_ ?_; (first | omega | (simp only [World.size_alloc, World.size_setCell]; omega))) | refine cell_drew ?_))) hsz.1 i j a c (by have := HP.out; omega) (by have := HP.out; omega) (by omega)).mono ?_
    rintro e w' ⟨rfl, rfl⟩
    exact ⟨rfl, Below.refl _ _⟩
  rintro e w1 ⟨a, c, vs, rfl, o1, b1⟩
  have B1 : Below w.heap.size w w1 := Below.trans (by repeat' (first | with_reducible exact Below.refl _ _ | with_reducible assumption | with_reducible apply Below.alloc | with_reducible apply Below.setCell | with_reducible apply Below.drew | exact Nat.le_refl _ | omega | (simp only [World.size_alloc, World.size_setCell]; omega))) (b1.mono (by first | exact Nat.le_refl _ | omega | (simp only [World.size_alloc, World.size_setCell]; omega)))
  obtain ⟨hc, hf⟩ := bcell b1
  have hz := b1.size
  simp only [World.size_alloc] at hc hf hz o1
  clear b1
  have hend := box_out (g := w.heap.size + 1 + 1 + 1) B1 (by omega) (by omega) o1 (.int .i64 x) (.int .i64 y) (.int .i64 whole) (.slice a (x.toNat * y.toNat) c)
  clear o1
  go_wp2
  refine bodyPost_ret (v := .agg #[.int .i64 x, .int .i64 y, .int .i64 whole, .slice a (x.toNat * y.toNat) c]) ?_ rfl ?_
  · simp [results, Tryz.results62, go_sem, hc]
  · exact ⟨a, c, vs, rfl, hend.1, hend.2⟩
def playOk (x y : Int) (ps : List Int) (whole : Int) : Bool := sizesB x y && (bitsB ps (x + y) && inB whole 1 1000)
def playBoxD (x y : Int) (ps : List Int) (whole : Int) : BoxD := if playOk x y ps whole then boxOf x y whole (playN x ps whole) else zeroD
theorem playBoxD_size (x y : Int) (ps : List Int) (whole : Int) : (playBoxD x y ps whole).Rows.length + sumLen (playBoxD x y ps whole).Rows ≤ 4194304 := by
  unfold playBoxD
  split
  · rename_i h
    unfold playOk at h
    rw [Bool.and_eq_true] at h
    exact boxOf_size _ _ _ _ h.1
  · simp [zeroD, sumLen]
theorem and3_false {a b c : Bool} (h : (a && (b && c)) = false) : a = false ∨ (a = true ∧ b = false) ∨ (a = true ∧ b = true ∧ c = false) := by
  revert h; cases a <;> cases b <;> cases c <;> decide
theorem and3_true {a b c : Bool} (h : (a && (b && c)) = true) : a = true ∧ b = true ∧ c = true := by
  revert h; cases a <;> cases b <;> cases c <;> decide

set_option maxHeartbeats 800000 in
theorem implPlayBox_any (x y : Int) (v : Value) (ps : List Int) (whole : Int) (w : World) (h : RdI w v ps) :
    Calls Tryz.prog 21 #[.int .i64 x, .int .i64 y, v, .int .i64 whole] w (BoxRes w (playBoxD x y ps whole) (playOk x y ps whole)) := by
  have hr : ∀ w', Below w.heap.size w w' → RdI w' v ps := fun w' hb => h.kept (Nat.le_refl _) hb
  obtain ⟨av, ba, off, cap, rfl, _⟩ := h
  rcases Bool.eq_false_or_eq_true (playOk x y ps whole) with hok | hok
  · have hD : playBoxD x y ps whole = boxOf x y whole (playN x ps whole) := by unfold playBoxD; rw [hok]; simp
    rw [hD, hok]
    obtain ⟨q1, q2, q3⟩ := and3_true hok
    obtain ⟨hx, hy⟩ := sizesB_iff.1 q1
    clear hD hok
    go_enter Tryz.func21, Tryz.ntmps21
    go_wp2_with (first | (go_at_call 39; refine (areQuestions_any _ _ _).mono ?_; rintro e w' ⟨rfl, rfl⟩) | (go_at_call 40; refine (within_any _ _ _ _).mono ?_; rintro e w' ⟨rfl, rfl⟩) | (go_at_call 61; refine (isPlay_any _ ps x y _ (hr _ (by repeat' (first | with_reducible exact Below.refl _ _ | with_reducible assumption | with_reducible apply Below.alloc | with_reducible apply Below.setCell | with_reducible apply Below.drew | exact Nat.le_refl _ | omega | (simp only [World.size_alloc, World.size_setCell]; omega)))) hx hy).mono ?_; rintro e w' ⟨rfl, rfl⟩))
    refine (playBox_any x y _ ps whole q1 (bits_iff.1 q2).2 _ (hr _ (by repeat' (first | with_reducible exact Below.refl _ _ | with_reducible assumption | with_reducible apply Below.alloc | with_reducible apply Below.setCell | with_reducible apply Below.drew | exact Nat.le_refl _ | omega | (simp only [World.size_alloc, World.size_setCell]; omega))))).mono ?_
    rintro e w1 ⟨a, c, vs, rfl, o1, b1⟩
    have B1 : Below w.heap.size w w1 := Below.trans (by repeat' (first | with_reducible exact Below.refl _ _ | with_reducible assumption | with_reducible apply Below.alloc | with_reducible apply Below.setCell | with_reducible apply Below.drew | exact Nat.le_refl _ | omega | (simp only [World.size_alloc, World.size_setCell]; omega))) (b1.mono (by first | exact Nat.le_refl _ | omega | (simp only [World.size_alloc, World.size_setCell]; omega)))
    obtain ⟨hc, hf⟩ := bcell b1
    have hz := b1.size
    simp only [World.size_alloc] at hc hf hz o1
    clear b1
    have hend := box_out (g := w.heap.size) B1 (by omega) (by omega) o1 (.int .i64 x) (.int .i64 y) (.int .i64 whole) (.slice a (x.toNat * y.toNat) c)
    clear o1
    go_wp2
    refine bodyPost_ret (v := .tuple #[.agg #[.int .i64 x, .int .i64 y, .int .i64 whole, .slice a (x.toNat * y.toNat) c], .bool true]) ?_ rfl ?_
    · simp [results, Tryz.results21, go_sem, hc]
    · exact ⟨a, c, vs, by rw [boxOf_len]; rfl, by rw [boxOf_len]; exact hend.1, hend.2⟩
  · have hD : playBoxD x y ps whole = zeroD := by unfold playBoxD; rw [hok]; simp
    rw [hD, hok]
    clear hD
    rcases and3_false hok with q1 | ⟨q1, q2⟩ | ⟨q1, q2, q3⟩ <;> clear hok
    · go_enter Tryz.func21, Tryz.ntmps21
      go_wp2_with (go_at_call 39; refine (areQuestions_any _ _ _).mono ?_; rintro e w' ⟨rfl, rfl⟩)
      refine bodyPost_ret (v := .tuple #[.agg #[.int .i64 0, .int .i64 0, .int .i64 0, .slice none 0 0], .bool false]) ?_ rfl ?_
      · simp [results, Tryz.results21, go_sem]
      · exact BoxRes.zero (by repeat' (first | with_reducible exact Below.refl _ _ | with_reducible assumption | with_reducible apply Below.alloc | with_reducible apply Below.setCell | with_reducible apply Below.drew | exact Nat.le_refl _ | omega | (simp only [World.size_alloc, World.size_setCell]; omega)))
    all_goals
      obtain ⟨hx, hy⟩ := sizesB_iff.1 q1
      go_enter Tryz.func21, Tryz.ntmps21
      go_wp2_with (first | (go_at_call 39; refine (areQuestions_any _ _ _).mono ?_; rintro e w' ⟨rfl, rfl⟩) | (go_at_call 40; refine (within_any _ _ _ _).mono ?_; rintro e w' ⟨rfl, rfl⟩) | (go_at_call 61; refine (isPlay_any _ ps x y _ (hr _ (by repeat' (first | with_reducible exact Below.refl _ _ | with_reducible assumption | with_reducible apply Below.alloc | with_reducible apply Below.setCell | with_reducible apply Below.drew | exact Nat.le_refl _ | omega | (simp only [World.size_alloc, World.size_setCell]; omega)))) hx hy).mono ?_; rintro e w' ⟨rfl, rfl⟩))
      refine bodyPost_ret (v := .tuple #[.agg #[.int .i64 0, .int .i64 0, .int .i64 0, .slice none 0 0], .bool false]) ?_ rfl ?_
      · simp [results, Tryz.results21, go_sem]
      · exact BoxRes.zero (by repeat' (first | with_reducible exact Below.refl _ _ | with_reducible assumption | with_reducible apply Below.alloc | with_reducible apply Below.setCell | with_reducible apply Below.drew | exact Nat.le_refl _ | omega | (simp only [World.size_alloc, World.size_setCell]; omega)))
end Go.Proofs.YtcifpfdlkpddeaaGreatDoor
