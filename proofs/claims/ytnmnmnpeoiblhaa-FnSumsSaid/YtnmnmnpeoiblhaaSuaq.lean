/- PlayBox: contracts of the program's function. FlipAnswers: contracts of the program's function. -/
import Derived.Test.YtnmnmnpeoiblhaaSuag
import Derived.Test.YtnmnmnpeoiblhaaSuaj
set_option linter.unusedSimpArgs false
set_option linter.unusedVariables false
namespace Go.Proofs.Ytnmnmnpeoiblhaa
open Go.RowKit

def playN (x : Int) (ps : List Int) (whole : Int) : Num := fun i k a b => if ps.getD i.toNat 0 = a ∧ ps.getD (x.toNat + k.toNat) 0 = b then whole else 0
set_option maxHeartbeats 400000 in
theorem play_call (w : World) (g6 g4 g7 : Nat) (v : Value) (ps : List Int) (x whole : Int) (h : RdI w v ps) (c6 : w.cell? ⟨g6, 0, none⟩ = some v) (c4 : w.cell? ⟨g4, 0, none⟩ = some (.int .i64 x))
    (c7 : w.cell? ⟨g7, 0, none⟩ = some (.int .i64 whole)) (hx : 1 ≤ x ∧ x ≤ 3) (i k a b : Nat) (hi : i < ps.length) (hk : x + (k : Int) < ps.length) (hk3 : k < 3) :
    Calls Try.prog 111 #[.int .i64 i, .int .i64 k, .int .i64 a, .int .i64 b, .pointer (some ⟨g6, 0, none⟩), .pointer (some ⟨g4, 0, none⟩), .pointer (some ⟨g7, 0, none⟩)] w fun e w' => e = .returned (.int .i64 (playN x ps whole i k a b)) ∧ w = w' := by
  obtain ⟨av, ba, off, cap, rfl, hm, hav, hcell⟩ := h
  unfold maxLen at hm
  obtain rfl := hav (by omega)
  obtain ⟨X, rfl⟩ := Int.eq_ofNat_of_zero_le (show 0 ≤ x by omega)
  obtain ⟨p, hp⟩ : ∃ p, ps[i]? = some p := ⟨_, List.getElem?_eq_getElem hi⟩
  obtain ⟨n, hn⟩ : ∃ n : Nat, X + k = n := ⟨_, rfl⟩
  have hni : (X : Int) + (k : Int) = (n : Int) := by omega
  have hnl : n < ps.length := by omega
  obtain ⟨q, hq⟩ : ∃ q, ps[n]? = some q := ⟨_, List.getElem?_eq_getElem hnl⟩
  have hp' := hcell i p hp
  have hq' := hcell n q hq
  have e : playN X ps whole i k a b = if p = a ∧ q = b then whole else 0 := by
    unfold playN
    simp only [Int.toNat_natCast, hn, List.getD_eq_getElem?_getD, hp, hq, Option.getD_some]
  rw [e]
  have hle : X ≤ 3 := by omega
  clear e hp hq hcell hav hx hn hk
  by_cases h1 : p = a
  · have h1z : (p == (a : Int)) = true := by simp [h1]
    by_cases h2 : q = b
    · have h2z : (q == (b : Int)) = true := by simp [h2]
      rw [if_pos ⟨h1, h2⟩]
      clear h1 h2
      go_enter Try.func111, Try.ntmps111
      go_wp2
      go_ret
      exact ⟨rfl, rfl⟩
    · have h2z : (q == (b : Int)) = false := by simp [h2]
      rw [if_neg (fun h => h2 h.2)]
      clear h1 h2
      go_enter Try.func111, Try.ntmps111
      go_wp2
      go_ret
      exact ⟨rfl, rfl⟩
  · have h1z : (p == (a : Int)) = false := by simp [h1]
    rw [if_neg (fun h => h1 h.1)]
    clear h1
    go_enter Try.func111, Try.ntmps111
    go_wp2
    go_ret
    exact ⟨rfl, rfl⟩
theorem play_func (args : Array Value) (w : World) : (callFunc 111 args).run Try.prog w = .ok (.enter 111 args) w := by kernel_rfl

set_option maxHeartbeats 800000 in
theorem playBox_any (x y : Int) (v : Value) (ps : List Int) (whole : Int) (hs : sizesB x y = true) (hp : (ps.length : Int) = x + y) (w : World) (h : RdI w v ps) :
    Calls Try.prog 76 #[.int .i64 x, .int .i64 y, v, .int .i64 whole] w (BoxOnly w x y whole (rowsTo (playN x ps whole) y.toNat (x.toNat * y.toNat))) := by
  have hr : ∀ w', Below w.heap.size w w' → RdI w' v ps := fun w' hb => h.kept (Nat.le_refl _) hb
  obtain ⟨av, ba, off, cap, rfl, _⟩ := h
  have hsz := sizesB_iff.1 hs
  have HP := Lib.hid hp
  clear hp hs
  go_enter Try.func76, Try.ntmps76
  go_wp2_with fail
  refine (newBoxZ_any x y hsz.1 hsz.2 whole 111 #[.pointer (some ⟨w.heap.size + 1, 0, none⟩), .pointer (some ⟨w.heap.size, 0, none⟩), .pointer (some ⟨w.heap.size + 1 + 1, 0, none⟩)] (playN x ps whole) _ play_func (fun wr hB i j a c hi hj ha hc => ?_)).mono ?_
  · obtain ⟨bc, _⟩ := bcell hB
    refine (play_call wr (w.heap.size + 1) w.heap.size (w.heap.size + 1 + 1) _ ps x whole (hr wr (Below.trans (by repeat' (first | with_reducible exact Below.refl _ _ | with_reducible assumption | with_reducible apply Below.alloc | with_reducible apply Below.setCell | with_reducible apply Below.drew | exact Nat.le_refl _ | omega | (simp only [World.size_alloc, World.size_setCell]; omega))) (hB.mono (by first | exact Nat.le_refl _ | omega | (simp only [World.size_alloc, World.size_setCell]; omega))))) (by rw [bc (w.heap.size + 1) 0 (by first | exact Nat.le_refl _ | omega | (simp only [World.size_alloc, World.size_setCell]; omega))]; exact (by repeat' (first | with_reducible assumption | (refine cell_top ?_ rfl; first | with_reducible rfl | (simp only [World.size_alloc, World.size_setCell]; done)) | (refine cell_under ?_ ?_; (first | omega | (simp only [World.size_alloc, World.size_setCell]; omega))) | refine cell_drew ?_))) (by rw [bc w.heap.size 0 (by first | exact Nat.le_refl _ | omega | (simp only [World.size_alloc, World.size_setCell]; omega))]; exact (by repeat' (first | with_reducible assumption | (refine cell_top ?_ rfl; first | with_reducible rfl | (simp only [World.size_alloc, World.size_setCell]; done)) | (refine cell_under ?_ ?_; (first | omega | (simp only [World.size_alloc, World.size_setCell]; omega))) | refine cell_drew ?_))) (by rw [bc (w.heap.size + 1 + 1) 0 (by first | exact Nat.le_refl _ | omega | (simp only [World.size_alloc, World.size_setCell]; omega))]; exact (by repeat' (first | with_reducible assumption | (refine cell_top ?_ rfl; first | with_reducible rfl | (simp only [World.size_alloc, World.size_setCell]; done)) | (refine cell_under ?_ ?_; (first | omega | (simp only [World.size_alloc, World.size_setCell]; omega))) | refine cell_drew ?_))) hsz.1 i j a c (by have := HP.out; omega) (by have := HP.out; omega) (by omega)).mono ?_
    rintro e w' ⟨rfl, rfl⟩
    exact ⟨rfl, Below.refl _ _⟩
  rintro e w1 ⟨a, c, vs, rfl, o1, b1⟩
  have B1 : Below w.heap.size w w1 := Below.trans (by repeat' (first | with_reducible exact Below.refl _ _ | with_reducible assumption | with_reducible apply Below.alloc | with_reducible apply Below.setCell | with_reducible apply Below.drew | exact Nat.le_refl _ | omega | (simp only [World.size_alloc, World.size_setCell]; omega))) (b1.mono (by first | exact Nat.le_refl _ | omega | (simp only [World.size_alloc, World.size_setCell]; omega)))
  obtain ⟨hc, hf⟩ := bcell b1
  have hz := b1.size
  simp only [World.size_alloc] at hc hf hz o1
  clear b1
  have hend := box_out (g := w.heap.size + 1 + 1 + 1) B1 (by omega) (by omega) o1 (.int .i64 x) (.int .i64 y) (.int .i64 whole) (.slice a (x.toNat * y.toNat) c)
  clear o1
  go_wp2
  refine bodyPost_ret (v := .agg #[.int .i64 x, .int .i64 y, .int .i64 whole, .slice a (x.toNat * y.toNat) c]) ?_ rfl ?_
  · simp [results, Try.results76, go_sem, hc]
  · exact ⟨a, c, vs, rfl, hend.1, hend.2⟩
def playOk (x y : Int) (ps : List Int) (whole : Int) : Bool := sizesB x y && (bitsB ps (x + y) && inB whole 1 1000)
def playBoxD (x y : Int) (ps : List Int) (whole : Int) : BoxD := if playOk x y ps whole then boxOf x y whole (playN x ps whole) else zeroD
theorem playBoxD_size (x y : Int) (ps : List Int) (whole : Int) : (playBoxD x y ps whole).Rows.length + sumLen (playBoxD x y ps whole).Rows ≤ 4194304 := by
  unfold playBoxD
  split
  · rename_i h
    unfold playOk at h
    rw [Bool.and_eq_true] at h
    exact boxOf_size _ _ _ _ h.1
  · simp [zeroD, sumLen]
theorem and3_false {a b c : Bool} (h : (a && (b && c)) = false) : a = false ∨ (a = true ∧ b = false) ∨ (a = true ∧ b = true ∧ c = false) := by
  revert h; cases a <;> cases b <;> cases c <;> decide
theorem and3_true {a b c : Bool} (h : (a && (b && c)) = true) : a = true ∧ b = true ∧ c = true := by
  revert h; cases a <;> cases b <;> cases c <;> decide

set_option maxHeartbeats 800000 in
theorem implPlayBox_any (x y : Int) (v : Value) (ps : List Int) (whole : Int) (w : World) (h : RdI w v ps) :
    Calls Try.prog 27 #[.int .i64 x, .int .i64 y, v, .int .i64 whole] w (BoxRes w (playBoxD x y ps whole) (playOk x y ps whole)) := by
  have hr : ∀ w', Below w.heap.size w w' → RdI w' v ps := fun w' hb => h.kept (Nat.le_refl _) hb
  obtain ⟨av, ba, off, cap, rfl, _⟩ := h
  rcases Bool.eq_false_or_eq_true (playOk x y ps whole) with hok | hok
  · have hD : playBoxD x y ps whole = boxOf x y whole (playN x ps whole) := by unfold playBoxD; rw [hok]; simp
    rw [hD, hok]
    obtain ⟨q1, q2, q3⟩ := and3_true hok
    obtain ⟨hx, hy⟩ := sizesB_iff.1 q1
    clear hD hok
    go_enter Try.func27, Try.ntmps27
    go_wp2_with (first | (go_at_call 61; refine (areQuestions_any _ _ _).mono ?_; rintro e w' ⟨rfl, rfl⟩) | (go_at_call 82; refine (within_any _ _ _ _).mono ?_; rintro e w' ⟨rfl, rfl⟩) | (go_at_call 48; refine (isPlay_any _ ps x y _ (hr _ (by repeat' (first | with_reducible exact Below.refl _ _ | with_reducible assumption | with_reducible apply Below.alloc | with_reducible apply Below.setCell | with_reducible apply Below.drew | exact Nat.le_refl _ | omega | (simp only [World.size_alloc, World.size_setCell]; omega)))) hx hy).mono ?_; rintro e w' ⟨rfl, rfl⟩))
    refine (playBox_any x y _ ps whole q1 (bits_iff.1 q2).2 _ (hr _ (by repeat' (first | with_reducible exact Below.refl _ _ | with_reducible assumption | with_reducible apply Below.alloc | with_reducible apply Below.setCell | with_reducible apply Below.drew | exact Nat.le_refl _ | omega | (simp only [World.size_alloc, World.size_setCell]; omega))))).mono ?_
    rintro e w1 ⟨a, c, vs, rfl, o1, b1⟩
    have B1 : Below w.heap.size w w1 := Below.trans (by repeat' (first | with_reducible exact Below.refl _ _ | with_reducible assumption | with_reducible apply Below.alloc | with_reducible apply Below.setCell | with_reducible apply Below.drew | exact Nat.le_refl _ | omega | (simp only [World.size_alloc, World.size_setCell]; omega))) (b1.mono (by first | exact Nat.le_refl _ | omega | (simp only [World.size_alloc, World.size_setCell]; omega)))
    obtain ⟨hc, hf⟩ := bcell b1
    have hz := b1.size
    simp only [World.size_alloc] at hc hf hz o1
    clear b1
    have hend := box_out (g := w.heap.size) B1 (by omega) (by omega) o1 (.int .i64 x) (.int .i64 y) (.int .i64 whole) (.slice a (x.toNat * y.toNat) c)
    clear o1
    go_wp2
    refine bodyPost_ret (v := .tuple #[.agg #[.int .i64 x, .int .i64 y, .int .i64 whole, .slice a (x.toNat * y.toNat) c], .bool true]) ?_ rfl ?_
    · simp [results, Try.results27, go_sem, hc]
    · exact ⟨a, c, vs, by rw [boxOf_len]; rfl, by rw [boxOf_len]; exact hend.1, hend.2⟩
  · have hD : playBoxD x y ps whole = zeroD := by unfold playBoxD; rw [hok]; simp
    rw [hD, hok]
    clear hD
    rcases and3_false hok with q1 | ⟨q1, q2⟩ | ⟨q1, q2, q3⟩ <;> clear hok
    · go_enter Try.func27, Try.ntmps27
      go_wp2_with (go_at_call 61; refine (areQuestions_any _ _ _).mono ?_; rintro e w' ⟨rfl, rfl⟩)
      refine bodyPost_ret (v := .tuple #[.agg #[.int .i64 0, .int .i64 0, .int .i64 0, .slice none 0 0], .bool false]) ?_ rfl ?_
      · simp [results, Try.results27, go_sem]
      · exact BoxRes.zero (by repeat' (first | with_reducible exact Below.refl _ _ | with_reducible assumption | with_reducible apply Below.alloc | with_reducible apply Below.setCell | with_reducible apply Below.drew | exact Nat.le_refl _ | omega | (simp only [World.size_alloc, World.size_setCell]; omega)))
    all_goals
      obtain ⟨hx, hy⟩ := sizesB_iff.1 q1
      go_enter Try.func27, Try.ntmps27
      go_wp2_with (first | (go_at_call 61; refine (areQuestions_any _ _ _).mono ?_; rintro e w' ⟨rfl, rfl⟩) | (go_at_call 82; refine (within_any _ _ _ _).mono ?_; rintro e w' ⟨rfl, rfl⟩) | (go_at_call 48; refine (isPlay_any _ ps x y _ (hr _ (by repeat' (first | with_reducible exact Below.refl _ _ | with_reducible assumption | with_reducible apply Below.alloc | with_reducible apply Below.setCell | with_reducible apply Below.drew | exact Nat.le_refl _ | omega | (simp only [World.size_alloc, World.size_setCell]; omega)))) hx hy).mono ?_; rintro e w' ⟨rfl, rfl⟩))
      refine bodyPost_ret (v := .tuple #[.agg #[.int .i64 0, .int .i64 0, .int .i64 0, .slice none 0 0], .bool false]) ?_ rfl ?_
      · simp [results, Try.results27, go_sem]
      · exact BoxRes.zero (by repeat' (first | with_reducible exact Below.refl _ _ | with_reducible assumption | with_reducible apply Below.alloc | with_reducible apply Below.setCell | with_reducible apply Below.drew | exact Nat.le_refl _ | omega | (simp only [World.size_alloc, World.size_setCell]; omega)))
end Go.Proofs.Ytnmnmnpeoiblhaa
set_option linter.unusedSimpArgs false
set_option linter.unusedVariables false
namespace Go.Proofs.Ytnmnmnpeoiblhaa
open Go.RowKit

def xorB (a f : Int) : Int := if a = f then 0 else 1
theorem xorB_nat (a f : Int) (ha : a = 0 ∨ a = 1) (hf : f = 0 ∨ f = 1) : ∃ r : Nat, bits BinOp.xor IntKind.i64 a f = (r : Int) ∧ xorB a f = (r : Int) ∧ r < 2 := by
  rcases ha with rfl | rfl <;> rcases hf with rfl | rfl
  · exact ⟨0, by decide +kernel, rfl, by omega⟩
  · exact ⟨1, by decide +kernel, rfl, by omega⟩
  · exact ⟨1, by decide +kernel, rfl, by omega⟩
  · exact ⟨0, by decide +kernel, rfl, by omega⟩
def flipN (b : BoxD) (fl : List Int) : Num := fun i j p q => numB b i j (xorB p (fl.getD i.toNat 0)) (xorB q (fl.getD (b.X.toNat + j.toNat) 0))
def flipBL (b : BoxD) (fl : List Int) : BoxD := boxOf b.X b.Y b.Whole (flipN b fl)
set_option maxHeartbeats 1600000 in
theorem flip_call (w : World) (g4 g5 : Nat) (va v1 : Value) (a : BoxD) (fl : List Int) (ha : boxB a = true) (hf : bitsB fl (a.X + a.Y) = true) (ra : RdII w va a.Rows) (r1 : RdI w v1 fl)
    (ca : BoxAt w g4 a.X a.Y a.Whole va) (c5 : w.cell? ⟨g5, 0, none⟩ = some v1) (i j p q : Nat) (hi : (i : Int) < a.X) (hj : (j : Int) < a.Y) (hp : p < 2) (hq : q < 2) :
    Calls Try.prog 102 #[.int .i64 i, .int .i64 j, .int .i64 p, .int .i64 q, .pointer (some ⟨g4, 0, none⟩), .pointer (some ⟨g5, 0, none⟩)] w fun e w' => e = .returned (.int .i64 (flipN a fl i j p q)) ∧ Below w.heap.size w w' := by
  obtain ⟨a1, b1, o1, k1, rfl, m1, e1, d1⟩ := r1
  unfold maxLen at m1
  obtain ⟨hall, hlen⟩ := bits_iff.1 hf
  obtain ⟨⟨hx0, hx1⟩, hy0, hy1⟩ := (boxB_iff.1 ha).1
  obtain rfl := e1 (by omega)
  obtain ⟨n, hn⟩ : ∃ n : Nat, a.X.toNat + j = n := ⟨_, rfl⟩
  have hni : a.X + (j : Int) = (n : Int) := by omega
  have hil : i < fl.length := by omega
  have hnl : n < fl.length := by omega
  obtain ⟨f, hfi⟩ : ∃ f, fl[i]? = some f := ⟨_, List.getElem?_eq_getElem hil⟩
  obtain ⟨s, hsj⟩ : ∃ s, fl[n]? = some s := ⟨_, List.getElem?_eq_getElem hnl⟩
  have hf01 := allIn_get hall hfi
  have hs01 := allIn_get hall hsj
  have cf := d1 i f hfi
  have cs := d1 n s hsj
  have e : flipN a fl i j p q = numB a i j (xorB p f) (xorB q s) := by
    unfold flipN
    simp only [Int.toNat_natCast, hn, List.getD_eq_getElem?_getD, hfi, hsj, Option.getD_some]
  obtain ⟨u, hu, eu, lu⟩ := xorB_nat p f (by omega) (by omega)
  obtain ⟨v, hv, ev, lv⟩ := xorB_nat q s (by omega) (by omega)
  rw [e, eu, ev]
  have i0 : (0 : Int) ≤ (i : Int) := by omega
  have i1 : (i : Int) < (fl.length : Int) := by omega
  have j0 : (0 : Int) ≤ (n : Int) := by omega
  have j1 : (n : Int) < (fl.length : Int) := by omega
  have hw : IntKind.i64.wrap (n : Int) = (n : Int) := wrap_in _ (by omega) (by omega)
  have HA := Lib.hid ha
  clear e eu ev hfi hsj d1 hf hall hlen hf01 hs01 e1 hn ha hp hq
  go_enter Try.func102, Try.ntmps102
  go_wp2
  go_region_held3 (fun w' => (Below w.heap.size w w' ∧ w'.cell? ⟨g4, 0, none⟩ = some (.int .i64 a.X) ∧ w'.cell? ⟨g4, 1, none⟩ = some (.int .i64 a.Y) ∧ w'.cell? ⟨g4, 2, none⟩ = some (.int .i64 a.Whole) ∧ w'.cell? ⟨g4, 3, none⟩ = some va) ∧
      w'.cell? ⟨g5, 0, none⟩ = some (.slice (some ⟨b1, o1, none⟩) fl.length k1) ∧ w'.cell? ⟨b1, o1 + i, none⟩ = some (.int .i64 f) ∧ w'.cell? ⟨b1, o1 + n, none⟩ = some (.int .i64 s))
    (first | exact ⟨held1 (Below.refl _ _).drew ca, c5, cf, cs⟩ | exact ⟨held1 hBn ca, keepCell hBn c5, keepCell hBn cf, keepCell hBn cs⟩)
    (first
      | (go_at_call 103; have hS := (And.left (by assumption : (Below w.heap.size w _ ∧ _) ∧ _)).1; (with_reducible refine (at_any va a HA.out i j u v hi hj lu lv _ (ra.kept (Nat.le_refl _) hS)).mono ?_); rintro e w1 ⟨rfl, b1⟩; have hBn : Below w.heap.size w w1 := hS.trans (b1.mono hS.size)))
  all_goals
    go_wp2
    go_ret
    exact ⟨rfl, hBn⟩
theorem flip_func (args : Array Value) (w : World) : (callFunc 102 args).run Try.prog w = .ok (.enter 102 args) w := by kernel_rfl

set_option maxHeartbeats 1600000 in
theorem flipped_any (va : Value) (a : BoxD) (v1 : Value) (fl : List Int) (ha : boxB a = true) (hf : bitsB fl (a.X + a.Y) = true) (w : World) (ra : RdII w va a.Rows) (r1 : RdI w v1 fl) :
    Calls Try.prog 49 #[.agg #[.int .i64 a.X, .int .i64 a.Y, .int .i64 a.Whole, va], v1] w (BoxOnly w a.X a.Y a.Whole (flipBL a fl).Rows) := by
  obtain ⟨hx, hy⟩ := (boxB_iff.1 ha).1
  have hr1 : ∀ w', Below w.heap.size w w' → RdI w' v1 fl := fun w' hb => r1.kept (Nat.le_refl _) hb
  obtain ⟨a1, b1, o1, k1, rfl, m1, _, _⟩ := r1
  have HF := Lib.hid hf
  have HA := Lib.hid ha
  clear hf ha
  go_enter Try.func49, Try.ntmps49
  go_wp2_with fail
  refine (newBoxZ_any a.X a.Y hx hy a.Whole 102 #[.pointer (some ⟨w.heap.size, 0, none⟩), .pointer (some ⟨w.heap.size + 1, 0, none⟩)] (flipN a fl) _ flip_func (fun wr hB i j p q hi hj hp hq => ?_)).mono ?_
  · have BB : Below w.heap.size w wr := Below.trans (by repeat' (first | with_reducible exact Below.refl _ _ | with_reducible assumption | with_reducible apply Below.alloc | with_reducible apply Below.setCell | with_reducible apply Below.drew | exact Nat.le_refl _ | omega | (simp only [World.size_alloc, World.size_setCell]; omega))) (hB.mono (by first | exact Nat.le_refl _ | omega | (simp only [World.size_alloc, World.size_setCell]; omega)))
    exact flip_call wr _ _ va _ a fl HA.out HF.out (ra.kept (Nat.le_refl _) BB) (hr1 _ BB) ⟨keepCell hB (by repeat' (first | with_reducible assumption | (refine cell_top ?_ rfl; first | with_reducible rfl | (simp only [World.size_alloc, World.size_setCell]; done)) | (refine cell_under ?_ ?_; (first | omega | (simp only [World.size_alloc, World.size_setCell]; omega))) | refine cell_drew ?_)), keepCell hB (by repeat' (first | with_reducible assumption | (refine cell_top ?_ rfl; first | with_reducible rfl | (simp only [World.size_alloc, World.size_setCell]; done)) | (refine cell_under ?_ ?_; (first | omega | (simp only [World.size_alloc, World.size_setCell]; omega))) | refine cell_drew ?_)), keepCell hB (by repeat' (first | with_reducible assumption | (refine cell_top ?_ rfl; first | with_reducible rfl | (simp only [World.size_alloc, World.size_setCell]; done)) | (refine cell_under ?_ ?_; (first | omega | (simp only [World.size_alloc, World.size_setCell]; omega))) | refine cell_drew ?_)), keepCell hB (by repeat' (first | with_reducible assumption | (refine cell_top ?_ rfl; first | with_reducible rfl | (simp only [World.size_alloc, World.size_setCell]; done)) | (refine cell_under ?_ ?_; (first | omega | (simp only [World.size_alloc, World.size_setCell]; omega))) | refine cell_drew ?_))⟩ (keepCell hB (by repeat' (first | with_reducible assumption | (refine cell_top ?_ rfl; first | with_reducible rfl | (simp only [World.size_alloc, World.size_setCell]; done)) | (refine cell_under ?_ ?_; (first | omega | (simp only [World.size_alloc, World.size_setCell]; omega))) | refine cell_drew ?_))) i j p q hi hj hp hq
  rintro e w1 ⟨ar, c, vs, rfl, o1, b1⟩
  have B1 : Below w.heap.size w w1 := Below.trans (by repeat' (first | with_reducible exact Below.refl _ _ | with_reducible assumption | with_reducible apply Below.alloc | with_reducible apply Below.setCell | with_reducible apply Below.drew | exact Nat.le_refl _ | omega | (simp only [World.size_alloc, World.size_setCell]; omega))) (b1.mono (by first | exact Nat.le_refl _ | omega | (simp only [World.size_alloc, World.size_setCell]; omega)))
  have R1 : RetAt w1 (w.heap.size + 1 + 1) := RetAt.call b1 (by repeat' (first | with_reducible assumption | (refine RetAt.top ?_; first | with_reducible rfl | (simp only [World.size_alloc, World.size_setCell]; done)) | refine RetAt.under ?_))
  have hz := b1.size
  simp only [World.size_alloc] at hz o1
  clear b1
  have hend := box_out (g := w.heap.size + 1 + 1) B1 (by omega) (by omega) o1 (.int .i64 a.X) (.int .i64 a.Y) (.int .i64 a.Whole) (.slice ar (a.X.toNat * a.Y.toNat) c)
  obtain ⟨r0, r1, r2, r3, rf⟩ := R1
  clear o1
  go_wp2
  refine bodyPost_ret (v := .agg #[.int .i64 a.X, .int .i64 a.Y, .int .i64 a.Whole, .slice ar (a.X.toNat * a.Y.toNat) c]) ?_ rfl ?_
  · simp [results, Try.results49, go_sem, r0, r1, r2, r3]
  · exact ⟨ar, c, vs, rfl, hend.1, hend.2⟩
def flipBOk (b : BoxD) (fl : List Int) : Bool := boxB b && bitsB fl (b.X + b.Y)
def flipBD (b : BoxD) (fl : List Int) : BoxD := if flipBOk b fl then flipBL b fl else zeroD
theorem flipBD_size (b : BoxD) (fl : List Int) : (flipBD b fl).Rows.length + sumLen (flipBD b fl).Rows ≤ 4194304 := by
  unfold flipBD
  split
  · rename_i h
    unfold flipBOk at h
    rw [Bool.and_eq_true] at h
    exact boxOf_size _ _ _ _ (boxB_sizes h.1)
  · simp [zeroD, sumLen]
set_option maxHeartbeats 1600000 in
theorem implFlipAnswers_any (va : Value) (a : BoxD) (v1 : Value) (fl : List Int) (w : World) (ra : RdII w va a.Rows) (r1 : RdI w v1 fl) :
    Calls Try.prog 7 #[.agg #[.int .i64 a.X, .int .i64 a.Y, .int .i64 a.Whole, va], v1] w (BoxRes w (flipBD a fl) (flipBOk a fl)) := by
  go_enter Try.func7, Try.ntmps7
  go_wp2_with fail
  refine (implIsBox_any _ a _ (ra.kept (Nat.le_refl _) (by repeat' (first | with_reducible exact Below.refl _ _ | with_reducible assumption | with_reducible apply Below.alloc | with_reducible apply Below.setCell | with_reducible apply Below.drew | exact Nat.le_refl _ | omega | (simp only [World.size_alloc, World.size_setCell]; omega))))).mono ?_
  rintro e w1 ⟨rfl, b1⟩
  have B1 : Below w.heap.size w w1 := Below.trans (by repeat' (first | with_reducible exact Below.refl _ _ | with_reducible assumption | with_reducible apply Below.alloc | with_reducible apply Below.setCell | with_reducible apply Below.drew | exact Nat.le_refl _ | omega | (simp only [World.size_alloc, World.size_setCell]; omega))) (b1.mono (by first | exact Nat.le_refl _ | omega | (simp only [World.size_alloc, World.size_setCell]; omega)))
  have A1 : BoxAt w1 w.heap.size a.X a.Y a.Whole va := ⟨keepCell b1 (by repeat' (first | with_reducible assumption | (refine cell_top ?_ rfl; first | with_reducible rfl | (simp only [World.size_alloc, World.size_setCell]; done)) | (refine cell_under ?_ ?_; (first | omega | (simp only [World.size_alloc, World.size_setCell]; omega))) | refine cell_drew ?_)), keepCell b1 (by repeat' (first | with_reducible assumption | (refine cell_top ?_ rfl; first | with_reducible rfl | (simp only [World.size_alloc, World.size_setCell]; done)) | (refine cell_under ?_ ?_; (first | omega | (simp only [World.size_alloc, World.size_setCell]; omega))) | refine cell_drew ?_)), keepCell b1 (by repeat' (first | with_reducible assumption | (refine cell_top ?_ rfl; first | with_reducible rfl | (simp only [World.size_alloc, World.size_setCell]; done)) | (refine cell_under ?_ ?_; (first | omega | (simp only [World.size_alloc, World.size_setCell]; omega))) | refine cell_drew ?_)), keepCell b1 (by repeat' (first | with_reducible assumption | (refine cell_top ?_ rfl; first | with_reducible rfl | (simp only [World.size_alloc, World.size_setCell]; done)) | (refine cell_under ?_ ?_; (first | omega | (simp only [World.size_alloc, World.size_setCell]; omega))) | refine cell_drew ?_))⟩
  have R1 : RetAt w1 (w.heap.size + 1) := RetAt.call b1 (by repeat' (first | with_reducible assumption | (refine RetAt.top ?_; first | with_reducible rfl | (simp only [World.size_alloc, World.size_setCell]; done)) | refine RetAt.under ?_))
  have hz := b1.size
  simp only [World.size_alloc] at hz
  clear b1
  have r1' := r1.kept (Nat.le_refl _) B1
  rcases Bool.eq_false_or_eq_true (boxB a) with hok | hok
  · rw [hok]
    obtain ⟨hx, hy⟩ := (boxB_iff.1 hok).1
    obtain ⟨a0, a1', a2', a3⟩ := A1
    rcases Bool.eq_false_or_eq_true (bitsB fl (a.X + a.Y)) with h1 | h1
    · have hm : flipBOk a fl = true := by unfold flipBOk; rw [hok, h1]; rfl
      have hD : flipBD a fl = flipBL a fl := by unfold flipBD; rw [hm]; simp
      have HD := Lib.hid hD
      have HM := Lib.hid hm
      clear hD hm
      go_wp2_with (first | (go_at_call 48; refine (isPlay_any _ fl _ _ _ r1' hx hy).mono ?_; rintro e w' ⟨rfl, rfl⟩))
      refine (flipped_any _ a _ fl hok h1 _ (ra.kept (Nat.le_refl _) B1) r1').mono ?_
      rintro e w2 ⟨ar, c, vs, rfl, o2, b2⟩
      have B2 := B1.trans (b2.mono B1.size)
      have hend := box_out (g := w.heap.size + 1) B2 (by omega) (by omega) o2 (.int .i64 a.X) (.int .i64 a.Y) (.int .i64 a.Whole) (.slice ar (a.X.toNat * a.Y.toNat) c)
      have R2 := R1.call b2
      clear o2 b2
      obtain ⟨r0, r1, r2, r3, rf⟩ := R2
      go_wp2
      refine bodyPost_ret (v := .tuple #[.agg #[.int .i64 a.X, .int .i64 a.Y, .int .i64 a.Whole, .slice ar (a.X.toNat * a.Y.toNat) c], .bool true]) ?_ rfl ?_
      · simp [results, Try.results7, go_sem, r0, r1, r2, r3]
      · rw [HD.out, HM.out]
        have hl : (flipBL a fl).Rows.length = a.X.toNat * a.Y.toNat := boxOf_len _ _ _ _
        exact ⟨ar, c, vs, by rw [hl]; rfl, by rw [hl]; exact hend.1, hend.2⟩
    · have hm : flipBOk a fl = false := by unfold flipBOk; rw [hok, h1]; rfl
      have hD : flipBD a fl = zeroD := by unfold flipBD; rw [hm]; simp
      have HD := Lib.hid hD
      have HM := Lib.hid hm
      clear hD hm
      obtain ⟨r0, r1, r2, r3, rf⟩ := R1
      go_wp2_with (first | (go_at_call 48; refine (isPlay_any _ fl _ _ _ r1' hx hy).mono ?_; rintro e w' ⟨rfl, rfl⟩))
      refine bodyPost_ret (v := .tuple #[.agg #[.int .i64 0, .int .i64 0, .int .i64 0, .slice none 0 0], .bool false]) ?_ rfl ?_
      · simp [results, Try.results7, go_sem, r0, r1, r2, r3]
      · rw [HD.out, HM.out]; exact BoxRes.zero (by repeat' (first | with_reducible exact Below.refl _ _ | with_reducible assumption | with_reducible apply Below.alloc | with_reducible apply Below.setCell | with_reducible apply Below.drew | exact Nat.le_refl _ | omega | (simp only [World.size_alloc, World.size_setCell]; omega)))
  · have hm : flipBOk a fl = false := by unfold flipBOk; rw [hok]; rfl
    have hD : flipBD a fl = zeroD := by unfold flipBD; rw [hm]; simp
    rw [hok]
    have HD := Lib.hid hD
    have HM := Lib.hid hm
    clear hD hm
    obtain ⟨r0, r1, r2, r3, rf⟩ := R1
    go_wp2
    refine bodyPost_ret (v := .tuple #[.agg #[.int .i64 0, .int .i64 0, .int .i64 0, .slice none 0 0], .bool false]) ?_ rfl ?_
    · simp [results, Try.results7, go_sem, r0, r1, r2, r3]
    · rw [HD.out, HM.out]; exact BoxRes.zero (by repeat' (first | with_reducible exact Below.refl _ _ | with_reducible assumption | with_reducible apply Below.alloc | with_reducible apply Below.setCell | with_reducible apply Below.drew | exact Nat.le_refl _ | omega | (simp only [World.size_alloc, World.size_setCell]; omega)))
end Go.Proofs.Ytnmnmnpeoiblhaa
