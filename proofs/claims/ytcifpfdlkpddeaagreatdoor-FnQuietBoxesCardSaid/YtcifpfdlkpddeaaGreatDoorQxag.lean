/- NoiseBox: contracts of the program's and the reference's function; what they give. -/
import Derived.Test.YtcifpfdlkpddeaaGreatDoorQxad
import Derived.Test.YtcifpfdlkpddeaaGreatDoorQxaf
set_option linter.unusedSimpArgs false
set_option linter.unusedVariables false
namespace Go.Proofs.YtcifpfdlkpddeaaGreatDoor
open Go.RowKit

def zeroD : BoxD := ⟨0, 0, 0, []⟩
/-- A call handed back a box of its own and a bool. -/
def BoxRes (w : World) (D : BoxD) (ok : Bool) (e : Ending) (w' : World) : Prop :=
  ∃ a c vs, e = .returned (.tuple #[.agg #[.int .i64 D.X, .int .i64 D.Y, .int .i64 D.Whole, .slice a D.Rows.length c], .bool ok]) ∧
    OwnII 33 3 w.heap.size w'.heap.size w' (.slice a D.Rows.length c) D.Rows vs ∧ Below w.heap.size w w'
theorem BoxRes.zero {w w' : World} (h : Below w.heap.size w w') : BoxRes w zeroD false (.returned (.tuple #[.agg #[.int .i64 0, .int .i64 0, .int .i64 0, .slice none 0 0], .bool false])) w' :=
  ⟨none, 0, [], rfl, OwnII.nil _ _ _ _ _, h⟩

set_option maxHeartbeats 400000 in
theorem l2Kept_yes (a : Option Addr) (c : Nat) (b : BoxD) (w : World) (h : RdII w (.slice a b.Rows.length c) b.Rows) (hb : boxB b = true) :
    Calls Tryz.prog 73 #[.agg #[.int .i64 b.X, .int .i64 b.Y, .int .i64 b.Whole, .slice a b.Rows.length c]] w fun e w' => e = .returned (.tuple #[.agg #[.int .i64 b.X, .int .i64 b.Y, .int .i64 b.Whole, .slice a b.Rows.length c], .bool true]) ∧ Below w.heap.size w w' := by
  go_enter Tryz.func73, Tryz.ntmps73
  go_wp2_with fail
  refine (l2Box_any _ b _ (h.kept (Nat.le_refl _) (by repeat' (first | with_reducible exact Below.refl _ _ | with_reducible assumption | with_reducible apply Below.alloc | with_reducible apply Below.setCell | with_reducible apply Below.drew | exact Nat.le_refl _ | omega | (simp only [World.size_alloc, World.size_setCell]; omega))))).mono ?_
  rintro e w1 ⟨rfl, b1⟩
  have B1 : Below w.heap.size w w1 := Below.trans (by repeat' (first | with_reducible exact Below.refl _ _ | with_reducible assumption | with_reducible apply Below.alloc | with_reducible apply Below.setCell | with_reducible apply Below.drew | exact Nat.le_refl _ | omega | (simp only [World.size_alloc, World.size_setCell]; omega))) (b1.mono (by first | exact Nat.le_refl _ | omega | (simp only [World.size_alloc, World.size_setCell]; omega)))
  obtain ⟨hc, hf⟩ := bcell b1
  have hz := b1.size
  simp only [World.size_alloc] at hc hf hz
  clear b1
  have hB2 : Below w.heap.size w ((((w1.setCell ⟨w.heap.size + 1, 0, none⟩ (.int .i64 b.X)).setCell ⟨w.heap.size + 1, 1, none⟩ (.int .i64 b.Y)).setCell ⟨w.heap.size + 1, 2, none⟩ (.int .i64 b.Whole)).setCell ⟨w.heap.size + 1, 3, none⟩ (.slice a b.Rows.length c)) := (by repeat' (first | with_reducible exact Below.refl _ _ | with_reducible assumption | with_reducible apply Below.alloc | with_reducible apply Below.setCell | with_reducible apply Below.drew | exact Nat.le_refl _ | omega | (simp only [World.size_alloc, World.size_setCell]; omega)))
  go_wp2
  refine bodyPost_ret (v := .tuple #[.agg #[.int .i64 b.X, .int .i64 b.Y, .int .i64 b.Whole, .slice a b.Rows.length c], .bool true]) ?_ rfl ?_
  · simp [results, Tryz.results73, go_sem, hc]
  · exact ⟨rfl, hB2⟩
set_option maxHeartbeats 400000 in
theorem l2Kept_no (a : Option Addr) (c : Nat) (b : BoxD) (w : World) (h : RdII w (.slice a b.Rows.length c) b.Rows) (hb : boxB b = false) :
    Calls Tryz.prog 73 #[.agg #[.int .i64 b.X, .int .i64 b.Y, .int .i64 b.Whole, .slice a b.Rows.length c]] w fun e w' => e = .returned (.tuple #[.agg #[.int .i64 0, .int .i64 0, .int .i64 0, .slice none 0 0], .bool false]) ∧ Below w.heap.size w w' := by
  go_enter Tryz.func73, Tryz.ntmps73
  go_wp2_with fail
  refine (l2Box_any _ b _ (h.kept (Nat.le_refl _) (by repeat' (first | with_reducible exact Below.refl _ _ | with_reducible assumption | with_reducible apply Below.alloc | with_reducible apply Below.setCell | with_reducible apply Below.drew | exact Nat.le_refl _ | omega | (simp only [World.size_alloc, World.size_setCell]; omega))))).mono ?_
  rintro e w1 ⟨rfl, b1⟩
  have B1 : Below w.heap.size w w1 := Below.trans (by repeat' (first | with_reducible exact Below.refl _ _ | with_reducible assumption | with_reducible apply Below.alloc | with_reducible apply Below.setCell | with_reducible apply Below.drew | exact Nat.le_refl _ | omega | (simp only [World.size_alloc, World.size_setCell]; omega))) (b1.mono (by first | exact Nat.le_refl _ | omega | (simp only [World.size_alloc, World.size_setCell]; omega)))
  obtain ⟨hc, hf⟩ := bcell b1
  have hz := b1.size
  simp only [World.size_alloc] at hc hf hz
  clear b1
  have hB2 : Below w.heap.size w ((((w1.setCell ⟨w.heap.size + 1, 0, none⟩ (.int .i64 0)).setCell ⟨w.heap.size + 1, 1, none⟩ (.int .i64 0)).setCell ⟨w.heap.size + 1, 2, none⟩ (.int .i64 0)).setCell ⟨w.heap.size + 1, 3, none⟩ (.slice none 0 0)) := (by repeat' (first | with_reducible exact Below.refl _ _ | with_reducible assumption | with_reducible apply Below.alloc | with_reducible apply Below.setCell | with_reducible apply Below.drew | exact Nat.le_refl _ | omega | (simp only [World.size_alloc, World.size_setCell]; omega)))
  go_wp2
  refine bodyPost_ret (v := .tuple #[.agg #[.int .i64 0, .int .i64 0, .int .i64 0, .slice none 0 0], .bool false]) ?_ rfl ?_
  · simp [results, Tryz.results73, go_sem, hc]
  · exact ⟨rfl, hB2⟩

def noiseOk (x y z : Int) : Bool := sizesB x y && inB z 1 250
def noiseN (z : Int) : Num := fun _ _ _ _ => z
def noiseD (x y z : Int) : BoxD := if noiseOk x y z then ⟨x, y, 4 * z, rowsTo (noiseN z) y.toNat (x.toNat * y.toNat)⟩ else zeroD

theorem rowsTo_size (num : Num) (Y n : Nat) (hn : n ≤ 9) : (rowsTo num Y n).length + sumLen (rowsTo num Y n) ≤ 4194304 := by
  have h : ∀ k, sumLen ((rowsTo num Y n).take k) ≤ 4 * k := by
    intro k
    induction k with
    | zero => simp [sumLen]
    | succ k ih =>
      cases hx : (rowsTo num Y n)[k]? with
      | none =>
        have hl : (rowsTo num Y n).length ≤ k := by simpa using hx
        rw [List.take_of_length_le (by omega)]
        rw [List.take_of_length_le hl] at ih
        omega
      | some rs =>
        rw [sumLen_take _ _ _ hx]
        have : rs.length = 4 := by
          unfold rowsTo at hx
          rw [List.getElem?_map] at hx
          obtain ⟨p, _, rfl⟩ := Option.map_eq_some_iff.1 hx
          rfl
        omega
  have h9 := h n
  rw [List.take_of_length_le (by simp)] at h9
  rw [rowsTo_length]
  omega

theorem noiseD_size (x y z : Int) : (noiseD x y z).Rows.length + sumLen (noiseD x y z).Rows ≤ 4194304 := by
  unfold noiseD
  split
  · rename_i h
    unfold noiseOk at h
    rw [Bool.and_eq_true] at h
    have := sizesB_iff.1 h.1
    apply rowsTo_size
    have h1 : x.toNat ≤ 3 := by omega
    have h2 : y.toNat ≤ 3 := by omega
    exact Nat.mul_le_mul h1 h2
  · simp [zeroD, sumLen]

theorem noise_call (w : World) (g : Nat) (z : Int) (hg : w.cell? ⟨g, 0, none⟩ = some (.int .i64 z)) (i j a c : Int) :
    Calls Tryz.prog 71 #[.int .i64 i, .int .i64 j, .int .i64 a, .int .i64 c, .pointer (some ⟨g, 0, none⟩)] w fun e w' => e = .returned (.int .i64 (noiseN z i j a c)) ∧ w = w' := by
  unfold noiseN
  go_enter Tryz.func71, Tryz.ntmps71
  go_wp2
  go_ret
  exact ⟨rfl, rfl⟩

theorem noise_func (args : Array Value) (w : World) : (callFunc 71 args).run Tryz.prog w = .ok (.enter 71 args) w := by kernel_rfl

set_option maxHeartbeats 800000 in
theorem implNoiseBox_any (x y z : Int) (w : World) :
    Calls Tryz.prog 27 #[.int .i64 x, .int .i64 y, .int .i64 z] w (BoxRes w (noiseD x y z) (noiseOk x y z)) := by
  rcases Bool.eq_false_or_eq_true (sizesB x y) with h1 | h1
  · obtain ⟨⟨hx0, hx1⟩, hy0, hy1⟩ := sizesB_iff.1 h1
    rcases Bool.eq_false_or_eq_true (inB z 1 250) with h2 | h2
    · obtain ⟨hz0, hz1⟩ := inB_iff.1 h2
      obtain ⟨X, rfl⟩ := Int.eq_ofNat_of_zero_le (show 0 ≤ x by omega)
      obtain ⟨Y, rfl⟩ := Int.eq_ofNat_of_zero_le (show 0 ≤ y by omega)
      have hok : noiseOk X Y z = true := by unfold noiseOk; rw [h1, h2]; rfl
      have hD : noiseD X Y z = ⟨X, Y, 4 * z, rowsTo (noiseN z) Y (X * Y)⟩ := by unfold noiseD; rw [hok]; simp
      rw [hD, hok]
      clear hD hok
      go_enter Tryz.func27, Tryz.ntmps27
      go_wp2_with (first | (go_at_call 39; refine (areQuestions_any _ _ _).mono ?_; rintro e w' ⟨rfl, rfl⟩) | (go_at_call 40; refine (within_any _ _ _ _).mono ?_; rintro e w' ⟨rfl, rfl⟩))
      refine (newBox_any X Y ⟨by omega, by omega⟩ ⟨by omega, by omega⟩ (4 * z) 71 #[.pointer (some ⟨w.heap.size, 0, none⟩)] (noiseN z) _ noise_func (fun wr hB i j a c _ _ _ _ _ _ _ _ => ?_)).mono ?_
      · refine (noise_call wr w.heap.size z ?_ i j a c).mono ?_
        · rw [hB.cell (p := ⟨w.heap.size, 0, none⟩) (by simp only [World.size_alloc]; omega)]; simp
        · rintro e w' ⟨rfl, rfl⟩
          exact ⟨rfl, Below.refl _ _⟩
      rintro e w1 ⟨a, c, vs, rfl, o1, b1⟩
      have B1 : Below w.heap.size w w1 := Below.trans (by repeat' (first | with_reducible exact Below.refl _ _ | with_reducible assumption | with_reducible apply Below.alloc | with_reducible apply Below.setCell | with_reducible apply Below.drew | exact Nat.le_refl _ | omega | (simp only [World.size_alloc, World.size_setCell]; omega))) (b1.mono (by first | exact Nat.le_refl _ | omega | (simp only [World.size_alloc, World.size_setCell]; omega)))
      obtain ⟨hc, hf⟩ := bcell b1
      have hz := b1.size
      simp only [World.size_alloc] at hc hf hz o1
      clear b1
      rw [rowsTo_length] at o1
      have hend := (((((o1.setCell_off (p := ⟨w.heap.size + 1, 0, none⟩) (Or.inl (by simp only []; omega)) (.int .i64 X)).setCell_off (p := ⟨w.heap.size + 1, 1, none⟩) (Or.inl (by simp only []; omega)) (.int .i64 Y)).setCell_off (p := ⟨w.heap.size + 1, 2, none⟩) (Or.inl (by simp only []; omega)) (.int .i64 (4 * z))).setCell_off (p := ⟨w.heap.size + 1, 3, none⟩) (Or.inl (by simp only []; omega)) (.slice a (X * Y) c))).weaken (lo' := w.heap.size) (by omega) (Nat.le_refl _)
      have hB2 : Below w.heap.size w ((((w1.setCell ⟨w.heap.size + 1, 0, none⟩ (.int .i64 X)).setCell ⟨w.heap.size + 1, 1, none⟩ (.int .i64 Y)).setCell ⟨w.heap.size + 1, 2, none⟩ (.int .i64 (4 * z))).setCell ⟨w.heap.size + 1, 3, none⟩ (.slice a (X * Y) c)) := (by repeat' (first | with_reducible exact Below.refl _ _ | with_reducible assumption | with_reducible apply Below.alloc | with_reducible apply Below.setCell | with_reducible apply Below.drew | exact Nat.le_refl _ | omega | (simp only [World.size_alloc, World.size_setCell]; omega)))
      clear o1
      go_wp2
      refine bodyPost_ret (v := .tuple #[.agg #[.int .i64 X, .int .i64 Y, .int .i64 (4 * z), .slice a (X * Y) c], .bool true]) ?_ rfl ?_
      · simp [results, Tryz.results27, go_sem, hc]
      · exact ⟨a, c, vs, by rw [rowsTo_length], by rw [rowsTo_length]; simpa only [World.size_setCell] using hend, hB2⟩
    · have hok : noiseOk x y z = false := by unfold noiseOk; rw [h1, h2]; rfl
      have hD : noiseD x y z = zeroD := by unfold noiseD; rw [hok]; simp
      rw [hD, hok]
      clear hD hok
      go_enter Tryz.func27, Tryz.ntmps27
      go_wp2_with (first | (go_at_call 39; refine (areQuestions_any _ _ _).mono ?_; rintro e w' ⟨rfl, rfl⟩) | (go_at_call 40; refine (within_any _ _ _ _).mono ?_; rintro e w' ⟨rfl, rfl⟩))
      refine bodyPost_ret (v := .tuple #[.agg #[.int .i64 0, .int .i64 0, .int .i64 0, .slice none 0 0], .bool false]) ?_ rfl ?_
      · simp [results, Tryz.results27, go_sem]
      · exact BoxRes.zero (by repeat' (first | with_reducible exact Below.refl _ _ | with_reducible assumption | with_reducible apply Below.alloc | with_reducible apply Below.setCell | with_reducible apply Below.drew | exact Nat.le_refl _ | omega | (simp only [World.size_alloc, World.size_setCell]; omega)))
  · have hok : noiseOk x y z = false := by unfold noiseOk; rw [h1]; rfl
    have hD : noiseD x y z = zeroD := by unfold noiseD; rw [hok]; simp
    rw [hD, hok]
    clear hD hok
    go_enter Tryz.func27, Tryz.ntmps27
    go_wp2_with (go_at_call 39; refine (areQuestions_any _ _ _).mono ?_; rintro e w' ⟨rfl, rfl⟩)
    refine bodyPost_ret (v := .tuple #[.agg #[.int .i64 0, .int .i64 0, .int .i64 0, .slice none 0 0], .bool false]) ?_ rfl ?_
    · simp [results, Tryz.results27, go_sem]
    · exact BoxRes.zero (by repeat' (first | with_reducible exact Below.refl _ _ | with_reducible assumption | with_reducible apply Below.alloc | with_reducible apply Below.setCell | with_reducible apply Below.drew | exact Nat.le_refl _ | omega | (simp only [World.size_alloc, World.size_setCell]; omega)))

theorem rowsTo_next (num : Num) (Y k : Nat) : rowsTo num Y (k + 1) = rowsTo num Y k ++ [rowOf num ((k / Y : Nat) : Int) ((k % Y : Nat) : Int)] := by
  unfold rowsTo
  rw [List.range_succ, List.map_append, List.map_cons, List.map_nil]

theorem noise_boxB (X Y : Nat) (z : Int) (h : sizesB X Y = true) (hz : 1 ≤ z) : boxB ⟨X, Y, 4 * z, rowsTo (noiseN z) Y (X * Y)⟩ = inB z 1 250 := by
  unfold boxB
  simp only [h, Bool.true_and, rowsTo_length]
  have e1 : decide (((X * Y : Nat) : Int) = (X : Int) * (Y : Int)) = true := by simp
  have e2 : rowsB (rowsTo (noiseN z) Y (X * Y)) (4 * z) = true := by
    apply rowsB_true
    intro j rs hrs
    unfold rowsTo at hrs
    rw [List.getElem?_map] at hrs
    obtain ⟨p, _, rfl⟩ := Option.map_eq_some_iff.1 hrs
    rw [fourB_iff]
    refine ⟨rfl, ?_, ?_⟩
    · simp [allIn, rowOf, noiseN, inB]; omega
    · simp [rowOf, noiseN]; omega
  rw [e1, e2]
  simp only [Bool.and_true]
  rw [Bool.eq_iff_iff, inB_iff, inB_iff]
  omega

set_option maxHeartbeats 1600000 in
theorem specNoiseBox_any (x y z : Int) (w : World) :
    Calls Tryz.prog 28 #[.int .i64 x, .int .i64 y, .int .i64 z] w (BoxRes w (noiseD x y z) (noiseOk x y z)) := by
  rcases Bool.eq_false_or_eq_true (sizesB x y) with h1 | h1
  · obtain ⟨⟨hx0, hx1⟩, hy0, hy1⟩ := sizesB_iff.1 h1
    rcases Bool.eq_false_or_eq_true (inB z 1 1000) with h2 | h2
    · obtain ⟨hz0, hz1⟩ := inB_iff.1 h2
      obtain ⟨X, rfl⟩ := Int.eq_ofNat_of_zero_le (show 0 ≤ x by omega)
      obtain ⟨Y, rfl⟩ := Int.eq_ofNat_of_zero_le (show 0 ≤ y by omega)
      have hXY : X * Y ≤ 9 := Nat.mul_le_mul (show X ≤ 3 by omega) (show Y ≤ 3 by omega)
      have hXYi : (X : Int) * (Y : Int) = ((X * Y : Nat) : Int) := by simp
      have HX := Lib.hid hXYi
      have hmul0 : 0 ≤ (X : Int) * (Y : Int) := by omega
      have hmul9 : (X : Int) * (Y : Int) ≤ 9 := by omega
      clear hXYi
      go_enter Tryz.func28, Tryz.ntmps28
      go_wp2_with (first | (go_at_call 72; refine (l2Sizes_any _ _ _).mono ?_; rintro e w' ⟨rfl, rfl⟩) | (go_at_call 64; refine (l1In_any _ _ _ _).mono ?_; rintro e w' ⟨rfl, rfl⟩))
      obtain ⟨W3, hW3⟩ : ∃ W3, W3 = (((w.alloc (.cells #[.int .i64 0, .int .i64 0, .int .i64 0, .slice none 0 0] 26)).alloc (.cells #[] 33)).alloc (.cells #[.int .i64 X, .int .i64 Y, .int .i64 (4 * z), .slice (some ⟨w.heap.size + 1, 0, none⟩) 0 0] 26)) := ⟨_, rfl⟩
      obtain ⟨hst, hret, hB3, hs3⟩ := BoxRel.start w W3 X Y (4 * z) hW3
      have HW := Lib.hid hW3
      have HS := Lib.hid hs3
      clear hW3 hs3
      go_loopw [9] (fun s wr => ∃ k : Nat, k ≤ X * Y ∧ s = .int .i64 k ∧ ∃ a c vs, BoxRel W3 (w.heap.size + 1) (w.heap.size + 1 + 1) (w.heap.size + 1) wr X Y (4 * z) (rowsTo (noiseN z) Y k) a c vs) (fun s _ => X * Y - (intOf s).toNat)
      case atStart => exact ⟨0, by omega, rfl, _, _, _, by rw [← HW.out]; exact hst⟩
      case round =>
        clear hst
        obtain ⟨k, hk, rfl, a, c, vs, hR⟩ := hrel
        obtain ⟨⟨g0, g1, g2, g3⟩, gf⟩ := hR.cells
        by_cases hlt : k < X * Y
        · have hlti : (k : Int) < (X : Int) * (Y : Int) := by have := HX.out; omega
          have hrow := OwnV.lit 3 wr (ints [z, z, z, z]) (by simp [maxLen])
          have hb1 : Below wr.heap.size wr (wr.alloc (.cells (ints [z, z, z, z]).toArray 3)) := (by repeat' (first | with_reducible exact Below.refl _ _ | with_reducible assumption | with_reducible apply Below.alloc | with_reducible apply Below.setCell | with_reducible apply Below.drew | exact Nat.le_refl _ | omega | (simp only [World.size_alloc, World.size_setCell]; omega)))
          have ht := hR.rows.top.kept hb1 (Nat.le_refl _)
          have hlen := hR.rows.len
          rw [rowsTo_length] at hlen ht g3
          have hn9 : vs.length ≤ 9 := by omega
          have HL := Lib.hid hlen
          have hlo : w.heap.size + 1 ≤ (wr.alloc (.cells (ints [z, z, z, z]).toArray 3)).heap.size := by rw [World.size_alloc]; have := hR.b4; omega
          clear hlen
          simp only [ints, List.map_cons, List.map_nil] at ht hlo
          go_wp2_with (at_builtin; refine append1_at rfl _ _ 24 33 rfl Tryz.underlying24 Tryz.infoInts rfl ht (World.size_alloc _ _) rfl rfl rfl (by omega) (by omega) hlo ?_)
          intro a2 c2 w2 hT2 hg2
          have hp := hR.push hb1 (rs := [z, z, z, z]) (by simpa [ints] using hrow) hT2 (by rw [rowsTo_length]; exact hg2) (by rw [HL.out]; simp)
          obtain ⟨hp1, f1, f2⟩ := hp
          have hrr : rowsTo (noiseN z) Y k ++ [[z, z, z, z]] = rowsTo (noiseN z) Y (k + 1) := by rw [rowsTo_next]; rfl
          rw [hrr] at hp1
          clear g0 g1 g2 g3 gf hR ht hT2 hrow hrr
          go_wp2
          go_roundw
          case rel => exact ⟨k + 1, by omega, by go_num, a2, c2, _, hp1⟩
          case measure => simp [intOf]; omega
        · obtain rfl : k = X * Y := by omega
          have hnl : ¬ (((X * Y : Nat) : Int) < (X : Int) * (Y : Int)) := by have := HX.out; omega
          have hlt3 : w.heap.size + 1 ≤ wr.heap.size := by have := hR.b4; omega
          have hrt := hret.kept hR.below (by omega)
          have hrows := hR.rows
          have hBw : Below w.heap.size w wr := hB3.trans (hR.below.mono (by omega))
          rw [rowsTo_length] at g3
          go_wp2_with fail
          rcases Bool.eq_false_or_eq_true (inB z 1 250) with h3 | h3
          · have hok : noiseOk X Y z = true := by unfold noiseOk; rw [h1, h3]; rfl
            have hD : noiseD X Y z = ⟨X, Y, 4 * z, rowsTo (noiseN z) Y (X * Y)⟩ := by unfold noiseD; rw [hok]; simp
            have hk := l2Kept_yes a c ⟨X, Y, 4 * z, rowsTo (noiseN z) Y (X * Y)⟩ wr hrows.rdII (by rw [noise_boxB X Y z h1 hz0]; exact h3)
            simp only [rowsTo_length] at hk
            refine hk.mono ?_
            rintro e w4 ⟨rfl, b4⟩
            have hrt4 := hrt.kept b4 (by omega)
            obtain ⟨e0, e1, e2, e3, ef⟩ := hrt4
            have o4 := hrows.kept b4 (Nat.le_refl _)
            rw [rowsTo_length] at o4
            have B4 := hBw.trans (b4.mono hBw.size)
            have s4 := b4.size
            have hend := (((((o4.setCell_off (p := ⟨w.heap.size, 0, none⟩) (Or.inl (by simp only []; omega)) (.int .i64 X)).setCell_off (p := ⟨w.heap.size, 1, none⟩) (Or.inl (by simp only []; omega)) (.int .i64 Y)).setCell_off (p := ⟨w.heap.size, 2, none⟩) (Or.inl (by simp only []; omega)) (.int .i64 (4 * z))).setCell_off (p := ⟨w.heap.size, 3, none⟩) (Or.inl (by simp only []; omega)) (.slice a (X * Y) c))).weaken (lo' := w.heap.size) (hi' := w4.heap.size) (by omega) s4
            have hB5 : Below w.heap.size w ((((w4.setCell ⟨w.heap.size, 0, none⟩ (.int .i64 X)).setCell ⟨w.heap.size, 1, none⟩ (.int .i64 Y)).setCell ⟨w.heap.size, 2, none⟩ (.int .i64 (4 * z))).setCell ⟨w.heap.size, 3, none⟩ (.slice a (X * Y) c)) := (by repeat' (first | with_reducible exact Below.refl _ _ | with_reducible assumption | with_reducible apply Below.alloc | with_reducible apply Below.setCell | with_reducible apply Below.drew | exact Nat.le_refl _ | omega | (simp only [World.size_alloc, World.size_setCell]; omega)))
            have HD := Lib.hid hD
            have HK := Lib.hid hok
            clear hrows hR hrt o4 hk hD hok g0 g1 g2 g3 gf b4 hnl
            go_wp2
            refine bodyPost_ret (v := .tuple #[.agg #[.int .i64 X, .int .i64 Y, .int .i64 (4 * z), .slice a (X * Y) c], .bool true]) ?_ rfl ?_
            · simp [results, Tryz.results28, go_sem, e0, e1, e2, e3]
            · rw [HD.out, HK.out]
              exact ⟨a, c, vs, by rw [rowsTo_length], by rw [rowsTo_length]; simpa only [World.size_setCell] using hend, hB5⟩
          · have hok : noiseOk X Y z = false := by unfold noiseOk; rw [h1, h3]; rfl
            have hD : noiseD X Y z = zeroD := by unfold noiseD; rw [hok]; simp
            have hk := l2Kept_no a c ⟨X, Y, 4 * z, rowsTo (noiseN z) Y (X * Y)⟩ wr hrows.rdII (by rw [noise_boxB X Y z h1 hz0]; exact h3)
            simp only [rowsTo_length] at hk
            refine hk.mono ?_
            rintro e w4 ⟨rfl, b4⟩
            have hrt4 := hrt.kept b4 (by omega)
            obtain ⟨e0, e1, e2, e3, ef⟩ := hrt4
            have B4 := hBw.trans (b4.mono hBw.size)
            have hB5 : Below w.heap.size w ((((w4.setCell ⟨w.heap.size, 0, none⟩ (.int .i64 0)).setCell ⟨w.heap.size, 1, none⟩ (.int .i64 0)).setCell ⟨w.heap.size, 2, none⟩ (.int .i64 0)).setCell ⟨w.heap.size, 3, none⟩ (.slice none 0 0)) := (by repeat' (first | with_reducible exact Below.refl _ _ | with_reducible assumption | with_reducible apply Below.alloc | with_reducible apply Below.setCell | with_reducible apply Below.drew | exact Nat.le_refl _ | omega | (simp only [World.size_alloc, World.size_setCell]; omega)))
            have HD := Lib.hid hD
            have HK := Lib.hid hok
            clear hrows hR hrt hk hD hok g0 g1 g2 g3 gf b4 hnl
            go_wp2
            refine bodyPost_ret (v := .tuple #[.agg #[.int .i64 0, .int .i64 0, .int .i64 0, .slice none 0 0], .bool false]) ?_ rfl ?_
            · simp [results, Tryz.results28, go_sem, e0, e1, e2, e3]
            · rw [HD.out, HK.out]
              exact BoxRes.zero hB5
    · have hok : noiseOk x y z = false := by
        have : inB z 1 250 = false := by rw [inB_not] at h2 ⊢; omega
        unfold noiseOk; rw [h1, this]; rfl
      have hD : noiseD x y z = zeroD := by unfold noiseD; rw [hok]; simp
      rw [hD, hok]
      clear hD hok
      go_enter Tryz.func28, Tryz.ntmps28
      go_wp2_with (first | (go_at_call 72; refine (l2Sizes_any _ _ _).mono ?_; rintro e w' ⟨rfl, rfl⟩) | (go_at_call 64; refine (l1In_any _ _ _ _).mono ?_; rintro e w' ⟨rfl, rfl⟩))
      refine bodyPost_ret (v := .tuple #[.agg #[.int .i64 0, .int .i64 0, .int .i64 0, .slice none 0 0], .bool false]) ?_ rfl ?_
      · simp [results, Tryz.results28, go_sem]
      · exact BoxRes.zero (by repeat' (first | with_reducible exact Below.refl _ _ | with_reducible assumption | with_reducible apply Below.alloc | with_reducible apply Below.setCell | with_reducible apply Below.drew | exact Nat.le_refl _ | omega | (simp only [World.size_alloc, World.size_setCell]; omega)))
  · have hok : noiseOk x y z = false := by unfold noiseOk; rw [h1]; rfl
    have hD : noiseD x y z = zeroD := by unfold noiseD; rw [hok]; simp
    rw [hD, hok]
    clear hD hok
    go_enter Tryz.func28, Tryz.ntmps28
    go_wp2_with (go_at_call 72; refine (l2Sizes_any _ _ _).mono ?_; rintro e w' ⟨rfl, rfl⟩)
    refine bodyPost_ret (v := .tuple #[.agg #[.int .i64 0, .int .i64 0, .int .i64 0, .slice none 0 0], .bool false]) ?_ rfl ?_
    · simp [results, Tryz.results28, go_sem]
    · exact BoxRes.zero (by repeat' (first | with_reducible exact Below.refl _ _ | with_reducible assumption | with_reducible apply Below.alloc | with_reducible apply Below.setCell | with_reducible apply Below.drew | exact Nat.le_refl _ | omega | (simp only [World.size_alloc, World.size_setCell]; omega)))
end Go.Proofs.YtcifpfdlkpddeaaGreatDoor
