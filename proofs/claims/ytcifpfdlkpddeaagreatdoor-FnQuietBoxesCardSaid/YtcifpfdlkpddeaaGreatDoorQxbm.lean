/- What the reference draws: boxes. What the reference draws for PlayBox, NoiseBox, IsPlay and ProductBox. -/
import Derived.Test.YtcifpfdlkpddeaaGreatDoorQxbl
import Derived.Test.YtcifpfdlkpddeaaGreatDoorQxbe
import Derived.Test.YtcifpfdlkpddeaaGreatDoorQxaj
set_option linter.unusedSimpArgs false
set_option linter.unusedVariables false
namespace Go.Proofs.YtcifpfdlkpddeaaGreatDoor
open Go.RowKit Go.WideShapes

set_option maxRecDepth 20000 in
set_option maxHeartbeats 3200000 in
theorem box_any (g : Nat) (v : Value) (n A : Nat) (w : World) (hc : CurB g v n A w) (hA : A ≤ 800000) :
    Calls Tryz.prog 52 #[.pointer (some ⟨g, 0, none⟩)] w (DrawnBox w g v n (A + 3000)) := by
  have hg := hc.lt
  have HRD := Lib.hid hc.rd
  have R0 := ZB.made w
  have hc0 : CurB g v n A (w.alloc (.cells #[.int .i64 0, .int .i64 0, .int .i64 0, .slice none 0 0] 26)) := hc.kept (Nat.le_refl _) ((Below.refl _ _).alloc (Nat.le_refl _) _)
  have hm0 : Mid g (g + 1) w (w.alloc (.cells #[.int .i64 0, .int .i64 0, .int .i64 0, .slice none 0 0] 26)) := mid_alloc g w _
  have C0 := sizes_any g v n A _ hc0 (by omega)
  go_enter Tryz.func52, Tryz.ntmps52
  go_wp2_with fail
  refine C0.mono ?_
  rintro e w2 ⟨x, y, rfl, hxy, hc2, hm2⟩
  have C1 := one_any g v n (A + 8) 2 w2 hc2.cur hc2.rd (by omega) (by decide) (by decide)
  clear C0 hxy
  go_wp2_with fail
  refine C1.mono ?_
  rintro e w3 ⟨b, rfl, hc3, hm3⟩
  have h3 := hc2.step hc3 hm3
  have m3 := hm2.trans hm3
  clear C1 hc2 hc3 hm2 hm3
  cases b with
  | true =>
    have CX := someBox_any g v n (A + 8 + 2) x y w3 h3 (by omega)
    go_wp2_with fail
    refine CX.mono ?_
    rintro e w4 ⟨⟨bx, ba, bc, bs, rfl, ⟨hsm, hx1, hx2⟩, ob⟩, hc4, hm4⟩
    clear hx1 hx2
    have zz4 := hm4.size
    have hd : Dr (w.alloc (.cells #[.int .i64 0, .int .i64 0, .int .i64 0, .slice none 0 0] 26)) g v n (A + 2100) w4 bx ba bc bs := ⟨ob.weaken m3.size (Nat.le_refl _), hc4.up (by omega), m3.trans hm4⟩
    have CP := spoil_any g v n (A + 2100) _ bx ba bc bs w4 (by rw [World.size_alloc]; omega) hc0.rd hsm hd (by omega)
    clear CX ob hc4 hm4 hsm
    go_wp2_with fail
    refine CP.mono ?_
    rintro e w5 ⟨b2, a2, c2, s2, rfl, hd2⟩
    have Z5 := R0.midc hd2.mid hg
    obtain ⟨e0, e1, e2, e3, ef⟩ := Z5.retAt
    have hb4 := set4W_below (w := w5) (r := w.heap.size) (B := w.heap.size) (Nat.le_refl _) (.int .i64 b2.X) (.int .i64 b2.Y) (.int .i64 b2.Whole) (.slice a2 b2.Rows.length c2)
    have hend := (hd2.own.set4 (g := w.heap.size) (by rw [World.size_alloc]; omega) (.int .i64 b2.X) (.int .i64 b2.Y) (.int .i64 b2.Whole) (.slice a2 b2.Rows.length c2)).weaken (lo' := w.heap.size) (by rw [World.size_alloc]; omega) (Nat.le_refl _)
    have m5 := hm0.trans hd2.mid
    have hcE := hd2.cur.far HRD.out hg (Nat.le_refl _) m5 hb4
    have hmE := m5.low hb4
    clear CP hd hd2 hb4 m5 Z5
    go_wp2
    refine bodyPost_ret (v := .agg #[.int .i64 b2.X, .int .i64 b2.Y, .int .i64 b2.Whole, .slice a2 b2.Rows.length c2]) ?_ rfl ?_
    · simp [results, Tryz.results52, go_sem, e0, e1, e2, e3]
    · exact ⟨b2, a2, c2, s2, rfl, ⟨by simp only [World.size_setCell]; exact hend, hcE.up (by omega), hmE⟩⟩
  | false =>
    have CX := quietOf_any g v n (A + 8 + 2) x y w3 h3 (by omega)
    go_wp2_with fail
    refine CX.mono ?_
    rintro e w4 ⟨⟨bx, ba, bc, bs, rfl, ⟨hsm, hx1, hx2⟩, ob⟩, hc4, hm4⟩
    clear hx1 hx2
    have zz4 := hm4.size
    have hd : Dr (w.alloc (.cells #[.int .i64 0, .int .i64 0, .int .i64 0, .slice none 0 0] 26)) g v n (A + 2100) w4 bx ba bc bs := ⟨ob.weaken m3.size (Nat.le_refl _), hc4.up (by omega), m3.trans hm4⟩
    have CP := spoil_any g v n (A + 2100) _ bx ba bc bs w4 (by rw [World.size_alloc]; omega) hc0.rd hsm hd (by omega)
    clear CX ob hc4 hm4 hsm
    go_wp2_with fail
    refine CP.mono ?_
    rintro e w5 ⟨b2, a2, c2, s2, rfl, hd2⟩
    have Z5 := R0.midc hd2.mid hg
    obtain ⟨e0, e1, e2, e3, ef⟩ := Z5.retAt
    have hb4 := set4W_below (w := w5) (r := w.heap.size) (B := w.heap.size) (Nat.le_refl _) (.int .i64 b2.X) (.int .i64 b2.Y) (.int .i64 b2.Whole) (.slice a2 b2.Rows.length c2)
    have hend := (hd2.own.set4 (g := w.heap.size) (by rw [World.size_alloc]; omega) (.int .i64 b2.X) (.int .i64 b2.Y) (.int .i64 b2.Whole) (.slice a2 b2.Rows.length c2)).weaken (lo' := w.heap.size) (by rw [World.size_alloc]; omega) (Nat.le_refl _)
    have m5 := hm0.trans hd2.mid
    have hcE := hd2.cur.far HRD.out hg (Nat.le_refl _) m5 hb4
    have hmE := m5.low hb4
    clear CP hd hd2 hb4 m5 Z5
    go_wp2
    refine bodyPost_ret (v := .agg #[.int .i64 b2.X, .int .i64 b2.Y, .int .i64 b2.Whole, .slice a2 b2.Rows.length c2]) ?_ rfl ?_
    · simp [results, Tryz.results52, go_sem, e0, e1, e2, e3]
    · exact ⟨b2, a2, c2, s2, rfl, ⟨by simp only [World.size_setCell]; exact hend, hcE.up (by omega), hmE⟩⟩
/-- A draw of a box out of bytes. -/
def BoxOf (w : World) (e : Ending) (w' : World) : Prop := ∃ (b : BoxD) (a : Option Addr) (c : Nat) (vs : List Value), e = .returned (.agg #[.int .i64 b.X, .int .i64 b.Y, .int .i64 b.Whole, .slice a b.Rows.length c]) ∧ OwnII 33 3 w.heap.size w'.heap.size w' (.slice a b.Rows.length c) b.Rows vs ∧ Below w.heap.size w w'
set_option maxHeartbeats 1600000 in
theorem drawIsBox_any (v : Value) (n : Nat) (w : World) (h : RdB w v n) : Calls Tryz.prog 33 #[v] w (BoxOf w) := by
  obtain ⟨va, vcap, rfl⟩ : ∃ a c, v = .slice a n c := by obtain ⟨a, _, _, c, hv, _⟩ := h; exact ⟨a, c, hv⟩
  have Z0 := ZB.made w
  obtain ⟨w0, hw0⟩ : ∃ w0, w0 = w.alloc (.cells #[.int .i64 0, .int .i64 0, .int .i64 0, .slice none 0 0] 26) := ⟨_, rfl⟩
  rw [← hw0] at Z0
  have z0 : w0.heap.size = w.heap.size + 1 := by rw [hw0]; exact World.size_alloc _ _
  have B0 : Below w.heap.size w w0 := by rw [hw0]; exact (Below.refl _ _).alloc (Nat.le_refl _) _
  have hR0 := h.kept B0
  have hc1 : CurB w0.heap.size (.slice va n vcap) n 0 (w0.alloc (.cells #[.slice va n vcap, .int .i64 0, .int .u64 0] 75)) := ⟨Cur.start w0 (.slice va n vcap), hR0.cur _⟩
  have B1 : Below w0.heap.size w0 (w0.alloc (.cells #[.slice va n vcap, .int .i64 0, .int .u64 0] 75)) := (Below.refl _ _).alloc (Nat.le_refl _) _
  have Z1 := Z0.kept B1 Z0.lt
  have CX := box_any w0.heap.size (.slice va n vcap) n 0 _ hc1 (by decide)
  rw [z0] at CX B1 hc1
  rw [hw0] at CX
  go_enter Tryz.func33, Tryz.ntmps33
  go_wp2_with fail
  refine CX.mono ?_
  rintro e w5 ⟨b2, a2, c2, s2, rfl, hd2⟩
  rw [← hw0] at hd2
  have Z5 : ZB w5 w.heap.size := (hd2.mid.block w.heap.size Z1.lt (by omega)).trans Z1
  obtain ⟨e0, e1, e2, e3, ef⟩ := Z5.retAt
  have B5 : Below w.heap.size w w5 := B0.trans ((B1.mono (by omega)).trans (hd2.mid.below (by omega) (by rw [World.size_alloc]; omega)))
  have hb4 := set4W_below (w := w5) (r := w.heap.size) (B := w.heap.size) (Nat.le_refl _) (.int .i64 b2.X) (.int .i64 b2.Y) (.int .i64 b2.Whole) (.slice a2 b2.Rows.length c2)
  have hend := (hd2.own.set4 (g := w.heap.size) (by rw [World.size_alloc]; omega) (.int .i64 b2.X) (.int .i64 b2.Y) (.int .i64 b2.Whole) (.slice a2 b2.Rows.length c2)).weaken (lo' := w.heap.size) (by rw [World.size_alloc]; omega) (Nat.le_refl _)
  have BE := B5.trans hb4
  clear CX hd2 hb4 Z5 B5 Z1 B1 hc1 hR0 B0 Z0 hw0
  go_wp2
  refine bodyPost_ret (v := .agg #[.int .i64 b2.X, .int .i64 b2.Y, .int .i64 b2.Whole, .slice a2 b2.Rows.length c2]) ?_ rfl ?_
  · simp [results, Tryz.results33, go_sem, e0, e1, e2, e3]
  · exact ⟨b2, a2, c2, s2, rfl, by simp only [World.size_setCell]; exact hend, BE⟩
set_option maxHeartbeats 1600000 in
theorem drawFirstLoud_any (v : Value) (n : Nat) (w : World) (h : RdB w v n) : Calls Tryz.prog 5 #[v] w (BoxOf w) := by
  obtain ⟨va, vcap, rfl⟩ : ∃ a c, v = .slice a n c := by obtain ⟨a, _, _, c, hv, _⟩ := h; exact ⟨a, c, hv⟩
  have Z0 := ZB.made w
  have B0 : Below w.heap.size w (w.alloc (.cells #[.int .i64 0, .int .i64 0, .int .i64 0, .slice none 0 0] 26)) := (Below.refl _ _).alloc (Nat.le_refl _) _
  have CX := drawIsBox_any (.slice va n vcap) n _ (h.kept B0)
  go_enter Tryz.func5, Tryz.ntmps5
  go_wp2_with fail
  refine CX.mono ?_
  rintro e w5 ⟨b2, a2, c2, s2, rfl, o2, B2⟩
  obtain ⟨e0, e1, e2, e3, ef⟩ := (Z0.kept B2 Z0.lt).retAt
  have B5 : Below w.heap.size w w5 := B0.trans (B2.mono B0.size)
  have hb4 := set4W_below (w := w5) (r := w.heap.size) (B := w.heap.size) (Nat.le_refl _) (.int .i64 b2.X) (.int .i64 b2.Y) (.int .i64 b2.Whole) (.slice a2 b2.Rows.length c2)
  have hend := (o2.set4 (g := w.heap.size) (by rw [World.size_alloc]; omega) (.int .i64 b2.X) (.int .i64 b2.Y) (.int .i64 b2.Whole) (.slice a2 b2.Rows.length c2)).weaken (lo' := w.heap.size) (by rw [World.size_alloc]; omega) (Nat.le_refl _)
  have BE := B5.trans hb4
  clear CX o2 hb4 B5 B2 B0 Z0
  go_wp2
  refine bodyPost_ret (v := .agg #[.int .i64 b2.X, .int .i64 b2.Y, .int .i64 b2.Whole, .slice a2 b2.Rows.length c2]) ?_ rfl ?_
  · simp [results, Tryz.results5, go_sem, e0, e1, e2, e3]
  · exact ⟨b2, a2, c2, s2, rfl, by simp only [World.size_setCell]; exact hend, BE⟩
end Go.Proofs.YtcifpfdlkpddeaaGreatDoor
set_option linter.unusedSimpArgs false
set_option linter.unusedVariables false
namespace Go.Proofs.YtcifpfdlkpddeaaGreatDoor
open Go.RowKit Go.WideShapes

set_option maxHeartbeats 1600000 in
theorem drawNoiseBox_any (v : Value) (n : Nat) (w : World) (h : RdB w v n) : Calls Tryz.prog 26 #[v] w fun e w' => ∃ x y m : Int, e = .returned (.tuple #[.int .i64 x, .int .i64 y, .int .i64 m]) ∧ Below w.heap.size w w' := by
  obtain ⟨va, vcap, rfl⟩ : ∃ a c, v = .slice a n c := by obtain ⟨a, _, _, c, hv, _⟩ := h; exact ⟨a, c, hv⟩
  have hc1 : CurB w.heap.size (.slice va n vcap) n 0 (w.alloc (.cells #[.slice va n vcap, .int .i64 0, .int .u64 0] 75)) := ⟨Cur.start w (.slice va n vcap), h.cur _⟩
  have C1 := sizes_any w.heap.size (.slice va n vcap) n 0 _ hc1 (by decide)
  go_enter Tryz.func26, Tryz.ntmps26
  go_wp2_with fail
  refine C1.mono ?_
  rintro e w2 ⟨x, y, rfl, hxy, hc2, hm2⟩
  have C2 := among_made w.heap.size (.slice va n vcap) n (0 + 8) [1, 2, 5, 250, 251, 0, -1, 4611686018427387904] w2 hc2.cur hc2.rd (by decide) (by decide) (by decide)
  clear C1 hxy
  go_wp2_with fail
  refine C2.mono ?_
  rintro e w3 ⟨m, hm, rfl, hc3, hm3⟩
  have hB := mid_below (hm2.trans hm3)
  clear C2 hm2 hm3 hc2 hc3 hc1 hm
  go_wp2
  refine bodyPost_ret (v := .tuple #[.int .i64 x, .int .i64 y, .int .i64 m]) (by simp [results, Tryz.results26, go_sem]) rfl ⟨x, y, m, rfl, hB⟩
set_option maxHeartbeats 1600000 in
theorem drawIsPlay_any (v : Value) (n : Nat) (w : World) (h : RdB w v n) : Calls Tryz.prog 30 #[v] w fun e w' => ∃ (x y : Int) (xs : List Int) (a : Option Addr) (c : Nat), e = .returned (.tuple #[.int .i64 x, .int .i64 y, .slice a xs.length c]) ∧ RdI w' (.slice a xs.length c) xs ∧ Below w.heap.size w w' := by
  obtain ⟨va, vcap, rfl⟩ : ∃ a c, v = .slice a n c := by obtain ⟨a, _, _, c, hv, _⟩ := h; exact ⟨a, c, hv⟩
  have hc1 : CurB w.heap.size (.slice va n vcap) n 0 (w.alloc (.cells #[.slice va n vcap, .int .i64 0, .int .u64 0] 75)) := ⟨Cur.start w (.slice va n vcap), h.cur _⟩
  have C1 := sizes_any w.heap.size (.slice va n vcap) n 0 _ hc1 (by decide)
  go_enter Tryz.func30, Tryz.ntmps30
  go_wp2_with fail
  refine C1.mono ?_
  rintro e w2 ⟨x, y, rfl, hxy, hc2, hm2⟩
  have C2 := play_any w.heap.size (.slice va n vcap) n (0 + 8) x y w2 hc2 (by decide)
  clear C1 hxy
  go_wp2_with fail
  refine C2.mono ?_
  rintro e w3 ⟨⟨xs, a1, c1, rfl, hx9, ox⟩, hc3, hm3⟩
  have hB := mid_below (hm2.trans hm3)
  have rx := ox.rdI
  clear C2 hm2 hm3 hc2 hc3 hc1 ox
  go_wp2
  refine bodyPost_ret (v := .tuple #[.int .i64 x, .int .i64 y, .slice a1 xs.length c1]) (by simp [results, Tryz.results30, go_sem]) rfl ⟨x, y, xs, a1, c1, rfl, rx, hB⟩
set_option maxHeartbeats 1600000 in
theorem drawPlayBox_any (v : Value) (n : Nat) (w : World) (h : RdB w v n) : Calls Tryz.prog 20 #[v] w fun e w' => ∃ (x y : Int) (xs : List Int) (a : Option Addr) (c : Nat) (m : Int), e = .returned (.tuple #[.int .i64 x, .int .i64 y, .slice a xs.length c, .int .i64 m]) ∧ RdI w' (.slice a xs.length c) xs ∧ Below w.heap.size w w' := by
  obtain ⟨va, vcap, rfl⟩ : ∃ a c, v = .slice a n c := by obtain ⟨a, _, _, c, hv, _⟩ := h; exact ⟨a, c, hv⟩
  have hc1 : CurB w.heap.size (.slice va n vcap) n 0 (w.alloc (.cells #[.slice va n vcap, .int .i64 0, .int .u64 0] 75)) := ⟨Cur.start w (.slice va n vcap), h.cur _⟩
  have C1 := sizes_any w.heap.size (.slice va n vcap) n 0 _ hc1 (by decide)
  go_enter Tryz.func20, Tryz.ntmps20
  go_wp2_with fail
  refine C1.mono ?_
  rintro e w2 ⟨x, y, rfl, hxy, hc2, hm2⟩
  have C2 := play_any w.heap.size (.slice va n vcap) n (0 + 8) x y w2 hc2 (by decide)
  clear C1 hxy
  go_wp2_with fail
  refine C2.mono ?_
  rintro e w3 ⟨⟨xs, a1, c1, rfl, hx9, ox⟩, hc3, hm3⟩
  have C3 := among_made w.heap.size (.slice va n vcap) n (0 + 8 + 30) [1, 2, 5, 1000, 1001, 0, -1] w3 hc3.cur hc3.rd (by decide) (by decide) (by decide)
  clear C2
  go_wp2_with fail
  refine C3.mono ?_
  rintro e w4 ⟨m, hm, rfl, hc4, hm4⟩
  have z2 := hm2.size
  rw [World.size_alloc] at z2
  have hB := mid_below ((hm2.trans hm3).trans hm4)
  have rx := (ox.mid hm4 (Or.inr (by omega))).rdI
  clear C3 hm2 hm3 hm4 hc2 hc3 hc4 hc1 ox hm
  go_wp2
  refine bodyPost_ret (v := .tuple #[.int .i64 x, .int .i64 y, .slice a1 xs.length c1, .int .i64 m]) (by simp [results, Tryz.results20, go_sem]) rfl ⟨x, y, xs, a1, c1, m, rfl, rx, hB⟩
end Go.Proofs.YtcifpfdlkpddeaaGreatDoor
