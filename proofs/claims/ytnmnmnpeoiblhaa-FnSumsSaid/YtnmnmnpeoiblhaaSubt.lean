/- What the reference draws for sums: two questions of each player and a place. -/
import Derived.Test.YtnmnmnpeoiblhaaSubs
set_option linter.unusedSimpArgs false
set_option linter.unusedVariables false
namespace Go.Proofs.Ytnmnmnpeoiblhaa
open Go.RowKit Go.WideShapes

set_option maxHeartbeats 400000 in
theorem l3Pairs_none (n : Int) (hn : n < 0) (w : World) :
    Calls Try.prog 117 #[.int .i64 n] w (PairsRes w []) := by
  have hE := OwnP.empty 47 w
  have hB : Below w.heap.size w (w.alloc (.cells #[] 47)) := (Below.refl _ _).alloc (Nat.le_refl _) _
  go_enter Try.func117, Try.ntmps117
  go_wp2
  go_loopw [4, 3] (fun s so wr => s = .int .i64 0 ∧ so = .slice (some ⟨w.heap.size, 0, none⟩) 0 0 ∧ OwnP 47 w.heap.size wr.heap.size wr (.slice (some ⟨w.heap.size, 0, none⟩) 0 0) [] ∧ Below w.heap.size w wr) (fun s _ _ => 0)
  case atStart => exact ⟨rfl, rfl, by simpa using hE, hB⟩
  case round =>
    clear hE hB
    obtain ⟨rfl, rfl, hO, hB⟩ := hrel
    go_wp2
    go_ret
    exact ⟨_, rfl, hO.rd, hB⟩
theorem l3Pairs_some (n : Int) (hn : n ≤ 3) (w : World) :
    ∃ ps, ps.length ≤ 9 ∧ Calls Try.prog 117 #[.int .i64 n] w (PairsRes w ps) := by
  by_cases h : n < 0
  · exact ⟨[], by decide, l3Pairs_none n h w⟩
  · obtain ⟨N, rfl⟩ := Int.eq_ofNat_of_zero_le (show 0 ≤ n by omega)
    refine ⟨pairsTo N N, ?_, l3Pairs_any N (by omega) w⟩
    have := pairsTo_length N N
    have h2 : N * N ≤ 3 * 3 := Nat.mul_le_mul (by omega) (by omega)
    omega
/-- The state of the draw: both result variables untouched, both pairs, the cursor. -/
structure F4 (w : World) (g : Nat) (v : Value) (n A : Nat) (f0 f1 s0 s1 : Int) (W : World) : Prop where
  r0 : PairAt W w.heap.size (.int .i64 0) (.int .i64 0)
  r1 : PairAt W (w.heap.size + 1) (.int .i64 0) (.int .i64 0)
  pf : PairAt W (w.heap.size + 1 + 1) (.int .i64 f0) (.int .i64 f1)
  ps : PairAt W (w.heap.size + 1 + 1 + 1) (.int .i64 s0) (.int .i64 s1)
  cur : CurB g v n A W
  mid : Mid g (g + 1) w W
theorem F4.lt {w W : World} {g n A : Nat} {v : Value} {f0 f1 s0 s1 : Int} (h : F4 w g v n A f0 f1 s0 s1 W) : w.heap.size + 1 + 1 + 1 < W.heap.size := h.ps.lt
theorem F4.call {w W W' : World} {g n A A' : Nat} {v : Value} {f0 f1 s0 s1 : Int} (h : F4 w g v n A f0 f1 s0 s1 W) (hg : g < w.heap.size) (hc : Cur g v A' W') (hm : Mid g (g + 1) W W') : F4 w g v n A' f0 f1 s0 s1 W' :=
  ⟨h.r0.mid hm (Or.inr (by omega)), h.r1.mid hm (Or.inr (by omega)), h.pf.mid hm (Or.inr (by omega)), h.ps.mid hm (Or.inr (by omega)), h.cur.step hc hm, h.mid.trans hm⟩
theorem F4.below {w W W' : World} {g n A : Nat} {v : Value} {f0 f1 s0 s1 : Int} (h : F4 w g v n A f0 f1 s0 s1 W) (hb : Below W.heap.size W W') : F4 w g v n A f0 f1 s0 s1 W' :=
  ⟨h.r0.kept hb, h.r1.kept hb, h.pf.kept hb, h.ps.kept hb, h.cur.kept (Nat.le_refl _) hb, h.mid.trans (Mid.of_below hb (Nat.le_refl _))⟩
theorem F4.up {w W : World} {g n A B : Nat} {v : Value} {f0 f1 s0 s1 : Int} (h : F4 w g v n A f0 f1 s0 s1 W) (hAB : A ≤ B) : F4 w g v n B f0 f1 s0 s1 W :=
  ⟨h.r0, h.r1, h.pf, h.ps, h.cur.up hAB, h.mid⟩
theorem F4.put {w W : World} {g n A k : Nat} {v u1 u2 : Value} {f0 f1 s0 s1 : Int} (h : F4 w g v n A f0 f1 s0 s1 W) (hr : RdC g w v n) (hg : g < w.heap.size) (hk : w.heap.size ≤ k) :
    CurB g v n A ((W.setCell ⟨k, 0, none⟩ u1).setCell ⟨k, 1, none⟩ u2) ∧ Mid g (g + 1) w ((W.setCell ⟨k, 0, none⟩ u1).setCell ⟨k, 1, none⟩ u2) := by
  have hb : Below w.heap.size W ((W.setCell ⟨k, 0, none⟩ u1).setCell ⟨k, 1, none⟩ u2) := ((Below.refl _ _).setCell (by exact hk) _).setCell (by exact hk) _
  exact ⟨h.cur.far hr hg (Nat.le_refl _) h.mid hb, h.mid.low hb⟩
theorem F4.setf {w W : World} {g n A : Nat} {v : Value} {f0 f1 s0 s1 : Int} (h : F4 w g v n A f0 f1 s0 s1 W) (hr : RdC g w v n) (hg : g < w.heap.size) (a b : Int) :
    F4 w g v n A a b s0 s1 ((W.setCell ⟨w.heap.size + 1 + 1, 0, none⟩ (.int .i64 a)).setCell ⟨w.heap.size + 1 + 1, 1, none⟩ (.int .i64 b)) := by
  obtain ⟨h1, h2⟩ := h.put (k := w.heap.size + 1 + 1) (u1 := .int .i64 a) (u2 := .int .i64 b) hr hg (by omega)
  exact ⟨(h.r0.far (by omega)).far (by omega), (h.r1.far (by omega)).far (by omega), h.pf.set, (h.ps.far (by omega)).far (by omega), h1, h2⟩
theorem F4.sets {w W : World} {g n A : Nat} {v : Value} {f0 f1 s0 s1 : Int} (h : F4 w g v n A f0 f1 s0 s1 W) (hr : RdC g w v n) (hg : g < w.heap.size) (a b : Int) :
    F4 w g v n A f0 f1 a b ((W.setCell ⟨w.heap.size + 1 + 1 + 1, 0, none⟩ (.int .i64 a)).setCell ⟨w.heap.size + 1 + 1 + 1, 1, none⟩ (.int .i64 b)) := by
  obtain ⟨h1, h2⟩ := h.put (k := w.heap.size + 1 + 1 + 1) (u1 := .int .i64 a) (u2 := .int .i64 b) hr hg (by omega)
  exact ⟨(h.r0.far (by omega)).far (by omega), (h.r1.far (by omega)).far (by omega), (h.pf.far (by omega)).far (by omega), h.ps.set, h1, h2⟩
theorem below4 {B : Nat} {w : World} (r : Nat) (h : B ≤ r) (x y z u : Value) : Below B w ((((w.setCell ⟨r, 0, none⟩ x).setCell ⟨r, 1, none⟩ y).setCell ⟨r + 1, 0, none⟩ z).setCell ⟨r + 1, 1, none⟩ u) :=
  ((((Below.refl _ _).setCell (by exact h) _).setCell (by exact h) _).setCell (by show B ≤ r + 1; omega) _).setCell (by show B ≤ r + 1; omega) _
/-- The world behind the return: both pairs laid into the result variables. -/
def fin4 (W : World) (r : Nat) (f0 f1 s0 s1 : Int) : World := (((W.setCell ⟨r, 0, none⟩ (.int .i64 f0)).setCell ⟨r, 1, none⟩ (.int .i64 f1)).setCell ⟨r + 1, 0, none⟩ (.int .i64 s0)).setCell ⟨r + 1, 1, none⟩ (.int .i64 s1)
def FourRes (w : World) (g : Nat) (v : Value) (n A : Nat) (e : Ending) (w' : World) : Prop :=
  ∃ f0 f1 s0 s1 m : Int, e = .returned (.tuple #[.agg #[.int .i64 f0, .int .i64 f1], .agg #[.int .i64 s0, .int .i64 s1], .int .i64 m]) ∧ CurB g v n A w' ∧ Mid g (g + 1) w w'
set_option maxRecDepth 20000 in
set_option maxHeartbeats 3200000 in
theorem four3_any (g : Nat) (v : Value) (n A : Nat) (x y : Int) (w : World) (hc : CurB g v n A w) (hA : A ≤ 900000) :
    Calls Try.prog 84 #[.pointer (some ⟨g, 0, none⟩), .int .i64 x, .int .i64 y] w (FourRes w g v n (A + 20)) := by
  have hg := hc.lt
  have HRD := Lib.hid hc.rd
  obtain ⟨lx, hlx⟩ : ∃ lx, (if x < 3 then x else 3) = lx := ⟨_, rfl⟩
  obtain ⟨ly, hly⟩ : ∃ ly, (if y < 3 then y else 3) = ly := ⟨_, rfl⟩
  have hlx3 : lx ≤ 3 := by rw [← hlx]; split <;> omega
  have hly3 : ly ≤ 3 := by rw [← hly]; split <;> omega
  have CLX := fun W => l1Least_int x 3 W
  have CLY := fun W => l1Least_int y 3 W
  rw [hlx] at CLX
  rw [hly] at CLY
  clear hlx hly
  obtain ⟨w1, hw1⟩ : ∃ w1, w1 = (((w.alloc (.cells #[.int .i64 0, .int .i64 0] 47)).alloc (.cells #[.int .i64 0, .int .i64 0] 47)).alloc (.cells #[.int .i64 0, .int .i64 1] 47)).alloc (.cells #[.int .i64 0, .int .i64 1] 47) := ⟨_, rfl⟩
  have HF : F4 w g v n A 0 1 0 1 w1 := by
    have hB : Below w.heap.size w w1 := by rw [hw1]; exact (by repeat' (first | with_reducible exact Below.refl _ _ | with_reducible assumption | with_reducible apply Below.alloc | with_reducible apply Below.setCell | with_reducible apply Below.drew | exact Nat.le_refl _ | omega | (simp only [World.size_alloc, World.size_setCell]; omega)))
    refine ⟨?_, ?_, ?_, ?_, hc.kept (Nat.le_refl _) hB, Mid.of_below hB (Nat.le_refl _)⟩ <;> rw [hw1]
    · exact (by repeat' (first | with_reducible assumption | (refine PairAt.top ?_; first | with_reducible rfl | (simp only [World.size_alloc]; done)) | (refine PairAt.under ?_ ?_; (first | omega | (simp only [World.size_alloc]; omega)))))
    · exact PairAt.under (by simp) (PairAt.under (by simp) (PairAt.top (by simp)))
    · exact PairAt.under (by simp) (PairAt.top (by simp))
    · exact PairAt.top (by simp)
  obtain ⟨qs, hq9, CQ⟩ := l3Pairs_some lx hlx3 w1
  rw [hw1] at CQ
  go_enter Try.func84, Try.ntmps84
  go_wp2_with fail
  refine (CLX _).mono ?_
  rintro e wa ⟨rfl, rfl⟩
  go_wp2_with fail
  refine CQ.mono ?_
  rintro e w2 ⟨vq, rfl, rq, bq⟩
  rw [← hw1] at bq rq
  obtain ⟨qb, qcap, qa, rfl, hqm, hqa, hqc⟩ := rq
  have HF2 := HF.below bq
  have hz1 := HF.lt
  clear CQ CLX HF hw1
  go_upto_if 20 with fail
  go_cut [11] from 13 (fun _ wx => ∃ f0 f1 : Int, F4 w g v n (A + 2) f0 f1 0 1 wx)
  case first =>
    by_cases h0 : 0 < qs.length
    · obtain ⟨rfl, hb1, hb2⟩ := hqa h0
      have h0' : (0 : Int) < (qs.length : Int) := by omega
      have C := pick_any g v n A qs.length w2 HF2.cur.cur HF2.cur.rd (by omega) h0 (by omega)
      go_wp2_with fail
      refine C.mono ?_
      rintro e w3 ⟨k, rfl, hk, hc3, hm3⟩
      obtain ⟨p, hp⟩ : ∃ p, qs[k]? = some p := ⟨_, List.getElem?_eq_getElem hk⟩
      obtain ⟨c0, c1⟩ := hqc k p hp
      replace c0 := hm3.keep (Or.inr (by omega)) c0
      replace c1 := hm3.keep (Or.inr (by omega)) c1
      have HF3 := HF2.call hg hc3 hm3
      obtain ⟨d0, d1, df⟩ := HF3.pf.cells
      have hk0 : (0 : Int) ≤ (k : Int) := by omega
      have hk1 : (k : Int) < (qs.length : Int) := by omega
      have HE := (HF3.setf HRD.out hg p.1 p.2)
      clear C hc3 hm3 HF2 hqc hqa hp HF3
      go_wp2
      go_meet
      case rel => exact ⟨p.1, p.2, HE⟩
    · have h0' : ¬ (0 : Int) < (qs.length : Int) := by omega
      go_wp2
      go_meet
      case rel => exact ⟨0, 1, HF2.up (by omega)⟩
  case rest =>
    obtain ⟨f0, f1, HF⟩ := hcut
    obtain ⟨w3, rfl⟩ : ∃ W : World, W = wc := ⟨_, rfl⟩
    clear hqc hqa HF2 hq9 hqm bq hz1
    obtain ⟨qs, hq9, CQ⟩ := l3Pairs_some ly hly3 w3
    go_wp2_with fail
    refine (CLY _).mono ?_
    rintro e wa ⟨rfl, rfl⟩
    go_wp2_with fail
    refine CQ.mono ?_
    rintro e w4 ⟨vq, rfl, rq, bq⟩
    obtain ⟨qb, qcap, qa, rfl, hqm, hqa, hqc⟩ := rq
    have HF2 := HF.below bq
    have hz1 := HF.lt
    clear CQ CLY HF
    go_upto_if 33 with fail
    go_cut [12] from 13 (fun _ wx => ∃ s0 s1 : Int, F4 w g v n (A + 4) f0 f1 s0 s1 wx)
    case first =>
      by_cases h0 : 0 < qs.length
      · obtain ⟨rfl, hb1, hb2⟩ := hqa h0
        have h0' : (0 : Int) < (qs.length : Int) := by omega
        have C := pick_any g v n (A + 2) qs.length w4 HF2.cur.cur HF2.cur.rd (by omega) h0 (by omega)
        go_wp2_with fail
        refine C.mono ?_
        rintro e w5 ⟨k, rfl, hk, hc3, hm3⟩
        obtain ⟨p, hp⟩ : ∃ p, qs[k]? = some p := ⟨_, List.getElem?_eq_getElem hk⟩
        obtain ⟨c0, c1⟩ := hqc k p hp
        replace c0 := hm3.keep (Or.inr (by omega)) c0
        replace c1 := hm3.keep (Or.inr (by omega)) c1
        have HF3 := HF2.call hg hc3 hm3
        obtain ⟨d0, d1, df⟩ := HF3.ps.cells
        have hk0 : (0 : Int) ≤ (k : Int) := by omega
        have hk1 : (k : Int) < (qs.length : Int) := by omega
        have HE := (HF3.sets HRD.out hg p.1 p.2)
        clear C hc3 hm3 HF2 hqc hqa hp HF3
        go_wp2
        go_meet
        case rel => exact ⟨p.1, p.2, HE⟩
      · have h0' : ¬ (0 : Int) < (qs.length : Int) := by omega
        go_wp2
        go_meet
        case rel => exact ⟨0, 1, HF2.up (by omega)⟩
    case rest =>
      obtain ⟨s0, s1, HF⟩ := hcut
      obtain ⟨w5, rfl⟩ : ∃ W : World, W = wc := ⟨_, rfl⟩
      clear hqc hqa HF2 hq9 hqm bq hz1
      have C := pick_any g v n (A + 4) 24 w5 HF.cur.cur HF.cur.rd (by omega) (by decide) (by decide)
      go_wp2_with fail
      refine C.mono ?_
      rintro e w6 ⟨k, rfl, hk, hc6, hm6⟩
      have HF6 := HF.call hg hc6 hm6
      clear C HF hc6 hm6
      by_cases k0 : k = 0
      · subst k0
        obtain ⟨d0, d1, df⟩ := HF6.pf.cells
        have HF := HF6.setf HRD.out hg 1 0
        clear HF6
        go_upto_region 15 with fail
        generalize ((w6.setCell ⟨w.heap.size + 1 + 1, 0, none⟩ (.int .i64 1)).setCell ⟨w.heap.size + 1 + 1, 1, none⟩ (.int .i64 0)) = w7 at *
        generalize (1 : Int) = f0 at HF
        generalize (0 : Int) = f1 at HF
        clear d0 d1 df
        have C := pick_any g v n (A + 6) 4 w7.drew (HF.below (Below.refl w7.heap.size w7).drew).cur.cur (HF.below (Below.refl w7.heap.size w7).drew).cur.rd (by omega) (by decide) (by decide)
        obtain ⟨d0, d1, df⟩ := HF.pf.cells
        obtain ⟨d2, d3, dg⟩ := HF.ps.cells
        clear hk
        go_wp2
        refine wp_region_held_drew (S := fun W => W.cell? ⟨w.heap.size + 1 + 1, 0, none⟩ = some (.int .i64 f0) ∧ W.cell? ⟨w.heap.size + 1 + 1, 1, none⟩ = some (.int .i64 f1) ∧ W.cell? ⟨w.heap.size + 1 + 1 + 1, 0, none⟩ = some (.int .i64 s0) ∧ W.cell? ⟨w.heap.size + 1 + 1 + 1, 1, none⟩ = some (.int .i64 s1)) (by first | rfl | kernel_rfl) ⟨d0, d1, d2, d3⟩ (fun hHeld => ?_)
        refine wpAnyH_take (i := 0) (v := ?_) rfl (by kernel_rfl) (by kernel_rfl) (by kernel_rfl) (fun _ _ _ h => h) (Or.inl ⟨by rfl, ?_⟩) (by assumption) ?_
        rotate_left
        · (intro w hSw; (try dsimp only at hSw); go_simp; try with_reducible rfl)
        try simp only [Act.put, List.getElem_toArray, List.getElem_cons_zero, List.getElem_cons_succ, List.setIfInBounds_toArray, List.set_cons_zero, List.set_cons_succ]
        refine wpAnyH_take (i := 1) (v := ?_) rfl (by kernel_rfl) (by kernel_rfl) (by kernel_rfl) (fun _ _ _ h => h) (Or.inl ⟨by rfl, ?_⟩) (by assumption) ?_
        rotate_left
        · (intro w hSw; (try dsimp only at hSw); go_simp; try with_reducible rfl)
        try simp only [Act.put, List.getElem_toArray, List.getElem_cons_zero, List.getElem_cons_succ, List.setIfInBounds_toArray, List.set_cons_zero, List.set_cons_succ]
        refine wpAnyH_take (i := 2) (v := ?_) rfl (by kernel_rfl) (by kernel_rfl) (by kernel_rfl) (fun _ _ _ h => h) (Or.inl ⟨by rfl, ?_⟩) (by assumption) ?_
        rotate_left
        · (intro w hSw; (try dsimp only at hSw); go_simp; try with_reducible rfl)
        try simp only [Act.put, List.getElem_toArray, List.getElem_cons_zero, List.getElem_cons_succ, List.setIfInBounds_toArray, List.set_cons_zero, List.set_cons_succ]
        refine wpAnyH_ready (rs := [3]) (by kernel_rfl) (by simp) ?_
        refine AllReadyH.cons rfl (fun K hK => ?_) AllReadyH.nil
        go_simp
        refine C.mono ?_
        rintro e w8 ⟨m, rfl, hm, hc8, hm8⟩
        have HF8 := (HF.below (Below.refl w7.heap.size w7).drew).call hg hc8 hm8
        obtain ⟨d0, d1, df⟩ := HF8.pf.cells
        obtain ⟨d2, d3, dg⟩ := HF8.ps.cells
        obtain ⟨e0, e1, ef⟩ := HF8.r0.cells
        obtain ⟨e2, e3, eg⟩ := HF8.r1.cells
        clear C hc8 hm8
        go_wp2_with fail
        refine hK.out _ _ ?_ (fun hHeld => ?_)
        · exact ⟨d0, d1, d2, d3⟩
        clear hK K
        try simp only [Act.put, List.setIfInBounds_toArray, List.set_cons_zero, List.set_cons_succ]
        have P1f := (HF8.pf.far (k := w.heap.size) (o := 0) (u := .int .i64 f0) (by omega)).far (k := w.heap.size) (o := 1) (u := .int .i64 f1) (by omega)
        have P1s := (HF8.ps.far (k := w.heap.size) (o := 0) (u := .int .i64 f0) (by omega)).far (k := w.heap.size) (o := 1) (u := .int .i64 f1) (by omega)
        have R1 := (HF8.r1.far (k := w.heap.size) (o := 0) (u := .int .i64 f0) (by omega)).far (k := w.heap.size) (o := 1) (u := .int .i64 f1) (by omega)
        have P2f := (P1f.far (k := w.heap.size + 1) (o := 0) (u := .int .i64 s0) (by omega)).far (k := w.heap.size + 1) (o := 1) (u := .int .i64 s1) (by omega)
        have P2s := (P1s.far (k := w.heap.size + 1) (o := 0) (u := .int .i64 s0) (by omega)).far (k := w.heap.size + 1) (o := 1) (u := .int .i64 s1) (by omega)
        have hbE := below4 (w := w8) w.heap.size (Nat.le_refl _) (.int .i64 f0) (.int .i64 f1) (.int .i64 s0) (.int .i64 s1)
        have HCE := Lib.hid (And.intro (HF8.cur.far HRD.out hg (Nat.le_refl _) HF8.mid hbE) (HF8.mid.low hbE))
        have HV1 := Lib.hid (And.intro P1f.cells.1 (And.intro P1f.cells.2.1 (And.intro P1s.cells.1 P1s.cells.2.1)))
        have HV2 := Lib.hid (And.intro P2f.cells.1 (And.intro P2f.cells.2.1 (And.intro P2s.cells.1 P2s.cells.2.1)))
        obtain ⟨k2, k3, kg⟩ := R1.cells
        clear P1f P1s P2f P2s R1 hbE HF8
        refine wpAnyH_ready (rs := [4]) (by kernel_rfl) (by simp) ?_
        refine AllReadyH.cons rfl (fun K hK => ?_) AllReadyH.nil
        go_simp
        refine hK.out _ _ ?_ (fun hHeld => ?_)
        · exact HV1.out
        clear hK K
        try simp only [Act.put, List.setIfInBounds_toArray, List.set_cons_zero, List.set_cons_succ]
        refine wpAnyH_ready (rs := [5]) (by kernel_rfl) (by simp) ?_
        refine AllReadyH.cons rfl (fun K hK => ?_) AllReadyH.nil
        go_simp
        refine hK.out _ _ ?_ (fun hHeld => ?_)
        · exact HV2.out
        clear hK K
        try simp only [Act.put, List.setIfInBounds_toArray, List.set_cons_zero, List.set_cons_succ]
        refine wpAnyH_take (i := 6) (v := ?_) rfl (by kernel_rfl) (by kernel_rfl) (by kernel_rfl) (fun _ _ _ h => h) (Or.inl ⟨by rfl, ?_⟩) (by assumption) ?_
        rotate_left
        · (intro w hSw; (try dsimp only at hSw); go_simp; try with_reducible rfl)
        try simp only [Act.put, List.getElem_toArray, List.getElem_cons_zero, List.getElem_cons_succ, List.setIfInBounds_toArray, List.set_cons_zero, List.set_cons_succ]
        refine wpAnyH_done (by kernel_rfl) ?_ _
        clear hHeld
        go_wp2
        refine bodyPost_ret (v := .tuple #[.agg #[.int .i64 f0, .int .i64 f1], .agg #[.int .i64 s0, .int .i64 s1], .int .i64 m]) ?_ rfl ?_
        · simp [results, Try.results84, go_sem, e0, e1, e2, e3]
        · exact ⟨f0, f1, s0, s1, m, rfl, HCE.out.1.up (by omega), HCE.out.2⟩
      · have k0' : ¬ (k : Int) = 0 := by omega
        by_cases k1 : k = 1
        · subst k1
          obtain ⟨d0, d1, df⟩ := HF6.ps.cells
          have HF := HF6.sets HRD.out hg (-1) 1
          clear HF6
          go_upto_region 15 with fail
          generalize ((w6.setCell ⟨w.heap.size + 1 + 1 + 1, 0, none⟩ (.int .i64 (-1))).setCell ⟨w.heap.size + 1 + 1 + 1, 1, none⟩ (.int .i64 1)) = w7 at *
          generalize (-1 : Int) = s0 at HF
          generalize (1 : Int) = s1 at HF
          clear d0 d1 df
          have C := pick_any g v n (A + 6) 4 w7.drew (HF.below (Below.refl w7.heap.size w7).drew).cur.cur (HF.below (Below.refl w7.heap.size w7).drew).cur.rd (by omega) (by decide) (by decide)
          obtain ⟨d0, d1, df⟩ := HF.pf.cells
          obtain ⟨d2, d3, dg⟩ := HF.ps.cells
          clear hk
          go_wp2
          refine wp_region_held_drew (S := fun W => W.cell? ⟨w.heap.size + 1 + 1, 0, none⟩ = some (.int .i64 f0) ∧ W.cell? ⟨w.heap.size + 1 + 1, 1, none⟩ = some (.int .i64 f1) ∧ W.cell? ⟨w.heap.size + 1 + 1 + 1, 0, none⟩ = some (.int .i64 s0) ∧ W.cell? ⟨w.heap.size + 1 + 1 + 1, 1, none⟩ = some (.int .i64 s1)) (by first | rfl | kernel_rfl) ⟨d0, d1, d2, d3⟩ (fun hHeld => ?_)
          refine wpAnyH_take (i := 0) (v := ?_) rfl (by kernel_rfl) (by kernel_rfl) (by kernel_rfl) (fun _ _ _ h => h) (Or.inl ⟨by rfl, ?_⟩) (by assumption) ?_
          rotate_left
          · (intro w hSw; (try dsimp only at hSw); go_simp; try with_reducible rfl)
          try simp only [Act.put, List.getElem_toArray, List.getElem_cons_zero, List.getElem_cons_succ, List.setIfInBounds_toArray, List.set_cons_zero, List.set_cons_succ]
          refine wpAnyH_take (i := 1) (v := ?_) rfl (by kernel_rfl) (by kernel_rfl) (by kernel_rfl) (fun _ _ _ h => h) (Or.inl ⟨by rfl, ?_⟩) (by assumption) ?_
          rotate_left
          · (intro w hSw; (try dsimp only at hSw); go_simp; try with_reducible rfl)
          try simp only [Act.put, List.getElem_toArray, List.getElem_cons_zero, List.getElem_cons_succ, List.setIfInBounds_toArray, List.set_cons_zero, List.set_cons_succ]
          refine wpAnyH_take (i := 2) (v := ?_) rfl (by kernel_rfl) (by kernel_rfl) (by kernel_rfl) (fun _ _ _ h => h) (Or.inl ⟨by rfl, ?_⟩) (by assumption) ?_
          rotate_left
          · (intro w hSw; (try dsimp only at hSw); go_simp; try with_reducible rfl)
          try simp only [Act.put, List.getElem_toArray, List.getElem_cons_zero, List.getElem_cons_succ, List.setIfInBounds_toArray, List.set_cons_zero, List.set_cons_succ]
          refine wpAnyH_ready (rs := [3]) (by kernel_rfl) (by simp) ?_
          refine AllReadyH.cons rfl (fun K hK => ?_) AllReadyH.nil
          go_simp
          refine C.mono ?_
          rintro e w8 ⟨m, rfl, hm, hc8, hm8⟩
          have HF8 := (HF.below (Below.refl w7.heap.size w7).drew).call hg hc8 hm8
          obtain ⟨d0, d1, df⟩ := HF8.pf.cells
          obtain ⟨d2, d3, dg⟩ := HF8.ps.cells
          obtain ⟨e0, e1, ef⟩ := HF8.r0.cells
          obtain ⟨e2, e3, eg⟩ := HF8.r1.cells
          clear C hc8 hm8
          go_wp2_with fail
          refine hK.out _ _ ?_ (fun hHeld => ?_)
          · exact ⟨d0, d1, d2, d3⟩
          clear hK K
          try simp only [Act.put, List.setIfInBounds_toArray, List.set_cons_zero, List.set_cons_succ]
          have P1f := (HF8.pf.far (k := w.heap.size) (o := 0) (u := .int .i64 f0) (by omega)).far (k := w.heap.size) (o := 1) (u := .int .i64 f1) (by omega)
          have P1s := (HF8.ps.far (k := w.heap.size) (o := 0) (u := .int .i64 f0) (by omega)).far (k := w.heap.size) (o := 1) (u := .int .i64 f1) (by omega)
          have R1 := (HF8.r1.far (k := w.heap.size) (o := 0) (u := .int .i64 f0) (by omega)).far (k := w.heap.size) (o := 1) (u := .int .i64 f1) (by omega)
          have P2f := (P1f.far (k := w.heap.size + 1) (o := 0) (u := .int .i64 s0) (by omega)).far (k := w.heap.size + 1) (o := 1) (u := .int .i64 s1) (by omega)
          have P2s := (P1s.far (k := w.heap.size + 1) (o := 0) (u := .int .i64 s0) (by omega)).far (k := w.heap.size + 1) (o := 1) (u := .int .i64 s1) (by omega)
          have hbE := below4 (w := w8) w.heap.size (Nat.le_refl _) (.int .i64 f0) (.int .i64 f1) (.int .i64 s0) (.int .i64 s1)
          have HCE := Lib.hid (And.intro (HF8.cur.far HRD.out hg (Nat.le_refl _) HF8.mid hbE) (HF8.mid.low hbE))
          have HV1 := Lib.hid (And.intro P1f.cells.1 (And.intro P1f.cells.2.1 (And.intro P1s.cells.1 P1s.cells.2.1)))
          have HV2 := Lib.hid (And.intro P2f.cells.1 (And.intro P2f.cells.2.1 (And.intro P2s.cells.1 P2s.cells.2.1)))
          obtain ⟨k2, k3, kg⟩ := R1.cells
          clear P1f P1s P2f P2s R1 hbE HF8
          refine wpAnyH_ready (rs := [4]) (by kernel_rfl) (by simp) ?_
          refine AllReadyH.cons rfl (fun K hK => ?_) AllReadyH.nil
          go_simp
          refine hK.out _ _ ?_ (fun hHeld => ?_)
          · exact HV1.out
          clear hK K
          try simp only [Act.put, List.setIfInBounds_toArray, List.set_cons_zero, List.set_cons_succ]
          refine wpAnyH_ready (rs := [5]) (by kernel_rfl) (by simp) ?_
          refine AllReadyH.cons rfl (fun K hK => ?_) AllReadyH.nil
          go_simp
          refine hK.out _ _ ?_ (fun hHeld => ?_)
          · exact HV2.out
          clear hK K
          try simp only [Act.put, List.setIfInBounds_toArray, List.set_cons_zero, List.set_cons_succ]
          refine wpAnyH_take (i := 6) (v := ?_) rfl (by kernel_rfl) (by kernel_rfl) (by kernel_rfl) (fun _ _ _ h => h) (Or.inl ⟨by rfl, ?_⟩) (by assumption) ?_
          rotate_left
          · (intro w hSw; (try dsimp only at hSw); go_simp; try with_reducible rfl)
          try simp only [Act.put, List.getElem_toArray, List.getElem_cons_zero, List.getElem_cons_succ, List.setIfInBounds_toArray, List.set_cons_zero, List.set_cons_succ]
          refine wpAnyH_done (by kernel_rfl) ?_ _
          clear hHeld
          go_wp2
          refine bodyPost_ret (v := .tuple #[.agg #[.int .i64 f0, .int .i64 f1], .agg #[.int .i64 s0, .int .i64 s1], .int .i64 m]) ?_ rfl ?_
          · simp [results, Try.results84, go_sem, e0, e1, e2, e3]
          · exact ⟨f0, f1, s0, s1, m, rfl, HCE.out.1.up (by omega), HCE.out.2⟩
        · have k1' : ¬ (k : Int) = 1 := by omega
          by_cases k2 : k = 2
          · subst k2
            have HF7 := HF6.below (Below.refl w6.heap.size w6).drew
            have D := among_made g v n (A + 4 + 2) [-1, 4] w6.drew HF7.cur.cur HF7.cur.rd (by omega) (by decide) (by decide)
            obtain ⟨d0, d1, df⟩ := HF7.pf.cells
            obtain ⟨d2, d3, dg⟩ := HF7.ps.cells
            have HFA := HF7.below ((Below.refl w6.drew.heap.size w6.drew).alloc (Nat.le_refl _) (.cells #[.int .i64 (-1), .int .i64 4] 3))
            have HVA := Lib.hid (And.intro HFA.pf.cells.1 (And.intro HFA.pf.cells.2.1 (And.intro HFA.ps.cells.1 HFA.ps.cells.2.1)))
            clear HF6 hk HFA
            go_wp2
            refine wp_region_held_drew (S := fun W => W.cell? ⟨w.heap.size + 1 + 1, 0, none⟩ = some (.int .i64 f0) ∧ W.cell? ⟨w.heap.size + 1 + 1, 1, none⟩ = some (.int .i64 f1) ∧ W.cell? ⟨w.heap.size + 1 + 1 + 1, 0, none⟩ = some (.int .i64 s0) ∧ W.cell? ⟨w.heap.size + 1 + 1 + 1, 1, none⟩ = some (.int .i64 s1)) (by first | rfl | kernel_rfl) ⟨d0, d1, d2, d3⟩ (fun hHeld => ?_)
            refine wpAnyH_take (i := 0) (v := ?_) rfl (by kernel_rfl) (by kernel_rfl) (by kernel_rfl) (fun _ _ _ h => h) (Or.inl ⟨by rfl, ?_⟩) (by assumption) ?_
            rotate_left
            · (intro w hSw; (try dsimp only at hSw); go_simp; try with_reducible rfl)
            try simp only [Act.put, List.getElem_toArray, List.getElem_cons_zero, List.getElem_cons_succ, List.setIfInBounds_toArray, List.set_cons_zero, List.set_cons_succ]
            refine wpAnyH_take (i := 1) (v := ?_) rfl (by kernel_rfl) (by kernel_rfl) (by kernel_rfl) (fun _ _ _ h => h) (Or.inl ⟨by rfl, ?_⟩) (by assumption) ?_
            rotate_left
            · (intro w hSw; (try dsimp only at hSw); go_simp; try with_reducible rfl)
            try simp only [Act.put, List.getElem_toArray, List.getElem_cons_zero, List.getElem_cons_succ, List.setIfInBounds_toArray, List.set_cons_zero, List.set_cons_succ]
            refine wpAnyH_take (i := 2) (v := ?_) rfl (by kernel_rfl) (by kernel_rfl) (by kernel_rfl) (fun _ _ _ h => h) (Or.inl ⟨by rfl, ?_⟩) (by assumption) ?_
            rotate_left
            · (intro w hSw; (try dsimp only at hSw); go_simp; try with_reducible rfl)
            try simp only [Act.put, List.getElem_toArray, List.getElem_cons_zero, List.getElem_cons_succ, List.setIfInBounds_toArray, List.set_cons_zero, List.set_cons_succ]
            refine wpAnyH_ready (rs := [3]) (by kernel_rfl) (by simp) ?_
            refine AllReadyH.cons rfl (fun K hK => ?_) AllReadyH.nil
            go_simp
            refine hK.out _ _ ?_ (fun hHeld => ?_)
            · exact HVA.out
            clear hK K
            try simp only [Act.put, List.setIfInBounds_toArray, List.set_cons_zero, List.set_cons_succ]
            refine wpAnyH_ready (rs := [4]) (by kernel_rfl) (by simp) ?_
            refine AllReadyH.cons rfl (fun K hK => ?_) AllReadyH.nil
            go_simp
            refine D.mono ?_
            rintro e w8 ⟨m, hm, rfl, hc8, hm8⟩
            have HF8 := HF7.call hg hc8 hm8
            obtain ⟨d0, d1, df⟩ := HF8.pf.cells
            obtain ⟨d2, d3, dg⟩ := HF8.ps.cells
            obtain ⟨e0, e1, ef⟩ := HF8.r0.cells
            obtain ⟨e2, e3, eg⟩ := HF8.r1.cells
            clear D hc8 hm8 hm HF7 HVA
            go_wp2_with fail
            refine hK.out _ _ ?_ (fun hHeld => ?_)
            · exact ⟨d0, d1, d2, d3⟩
            clear hK K
            try simp only [Act.put, List.setIfInBounds_toArray, List.set_cons_zero, List.set_cons_succ]
            have P1f := (HF8.pf.far (k := w.heap.size) (o := 0) (u := .int .i64 f0) (by omega)).far (k := w.heap.size) (o := 1) (u := .int .i64 f1) (by omega)
            have P1s := (HF8.ps.far (k := w.heap.size) (o := 0) (u := .int .i64 f0) (by omega)).far (k := w.heap.size) (o := 1) (u := .int .i64 f1) (by omega)
            have R1 := (HF8.r1.far (k := w.heap.size) (o := 0) (u := .int .i64 f0) (by omega)).far (k := w.heap.size) (o := 1) (u := .int .i64 f1) (by omega)
            have P2f := (P1f.far (k := w.heap.size + 1) (o := 0) (u := .int .i64 s0) (by omega)).far (k := w.heap.size + 1) (o := 1) (u := .int .i64 s1) (by omega)
            have P2s := (P1s.far (k := w.heap.size + 1) (o := 0) (u := .int .i64 s0) (by omega)).far (k := w.heap.size + 1) (o := 1) (u := .int .i64 s1) (by omega)
            have hbE := below4 (w := w8) w.heap.size (Nat.le_refl _) (.int .i64 f0) (.int .i64 f1) (.int .i64 s0) (.int .i64 s1)
            have HCE := Lib.hid (And.intro (HF8.cur.far HRD.out hg (Nat.le_refl _) HF8.mid hbE) (HF8.mid.low hbE))
            have HV1 := Lib.hid (And.intro P1f.cells.1 (And.intro P1f.cells.2.1 (And.intro P1s.cells.1 P1s.cells.2.1)))
            have HV2 := Lib.hid (And.intro P2f.cells.1 (And.intro P2f.cells.2.1 (And.intro P2s.cells.1 P2s.cells.2.1)))
            obtain ⟨k2, k3, kg⟩ := R1.cells
            clear P1f P1s P2f P2s R1 hbE HF8
            refine wpAnyH_ready (rs := [5]) (by kernel_rfl) (by simp) ?_
            refine AllReadyH.cons rfl (fun K hK => ?_) AllReadyH.nil
            go_simp
            refine hK.out _ _ ?_ (fun hHeld => ?_)
            · exact HV1.out
            clear hK K
            try simp only [Act.put, List.setIfInBounds_toArray, List.set_cons_zero, List.set_cons_succ]
            refine wpAnyH_ready (rs := [6]) (by kernel_rfl) (by simp) ?_
            refine AllReadyH.cons rfl (fun K hK => ?_) AllReadyH.nil
            go_simp
            refine hK.out _ _ ?_ (fun hHeld => ?_)
            · exact HV2.out
            clear hK K
            try simp only [Act.put, List.setIfInBounds_toArray, List.set_cons_zero, List.set_cons_succ]
            refine wpAnyH_take (i := 7) (v := ?_) rfl (by kernel_rfl) (by kernel_rfl) (by kernel_rfl) (fun _ _ _ h => h) (Or.inl ⟨by rfl, ?_⟩) (by assumption) ?_
            rotate_left
            · (intro w hSw; (try dsimp only at hSw); go_simp; try with_reducible rfl)
            try simp only [Act.put, List.getElem_toArray, List.getElem_cons_zero, List.getElem_cons_succ, List.setIfInBounds_toArray, List.set_cons_zero, List.set_cons_succ]
            refine wpAnyH_done (by kernel_rfl) ?_ _
            clear hHeld
            go_wp2
            refine bodyPost_ret (v := .tuple #[.agg #[.int .i64 f0, .int .i64 f1], .agg #[.int .i64 s0, .int .i64 s1], .int .i64 m]) ?_ rfl ?_
            · simp [results, Try.results84, go_sem, e0, e1, e2, e3]
            · exact ⟨f0, f1, s0, s1, m, rfl, HCE.out.1.up (by omega), HCE.out.2⟩
          · have k2' : ¬ (k : Int) = 2 := by omega
            have HF := HF6
            obtain ⟨w7, rfl⟩ : ∃ w7, w7 = w6 := ⟨_, rfl⟩
            clear HF6
            have C := pick_any g v n (A + 6) 4 w7.drew (HF.below (Below.refl w7.heap.size w7).drew).cur.cur (HF.below (Below.refl w7.heap.size w7).drew).cur.rd (by omega) (by decide) (by decide)
            obtain ⟨d0, d1, df⟩ := HF.pf.cells
            obtain ⟨d2, d3, dg⟩ := HF.ps.cells
            clear hk
            go_wp2
            refine wp_region_held_drew (S := fun W => W.cell? ⟨w.heap.size + 1 + 1, 0, none⟩ = some (.int .i64 f0) ∧ W.cell? ⟨w.heap.size + 1 + 1, 1, none⟩ = some (.int .i64 f1) ∧ W.cell? ⟨w.heap.size + 1 + 1 + 1, 0, none⟩ = some (.int .i64 s0) ∧ W.cell? ⟨w.heap.size + 1 + 1 + 1, 1, none⟩ = some (.int .i64 s1)) (by first | rfl | kernel_rfl) ⟨d0, d1, d2, d3⟩ (fun hHeld => ?_)
            refine wpAnyH_take (i := 0) (v := ?_) rfl (by kernel_rfl) (by kernel_rfl) (by kernel_rfl) (fun _ _ _ h => h) (Or.inl ⟨by rfl, ?_⟩) (by assumption) ?_
            rotate_left
            · (intro w hSw; (try dsimp only at hSw); go_simp; try with_reducible rfl)
            try simp only [Act.put, List.getElem_toArray, List.getElem_cons_zero, List.getElem_cons_succ, List.setIfInBounds_toArray, List.set_cons_zero, List.set_cons_succ]
            refine wpAnyH_take (i := 1) (v := ?_) rfl (by kernel_rfl) (by kernel_rfl) (by kernel_rfl) (fun _ _ _ h => h) (Or.inl ⟨by rfl, ?_⟩) (by assumption) ?_
            rotate_left
            · (intro w hSw; (try dsimp only at hSw); go_simp; try with_reducible rfl)
            try simp only [Act.put, List.getElem_toArray, List.getElem_cons_zero, List.getElem_cons_succ, List.setIfInBounds_toArray, List.set_cons_zero, List.set_cons_succ]
            refine wpAnyH_take (i := 2) (v := ?_) rfl (by kernel_rfl) (by kernel_rfl) (by kernel_rfl) (fun _ _ _ h => h) (Or.inl ⟨by rfl, ?_⟩) (by assumption) ?_
            rotate_left
            · (intro w hSw; (try dsimp only at hSw); go_simp; try with_reducible rfl)
            try simp only [Act.put, List.getElem_toArray, List.getElem_cons_zero, List.getElem_cons_succ, List.setIfInBounds_toArray, List.set_cons_zero, List.set_cons_succ]
            refine wpAnyH_ready (rs := [3]) (by kernel_rfl) (by simp) ?_
            refine AllReadyH.cons rfl (fun K hK => ?_) AllReadyH.nil
            go_simp
            refine C.mono ?_
            rintro e w8 ⟨m, rfl, hm, hc8, hm8⟩
            have HF8 := (HF.below (Below.refl w7.heap.size w7).drew).call hg hc8 hm8
            obtain ⟨d0, d1, df⟩ := HF8.pf.cells
            obtain ⟨d2, d3, dg⟩ := HF8.ps.cells
            obtain ⟨e0, e1, ef⟩ := HF8.r0.cells
            obtain ⟨e2, e3, eg⟩ := HF8.r1.cells
            clear C hc8 hm8
            go_wp2_with fail
            refine hK.out _ _ ?_ (fun hHeld => ?_)
            · exact ⟨d0, d1, d2, d3⟩
            clear hK K
            try simp only [Act.put, List.setIfInBounds_toArray, List.set_cons_zero, List.set_cons_succ]
            have P1f := (HF8.pf.far (k := w.heap.size) (o := 0) (u := .int .i64 f0) (by omega)).far (k := w.heap.size) (o := 1) (u := .int .i64 f1) (by omega)
            have P1s := (HF8.ps.far (k := w.heap.size) (o := 0) (u := .int .i64 f0) (by omega)).far (k := w.heap.size) (o := 1) (u := .int .i64 f1) (by omega)
            have R1 := (HF8.r1.far (k := w.heap.size) (o := 0) (u := .int .i64 f0) (by omega)).far (k := w.heap.size) (o := 1) (u := .int .i64 f1) (by omega)
            have P2f := (P1f.far (k := w.heap.size + 1) (o := 0) (u := .int .i64 s0) (by omega)).far (k := w.heap.size + 1) (o := 1) (u := .int .i64 s1) (by omega)
            have P2s := (P1s.far (k := w.heap.size + 1) (o := 0) (u := .int .i64 s0) (by omega)).far (k := w.heap.size + 1) (o := 1) (u := .int .i64 s1) (by omega)
            have hbE := below4 (w := w8) w.heap.size (Nat.le_refl _) (.int .i64 f0) (.int .i64 f1) (.int .i64 s0) (.int .i64 s1)
            have HCE := Lib.hid (And.intro (HF8.cur.far HRD.out hg (Nat.le_refl _) HF8.mid hbE) (HF8.mid.low hbE))
            have HV1 := Lib.hid (And.intro P1f.cells.1 (And.intro P1f.cells.2.1 (And.intro P1s.cells.1 P1s.cells.2.1)))
            have HV2 := Lib.hid (And.intro P2f.cells.1 (And.intro P2f.cells.2.1 (And.intro P2s.cells.1 P2s.cells.2.1)))
            obtain ⟨k2, k3, kg⟩ := R1.cells
            clear P1f P1s P2f P2s R1 hbE HF8
            refine wpAnyH_ready (rs := [4]) (by kernel_rfl) (by simp) ?_
            refine AllReadyH.cons rfl (fun K hK => ?_) AllReadyH.nil
            go_simp
            refine hK.out _ _ ?_ (fun hHeld => ?_)
            · exact HV1.out
            clear hK K
            try simp only [Act.put, List.setIfInBounds_toArray, List.set_cons_zero, List.set_cons_succ]
            refine wpAnyH_ready (rs := [5]) (by kernel_rfl) (by simp) ?_
            refine AllReadyH.cons rfl (fun K hK => ?_) AllReadyH.nil
            go_simp
            refine hK.out _ _ ?_ (fun hHeld => ?_)
            · exact HV2.out
            clear hK K
            try simp only [Act.put, List.setIfInBounds_toArray, List.set_cons_zero, List.set_cons_succ]
            refine wpAnyH_take (i := 6) (v := ?_) rfl (by kernel_rfl) (by kernel_rfl) (by kernel_rfl) (fun _ _ _ h => h) (Or.inl ⟨by rfl, ?_⟩) (by assumption) ?_
            rotate_left
            · (intro w hSw; (try dsimp only at hSw); go_simp; try with_reducible rfl)
            try simp only [Act.put, List.getElem_toArray, List.getElem_cons_zero, List.getElem_cons_succ, List.setIfInBounds_toArray, List.set_cons_zero, List.set_cons_succ]
            refine wpAnyH_done (by kernel_rfl) ?_ _
            clear hHeld
            go_wp2
            refine bodyPost_ret (v := .tuple #[.agg #[.int .i64 f0, .int .i64 f1], .agg #[.int .i64 s0, .int .i64 s1], .int .i64 m]) ?_ rfl ?_
            · simp [results, Try.results84, go_sem, e0, e1, e2, e3]
            · exact ⟨f0, f1, s0, s1, m, rfl, HCE.out.1.up (by omega), HCE.out.2⟩
end Go.Proofs.Ytnmnmnpeoiblhaa
