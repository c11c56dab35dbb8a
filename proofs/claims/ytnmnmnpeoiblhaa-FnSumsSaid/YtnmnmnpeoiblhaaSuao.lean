/- The greatest sum: contract of the program's function. -/
import Derived.Test.YtnmnmnpeoiblhaaSuam
import Derived.Test.YtnmnmnpeoiblhaaSuai
import Derived.Test.YtnmnmnpeoiblhaaSuan
import Derived.RegionTactic
import Derived.ChangeAlike
set_option linter.unusedSimpArgs false
set_option linter.unusedVariables false
namespace Go.Proofs.Ytnmnmnpeoiblhaa
open Go.RowKit

def GreatRes (w : World) (g : Gr) (e : Ending) (w' : World) : Prop :=
  e = .returned (.tuple #[.int .i64 g.best, .agg #[.int .i64 g.F0, .int .i64 g.F1], .agg #[.int .i64 g.S0, .int .i64 g.S1], .int .i64 g.m, .bool g.there]) ∧ Below w.heap.size w w'
/-- A variable that is a pair. -/
def PairAt (w : World) (g : Nat) (x y : Value) : Prop := w.heap[g]? = some (.cells #[x, y] 47 (0, 0))
theorem PairAt.top {W : World} {m : Nat} {x y : Value} (hm : W.heap.size = m) : PairAt (W.alloc (.cells #[x, y] 47)) m x y := by
  subst hm; exact heap_alloc_new W _
theorem PairAt.lt {w : World} {g : Nat} {x y : Value} (h : PairAt w g x y) : g < w.heap.size := by
  unfold PairAt at h
  exact (Array.getElem?_eq_some_iff.1 h).1
theorem PairAt.under {W : World} {o : Obj} {g : Nat} {x y : Value} (hb : g < W.heap.size) (h : PairAt W g x y) : PairAt (W.alloc o) g x y := by
  unfold PairAt at *
  rw [((Below.refl W.heap.size W).alloc (Nat.le_refl _) o).block g hb]; exact h
theorem PairAt.kept {w w' : World} {g : Nat} {x y : Value} (h : PairAt w g x y) (hb : Below w.heap.size w w') : PairAt w' g x y := by
  have := h.lt
  unfold PairAt at *
  rw [hb.block g this]; exact h
theorem PairAt.mid {lo hi : Nat} {w w' : World} {g : Nat} {x y : Value} (h : PairAt w g x y) (hm : Mid lo hi w w') (hx : g < lo ∨ hi ≤ g) : PairAt w' g x y := by
  have := h.lt
  unfold PairAt at *
  rw [hm.block g this hx]; exact h
theorem PairAt.cells {w : World} {g : Nat} {x y : Value} (h : PairAt w g x y) : w.cell? ⟨g, 0, none⟩ = some x ∧ w.cell? ⟨g, 1, none⟩ = some y ∧ (∀ o, w.frozen? ⟨g, o, none⟩ = false) := by
  unfold PairAt at h
  refine ⟨?_, ?_, fun o => ?_⟩ <;> simp [World.cell?, World.frozen?, h]
theorem PairAt.set {w : World} {g : Nat} {x y u v : Value} (h : PairAt w g x y) : PairAt ((w.setCell ⟨g, 0, none⟩ u).setCell ⟨g, 1, none⟩ v) g u v := by
  unfold PairAt at *
  simp [World.setCell, Array.getElem?_modify, h]
theorem PairAt.far {w : World} {g k o : Nat} {x y u : Value} (h : PairAt w g x y) (hk : k ≠ g) : PairAt (w.setCell ⟨k, o, none⟩ u) g x y := by
  unfold PairAt at *
  rw [Below.heap_setCell _ _ _ _ (by simpa using fun e => hk e.symm)]; exact h
theorem BoxAt.mid {lo hi : Nat} {w w' : World} {g : Nat} {x y z : Int} {v : Value} (h : BoxAt w g x y z v) (hm : Mid lo hi w w') (hx : g < lo ∨ hi ≤ g) : BoxAt w' g x y z v :=
  ⟨hm.keep hx h.e0, hm.keep hx h.e1, hm.keep hx h.e2, hm.keep hx h.e3⟩

structure GrSt (B : Nat) (w1 wr : World) (b : BoxD) (g : Gr) : Prop where
  mid : Mid B (B + 2) w1 wr
  c8 : PairAt wr B (.int .i64 g.F0) (.int .i64 g.F1)
  c9 : PairAt wr (B + 1) (.int .i64 g.S0) (.int .i64 g.S1)
  ok : GrOk b g
theorem GrSt.next {B : Nat} {w1 wr w2 : World} {b : BoxD} {g : Gr} (h : GrSt B w1 wr b g) (hb : Below wr.heap.size wr w2) : GrSt B w2 w2 b g :=
  ⟨Mid.refl _ _ _, h.c8.kept hb, h.c9.kept hb, h.ok⟩
theorem GrSt.onto {B : Nat} {w1 wr w2 wz : World} {b : BoxD} {g g' : Gr} (h : GrSt B w1 wr b g) (hb : Below wr.heap.size wr w2) (h' : GrSt B w2 wz b g') : GrSt B w1 wz b g' :=
  ⟨(h.mid.trans (Mid.of_below hb (Nat.le_refl _))).trans h'.mid, h'.c8, h'.c9, h'.ok⟩
theorem GrSt.put {B : Nat} {w1 w4 : World} {b : BoxD} {g : Gr} (h : GrSt B w1 w4 b g) (g' : Gr) (ok : GrOk b g') :
    GrSt B w1 ((((w4.setCell ⟨B, 0, none⟩ (.int .i64 g'.F0)).setCell ⟨B, 1, none⟩ (.int .i64 g'.F1)).setCell ⟨B + 1, 0, none⟩ (.int .i64 g'.S0)).setCell ⟨B + 1, 1, none⟩ (.int .i64 g'.S1)).drew b g' := by
  have k1 : PairAt ((w4.setCell ⟨B, 0, none⟩ (.int .i64 g'.F0)).setCell ⟨B, 1, none⟩ (.int .i64 g'.F1)) B (.int .i64 g'.F0) (.int .i64 g'.F1) := h.c8.set
  have k2 : PairAt ((w4.setCell ⟨B, 0, none⟩ (.int .i64 g'.F0)).setCell ⟨B, 1, none⟩ (.int .i64 g'.F1)) (B + 1) (.int .i64 g.S0) (.int .i64 g.S1) := (h.c9.far (by omega)).far (by omega)
  exact ⟨mid_drew ((((h.mid.trans (mid_set (Nat.le_refl B) (by show B < B + 2; omega) _)).trans (mid_set (Nat.le_refl B) (by show B < B + 2; omega) _)).trans (mid_set (by show B ≤ B + 1; omega) (by show B + 1 < B + 2; omega) _)).trans (mid_set (by show B ≤ B + 1; omega) (by show B + 1 < B + 2; omega) _)),
    (k1.far (by omega)).far (by omega), k2.set, ok⟩
set_option maxHeartbeats 3200000 in
theorem greatest_any (vb : Value) (b : BoxD) (hb : boxB b = true) (w : World) (h : RdII w vb b.Rows) :
    Calls Try.prog 89 #[.agg #[.int .i64 b.X, .int .i64 b.Y, .int .i64 b.Whole, vb]] w (GreatRes w (great b)) := by
  obtain ⟨⟨hx, hy⟩, hwh, _⟩ := boxB_iff.1 hb
  have hgr : great b = grP b (pairsTo b.X.toNat b.X.toNat) (pairsTo b.Y.toNat b.Y.toNat) (pairsTo b.X.toNat b.X.toNat).length := rfl
  have CX := pairs_int b.X hx
  have CY := pairs_int b.Y hy
  have hP9 : (pairsTo b.X.toNat b.X.toNat).length ≤ 9 := Nat.le_trans (pairsTo_length _ _) (Nat.mul_le_mul (show b.X.toNat ≤ 3 by omega) (show b.X.toNat ≤ 3 by omega))
  have hQ9 : (pairsTo b.Y.toNat b.Y.toNat).length ≤ 9 := Nat.le_trans (pairsTo_length _ _) (Nat.mul_le_mul (show b.Y.toNat ≤ 3 by omega) (show b.Y.toNat ≤ 3 by omega))
  have hPf : ∀ p, p ∈ pairsTo b.X.toNat b.X.toNat → p.1 < p.2 ∧ (p.2 : Int) < b.X := fun p hp => pair_fits hx.1 hp
  have hQf : ∀ p, p ∈ pairsTo b.Y.toNat b.Y.toNat → p.1 < p.2 ∧ (p.2 : Int) < b.Y := fun p hp => pair_fits hy.1 hp
  generalize pairsTo b.X.toNat b.X.toNat = P at *
  generalize pairsTo b.Y.toNat b.Y.toNat = Q at *
  have HGR := Lib.hid hgr
  have HPF := Lib.hid hPf
  have HQF := Lib.hid hQf
  clear hgr hPf hQf
  go_enter Try.func89, Try.ntmps89
  go_wp2_with fail
  refine (CX _).mono ?_
  rintro e w1 ⟨vP, rfl, hP, bP⟩
  have B1 : Below w.heap.size w w1 := Below.trans (by repeat' (first | with_reducible exact Below.refl _ _ | with_reducible assumption | with_reducible apply Below.alloc | with_reducible apply Below.setCell | with_reducible apply Below.drew | exact Nat.le_refl _ | omega | (simp only [World.size_alloc, World.size_setCell]; omega))) (bP.mono (by first | exact Nat.le_refl _ | omega | (simp only [World.size_alloc, World.size_setCell]; omega)))
  have A1 : BoxAt w1 w.heap.size b.X b.Y b.Whole vb := ⟨keepCell bP (by repeat' (first | with_reducible assumption | (refine cell_top ?_ rfl; first | with_reducible rfl | (simp only [World.size_alloc, World.size_setCell]; done)) | (refine cell_under ?_ ?_; (first | omega | (simp only [World.size_alloc, World.size_setCell]; omega))) | refine cell_drew ?_)), keepCell bP (by repeat' (first | with_reducible assumption | (refine cell_top ?_ rfl; first | with_reducible rfl | (simp only [World.size_alloc, World.size_setCell]; done)) | (refine cell_under ?_ ?_; (first | omega | (simp only [World.size_alloc, World.size_setCell]; omega))) | refine cell_drew ?_)), keepCell bP (by repeat' (first | with_reducible assumption | (refine cell_top ?_ rfl; first | with_reducible rfl | (simp only [World.size_alloc, World.size_setCell]; done)) | (refine cell_under ?_ ?_; (first | omega | (simp only [World.size_alloc, World.size_setCell]; omega))) | refine cell_drew ?_)), keepCell bP (by repeat' (first | with_reducible assumption | (refine cell_top ?_ rfl; first | with_reducible rfl | (simp only [World.size_alloc, World.size_setCell]; done)) | (refine cell_under ?_ ?_; (first | omega | (simp only [World.size_alloc, World.size_setCell]; omega))) | refine cell_drew ?_))⟩
  have T1 : PairAt w1 (w.heap.size + 1) (.int .i64 0) (.int .i64 0) := PairAt.kept (by repeat' (first | with_reducible assumption | (refine PairAt.top ?_; first | with_reducible rfl | (simp only [World.size_alloc]; done)) | (refine PairAt.under ?_ ?_; (first | omega | (simp only [World.size_alloc]; omega))))) bP
  have T2 : PairAt w1 (w.heap.size + 1 + 1) (.int .i64 0) (.int .i64 0) := PairAt.kept (by repeat' (first | with_reducible assumption | (refine PairAt.top ?_; first | with_reducible rfl | (simp only [World.size_alloc]; done)) | (refine PairAt.under ?_ ?_; (first | omega | (simp only [World.size_alloc]; omega))))) bP
  have G1 : PairAt w1 (w.heap.size + 1 + 1 + 1) (.int .i64 0) (.int .i64 0) := PairAt.kept (by repeat' (first | with_reducible assumption | (refine PairAt.top ?_; first | with_reducible rfl | (simp only [World.size_alloc]; done)) | (refine PairAt.under ?_ ?_; (first | omega | (simp only [World.size_alloc]; omega))))) bP
  have G2 : PairAt w1 (w.heap.size + 1 + 1 + 1 + 1) (.int .i64 0) (.int .i64 0) := PairAt.kept (by repeat' (first | with_reducible assumption | (refine PairAt.top ?_; first | with_reducible rfl | (simp only [World.size_alloc]; done)) | (refine PairAt.under ?_ ?_; (first | omega | (simp only [World.size_alloc]; omega))))) bP
  have hz := bP.size
  simp only [World.size_alloc] at hz hP
  have hS0 : GrSt (w.heap.size + 1 + 1 + 1) w1 w1 b (grP b P Q 0) := ⟨Mid.refl _ _ _, G1, G2, GrOk.zero b⟩
  obtain ⟨pb, pc, pa, rfl, hpl, hpa, hpc⟩ := hP
  have HPC := Lib.hid (And.intro hpa hpc)
  clear bP hpc hpa hpl CX G1 G2
  go_wp2
  go_loopw [24, 7, 10, 11] (fun s24 s7 s10 s11 wr => ∃ i : Nat, i ≤ P.length ∧ s24 = .int .i64 i ∧ s7 = .int .i64 (grP b P Q i).best ∧ s10 = .int .i64 (grP b P Q i).m ∧ s11 = .bool (grP b P Q i).there ∧ GrSt (w.heap.size + 1 + 1 + 1) w1 wr b (grP b P Q i)) (fun s24 _ _ _ _ => P.length - (intOf s24).toNat)
  case atStart => exact ⟨0, by omega, rfl, rfl, rfl, rfl, hS0⟩
  case round =>
    clear hS0
    obtain ⟨i, hi, rfl, rfl, rfl, rfl, hS⟩ := hrel
    by_cases hlt : i < P.length
    · obtain ⟨p, hp⟩ : ∃ p, P[i]? = some p := ⟨_, List.getElem?_eq_getElem hlt⟩
      have hpd : P.getD i (0, 0) = p := by rw [List.getD_eq_getElem?_getD, hp]; rfl
      have hpf := HPF.out p (List.mem_of_getElem? hp)
      obtain ⟨hpa, hpc⟩ := HPC.out
      obtain ⟨rfl, hpb0, hpb1⟩ := hpa (by omega)
      obtain ⟨cp0, cp1⟩ := hpc i p hp
      replace cp0 := hS.mid.keep (Or.inr (by omega)) cp0
      replace cp1 := hS.mid.keep (Or.inr (by omega)) cp1
      obtain ⟨_, e1, _, _⟩ := A1.mid hS.mid (Or.inl (by omega))
      have li : (i : Int) < (P.length : Int) := by omega
      have HPI := Lib.hid (And.intro hp hpd)
      have hzr := hS.mid.size
      have BR : Below w.heap.size w wr := B1.trans (hS.mid.below (by omega) (by omega))
      have e1 : (wr.alloc (.cells #[.int .i64 p.1, .int .i64 p.2] 47)).cell? ⟨w.heap.size, 1, none⟩ = some (.int .i64 b.Y) := cell_under (by omega) e1
      clear hpa hpc hp hpd
      go_wp2_with fail
      refine (CY _).mono ?_
      rintro e w2 ⟨vQ, rfl, hQ, bQ⟩
      have D13 : PairAt w2 wr.heap.size (.int .i64 p.1) (.int .i64 p.2) := PairAt.kept (PairAt.top rfl) bQ
      have bQ2 : Below wr.heap.size wr w2 := Below.trans (by repeat' (first | with_reducible exact Below.refl _ _ | with_reducible assumption | with_reducible apply Below.alloc | with_reducible apply Below.setCell | with_reducible apply Below.drew | exact Nat.le_refl _ | omega | (simp only [World.size_alloc, World.size_setCell]; omega))) (bQ.mono (by first | exact Nat.le_refl _ | omega | (simp only [World.size_alloc, World.size_setCell]; omega)))
      have BW2 : Below w.heap.size w w2 := BR.trans (bQ2.mono (by omega))
      have hzq := bQ.size
      simp only [World.size_alloc] at hzq hQ
      have hS2 := hS.next bQ2
      have HON := Lib.hid (fun (wz : World) (g' : Gr) (h' : GrSt (w.heap.size + 1 + 1 + 1) w2 wz b g') => hS.onto bQ2 h')
      have HA1 := Lib.hid ((A1.mid hS.mid (Or.inl (by omega))).kept bQ2 (by omega))
      obtain ⟨qb, qc, qa, rfl, hql, hqa, hqc⟩ := hQ
      have HQC := Lib.hid (And.intro hqa hqc)
      generalize hgi : grP b P Q i = gi at *
      have HGI := Lib.hid hgi
      clear bQ bQ2 hql hqa hqc cp0 cp1 e1 hS hgi
      obtain ⟨wo, rfl⟩ : ∃ wo : World, wo = wr := ⟨_, rfl⟩
      go_wp2
      go_loopw [32, 7, 10, 11] (fun s32 s7 s10 s11 wz => ∃ j : Nat, j ≤ Q.length ∧ s32 = .int .i64 j ∧ s7 = .int .i64 (grQ b p Q gi j).best ∧ s10 = .int .i64 (grQ b p Q gi j).m ∧ s11 = .bool (grQ b p Q gi j).there ∧ GrSt (w.heap.size + 1 + 1 + 1) w2 wz b (grQ b p Q gi j)) (fun s32 _ _ _ _ => Q.length - (intOf s32).toNat)
      case atStart => exact ⟨0, by omega, rfl, rfl, rfl, rfl, hS2⟩
      case round =>
        clear hS2
        obtain ⟨j, hj, rfl, rfl, rfl, rfl, hS⟩ := hrel
        by_cases hjt : j < Q.length
        · obtain ⟨q, hq⟩ : ∃ q, Q[j]? = some q := ⟨_, List.getElem?_eq_getElem hjt⟩
          have hqd : Q.getD j (0, 0) = q := by rw [List.getD_eq_getElem?_getD, hq]; rfl
          have hqf := HQF.out q (List.mem_of_getElem? hq)
          obtain ⟨hqa, hqc⟩ := HQC.out
          obtain ⟨rfl, hqb0, hqb1⟩ := hqa (by omega)
          obtain ⟨cq0, cq1⟩ := hqc j q hq
          replace cq0 := hS.mid.keep (Or.inr (by omega)) cq0
          replace cq1 := hS.mid.keep (Or.inr (by omega)) cq1
          have lj : (j : Int) < (Q.length : Int) := by omega
          have HQI := Lib.hid (And.intro hq hqd)
          have hzr2 := hS.mid.size
          have BR2 : Below w.heap.size w wr := BW2.trans (hS.mid.below (by omega) (by omega))
          obtain ⟨w3, hw3⟩ : ∃ w3, w3 = wr.alloc (.cells #[.int .i64 q.1, .int .i64 q.2] 47) := ⟨_, rfl⟩
          have b3 : Below wr.heap.size wr w3 := by rw [hw3]; exact (by repeat' (first | with_reducible exact Below.refl _ _ | with_reducible assumption | with_reducible apply Below.alloc | with_reducible apply Below.setCell | with_reducible apply Below.drew | exact Nat.le_refl _ | omega | (simp only [World.size_alloc, World.size_setCell]; omega)))
          have D15 : PairAt w3 wr.heap.size (.int .i64 q.1) (.int .i64 q.2) := by rw [hw3]; exact PairAt.top rfl
          have hz3 : w3.heap.size = wr.heap.size + 1 := by rw [hw3]; simp
          have hS3 := hS.next b3
          have BW3 : Below w.heap.size w w3 := BR2.trans (b3.mono (by omega))
          have HON2 := Lib.hid (fun (wz : World) (g' : Gr) (h' : GrSt (w.heap.size + 1 + 1 + 1) w3 wz b g') => hS.onto b3 h')
          have A3 := (HA1.out.mid hS.mid (Or.inl (by omega))).kept b3 (by omega)
          have D13b := (D13.mid hS.mid (Or.inr (by omega))).kept b3
          generalize hgj : grQ b p Q gi j = gj at *
          have HGJ := Lib.hid hgj
          have H3 := Lib.hid hw3
          clear hqa hqc hq hqd hgj hS b3
          obtain ⟨wb, rfl⟩ : ∃ wb : World, wb = wr := ⟨_, rfl⟩
          go_wp2
          go_loopw [36, 7, 10, 11] (fun s36 s7 s10 s11 wy => ∃ k : Nat, k ≤ 4 ∧ s36 = .int .i64 k ∧ s7 = .int .i64 (gr4 b p q gj k).best ∧ s10 = .int .i64 (gr4 b p q gj k).m ∧ s11 = .bool (gr4 b p q gj k).there ∧ GrSt (w.heap.size + 1 + 1 + 1) w3 wy b (gr4 b p q gj k)) (fun s36 _ _ _ _ => 4 - (intOf s36).toNat)
          case atStart => exact ⟨0, by omega, rfl, rfl, rfl, rfl, by rw [← H3.out]; exact hS3⟩
          case round =>
            clear hS3 cq0 cq1
            obtain ⟨k, hk, rfl, rfl, rfl, rfl, hS⟩ := hrel
            by_cases hkt : k < 4
            · obtain ⟨a0, a1, a2, a3⟩ := A3.mid hS.mid (Or.inl (by omega))
              obtain ⟨c130, c131, _⟩ := (D13b.mid hS.mid (Or.inr (by omega))).cells
              obtain ⟨c150, c151, _⟩ := (D15.mid hS.mid (Or.inr (by omega))).cells
              have hzy := hS.mid.size
              have BRY : Below w.heap.size w wr := BW3.trans (hS.mid.below (by omega) (by omega))
              have hbd := sumB_bd hb (k : Int) hpf hqf
              have habs := absI_bd hbd
              have CS := sum_any vb b hb p.1 p.2 q.1 q.2 (k : Int) hpf hqf wr (h.kept (Nat.le_refl _) BRY)
              generalize hn : sumB b p.1 p.2 q.1 q.2 (k : Int) = n at *
              have hok := hS.ok
              have hst : ∀ (w4 : World), Below wr.heap.size wr w4 → GrSt (w.heap.size + 1 + 1 + 1) w3 w4 b (gr4 b p q gj k) := fun w4 b4 => ⟨hS.mid.trans (Mid.of_below b4 (Nat.le_refl _)), hS.c8.kept b4, hS.c9.kept b4, hS.ok⟩
              have hstep : ∀ g' : Gr, grStep b p q (gr4 b p q gj k) k = g' → gr4 b p q gj (k + 1) = g' := fun g' e => e
              have HOK2 := Lib.hid (hok.step hb (p := p) (q := q) (k := k) (by omega) hpf hqf)
              generalize hgk : gr4 b p q gj k = gk at *
              obtain ⟨best, F0, F1, S0, S1, m, there⟩ := gk
              have HN := Lib.hid hn
              have HST := Lib.hid hst
              have HSP := Lib.hid hstep
              clear hgk hn hst hstep hS
              go_wp2_with fail
              refine CS.mono ?_
              rintro e w4 ⟨rfl, b4⟩
              have hS4 := HST.out _ b4
              have T13 : PairAt w4 wo.heap.size (.int .i64 p.1) (.int .i64 p.2) := D13b.mid hS4.mid (Or.inr (by omega))
              have T15 : PairAt w4 wb.heap.size (.int .i64 q.1) (.int .i64 q.2) := D15.mid hS4.mid (Or.inr (by omega))
              obtain ⟨d80, d81, f8⟩ := hS4.c8.cells
              obtain ⟨d90, d91, f9⟩ := hS4.c9.cells
              obtain ⟨c130, c131, _⟩ := T13.cells
              obtain ⟨c150, c151, _⟩ := T15.cells
              clear a0 a1 a2 a3 CS b4
              by_cases hneg : n < 0
              · have hc : absI n = -n := by unfold absI; rw [if_pos (by omega)]
                cases there with
                | false =>
                  have HE : grStep b p q ⟨best, F0, F1, S0, S1, m, false⟩ k = ⟨-n, p.1, p.2, q.1, q.2, k, true⟩ := grStep_yes HN.out hc (Or.inl rfl)
                  have hk5 : GrOk b ⟨-n, p.1, p.2, q.1, q.2, k, true⟩ := by rw [← HE]; exact HOK2.out
                  have hS5 := hS4.put _ hk5
                  have HST2 := HSP.out _ HE
                  clear HE hk5
                  go_wp2
                  go_region
                  all_goals go_wp2
                  go_roundw
                  case rel => exact ⟨k + 1, by omega, by go_num, by rw [HST2], by rw [HST2], by rw [HST2], by rw [HST2]; exact hS5⟩
                  case measure => simp [intOf]; omega
                | true =>
                  by_cases hgt : best < -n
                  · have HE : grStep b p q ⟨best, F0, F1, S0, S1, m, true⟩ k = ⟨-n, p.1, p.2, q.1, q.2, k, true⟩ := grStep_yes HN.out hc (Or.inr hgt)
                    have hk5 : GrOk b ⟨-n, p.1, p.2, q.1, q.2, k, true⟩ := by rw [← HE]; exact HOK2.out
                    have hS5 := hS4.put _ hk5
                    have HST2 := HSP.out _ HE
                    clear HE hk5
                    go_wp2
                    go_region
                    all_goals go_wp2
                    go_roundw
                    case rel => exact ⟨k + 1, by omega, by go_num, by rw [HST2], by rw [HST2], by rw [HST2], by rw [HST2]; exact hS5⟩
                    case measure => simp [intOf]; omega
                  · have HST2 := HSP.out _ (grStep_no HN.out hc rfl hgt)
                    go_wp2
                    go_roundw
                    case rel => exact ⟨k + 1, by omega, by go_num, by rw [HST2], by rw [HST2], by rw [HST2], by rw [HST2]; exact hS4⟩
                    case measure => simp [intOf]; omega
              · have hc : absI n = n := by unfold absI; rw [if_neg (by omega)]
                cases there with
                | false =>
                  have HE : grStep b p q ⟨best, F0, F1, S0, S1, m, false⟩ k = ⟨n, p.1, p.2, q.1, q.2, k, true⟩ := grStep_yes HN.out hc (Or.inl rfl)
                  have hk5 : GrOk b ⟨n, p.1, p.2, q.1, q.2, k, true⟩ := by rw [← HE]; exact HOK2.out
                  have hS5 := hS4.put _ hk5
                  have HST2 := HSP.out _ HE
                  clear HE hk5
                  go_wp2
                  go_region
                  all_goals go_wp2
                  go_roundw
                  case rel => exact ⟨k + 1, by omega, by go_num, by rw [HST2], by rw [HST2], by rw [HST2], by rw [HST2]; exact hS5⟩
                  case measure => simp [intOf]; omega
                | true =>
                  by_cases hgt : best < n
                  · have HE : grStep b p q ⟨best, F0, F1, S0, S1, m, true⟩ k = ⟨n, p.1, p.2, q.1, q.2, k, true⟩ := grStep_yes HN.out hc (Or.inr hgt)
                    have hk5 : GrOk b ⟨n, p.1, p.2, q.1, q.2, k, true⟩ := by rw [← HE]; exact HOK2.out
                    have hS5 := hS4.put _ hk5
                    have HST2 := HSP.out _ HE
                    clear HE hk5
                    go_wp2
                    go_region
                    all_goals go_wp2
                    go_roundw
                    case rel => exact ⟨k + 1, by omega, by go_num, by rw [HST2], by rw [HST2], by rw [HST2], by rw [HST2]; exact hS5⟩
                    case measure => simp [intOf]; omega
                  · have HST2 := HSP.out _ (grStep_no HN.out hc rfl hgt)
                    go_wp2
                    go_roundw
                    case rel => exact ⟨k + 1, by omega, by go_num, by rw [HST2], by rw [HST2], by rw [HST2], by rw [HST2]; exact hS4⟩
                    case measure => simp [intOf]; omega
            · obtain rfl : k = 4 := by omega
              have HG4 : grQ b p Q gi (j + 1) = gr4 b p q gj 4 := by show gr4 b p (Q.getD j (0, 0)) (grQ b p Q gi j) 4 = _; rw [HQI.out.2, HGJ.out]
              go_wp2
              go_roundw
              case rel => exact ⟨j + 1, by omega, by go_num, by rw [HG4], by rw [HG4], by rw [HG4], by rw [HG4]; exact HON2.out _ _ hS⟩
              case measure => simp [intOf]; omega
        · obtain rfl : j = Q.length := by omega
          have HG4 : grP b P Q (i + 1) = grQ b p Q gi Q.length := by show grQ b (P.getD i (0, 0)) Q (grP b P Q i) Q.length = _; rw [HPI.out.2, HGI.out]
          go_wp2
          go_roundw
          case rel => exact ⟨i + 1, by omega, by go_num, by rw [HG4], by rw [HG4], by rw [HG4], by rw [HG4]; exact HON.out _ _ hS⟩
          case measure => simp [intOf]; omega
    · obtain rfl : i = P.length := by omega
      rw [← HGR.out] at hS ⊢
      have hzy := hS.mid.size
      have BRY : Below w.heap.size w wr := B1.trans (hS.mid.below (by omega) (by omega))
      obtain ⟨d80, d81, f8⟩ := hS.c8.cells
      obtain ⟨d90, d91, f9⟩ := hS.c9.cells
      obtain ⟨r0, r1, rf⟩ := (T1.mid hS.mid (Or.inl (by omega))).cells
      obtain ⟨t0, t1, tf⟩ := (T2.mid hS.mid (Or.inl (by omega))).cells
      have hok := hS.ok
      generalize great b = g at *
      obtain ⟨best, F0, F1, S0, S1, m, there⟩ := g
      go_wp2
      go_region
      all_goals go_wp2
      refine bodyPost_ret (v := .tuple #[.int .i64 best, .agg #[.int .i64 F0, .int .i64 F1], .agg #[.int .i64 S0, .int .i64 S1], .int .i64 m, .bool there]) ?_ rfl ?_
      · simp [results, Try.results89, go_sem, r0, r1, t0, t1, rf, tf]
      · exact ⟨rfl, (by repeat' (first | with_reducible exact Below.refl _ _ | with_reducible assumption | with_reducible apply Below.alloc | with_reducible apply Below.setCell | with_reducible apply Below.drew | exact Nat.le_refl _ | omega | (simp only [World.size_alloc, World.size_setCell]; omega)))⟩
end Go.Proofs.Ytnmnmnpeoiblhaa
