/- The greatest sum: contract of the reference's function. -/
import Derived.Test.YtnmnmnpeoiblhaaSuao
import Derived.Test.YtnmnmnpeoiblhaaSuak
import Derived.Deep.RegionHeld3
import Derived.BigRegion
set_option linter.unusedSimpArgs false
set_option linter.unusedVariables false
namespace Go.Proofs.Ytnmnmnpeoiblhaa
open Go.RowKit

/-- A variable that is a greatest sum. -/
def SumAt (w : World) (g : Nat) (r : Gr) : Prop := w.heap[g]? = some (.cells #[.int .i64 r.best, .int .i64 r.F0, .int .i64 r.F1, .int .i64 r.S0, .int .i64 r.S1, .int .i64 r.m, .bool r.there] 100 (0, 0))
theorem SumAt.top {W : World} {m : Nat} (hm : W.heap.size = m) : SumAt (W.alloc (.cells #[.int .i64 0, .int .i64 0, .int .i64 0, .int .i64 0, .int .i64 0, .int .i64 0, .bool false] 100)) m Gr.zero := by
  subst hm; exact heap_alloc_new W _
theorem SumAt.lt {w : World} {g : Nat} {r : Gr} (h : SumAt w g r) : g < w.heap.size := by
  unfold SumAt at h
  exact (Array.getElem?_eq_some_iff.1 h).1
theorem SumAt.under {W : World} {o : Obj} {g : Nat} {r : Gr} (h : SumAt W g r) : SumAt (W.alloc o) g r := by
  have hb := h.lt
  unfold SumAt at *
  rw [((Below.refl W.heap.size W).alloc (Nat.le_refl _) o).block g hb]; exact h
theorem SumAt.kept {w w' : World} {g : Nat} {r : Gr} (h : SumAt w g r) (hb : Below w.heap.size w w') : SumAt w' g r := by
  have := h.lt
  unfold SumAt at *
  rw [hb.block g this]; exact h
theorem SumAt.mid {lo hi : Nat} {w w' : World} {g : Nat} {r : Gr} (h : SumAt w g r) (hm : Mid lo hi w w') (hx : g < lo ∨ hi ≤ g) : SumAt w' g r := by
  have := h.lt
  unfold SumAt at *
  rw [hm.block g this hx]; exact h
theorem SumAt.cells {w : World} {g : Nat} {r : Gr} (h : SumAt w g r) :
    (w.cell? ⟨g, 0, none⟩ = some (.int .i64 r.best) ∧ w.cell? ⟨g, 1, none⟩ = some (.int .i64 r.F0) ∧ w.cell? ⟨g, 2, none⟩ = some (.int .i64 r.F1) ∧ w.cell? ⟨g, 3, none⟩ = some (.int .i64 r.S0) ∧ w.cell? ⟨g, 4, none⟩ = some (.int .i64 r.S1) ∧
      w.cell? ⟨g, 5, none⟩ = some (.int .i64 r.m) ∧ w.cell? ⟨g, 6, none⟩ = some (.bool r.there)) ∧ ∀ o, w.frozen? ⟨g, o, none⟩ = false := by
  unfold SumAt at h
  refine ⟨⟨?_, ?_, ?_, ?_, ?_, ?_, ?_⟩, fun o => ?_⟩ <;> simp [World.cell?, World.frozen?, h]
theorem SumAt.drew {w : World} {g : Nat} {r : Gr} (h : SumAt w g r) : SumAt w.drew g r := h
theorem heap_set {w : World} {g j : Nat} {cs : Array Value} {T : Nat} {fr : Nat × Nat} {u : Value} (h : w.heap[g]? = some (.cells cs T fr)) : (w.setCell ⟨g, j, none⟩ u).heap[g]? = some (.cells (cs.setIfInBounds j u) T fr) := by
  simp [World.setCell, Array.getElem?_modify, h]
theorem SumAt.set {w : World} {g : Nat} {r : Gr} (h : SumAt w g r) (q : Gr) : SumAt (((((((w.setCell ⟨g, 0, none⟩ (.int .i64 q.best)).setCell ⟨g, 1, none⟩ (.int .i64 q.F0)).setCell ⟨g, 2, none⟩ (.int .i64 q.F1)).setCell ⟨g, 3, none⟩ (.int .i64 q.S0)).setCell ⟨g, 4, none⟩ (.int .i64 q.S1)).setCell ⟨g, 5, none⟩ (.int .i64 q.m)).setCell ⟨g, 6, none⟩ (.bool q.there)) g q := by
  unfold SumAt at *
  have h1 := heap_set (j := 0) (u := .int .i64 q.best) h
  have h2 := heap_set (j := 1) (u := .int .i64 q.F0) h1
  have h3 := heap_set (j := 2) (u := .int .i64 q.F1) h2
  have h4 := heap_set (j := 3) (u := .int .i64 q.S0) h3
  have h5 := heap_set (j := 4) (u := .int .i64 q.S1) h4
  have h6 := heap_set (j := 5) (u := .int .i64 q.m) h5
  have h7 := heap_set (j := 6) (u := .bool q.there) h6
  rw [h7]
  rfl
structure GsSt (B : Nat) (w1 wr : World) (b : BoxD) (g : Gr) : Prop where
  mid : Mid B (B + 1) w1 wr
  c3 : SumAt wr B g
  ok : GrOk b g
theorem GsSt.put {B : Nat} {w1 w4 : World} {b : BoxD} {g : Gr} (h : GsSt B w1 w4 b g) (q : Gr) (ok : GrOk b q) :
    GsSt B w1 (((((((w4.setCell ⟨B, 0, none⟩ (.int .i64 q.best)).setCell ⟨B, 1, none⟩ (.int .i64 q.F0)).setCell ⟨B, 2, none⟩ (.int .i64 q.F1)).setCell ⟨B, 3, none⟩ (.int .i64 q.S0)).setCell ⟨B, 4, none⟩ (.int .i64 q.S1)).setCell ⟨B, 5, none⟩ (.int .i64 q.m)).setCell ⟨B, 6, none⟩ (.bool q.there)).drew b q := by
  have st : ∀ (W : World) (o : Nat) (u : Value), Mid B (B + 1) w1 W → Mid B (B + 1) w1 (W.setCell ⟨B, o, none⟩ u) := fun W o u hm => hm.trans (mid_set (Nat.le_refl B) (by show B < B + 1; omega) _)
  exact ⟨mid_drew (st _ _ _ (st _ _ _ (st _ _ _ (st _ _ _ (st _ _ _ (st _ _ _ (st _ _ _ h.mid))))))), (h.c3.set q).drew, ok⟩
theorem l1Most_abs (n c : Int) (h : absI n = c) (hb : -8000 ≤ n ∧ n ≤ 8000) (w : World) :
    Calls Try.prog 60 #[.int .i64 n, .int .i64 (-n)] w fun e w' => e = .returned (.int .i64 c) ∧ w = w' := by
  by_cases hlt : -n < n
  · have hc : c = n := by rw [← h]; unfold absI; rw [if_neg (by omega)]
    subst hc
    clear h
    go_enter Try.func60, Try.ntmps60
    go_wp2
    go_ret
    exact ⟨rfl, rfl⟩
  · have hc : c = -n := by rw [← h]; unfold absI; split <;> omega
    subst hc
    clear h
    go_enter Try.func60, Try.ntmps60
    go_wp2
    go_ret
    exact ⟨rfl, rfl⟩
def GreatRes1 (w : World) (g : Gr) (e : Ending) (w' : World) : Prop :=
  e = .returned (.agg #[.int .i64 g.best, .int .i64 g.F0, .int .i64 g.F1, .int .i64 g.S0, .int .i64 g.S1, .int .i64 g.m, .bool g.there]) ∧ Below w.heap.size w w'
set_option maxHeartbeats 3200000 in
theorem l3Greatest_any (vb : Value) (b : BoxD) (hb : boxB b = true) (w : World) (h : RdII w vb b.Rows) :
    Calls Try.prog 90 #[.agg #[.int .i64 b.X, .int .i64 b.Y, .int .i64 b.Whole, vb]] w (GreatRes1 w (great b)) := by
  obtain ⟨⟨hx, hy⟩, hwh, _⟩ := boxB_iff.1 hb
  have hgr : great b = grP b (pairsTo b.X.toNat b.X.toNat) (pairsTo b.Y.toNat b.Y.toNat) (pairsTo b.X.toNat b.X.toNat).length := rfl
  have CX := l3Pairs_int b.X hx
  have CY := l3Pairs_int b.Y hy
  have hP9 : (pairsTo b.X.toNat b.X.toNat).length ≤ 9 := Nat.le_trans (pairsTo_length _ _) (Nat.mul_le_mul (show b.X.toNat ≤ 3 by omega) (show b.X.toNat ≤ 3 by omega))
  have hQ9 : (pairsTo b.Y.toNat b.Y.toNat).length ≤ 9 := Nat.le_trans (pairsTo_length _ _) (Nat.mul_le_mul (show b.Y.toNat ≤ 3 by omega) (show b.Y.toNat ≤ 3 by omega))
  have hPf : ∀ p, p ∈ pairsTo b.X.toNat b.X.toNat → p.1 < p.2 ∧ (p.2 : Int) < b.X := fun p hp => pair_fits hx.1 hp
  have hQf : ∀ p, p ∈ pairsTo b.Y.toNat b.Y.toNat → p.1 < p.2 ∧ (p.2 : Int) < b.Y := fun p hp => pair_fits hy.1 hp
  generalize pairsTo b.X.toNat b.X.toNat = P at *
  generalize pairsTo b.Y.toNat b.Y.toNat = Q at *
  have HGR := Lib.hid hgr
  have HPF := Lib.hid hPf
  have HQF := Lib.hid hQf
  clear hgr hPf hQf
  go_enter Try.func90, Try.ntmps90
  go_wp2_with fail
  obtain ⟨w0, hw0⟩ : ∃ w0, w0 = ((w.alloc (.cells #[.int .i64 b.X, .int .i64 b.Y, .int .i64 b.Whole, vb] 26)).alloc (.cells #[.int .i64 0, .int .i64 0, .int .i64 0, .int .i64 0, .int .i64 0, .int .i64 0, .bool false] 100)).alloc (.cells #[.int .i64 0, .int .i64 0, .int .i64 0, .int .i64 0, .int .i64 0, .int .i64 0, .bool false] 100) := ⟨_, rfl⟩
  have B0 : Below w.heap.size w w0 := by rw [hw0]; exact (by repeat' (first | with_reducible exact Below.refl _ _ | with_reducible assumption | with_reducible apply Below.alloc | with_reducible apply Below.setCell | with_reducible apply Below.drew | exact Nat.le_refl _ | omega | (simp only [World.size_alloc, World.size_setCell]; omega)))
  have A0 : BoxAt w0 w.heap.size b.X b.Y b.Whole vb := by rw [hw0]; exact ⟨(by repeat' (first | with_reducible assumption | (refine cell_top ?_ rfl; first | with_reducible rfl | (simp only [World.size_alloc, World.size_setCell]; done)) | (refine cell_under ?_ ?_; (first | omega | (simp only [World.size_alloc, World.size_setCell]; omega))) | refine cell_drew ?_)), (by repeat' (first | with_reducible assumption | (refine cell_top ?_ rfl; first | with_reducible rfl | (simp only [World.size_alloc, World.size_setCell]; done)) | (refine cell_under ?_ ?_; (first | omega | (simp only [World.size_alloc, World.size_setCell]; omega))) | refine cell_drew ?_)), (by repeat' (first | with_reducible assumption | (refine cell_top ?_ rfl; first | with_reducible rfl | (simp only [World.size_alloc, World.size_setCell]; done)) | (refine cell_under ?_ ?_; (first | omega | (simp only [World.size_alloc, World.size_setCell]; omega))) | refine cell_drew ?_)), (by repeat' (first | with_reducible assumption | (refine cell_top ?_ rfl; first | with_reducible rfl | (simp only [World.size_alloc, World.size_setCell]; done)) | (refine cell_under ?_ ?_; (first | omega | (simp only [World.size_alloc, World.size_setCell]; omega))) | refine cell_drew ?_))⟩
  have T0 : SumAt w0 (w.heap.size + 1) Gr.zero := by rw [hw0]; exact SumAt.under (SumAt.top (by simp))
  have G0 : SumAt w0 (w.heap.size + 1 + 1) Gr.zero := by rw [hw0]; exact SumAt.top (by simp)
  have hz0 : w0.heap.size = w.heap.size + 1 + 1 + 1 := by rw [hw0]; simp
  rw [← hw0]
  clear hw0
  go_region_held3 (fun W => Below w0.heap.size w0 W ∧ W.cell? ⟨w.heap.size, 0, none⟩ = some (.int .i64 b.X) ∧ W.cell? ⟨w.heap.size, 1, none⟩ = some (.int .i64 b.Y) ∧ W.cell? ⟨w.heap.size, 2, none⟩ = some (.int .i64 b.Whole) ∧ W.cell? ⟨w.heap.size, 3, none⟩ = some vb)
    (first | exact held1 (Below.refl _ _).drew A0 | exact held1 hBn A0)
    (first
      | (go_at_call 117; have hS := And.left (by assumption : Below w0.heap.size w0 _ ∧ _); (with_reducible refine (CX _).mono ?_); rintro e wa ⟨vP, rfl, hP, bP⟩; have hBn := hS.trans (bP.mono hS.size); have hPz := hS.size)
      | (go_at_call 117; have hS := And.left (by assumption : Below w0.heap.size w0 _ ∧ _); (with_reducible refine (CY _).mono ?_); rintro e w1 ⟨vQ, rfl, hQ, bQ⟩; have hBn := hS.trans (bQ.mono hS.size); have hQz := hS.size))
  have hP1 : RdP (w.heap.size + 1 + 1 + 1) w1 vP P := by
    obtain ⟨pb, pc, pa, e1, e2, e3, e4⟩ := hP.kept bQ
    exact ⟨pb, pc, pa, e1, e2, fun hp => ⟨(e3 hp).1, by have := (e3 hp).2.1; omega, (e3 hp).2.2⟩, e4⟩
  have hQ1 : RdP (w.heap.size + 1 + 1 + 1) w1 vQ Q := by
    obtain ⟨pb, pc, pa, e1, e2, e3, e4⟩ := hQ
    exact ⟨pb, pc, pa, e1, e2, fun hp => ⟨(e3 hp).1, by have := (e3 hp).2.1; omega, (e3 hp).2.2⟩, e4⟩
  have hz := hBn.size
  have A1 := A0.kept hBn A0.lt
  have T1 := T0.kept hBn
  have B1 : Below w.heap.size w w1 := B0.trans (hBn.mono B0.size)
  have hS0 : GsSt (w.heap.size + 1 + 1) w1 w1 b (grP b P Q 0) := ⟨Mid.refl _ _ _, G0.kept hBn, GrOk.zero b⟩
  clear hP hQ bP bQ hBn A0 T0 B0 G0 CX CY
  obtain ⟨pb, pc, pa, rfl, hpl, hpa, hpc⟩ := hP1
  have HPC := Lib.hid (And.intro hpa hpc)
  obtain ⟨qb, qc, qa, rfl, hql, hqa, hqc⟩ := hQ1
  have HQC := Lib.hid (And.intro hqa hqc)
  clear hpa hpc hqa hqc hpl hql
  go_wp2
  go_loopw [6] (fun s6 wr => ∃ i : Nat, i ≤ P.length ∧ s6 = .int .i64 i ∧ GsSt (w.heap.size + 1 + 1) w1 wr b (grP b P Q i)) (fun s6 _ => P.length - (intOf s6).toNat)
  case atStart => exact ⟨0, by omega, rfl, hS0⟩
  case round =>
    clear hS0
    obtain ⟨i, hi, rfl, hS⟩ := hrel
    by_cases hlt : i < P.length
    · obtain ⟨p, hp⟩ : ∃ p, P[i]? = some p := ⟨_, List.getElem?_eq_getElem hlt⟩
      have hpd : P.getD i (0, 0) = p := by rw [List.getD_eq_getElem?_getD, hp]; rfl
      have hpf := HPF.out p (List.mem_of_getElem? hp)
      obtain ⟨hpa, hpc⟩ := HPC.out
      obtain ⟨rfl, hpb0, hpb1⟩ := hpa (by omega)
      obtain ⟨cp0, cp1⟩ := hpc i p hp
      have li : (i : Int) < (P.length : Int) := by omega
      have HPI := Lib.hid (And.intro hp hpd)
      have HCP := Lib.hid (And.intro cp0 cp1)
      generalize hgi : grP b P Q i = gi at *
      have HGI := Lib.hid hgi
      clear hpa hpc hp hpd cp0 cp1 hgi
      go_wp2
      go_loopw [7] (fun s7 wr => ∃ j : Nat, j ≤ Q.length ∧ s7 = .int .i64 j ∧ GsSt (w.heap.size + 1 + 1) w1 wr b (grQ b p Q gi j)) (fun s7 _ => Q.length - (intOf s7).toNat)
      case atStart => exact ⟨0, by omega, rfl, hS⟩
      case round =>
        clear hS
        obtain ⟨j, hj, rfl, hS⟩ := hrel
        by_cases hjt : j < Q.length
        · obtain ⟨q, hq⟩ : ∃ q, Q[j]? = some q := ⟨_, List.getElem?_eq_getElem hjt⟩
          have hqd : Q.getD j (0, 0) = q := by rw [List.getD_eq_getElem?_getD, hq]; rfl
          have hqf := HQF.out q (List.mem_of_getElem? hq)
          obtain ⟨hqa, hqc⟩ := HQC.out
          obtain ⟨rfl, hqb0, hqb1⟩ := hqa (by omega)
          obtain ⟨cq0, cq1⟩ := hqc j q hq
          have lj : (j : Int) < (Q.length : Int) := by omega
          have HQI := Lib.hid (And.intro hq hqd)
          have HCQ := Lib.hid (And.intro cq0 cq1)
          generalize hgj : grQ b p Q gi j = gj at *
          have HGJ := Lib.hid hgj
          clear hqa hqc hq hqd hgj cq0 cq1
          go_wp2
          go_loopw [8] (fun s8 wr => ∃ k : Nat, k ≤ 4 ∧ s8 = .int .i64 k ∧ GsSt (w.heap.size + 1 + 1) w1 wr b (gr4 b p q gj k)) (fun s8 _ => 4 - (intOf s8).toNat)
          case atStart => exact ⟨0, by omega, rfl, hS⟩
          case round =>
            clear hS
            obtain ⟨k, hk, rfl, hS⟩ := hrel
            by_cases hkt : k < 4
            · have A3 := A1.mid hS.mid (Or.inl (by omega))
              have cp0 := hS.mid.keep (Or.inr (by omega)) HCP.out.1
              have cp1 := hS.mid.keep (Or.inr (by omega)) HCP.out.2
              have cq0 := hS.mid.keep (Or.inr (by omega)) HCQ.out.1
              have cq1 := hS.mid.keep (Or.inr (by omega)) HCQ.out.2
              have hzy := hS.mid.size
              have BRY : Below w.heap.size w wr := B1.trans (hS.mid.below (by omega) (by omega))
              have hbd := sumB_bd hb (k : Int) hpf hqf
              have habs := absI_bd hbd
              have CS := Lib.hid (fun (W : World) (hW : Below wr.heap.size wr W) => l3Sum_any vb b hb p.1 p.2 q.1 q.2 (k : Int) hpf hqf W (h.kept (Nat.le_refl _) (BRY.trans (hW.mono (by omega)))))
              generalize hn : sumB b p.1 p.2 q.1 q.2 (k : Int) = n at *
              have hok := hS.ok
              have hst : ∀ (w4 : World), Below wr.heap.size wr w4 → GsSt (w.heap.size + 1 + 1) w1 w4 b (gr4 b p q gj k) := fun w4 b4 => ⟨hS.mid.trans (Mid.of_below b4 (Nat.le_refl _)), hS.c3.kept b4, hS.ok⟩
              have hstep : ∀ g' : Gr, grStep b p q (gr4 b p q gj k) k = g' → gr4 b p q gj (k + 1) = g' := fun g' e => e
              have HOK2 := Lib.hid (hok.step hb (p := p) (q := q) (k := k) (by omega) hpf hqf)
              generalize hgk : gr4 b p q gj k = gk at *
              obtain ⟨best, F0, F1, S0, S1, m, there⟩ := gk
              have HN := Lib.hid hn
              have HST := Lib.hid hst
              have HSP := Lib.hid hstep
              have HKP := Lib.hid (fun (W : World) (hW : Below wr.heap.size wr W) => And.intro hW (And.intro (keepCell hW A3.e0) (And.intro (keepCell hW A3.e1) (And.intro (keepCell hW A3.e2) (And.intro (keepCell hW A3.e3) (And.intro (keepCell hW cp0) (And.intro (keepCell hW cp1) (And.intro (keepCell hW cq0) (keepCell hW cq1)))))))))
              clear hgk hn hst hstep hS A3 cp0 cp1 cq0 cq1
              go_wp2_with fail
              go_region_held3 (fun W => Below wr.heap.size wr W ∧ W.cell? ⟨w.heap.size, 0, none⟩ = some (.int .i64 b.X) ∧ W.cell? ⟨w.heap.size, 1, none⟩ = some (.int .i64 b.Y) ∧ W.cell? ⟨w.heap.size, 2, none⟩ = some (.int .i64 b.Whole) ∧ W.cell? ⟨w.heap.size, 3, none⟩ = some vb ∧
                  W.cell? ⟨pb, i * 2, none⟩ = some (.int .i64 p.1) ∧ W.cell? ⟨pb, i * 2 + 1, none⟩ = some (.int .i64 p.2) ∧ W.cell? ⟨qb, j * 2, none⟩ = some (.int .i64 q.1) ∧ W.cell? ⟨qb, j * 2 + 1, none⟩ = some (.int .i64 q.2))
                (first | exact HKP.out _ (Below.refl _ _).drew | exact HKP.out _ hBn)
                (first | (go_at_call 88; have hS := And.left (by assumption : Below wr.heap.size wr _ ∧ _); (with_reducible refine (CS.out _ hS).mono ?_); rintro e w4 ⟨rfl, b4⟩; have hBn := hS.trans (b4.mono hS.size)))
              have hS4 := HST.out _ hBn
              obtain ⟨⟨d0, d1, d2, d3, d4, d5, d6⟩, f8⟩ := hS4.c3.cells
              obtain ⟨_, cp0, cp1, cq0, cq1⟩ : True ∧ w4.cell? ⟨pb, i * 2, none⟩ = some (.int .i64 p.1) ∧ w4.cell? ⟨pb, i * 2 + 1, none⟩ = some (.int .i64 p.2) ∧ w4.cell? ⟨qb, j * 2, none⟩ = some (.int .i64 q.1) ∧ w4.cell? ⟨qb, j * 2 + 1, none⟩ = some (.int .i64 q.2) := by
                have := HKP.out _ hBn
                exact ⟨trivial, this.2.2.2.2.2⟩
              obtain ⟨c, hc⟩ : ∃ c, absI n = c := ⟨_, rfl⟩
              rw [hc] at habs
              have HC := Lib.hid hc
              have CM := l1Most_abs n c hc hbd
              clear hBn hc CS HKP
              go_wp2_with fail
              refine (CM _).mono ?_
              rintro e w5 ⟨rfl, rfl⟩
              clear CM
              cases there with
              | false =>
                have HE : grStep b p q ⟨best, F0, F1, S0, S1, m, false⟩ k = ⟨c, p.1, p.2, q.1, q.2, k, true⟩ := grStep_yes HN.out HC.out (Or.inl rfl)
                have hk5 : GrOk b ⟨c, p.1, p.2, q.1, q.2, k, true⟩ := by rw [← HE]; exact HOK2.out
                have hS5 := hS4.put _ hk5
                have HST2 := HSP.out _ HE
                clear HE hk5
                go_wp2
                go_region
                all_goals go_wp2
                go_roundw
                case rel => exact ⟨k + 1, by omega, by go_num, by rw [HST2]; exact hS5⟩
                case measure => simp [intOf]; omega
              | true =>
                by_cases hgt : best < c
                · have HE : grStep b p q ⟨best, F0, F1, S0, S1, m, true⟩ k = ⟨c, p.1, p.2, q.1, q.2, k, true⟩ := grStep_yes HN.out HC.out (Or.inr hgt)
                  have hk5 : GrOk b ⟨c, p.1, p.2, q.1, q.2, k, true⟩ := by rw [← HE]; exact HOK2.out
                  have hS5 := hS4.put _ hk5
                  have HST2 := HSP.out _ HE
                  clear HE hk5
                  go_wp2
                  go_region
                  all_goals go_wp2
                  go_roundw
                  case rel => exact ⟨k + 1, by omega, by go_num, by rw [HST2]; exact hS5⟩
                  case measure => simp [intOf]; omega
                · have HST2 := HSP.out _ (grStep_no HN.out HC.out rfl hgt)
                  go_wp2
                  go_roundw
                  case rel => exact ⟨k + 1, by omega, by go_num, by rw [HST2]; exact hS4⟩
                  case measure => simp [intOf]; omega
            · obtain rfl : k = 4 := by omega
              have HG4 : grQ b p Q gi (j + 1) = gr4 b p q gj 4 := by show gr4 b p (Q.getD j (0, 0)) (grQ b p Q gi j) 4 = _; rw [HQI.out.2, HGJ.out]
              go_wp2
              go_roundw
              case rel => exact ⟨j + 1, by omega, by go_num, by rw [HG4]; exact hS⟩
              case measure => simp [intOf]; omega
        · obtain rfl : j = Q.length := by omega
          have HG4 : grP b P Q (i + 1) = grQ b p Q gi Q.length := by show grQ b (P.getD i (0, 0)) Q (grP b P Q i) Q.length = _; rw [HPI.out.2, HGI.out]
          go_wp2
          go_roundw
          case rel => exact ⟨i + 1, by omega, by go_num, by rw [HG4]; exact hS⟩
          case measure => simp [intOf]; omega
    · obtain rfl : i = P.length := by omega
      rw [← HGR.out] at hS
      have hzy := hS.mid.size
      have BRY : Below w.heap.size w wr := B1.trans (hS.mid.below (by omega) (by omega))
      obtain ⟨⟨d0, d1, d2, d3, d4, d5, d6⟩, f8⟩ := hS.c3.cells
      obtain ⟨⟨t0, t1, t2, t3, t4, t5, t6⟩, tf⟩ : (wr.cell? ⟨w.heap.size + 1, 0, none⟩ = some (.int .i64 0) ∧ wr.cell? ⟨w.heap.size + 1, 1, none⟩ = some (.int .i64 0) ∧ wr.cell? ⟨w.heap.size + 1, 2, none⟩ = some (.int .i64 0) ∧ wr.cell? ⟨w.heap.size + 1, 3, none⟩ = some (.int .i64 0) ∧
          wr.cell? ⟨w.heap.size + 1, 4, none⟩ = some (.int .i64 0) ∧ wr.cell? ⟨w.heap.size + 1, 5, none⟩ = some (.int .i64 0) ∧ wr.cell? ⟨w.heap.size + 1, 6, none⟩ = some (.bool false)) ∧ ∀ o, wr.frozen? ⟨w.heap.size + 1, o, none⟩ = false := (T1.mid hS.mid (Or.inl (by omega))).cells
      have hok := hS.ok
      have hS2 := hS.mid
      clear hS
      generalize great b = g at *
      obtain ⟨best, F0, F1, S0, S1, m, there⟩ := g
      go_wp2
      have hF := SumAt.set (T1.mid hS2 (Or.inl (by omega))) ⟨best, F0, F1, S0, S1, m, there⟩
      have hBW : Below w.heap.size w (((((((wr.setCell ⟨w.heap.size + 1, 0, none⟩ (.int .i64 best)).setCell ⟨w.heap.size + 1, 1, none⟩ (.int .i64 F0)).setCell ⟨w.heap.size + 1, 2, none⟩ (.int .i64 F1)).setCell ⟨w.heap.size + 1, 3, none⟩ (.int .i64 S0)).setCell ⟨w.heap.size + 1, 4, none⟩ (.int .i64 S1)).setCell ⟨w.heap.size + 1, 5, none⟩ (.int .i64 m)).setCell ⟨w.heap.size + 1, 6, none⟩ (.bool there)) := (by repeat' (first | with_reducible exact Below.refl _ _ | with_reducible assumption | with_reducible apply Below.alloc | with_reducible apply Below.setCell | with_reducible apply Below.drew | exact Nat.le_refl _ | omega | (simp only [World.size_alloc, World.size_setCell]; omega)))
      revert hF hBW
      generalize (((((((wr.setCell ⟨w.heap.size + 1, 0, none⟩ (.int .i64 best)).setCell ⟨w.heap.size + 1, 1, none⟩ (.int .i64 F0)).setCell ⟨w.heap.size + 1, 2, none⟩ (.int .i64 F1)).setCell ⟨w.heap.size + 1, 3, none⟩ (.int .i64 S0)).setCell ⟨w.heap.size + 1, 4, none⟩ (.int .i64 S1)).setCell ⟨w.heap.size + 1, 5, none⟩ (.int .i64 m)).setCell ⟨w.heap.size + 1, 6, none⟩ (.bool there)) = W
      intro hF hBW
      obtain ⟨⟨q0, q1, q2, q3, q4, q5, q6⟩, qf⟩ := hF.cells
      refine bodyPost_ret (v := .agg #[.int .i64 best, .int .i64 F0, .int .i64 F1, .int .i64 S0, .int .i64 S1, .int .i64 m, .bool there]) ?_ rfl ⟨rfl, hBW⟩
      simp [results, Try.results90, go_sem, q0, q1, q2, q3, q4, q5, q6]
end Go.Proofs.Ytnmnmnpeoiblhaa
