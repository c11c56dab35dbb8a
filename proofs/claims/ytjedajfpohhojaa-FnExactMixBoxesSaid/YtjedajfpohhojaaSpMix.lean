/- MixBoxes: contracts of the reference's function. -/
import Derived.Test.YtjedajfpohhojaaFnMix
set_option linter.unusedSimpArgs false
set_option linter.unusedVariables false
namespace Go.Proofs.Ytjedajfpohhojaa
open Go.RowKit

set_option maxHeartbeats 800000 in
theorem l2Same_any (va vb : Value) (a b : BoxD) (w : World) (ra : RdII w va a.Rows) (rb : RdII w vb b.Rows) :
    Calls Try.prog 65 #[.agg #[.int .i64 a.X, .int .i64 a.Y, .int .i64 a.Whole, va], .agg #[.int .i64 b.X, .int .i64 b.Y, .int .i64 b.Whole, vb]] w fun e w' => e = .returned (.bool (sameB a b)) ∧ Below w.heap.size w w' := by
  go_enter Try.func65, Try.ntmps65
  go_wp2_with fail
  refine (l2Box_any _ a _ (ra.kept (Nat.le_refl _) (by repeat' (first | with_reducible exact Below.refl _ _ | with_reducible assumption | with_reducible apply Below.alloc | with_reducible apply Below.setCell | with_reducible apply Below.drew | exact Nat.le_refl _ | omega | (simp only [World.size_alloc, World.size_setCell]; omega))))).mono ?_
  rintro e w1 ⟨rfl, b1⟩
  have B1 : Below w.heap.size w w1 := Below.trans (by repeat' (first | with_reducible exact Below.refl _ _ | with_reducible assumption | with_reducible apply Below.alloc | with_reducible apply Below.setCell | with_reducible apply Below.drew | exact Nat.le_refl _ | omega | (simp only [World.size_alloc, World.size_setCell]; omega))) (b1.mono (by first | exact Nat.le_refl _ | omega | (simp only [World.size_alloc, World.size_setCell]; omega)))
  have A1 : BoxAt w1 w.heap.size a.X a.Y a.Whole va := ⟨keepCell b1 (by repeat' (first | with_reducible assumption | (refine cell_top ?_ rfl; first | with_reducible rfl | (simp only [World.size_alloc, World.size_setCell]; done)) | (refine cell_under ?_ ?_; (first | omega | (simp only [World.size_alloc, World.size_setCell]; omega))) | refine cell_drew ?_)), keepCell b1 (by repeat' (first | with_reducible assumption | (refine cell_top ?_ rfl; first | with_reducible rfl | (simp only [World.size_alloc, World.size_setCell]; done)) | (refine cell_under ?_ ?_; (first | omega | (simp only [World.size_alloc, World.size_setCell]; omega))) | refine cell_drew ?_)), keepCell b1 (by repeat' (first | with_reducible assumption | (refine cell_top ?_ rfl; first | with_reducible rfl | (simp only [World.size_alloc, World.size_setCell]; done)) | (refine cell_under ?_ ?_; (first | omega | (simp only [World.size_alloc, World.size_setCell]; omega))) | refine cell_drew ?_)), keepCell b1 (by repeat' (first | with_reducible assumption | (refine cell_top ?_ rfl; first | with_reducible rfl | (simp only [World.size_alloc, World.size_setCell]; done)) | (refine cell_under ?_ ?_; (first | omega | (simp only [World.size_alloc, World.size_setCell]; omega))) | refine cell_drew ?_))⟩
  have A2 : BoxAt w1 (w.heap.size + 1) b.X b.Y b.Whole vb := ⟨keepCell b1 (by repeat' (first | with_reducible assumption | (refine cell_top ?_ rfl; first | with_reducible rfl | (simp only [World.size_alloc, World.size_setCell]; done)) | (refine cell_under ?_ ?_; (first | omega | (simp only [World.size_alloc, World.size_setCell]; omega))) | refine cell_drew ?_)), keepCell b1 (by repeat' (first | with_reducible assumption | (refine cell_top ?_ rfl; first | with_reducible rfl | (simp only [World.size_alloc, World.size_setCell]; done)) | (refine cell_under ?_ ?_; (first | omega | (simp only [World.size_alloc, World.size_setCell]; omega))) | refine cell_drew ?_)), keepCell b1 (by repeat' (first | with_reducible assumption | (refine cell_top ?_ rfl; first | with_reducible rfl | (simp only [World.size_alloc, World.size_setCell]; done)) | (refine cell_under ?_ ?_; (first | omega | (simp only [World.size_alloc, World.size_setCell]; omega))) | refine cell_drew ?_)), keepCell b1 (by repeat' (first | with_reducible assumption | (refine cell_top ?_ rfl; first | with_reducible rfl | (simp only [World.size_alloc, World.size_setCell]; done)) | (refine cell_under ?_ ?_; (first | omega | (simp only [World.size_alloc, World.size_setCell]; omega))) | refine cell_drew ?_))⟩
  clear b1
  rcases Bool.eq_false_or_eq_true (boxB a) with h1 | h1
  · rw [h1]
    obtain ⟨c0, c1, c2, c3⟩ := A2
    go_wp2_with fail
    refine (l2Box_any _ b _ (rb.kept (Nat.le_refl _) B1)).mono ?_
    rintro e w2 ⟨rfl, b2⟩
    have B2 := B1.trans (b2.mono B1.size)
    obtain ⟨a0, a1, a2, a3⟩ := A1.kept b2 A1.lt
    replace c0 := keepCell b2 c0
    replace c1 := keepCell b2 c1
    clear b2 A1 c2 c3
    rcases Bool.eq_false_or_eq_true (boxB b) with h2 | h2
    · rw [h2]
      have F := Lib.hid (fun (t1 t2 : Bool) (e1 : decide (a.X = b.X) = t1) (e2 : decide (a.Y = b.Y) = t2) => (by unfold sameB; rw [h1, h2, e1, e2]; rfl : sameB a b = (t1 && t2)))
      by_cases h3 : a.X = b.X
      · have z3 : (a.X == b.X) = true := by simp [h3]
        have E3 := Lib.hid (decide_eq_true h3)
        clear h3
        by_cases h4 : a.Y = b.Y
        · have z4 : (a.Y == b.Y) = true := by simp [h4]
          have E4 := Lib.hid (decide_eq_true h4)
          clear h4
          go_wp2
          go_ret
          exact ⟨ret_bool (by rw [F.out _ _ E3.out E4.out]; rfl), B2⟩
        · have z4 : (a.Y == b.Y) = false := by simp [h4]
          have E4 := Lib.hid (decide_eq_false h4)
          clear h4
          go_wp2
          go_ret
          exact ⟨ret_bool (by rw [F.out _ _ E3.out E4.out]; rfl), B2⟩
      · have z3 : (a.X == b.X) = false := by simp [h3]
        have E3 := Lib.hid (decide_eq_false h3)
        clear h3
        go_wp2
        go_ret
        exact ⟨ret_bool (by rw [F.out _ _ E3.out rfl]; rfl), B2⟩
    · rw [h2]
      go_wp2
      go_ret
      exact ⟨ret_bool (by unfold sameB; rw [h1, h2]; rfl), B2⟩
  · rw [h1]
    go_wp2
    go_ret
    exact ⟨ret_bool (by unfold sameB; rw [h1]; rfl), B1⟩
set_option maxHeartbeats 3200000 in
theorem l2Mix_any (va : Value) (a : BoxD) (vb : Value) (b : BoxD) (hs : sameB a b = true) (w : World) (ra : RdII w va a.Rows) (rb : RdII w vb b.Rows) :
    Calls Try.prog 67 #[.agg #[.int .i64 a.X, .int .i64 a.Y, .int .i64 a.Whole, va], .agg #[.int .i64 b.X, .int .i64 b.Y, .int .i64 b.Whole, vb]] w (BoxOnly w a.X a.Y (a.Whole + b.Whole) (rowsTo (mixN a b) a.Y.toNat (a.X.toNat * a.Y.toNat))) := by
  obtain ⟨qa, qb, hX, hY⟩ := sameB_iff.1 hs
  have la := boxB_len2 qa
  have lb := boxB_len2 qb
  have hlen : b.Rows.length = a.Rows.length := by rw [la, lb, hX, hY]
  have PA := Lib.hid (fun k hk => boxB_path qa ra k hk)
  have PB := Lib.hid (fun k hk => boxB_path qb rb k hk)
  obtain ⟨⟨hx0, hx1⟩, hy0, hy1⟩ := (boxB_iff.1 qa).1
  have hl9 : a.Rows.length ≤ 9 := boxB_len qa
  have hl1 : 1 ≤ a.Rows.length := by rw [la]; exact Nat.mul_le_mul (show 1 ≤ a.X.toNat by omega) (show 1 ≤ a.Y.toNat by omega)
  obtain ⟨wa0, wa1⟩ := (boxB_iff.1 qa).2.1
  obtain ⟨wb0, wb1⟩ := (boxB_iff.1 qb).2.1
  obtain ⟨ba, off, cap, _, _, _, rfl, _⟩ := PA.out 0 (by omega)
  obtain ⟨bb, offb, capb, _, _, _, rfl, _⟩ := PB.out 0 (by omega)
  have HY := Lib.hid hY
  have HL := Lib.hid hlen
  have LA := Lib.hid la
  clear hX hY hlen la lb hs qa qb ra rb
  go_enter Try.func67, Try.ntmps67
  go_wp2
  obtain ⟨W3, hW3⟩ : ∃ W3, W3 = (((((w.alloc (.cells #[.int .i64 a.X, .int .i64 a.Y, .int .i64 a.Whole, .slice (some ⟨ba, off, none⟩) a.Rows.length cap] 25)).alloc (.cells #[.int .i64 b.X, .int .i64 b.Y, .int .i64 b.Whole, .slice (some ⟨bb, offb, none⟩) b.Rows.length capb] 25)).alloc (.cells #[.int .i64 0, .int .i64 0, .int .i64 0, .slice none 0 0] 25)).alloc (.cells #[] 22)).alloc (.cells #[.int .i64 a.X, .int .i64 a.Y, .int .i64 (a.Whole + b.Whole), .slice (some ⟨w.heap.size + 1 + 1 + 1, 0, none⟩) 0 0] 25)) := ⟨_, rfl⟩
  obtain ⟨hst, hB3, hs3⟩ := BoxRel.start3 _ W3 (w.heap.size + 1 + 1 + 1) a.X a.Y (a.Whole + b.Whole) (by simp only [World.size_alloc]) hW3
  have hret3 : RetAt W3 (w.heap.size + 1 + 1) := by rw [hW3]; exact (by repeat' (first | with_reducible assumption | (refine RetAt.top ?_; first | with_reducible rfl | (simp only [World.size_alloc, World.size_setCell]; done)) | refine RetAt.under ?_))
  have A3 : BoxAt W3 w.heap.size a.X a.Y a.Whole (.slice (some ⟨ba, off, none⟩) a.Rows.length cap) := by rw [hW3]; exact ⟨(by repeat' (first | with_reducible assumption | (refine cell_top ?_ rfl; first | with_reducible rfl | (simp only [World.size_alloc, World.size_setCell]; done)) | (refine cell_under ?_ ?_; (first | omega | (simp only [World.size_alloc, World.size_setCell]; omega))) | refine cell_drew ?_)), (by repeat' (first | with_reducible assumption | (refine cell_top ?_ rfl; first | with_reducible rfl | (simp only [World.size_alloc, World.size_setCell]; done)) | (refine cell_under ?_ ?_; (first | omega | (simp only [World.size_alloc, World.size_setCell]; omega))) | refine cell_drew ?_)), (by repeat' (first | with_reducible assumption | (refine cell_top ?_ rfl; first | with_reducible rfl | (simp only [World.size_alloc, World.size_setCell]; done)) | (refine cell_under ?_ ?_; (first | omega | (simp only [World.size_alloc, World.size_setCell]; omega))) | refine cell_drew ?_)), (by repeat' (first | with_reducible assumption | (refine cell_top ?_ rfl; first | with_reducible rfl | (simp only [World.size_alloc, World.size_setCell]; done)) | (refine cell_under ?_ ?_; (first | omega | (simp only [World.size_alloc, World.size_setCell]; omega))) | refine cell_drew ?_))⟩
  have B3 : BoxAt W3 (w.heap.size + 1) b.X b.Y b.Whole (.slice (some ⟨bb, offb, none⟩) b.Rows.length capb) := by rw [hW3]; exact ⟨(by repeat' (first | with_reducible assumption | (refine cell_top ?_ rfl; first | with_reducible rfl | (simp only [World.size_alloc, World.size_setCell]; done)) | (refine cell_under ?_ ?_; (first | omega | (simp only [World.size_alloc, World.size_setCell]; omega))) | refine cell_drew ?_)), (by repeat' (first | with_reducible assumption | (refine cell_top ?_ rfl; first | with_reducible rfl | (simp only [World.size_alloc, World.size_setCell]; done)) | (refine cell_under ?_ ?_; (first | omega | (simp only [World.size_alloc, World.size_setCell]; omega))) | refine cell_drew ?_)), (by repeat' (first | with_reducible assumption | (refine cell_top ?_ rfl; first | with_reducible rfl | (simp only [World.size_alloc, World.size_setCell]; done)) | (refine cell_under ?_ ?_; (first | omega | (simp only [World.size_alloc, World.size_setCell]; omega))) | refine cell_drew ?_)), (by repeat' (first | with_reducible assumption | (refine cell_top ?_ rfl; first | with_reducible rfl | (simp only [World.size_alloc, World.size_setCell]; done)) | (refine cell_under ?_ ?_; (first | omega | (simp only [World.size_alloc, World.size_setCell]; omega))) | refine cell_drew ?_))⟩
  have BW : Below w.heap.size w W3 := by rw [hW3]; exact (by repeat' (first | with_reducible exact Below.refl _ _ | with_reducible assumption | with_reducible apply Below.alloc | with_reducible apply Below.setCell | with_reducible apply Below.drew | exact Nat.le_refl _ | omega | (simp only [World.size_alloc, World.size_setCell]; omega)))
  have HW := Lib.hid hW3
  clear hW3 hB3
  go_loopw [6] (fun s wr => ∃ k : Nat, k ≤ a.Rows.length ∧ s = .int .i64 k ∧ ∃ ar c vs, BoxRel W3 (w.heap.size + 1 + 1 + 1) (w.heap.size + 1 + 1 + 1 + 1) (w.heap.size + 1 + 1 + 1) wr a.X a.Y (a.Whole + b.Whole) (rowsTo (mixN a b) a.Y.toNat k) ar c vs) (fun s _ => a.Rows.length - (intOf s).toNat)
  case atStart => exact ⟨0, by omega, rfl, _, _, _, by rw [← HW.out]; simpa [rowsTo] using hst⟩
  case round =>
    clear hst
    obtain ⟨k, hk, rfl, ar, c, vs, hR⟩ := hrel
    have f3 := keepAt hR.below (by omega) A3.e3
    by_cases hlt : k < a.Rows.length
    · obtain ⟨_, _, _, b2, o2, c2, ev, _, ca, lba, lb2, PAk⟩ := PA.out k hlt
      obtain ⟨_, _, _, b4, o4, c4, ev2, _, cb, lbb, lb4, PBk⟩ := PB.out k (by rw [HL.out]; exact hlt)
      simp only [Value.slice.injEq, Option.some.injEq, Addr.mk.injEq, and_true, true_and] at ev ev2
      obtain ⟨⟨rfl, rfl⟩, rfl⟩ := ev
      obtain ⟨⟨rfl, rfl⟩, rfl⟩ := ev2
      have HPA := Lib.hid PAk
      have HPB := Lib.hid PBk
      clear PAk PBk
      have hE := OwnV.empty 3 wr
      go_wp2
      obtain ⟨wo, rfl⟩ : ∃ wo : World, wo = wr := ⟨_, rfl⟩
      go_loopw [8, 7] (fun s8 s7 wz => ∃ q : Nat, q ≤ 4 ∧ s8 = .int .i64 q ∧ ∃ aq cq, s7 = .slice aq q cq ∧ OwnV 3 wo.heap.size wz.heap.size wz (.slice aq q cq) (ints (rowTo (mixN a b) ((k / a.Y.toNat : Nat) : Int) ((k % a.Y.toNat : Nat) : Int) q)) ∧ Below wo.heap.size wo wz) (fun s8 _ _ => 4 - (intOf s8).toNat)
      case atStart => exact ⟨0, by omega, rfl, _, _, rfl, by simpa [rowTo, ints] using hE, (Below.refl _ _).alloc (Nat.le_refl _) _⟩
      case round =>
        clear hE
        obtain ⟨q, hq, rfl, aq, cq, rfl, hO, hB⟩ := hrel
        by_cases hqt : q < 4
        · obtain ⟨x, cx, bx, nx, _⟩ := HPA.out q hqt
          obtain ⟨y, cy, bY, ny, _⟩ := HPB.out q hqt
          have hxy := wrap_in (x + y) (by omega) (by omega)
          have hnum : mixN a b ((k / a.Y.toNat : Nat) : Int) ((k % a.Y.toNat : Nat) : Int) ((q : Int) / 2) ((q : Int) % 2) = x + y := by
            unfold mixN; rw [nx]; rw [← HY.out] at ny; rw [ny]
          have hrs := rowTo_succ (mixN a b) ((k / a.Y.toNat : Nat) : Int) ((k % a.Y.toNat : Nat) : Int) q
          rw [hnum] at hrs
          have hm := hR.b4
          have BA := hR.below.trans (hB.mono hm)
          have KS := Lib.hid (fun (W : World) (h : Below (w.heap.size + 1 + 1 + 1) W3 W) => And.intro h (And.intro (keepAt h (by omega) A3.e3) (And.intro (keepAt h (by omega) B3.e3) (And.intro (keepAt (BW.trans (h.mono (by omega))) lba ca) (And.intro (keepAt (BW.trans (h.mono (by omega))) lb2 cx) (And.intro (keepAt (BW.trans (h.mono (by omega))) lbb cb) (keepAt (BW.trans (h.mono (by omega))) lb4 cy)))))))
          have hlen : (ints (rowTo (mixN a b) ((k / a.Y.toNat : Nat) : Int) ((k % a.Y.toNat : Nat) : Int) q)).length = q := by simp
          have hz := hB.size
          have k0 : (0 : Int) ≤ (k : Int) := by omega
          have k1 : (k : Int) < (a.Rows.length : Int) := by omega
          have k2 : (k : Int) < (b.Rows.length : Int) := by have := HL.out; omega
          have q0 : (0 : Int) ≤ (q : Int) := by omega
          have q1 : (q : Int) < 4 := by omega
          have hrs2 : ints (rowTo (mixN a b) ((k / a.Y.toNat : Nat) : Int) ((k % a.Y.toNat : Nat) : Int) q) ++ [Value.int .i64 (x + y)] = ints (rowTo (mixN a b) ((k / a.Y.toNat : Nat) : Int) ((k % a.Y.toNat : Nat) : Int) (q + 1)) := by rw [hrs]; simp [ints]
          have HS := Lib.hid hrs2
          have HN := Lib.hid hlen
          generalize hgl : ints (rowTo (mixN a b) ((k / a.Y.toNat : Nat) : Int) ((k % a.Y.toNat : Nat) : Int) q) = L at *
          have HG := Lib.hid hgl
          clear hgl nx ny hnum hrs hrs2 hlen ca cb cx cy bx bY
          go_wp2
          go_region_held3 (fun W => Below (w.heap.size + 1 + 1 + 1) W3 W ∧ W.cell? ⟨w.heap.size, 3, none⟩ = some (.slice (some ⟨ba, off, none⟩) a.Rows.length cap) ∧ W.cell? ⟨w.heap.size + 1, 3, none⟩ = some (.slice (some ⟨bb, offb, none⟩) b.Rows.length capb) ∧ W.cell? ⟨ba, off + k, none⟩ = some (.slice (some ⟨b2, o2, none⟩) 4 c2) ∧ W.cell? ⟨b2, o2 + q, none⟩ = some (.int .i64 x) ∧ W.cell? ⟨bb, offb + k, none⟩ = some (.slice (some ⟨b4, o4, none⟩) 4 c4) ∧ W.cell? ⟨b4, o4 + q, none⟩ = some (.int .i64 y))
            (first | exact KS.out _ BA.drew | exact KS.out _ (BA.drew.alloc (by show _ ≤ wr.heap.size; omega) _) | exact KS.out _ hBn)
            (first | (refine step_append1 (u := .int .i64 (x + y)) (by rfl) _ _ 22 3 (by rfl) Try.underlying22 Try.infoInt rfl (hO.kept (Below.drew (by repeat' (first | with_reducible exact Below.refl _ _ | with_reducible assumption | with_reducible apply Below.alloc | with_reducible apply Below.setCell | with_reducible apply Below.drew | exact Nat.le_refl _ | omega | (simp only [World.size_alloc, World.size_setCell]; omega)))) (Nat.le_refl _)) (by rfl) (by rfl) (by simp) rfl (by rw [HN.out]; omega) (by omega) (by show wo.heap.size ≤ (wr.alloc _).heap.size; rw [World.size_alloc]; omega) ?_
                      intro a2 c2 w2 hO2 hg2
                      have hB2 : Below wo.heap.size wo w2 := Below.grown (Below.drew (hB.alloc (by omega) _)) hg2 (by show wo.heap.size ≤ (wr.alloc _).heap.size; rw [World.size_alloc]; omega) (fun g hg => (hO.lt g hg).1)
                      have hBn := hR.below.trans (hB2.mono hm)))
          rw [HS.out, HN.out] at hO2
          clear hO hB
          go_wp2
          go_roundw
          case rel => exact ⟨q + 1, by omega, by go_num, a2, c2, by rw [HN.out], by rw [← HN.out] ; first | exact hO2 | (rw [HN.out]; exact hO2), hB2⟩
          case measure => simp [intOf]; omega
        · obtain rfl : q = 4 := by omega
          rw [rowTo_four] at hO
          have hb1 := hB
          have hrow := hO
          obtain ⟨wd, rfl⟩ : ∃ wd : World, wd = wr := ⟨_, rfl⟩
          have hRd := hR.later hb1
          obtain ⟨⟨g0, g1, g2, g3⟩, gf⟩ := hRd.cells
          have ht := hRd.rows.top
          have hlen := hRd.rows.len
          rw [rowsTo_length] at hlen ht g3
          have HN := Lib.hid hlen
          have hn9 : vs.length ≤ 4194304 := by omega
          have hlo := hRd.b4
          clear hlen
          go_wp2_with (at_builtin; refine append1_at rfl _ _ 23 22 rfl Try.underlying23 Try.infoInts rfl ht rfl rfl rfl rfl hn9 (by omega) hlo ?_)
          intro a2 c2 w2 hT2 hg2
          have hp := hR.push hb1 hrow hT2 (by rw [rowsTo_length]; exact hg2) (by rw [HN.out]; simp)
          obtain ⟨hp1, f1, f2⟩ := hp
          clear g0 g1 g2 g3 gf hR hRd ht hT2 hrow
          rw [← rows_next (mixN a b) a.Y.toNat k] at hp1
          go_wp2
          go_roundw
          case rel => exact ⟨k + 1, by omega, by go_num, a2, c2, _, hp1⟩
          case measure => simp [intOf]; omega
    · obtain rfl : k = a.Rows.length := by omega
      have hrt := hret3.kept hR.below (by omega)
      obtain ⟨⟨g0, g1, g2, g3⟩, gf⟩ := hR.cells
      have hrows := hR.rows
      have B5 := BW.trans (hR.below.mono (by have := BW.size; omega))
      rw [rowsTo_length] at g3 hrows
      obtain ⟨e0, e1, e2, e3, ef⟩ := hrt
      have hend := box_out (g := w.heap.size + 1 + 1) B5 (by omega) (by omega) hrows (.int .i64 a.X) (.int .i64 a.Y) (.int .i64 (a.Whole + b.Whole)) (.slice ar a.Rows.length c)
      clear hrows hR
      go_wp2
      refine bodyPost_ret (v := .agg #[.int .i64 a.X, .int .i64 a.Y, .int .i64 (a.Whole + b.Whole), .slice ar a.Rows.length c]) ?_ rfl ?_
      · simp [results, Try.results67, go_sem, e0, e1, e2, e3]
      · rw [LA.out] at hend ⊢
        exact ⟨ar, c, vs, rfl, hend.1, hend.2⟩
theorem mixN_four {a b : BoxD} (hs : sameB a b = true) (i j : Nat) (hi : (i : Int) < a.X) (hj : (j : Int) < a.Y) : FourN (mixN a b) (a.Whole + b.Whole) i j := by
  obtain ⟨qa, qb, hX, hY⟩ := sameB_iff.1 hs
  obtain ⟨h0, h1, h2, h3, h4⟩ := boxB_four qa i j hi hj
  obtain ⟨k0, k1, k2, k3, k4⟩ := boxB_four qb i j (by rw [← hX]; exact hi) (by rw [← hY]; exact hj)
  unfold FourN mixN
  omega
theorem mix_boxB {a b : BoxD} (hs : sameB a b = true) : boxB (boxOf a.X a.Y (a.Whole + b.Whole) (mixN a b)) = decide (a.Whole + b.Whole ≤ 1000) := by
  obtain ⟨qa, qb, _, _⟩ := sameB_iff.1 hs
  rw [boxOf_boxB _ _ _ _ (boxB_sizes qa) (mixN_four hs)]
  have h1 := (boxB_iff.1 qa).2.1
  have h2 := (boxB_iff.1 qb).2.1
  rw [Bool.eq_iff_iff, inB_iff, decide_eq_true_iff]
  omega
set_option maxHeartbeats 1600000 in
theorem specMixBoxes_any (va : Value) (a : BoxD) (vb : Value) (b : BoxD) (w : World) (ra : RdII w va a.Rows) (rb : RdII w vb b.Rows) :
    Calls Try.prog 29 #[.agg #[.int .i64 a.X, .int .i64 a.Y, .int .i64 a.Whole, va], .agg #[.int .i64 b.X, .int .i64 b.Y, .int .i64 b.Whole, vb]] w (BoxRes w (mixD a b) (mixOk a b)) := by
  go_enter Try.func29, Try.ntmps29
  go_wp2_with fail
  refine (l2Same_any _ _ a b _ (ra.kept (Nat.le_refl _) (by repeat' (first | with_reducible exact Below.refl _ _ | with_reducible assumption | with_reducible apply Below.alloc | with_reducible apply Below.setCell | with_reducible apply Below.drew | exact Nat.le_refl _ | omega | (simp only [World.size_alloc, World.size_setCell]; omega)))) (rb.kept (Nat.le_refl _) (by repeat' (first | with_reducible exact Below.refl _ _ | with_reducible assumption | with_reducible apply Below.alloc | with_reducible apply Below.setCell | with_reducible apply Below.drew | exact Nat.le_refl _ | omega | (simp only [World.size_alloc, World.size_setCell]; omega))))).mono ?_
  rintro e w1 ⟨rfl, b1⟩
  have B1 : Below w.heap.size w w1 := Below.trans (by repeat' (first | with_reducible exact Below.refl _ _ | with_reducible assumption | with_reducible apply Below.alloc | with_reducible apply Below.setCell | with_reducible apply Below.drew | exact Nat.le_refl _ | omega | (simp only [World.size_alloc, World.size_setCell]; omega))) (b1.mono (by first | exact Nat.le_refl _ | omega | (simp only [World.size_alloc, World.size_setCell]; omega)))
  have A1 : BoxAt w1 w.heap.size a.X a.Y a.Whole va := ⟨keepCell b1 (by repeat' (first | with_reducible assumption | (refine cell_top ?_ rfl; first | with_reducible rfl | (simp only [World.size_alloc, World.size_setCell]; done)) | (refine cell_under ?_ ?_; (first | omega | (simp only [World.size_alloc, World.size_setCell]; omega))) | refine cell_drew ?_)), keepCell b1 (by repeat' (first | with_reducible assumption | (refine cell_top ?_ rfl; first | with_reducible rfl | (simp only [World.size_alloc, World.size_setCell]; done)) | (refine cell_under ?_ ?_; (first | omega | (simp only [World.size_alloc, World.size_setCell]; omega))) | refine cell_drew ?_)), keepCell b1 (by repeat' (first | with_reducible assumption | (refine cell_top ?_ rfl; first | with_reducible rfl | (simp only [World.size_alloc, World.size_setCell]; done)) | (refine cell_under ?_ ?_; (first | omega | (simp only [World.size_alloc, World.size_setCell]; omega))) | refine cell_drew ?_)), keepCell b1 (by repeat' (first | with_reducible assumption | (refine cell_top ?_ rfl; first | with_reducible rfl | (simp only [World.size_alloc, World.size_setCell]; done)) | (refine cell_under ?_ ?_; (first | omega | (simp only [World.size_alloc, World.size_setCell]; omega))) | refine cell_drew ?_))⟩
  have A2 : BoxAt w1 (w.heap.size + 1) b.X b.Y b.Whole vb := ⟨keepCell b1 (by repeat' (first | with_reducible assumption | (refine cell_top ?_ rfl; first | with_reducible rfl | (simp only [World.size_alloc, World.size_setCell]; done)) | (refine cell_under ?_ ?_; (first | omega | (simp only [World.size_alloc, World.size_setCell]; omega))) | refine cell_drew ?_)), keepCell b1 (by repeat' (first | with_reducible assumption | (refine cell_top ?_ rfl; first | with_reducible rfl | (simp only [World.size_alloc, World.size_setCell]; done)) | (refine cell_under ?_ ?_; (first | omega | (simp only [World.size_alloc, World.size_setCell]; omega))) | refine cell_drew ?_)), keepCell b1 (by repeat' (first | with_reducible assumption | (refine cell_top ?_ rfl; first | with_reducible rfl | (simp only [World.size_alloc, World.size_setCell]; done)) | (refine cell_under ?_ ?_; (first | omega | (simp only [World.size_alloc, World.size_setCell]; omega))) | refine cell_drew ?_)), keepCell b1 (by repeat' (first | with_reducible assumption | (refine cell_top ?_ rfl; first | with_reducible rfl | (simp only [World.size_alloc, World.size_setCell]; done)) | (refine cell_under ?_ ?_; (first | omega | (simp only [World.size_alloc, World.size_setCell]; omega))) | refine cell_drew ?_))⟩
  have R1 : RetAt w1 (w.heap.size + 1 + 1) := RetAt.call b1 (by repeat' (first | with_reducible assumption | (refine RetAt.top ?_; first | with_reducible rfl | (simp only [World.size_alloc, World.size_setCell]; done)) | refine RetAt.under ?_))
  have hz := b1.size
  simp only [World.size_alloc] at hz
  clear b1
  rcases Bool.eq_false_or_eq_true (sameB a b) with hok | hok
  · rw [hok]
    obtain ⟨a0, a1, a2, a3⟩ := A1
    obtain ⟨c0, c1, c2, c3⟩ := A2
    go_wp2_with fail
    refine (l2Mix_any va a vb b hok _ (ra.kept (Nat.le_refl _) B1) (rb.kept (Nat.le_refl _) B1)).mono ?_
    rintro e w2 ⟨ar, c, vs, rfl, o2, b2⟩
    have B2 := B1.trans (b2.mono B1.size)
    have R2 := R1.call b2
    have hz2 := b2.size
    have hrd : RdII w2 (.slice ar (boxOf a.X a.Y (a.Whole + b.Whole) (mixN a b)).Rows.length c) (boxOf a.X a.Y (a.Whole + b.Whole) (mixN a b)).Rows := by rw [boxOf_len]; exact o2.rdII
    by_cases hle : a.Whole + b.Whole ≤ 1000
    · have hm : mixOk a b = true := by unfold mixOk; rw [hok, decide_eq_true hle]; rfl
      have hD : mixD a b = boxOf a.X a.Y (a.Whole + b.Whole) (mixN a b) := by unfold mixD; rw [hm]; simp
      have hk := l2Kept_yes ar c (boxOf a.X a.Y (a.Whole + b.Whole) (mixN a b)) w2 hrd (by rw [mix_boxB hok]; exact decide_eq_true hle)
      simp only [boxOf_len, boxOf_X, boxOf_Y, boxOf_Whole] at hk
      have HD := Lib.hid hD
      have HM := Lib.hid hm
      have HK := Lib.hid hk
      clear hD hm hk a0 a1 a2 a3 c0 c1 c2 c3
      go_wp2_with fail
      refine HK.out.mono ?_
      rintro e w3 ⟨rfl, b3⟩
      have B3 := B2.trans (b3.mono B2.size)
      have hend := box_out (g := w.heap.size + 1 + 1) B3 (by omega) (by omega) ((o2.kept b3 (Nat.le_refl _)).weaken (Nat.le_refl _) b3.size) (.int .i64 a.X) (.int .i64 a.Y) (.int .i64 (a.Whole + b.Whole)) (.slice ar (a.X.toNat * a.Y.toNat) c)
      obtain ⟨r0, r1, r2, r3, rf⟩ := R2.call b3
      clear o2 b2 b3 R1
      go_wp2
      refine bodyPost_ret (v := .tuple #[.agg #[.int .i64 a.X, .int .i64 a.Y, .int .i64 (a.Whole + b.Whole), .slice ar (a.X.toNat * a.Y.toNat) c], .bool true]) ?_ rfl ?_
      · simp [results, Try.results29, go_sem, r0, r1, r2, r3]
      · rw [HD.out, HM.out]
        exact ⟨ar, c, vs, by rw [boxOf_len]; rfl, by rw [boxOf_len]; exact hend.1, hend.2⟩
    · have hm : mixOk a b = false := by unfold mixOk; rw [hok, decide_eq_false hle]; rfl
      have hD : mixD a b = zeroD := by unfold mixD; rw [hm]; simp
      have hk := l2Kept_no ar c (boxOf a.X a.Y (a.Whole + b.Whole) (mixN a b)) w2 hrd (by rw [mix_boxB hok]; exact decide_eq_false hle)
      simp only [boxOf_len, boxOf_X, boxOf_Y, boxOf_Whole] at hk
      have HD := Lib.hid hD
      have HM := Lib.hid hm
      have HK := Lib.hid hk
      clear hD hm hk a0 a1 a2 a3 c0 c1 c2 c3
      go_wp2_with fail
      refine HK.out.mono ?_
      rintro e w3 ⟨rfl, b3⟩
      have B3 := B2.trans (b3.mono B2.size)
      obtain ⟨r0, r1, r2, r3, rf⟩ := R2.call b3
      clear o2 b2 b3 R1
      go_wp2
      refine bodyPost_ret (v := .tuple #[.agg #[.int .i64 0, .int .i64 0, .int .i64 0, .slice none 0 0], .bool false]) ?_ rfl ?_
      · simp [results, Try.results29, go_sem, r0, r1, r2, r3]
      · rw [HD.out, HM.out]; exact BoxRes.zero (by repeat' (first | with_reducible exact Below.refl _ _ | with_reducible assumption | with_reducible apply Below.alloc | with_reducible apply Below.setCell | with_reducible apply Below.drew | exact Nat.le_refl _ | omega | (simp only [World.size_alloc, World.size_setCell]; omega)))
  · have hm : mixOk a b = false := by unfold mixOk; rw [hok]; rfl
    have hD : mixD a b = zeroD := by unfold mixD; rw [hm]; simp
    rw [hok]
    have HD := Lib.hid hD
    have HM := Lib.hid hm
    clear hD hm
    obtain ⟨r0, r1, r2, r3, rf⟩ := R1
    go_wp2
    refine bodyPost_ret (v := .tuple #[.agg #[.int .i64 0, .int .i64 0, .int .i64 0, .slice none 0 0], .bool false]) ?_ rfl ?_
    · simp [results, Try.results29, go_sem, r0, r1, r2, r3]
    · rw [HD.out, HM.out]; exact BoxRes.zero (by repeat' (first | with_reducible exact Below.refl _ _ | with_reducible assumption | with_reducible apply Below.alloc | with_reducible apply Below.setCell | with_reducible apply Below.drew | exact Nat.le_refl _ | omega | (simp only [World.size_alloc, World.size_setCell]; omega)))
end Go.Proofs.Ytjedajfpohhojaa
