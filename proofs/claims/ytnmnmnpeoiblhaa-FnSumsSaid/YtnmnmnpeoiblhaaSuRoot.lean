/- FnSums: the law answers true for all arguments; the argument reads as it did. -/
import Derived.Test.YtnmnmnpeoiblhaaSuap
import Derived.Test.YtnmnmnpeoiblhaaSubj
import Derived.Test.YtnmnmnpeoiblhaaSubu
import Derived.Test.YtnmnmnpeoiblhaaSubg
import Derived.Deep.Cut
set_option linter.unusedSimpArgs false
set_option linter.unusedVariables false
namespace Go.Proofs.Ytnmnmnpeoiblhaa
open Go.ChangeShapes Go.WideShapes Go.ChangeAt Go.RowKit
open Go.ChangeMaps (open_string shut_string)

set_option maxRecDepth 20000 in
set_option maxHeartbeats 16000000 in
theorem fnSums_walk (a : Option Addr) (n cap : Nat) (w : World) (hn : n ≤ maxLen) (h : n ≤ 65536 → Code w a n cap) :
    Calls Try.prog 4 #[.slice a n cap] w fun e w' => e = .returned (.bool true) ∧ Below w.heap.size w w' := by
  by_cases hbig : (65536 : Int) < (n : Int)
  · have CB := vBig_any a n cap w hn
    have hd : decide ((65536 : Int) < (n : Int)) = true := decide_eq_true hbig
    rw [hd] at CB
    go_enter Try.func4, Try.ntmps4
    go_wp2_with (go_at_call 28; refine CB.mono ?_; rintro e w' ⟨rfl, rfl⟩)
    go_ret
    exact ⟨rfl, Below.refl _ _⟩
  have Icode := h (by omega)
  have CB := vBig_any a n cap w hn
  have hd : decide ((65536 : Int) < (n : Int)) = false := decide_eq_false hbig
  rw [hd] at CB
  have BW := Below.refl w.heap.size w
  clear h hd hbig hn
  go_enter Try.func4, Try.ntmps4
  go_wp2_with fail
  refine CB.mono ?_
  rintro e w0 ⟨rfl, rfl⟩
  clear CB
  go_wp2_with fail
  refine (drawSumOf_any (.slice a n cap) n w Icode.rd).mono ?_
  rintro e w1 ⟨bb, ab, cb, f0, f1, s0, s1, m, rfl, rb, b⟩
  have BB := b
  replace Icode := Icode.stay BB
  replace BW := belowOn BW BB
  clear b BB
  have bp0 := below_alloc w1 (.cells #[.int .i64 (bb).X, .int .i64 (bb).Y, .int .i64 (bb).Whole, .slice ab (bb).Rows.length cb] 26)
  have bp1 := below_alloc (w1.alloc (.cells #[.int .i64 (bb).X, .int .i64 (bb).Y, .int .i64 (bb).Whole, .slice ab (bb).Rows.length cb] 26)) (.cells #[.int .i64 f0, .int .i64 f1] 47)
  have bp2 := below_alloc ((w1.alloc (.cells #[.int .i64 (bb).X, .int .i64 (bb).Y, .int .i64 (bb).Whole, .slice ab (bb).Rows.length cb] 26)).alloc (.cells #[.int .i64 f0, .int .i64 f1] 47)) (.cells #[.int .i64 s0, .int .i64 s1] 47)
  have bp := (belowOn (belowOn bp0 bp1) bp2)
  have Hb : BoxIn (w1.alloc (.cells #[.int .i64 (bb).X, .int .i64 (bb).Y, .int .i64 (bb).Whole, .slice ab (bb).Rows.length cb] 26)) (w1.heap.size) (bb) ab cb := ⟨BoxAt.top (by simp only [World.size_alloc]), rb.stay bp0⟩
  replace Hb := Hb.stay bp1
  replace Hb := Hb.stay bp2
  have Hp : PairAt ((w1.alloc (.cells #[.int .i64 (bb).X, .int .i64 (bb).Y, .int .i64 (bb).Whole, .slice ab (bb).Rows.length cb] 26)).alloc (.cells #[.int .i64 f0, .int .i64 f1] 47)) (w1.heap.size + 1) (.int .i64 f0) (.int .i64 f1) := PairAt.top (by simp only [World.size_alloc])
  replace Hp := Hp.stay bp2
  have Hq : PairAt (((w1.alloc (.cells #[.int .i64 (bb).X, .int .i64 (bb).Y, .int .i64 (bb).Whole, .slice ab (bb).Rows.length cb] 26)).alloc (.cells #[.int .i64 f0, .int .i64 f1] 47)).alloc (.cells #[.int .i64 s0, .int .i64 s1] 47)) (w1.heap.size + 1 + 1) (.int .i64 s0) (.int .i64 s1) := PairAt.top (by simp only [World.size_alloc])
  replace Icode := Icode.stay bp
  replace BW := belowOn BW bp
  clear bp bp0 bp1 bp2
  go_wp2_with fail
  refine (implSumOf_any _ bb f0 f1 s0 s1 m (((w1.alloc (.cells #[.int .i64 (bb).X, .int .i64 (bb).Y, .int .i64 (bb).Whole, .slice ab (bb).Rows.length cb] 26)).alloc (.cells #[.int .i64 f0, .int .i64 f1] 47)).alloc (.cells #[.int .i64 s0, .int .i64 s1] 47)) Hb.rd).mono ?_
  rintro e w2 ⟨rfl, b⟩
  have BB := b
  replace Icode := Icode.stay BB
  replace Hb := Hb.stay BB
  replace Hp := Hp.stay BB
  replace Hq := Hq.stay BB
  replace BW := belowOn BW BB
  clear b BB
  clear rb
  obtain ⟨⟨bq0, bq1, bq2, bq3⟩, -⟩ := id Hb
  have bqL := Hb.lt
  obtain ⟨pq0, pq1, -⟩ := Hp.cells
  have pqL := Hp.lt
  obtain ⟨qq0, qq1, -⟩ := Hq.cells
  have qqL := Hq.lt
  go_wp2_with fail
  refine (specSumOf_any _ bb f0 f1 s0 s1 m w2 Hb.rd).mono ?_
  rintro e w3 ⟨rfl, b⟩
  clear bq0 bq1 bqL bq2 bq3
  clear pq0 pq1 pqL
  clear qq0 qq1 qqL
  have BB := b
  replace Icode := Icode.stay BB
  replace Hb := Hb.stay BB
  replace Hp := Hp.stay BB
  replace Hq := Hq.stay BB
  replace BW := belowOn BW BB
  clear b BB
  obtain ⟨⟨bq0, bq1, bq2, bq3⟩, -⟩ := id Hb
  have bqL := Hb.lt
  go_wp2_with fail
  refine (implGreatestSum_any _ bb w3 Hb.rd).mono ?_
  rintro e w4 ⟨rfl, b⟩
  clear bq0 bq1 bqL bq2 bq3
  have BB := b
  replace Icode := Icode.stay BB
  replace Hb := Hb.stay BB
  replace Hp := Hp.stay BB
  replace Hq := Hq.stay BB
  replace BW := belowOn BW BB
  clear b BB
  obtain ⟨⟨bq0, bq1, bq2, bq3⟩, -⟩ := id Hb
  have bqL := Hb.lt
  go_wp2_with fail
  refine (specGreatestSum_any _ bb w4 Hb.rd).mono ?_
  rintro e w5 ⟨rfl, b⟩
  clear bq0 bq1 bqL bq2 bq3
  have BB := b
  replace Icode := Icode.stay BB
  replace Hb := Hb.stay BB
  replace Hp := Hp.stay BB
  replace Hq := Hq.stay BB
  replace BW := belowOn BW BB
  clear b BB
  obtain ⟨⟨bq0, bq1, bq2, bq3⟩, -⟩ := id Hb
  have bqL := Hb.lt
  go_wp2_with fail
  refine (implFirstSum_any _ bb w5 Hb.rd).mono ?_
  rintro e w6 ⟨rfl, b⟩
  clear bq0 bq1 bqL bq2 bq3
  have BB := b
  replace Icode := Icode.stay BB
  replace Hb := Hb.stay BB
  replace Hp := Hp.stay BB
  replace Hq := Hq.stay BB
  replace BW := belowOn BW BB
  clear b BB
  obtain ⟨⟨bq0, bq1, bq2, bq3⟩, -⟩ := id Hb
  have bqL := Hb.lt
  have bp0 := below_alloc w6 (.cells #[.int .i64 ((firstG bb).F0 : Int), .int .i64 ((firstG bb).F1 : Int)] 47)
  have bp1 := below_alloc (w6.alloc (.cells #[.int .i64 ((firstG bb).F0 : Int), .int .i64 ((firstG bb).F1 : Int)] 47)) (.cells #[.int .i64 ((firstG bb).S0 : Int), .int .i64 ((firstG bb).S1 : Int)] 47)
  have bp := (belowOn bp0 bp1)
  have Hx : PairAt (w6.alloc (.cells #[.int .i64 ((firstG bb).F0 : Int), .int .i64 ((firstG bb).F1 : Int)] 47)) (w6.heap.size) (.int .i64 ((firstG bb).F0 : Int)) (.int .i64 ((firstG bb).F1 : Int)) := PairAt.top (by simp only [World.size_alloc])
  replace Hx := Hx.stay bp1
  have Hy : PairAt ((w6.alloc (.cells #[.int .i64 ((firstG bb).F0 : Int), .int .i64 ((firstG bb).F1 : Int)] 47)).alloc (.cells #[.int .i64 ((firstG bb).S0 : Int), .int .i64 ((firstG bb).S1 : Int)] 47)) (w6.heap.size + 1) (.int .i64 ((firstG bb).S0 : Int)) (.int .i64 ((firstG bb).S1 : Int)) := PairAt.top (by simp only [World.size_alloc])
  replace Icode := Icode.stay bp
  replace Hb := Hb.stay bp
  replace Hp := Hp.stay bp
  replace Hq := Hq.stay bp
  replace BW := belowOn BW bp
  clear bp bp0 bp1
  go_wp2_with fail
  refine (specFirstSum_any _ bb ((w6.alloc (.cells #[.int .i64 ((firstG bb).F0 : Int), .int .i64 ((firstG bb).F1 : Int)] 47)).alloc (.cells #[.int .i64 ((firstG bb).S0 : Int), .int .i64 ((firstG bb).S1 : Int)] 47)) Hb.rd).mono ?_
  rintro e w7 ⟨rfl, b⟩
  clear bq0 bq1 bqL bq2 bq3
  have BB := b
  replace Icode := Icode.stay BB
  replace Hb := Hb.stay BB
  replace Hp := Hp.stay BB
  replace Hq := Hq.stay BB
  replace Hx := Hx.stay BB
  replace Hy := Hy.stay BB
  replace BW := belowOn BW BB
  clear b BB
  have bp0 := below_alloc w7 (.cells #[.int .i64 ((firstG bb).F0 : Int), .int .i64 ((firstG bb).F1 : Int)] 47)
  have bp1 := below_alloc (w7.alloc (.cells #[.int .i64 ((firstG bb).F0 : Int), .int .i64 ((firstG bb).F1 : Int)] 47)) (.cells #[.int .i64 ((firstG bb).S0 : Int), .int .i64 ((firstG bb).S1 : Int)] 47)
  have bp := (belowOn bp0 bp1)
  have Hu : PairAt (w7.alloc (.cells #[.int .i64 ((firstG bb).F0 : Int), .int .i64 ((firstG bb).F1 : Int)] 47)) (w7.heap.size) (.int .i64 ((firstG bb).F0 : Int)) (.int .i64 ((firstG bb).F1 : Int)) := PairAt.top (by simp only [World.size_alloc])
  replace Hu := Hu.stay bp1
  have Hv : PairAt ((w7.alloc (.cells #[.int .i64 ((firstG bb).F0 : Int), .int .i64 ((firstG bb).F1 : Int)] 47)).alloc (.cells #[.int .i64 ((firstG bb).S0 : Int), .int .i64 ((firstG bb).S1 : Int)] 47)) (w7.heap.size + 1) (.int .i64 ((firstG bb).S0 : Int)) (.int .i64 ((firstG bb).S1 : Int)) := PairAt.top (by simp only [World.size_alloc])
  replace Icode := Icode.stay bp
  replace Hb := Hb.stay bp
  replace Hp := Hp.stay bp
  replace Hq := Hq.stay bp
  replace Hx := Hx.stay bp
  replace Hy := Hy.stay bp
  replace BW := belowOn BW bp
  clear bp bp0 bp1
  go_wp2_with fail
  refine (vCut_any a n cap ((w7.alloc (.cells #[.int .i64 ((firstG bb).F0 : Int), .int .i64 ((firstG bb).F1 : Int)] 47)).alloc (.cells #[.int .i64 ((firstG bb).S0 : Int), .int .i64 ((firstG bb).S1 : Int)] 47)) Icode).mono ?_
  rintro e w8 ⟨ak, nk, ck, rfl, rk, b⟩
  have BB := b
  replace Icode := Icode.stay BB
  replace Hb := Hb.stay BB
  replace Hp := Hp.stay BB
  replace Hq := Hq.stay BB
  replace Hx := Hx.stay BB
  replace Hy := Hy.stay BB
  replace Hu := Hu.stay BB
  replace Hv := Hv.stay BB
  replace BW := belowOn BW BB
  clear b BB
  go_wp2_with fail
  refine (drawSumFunctional_any (.slice ak nk ck) nk w8 rk).mono ?_
  rintro e w9 ⟨x, y, g0, g1, t0, t1, m2, rfl, b⟩
  have BB := b
  replace Icode := Icode.stay BB
  replace Hb := Hb.stay BB
  replace Hp := Hp.stay BB
  replace Hq := Hq.stay BB
  replace Hx := Hx.stay BB
  replace Hy := Hy.stay BB
  replace Hu := Hu.stay BB
  replace Hv := Hv.stay BB
  replace BW := belowOn BW BB
  clear b BB
  clear rk
  clear Icode
  have bp0 := below_alloc w9 (.cells #[.int .i64 g0, .int .i64 g1] 47)
  have bp1 := below_alloc (w9.alloc (.cells #[.int .i64 g0, .int .i64 g1] 47)) (.cells #[.int .i64 t0, .int .i64 t1] 47)
  have bp := (belowOn bp0 bp1)
  have Hc : PairAt (w9.alloc (.cells #[.int .i64 g0, .int .i64 g1] 47)) (w9.heap.size) (.int .i64 g0) (.int .i64 g1) := PairAt.top (by simp only [World.size_alloc])
  replace Hc := Hc.stay bp1
  have Hd : PairAt ((w9.alloc (.cells #[.int .i64 g0, .int .i64 g1] 47)).alloc (.cells #[.int .i64 t0, .int .i64 t1] 47)) (w9.heap.size + 1) (.int .i64 t0) (.int .i64 t1) := PairAt.top (by simp only [World.size_alloc])
  replace Hb := Hb.stay bp
  replace Hp := Hp.stay bp
  replace Hq := Hq.stay bp
  replace Hx := Hx.stay bp
  replace Hy := Hy.stay bp
  replace Hu := Hu.stay bp
  replace Hv := Hv.stay bp
  replace BW := belowOn BW bp
  clear bp bp0 bp1
  go_wp2_with fail
  refine (implSumFunctional_any x y g0 g1 t0 t1 m2 ((w9.alloc (.cells #[.int .i64 g0, .int .i64 g1] 47)).alloc (.cells #[.int .i64 t0, .int .i64 t1] 47))).mono ?_
  rintro e w10 ⟨al, cl, vl, rfl, ol, b⟩
  have BB := b
  replace Hb := Hb.stay BB
  replace Hp := Hp.stay BB
  replace Hq := Hq.stay BB
  replace Hx := Hx.stay BB
  replace Hy := Hy.stay BB
  replace Hu := Hu.stay BB
  replace Hv := Hv.stay BB
  replace Hc := Hc.stay BB
  replace Hd := Hd.stay BB
  replace BW := belowOn BW BB
  clear b BB
  have Il := ol.rdII
  clear ol
  obtain ⟨cq0, cq1, -⟩ := Hc.cells
  have cqL := Hc.lt
  obtain ⟨dq0, dq1, -⟩ := Hd.cells
  have dqL := Hd.lt
  go_wp2_with fail
  refine (specSumFunctional_any x y g0 g1 t0 t1 m2 w10).mono ?_
  rintro e w11 ⟨ax, cx, vx, rfl, ox, b⟩
  clear cq0 cq1 cqL
  clear dq0 dq1 dqL
  have BB := b
  replace Hb := Hb.stay BB
  replace Hp := Hp.stay BB
  replace Hq := Hq.stay BB
  replace Hx := Hx.stay BB
  replace Hy := Hy.stay BB
  replace Hu := Hu.stay BB
  replace Hv := Hv.stay BB
  replace Hc := Hc.stay BB
  replace Hd := Hd.stay BB
  replace Il := Il.stay BB
  replace BW := belowOn BW BB
  clear b BB
  have Ix := ox.rdII
  clear ox
  obtain ⟨xq0, xq1, -⟩ := Hx.cells
  have xqL := Hx.lt
  obtain ⟨yq0, yq1, -⟩ := Hy.cells
  have yqL := Hy.lt
  obtain ⟨uq0, uq1, -⟩ := Hu.cells
  have uqL := Hu.lt
  obtain ⟨vq0, vq1, -⟩ := Hv.cells
  have vqL := Hv.lt
  have g1' : ((sumD bb f0 f1 s0 s1 m) != (sumD bb f0 f1 s0 s1 m)) = false := by simp
  have g2' : ((sumOk bb f0 f1 s0 s1 m) != (sumOk bb f0 f1 s0 s1 m)) = false := by simp
  have g3' : ((greatD bb) != (greatD bb)) = false := by simp
  have g4' : ((boxB bb) != (boxB bb)) = false := by simp
  have g5' : (((firstG bb).m : Int) != ((firstG bb).m : Int)) = false := by simp
  have g6' : ((firstG bb).there != (firstG bb).there) = false := by simp
  have g7' : ((sumFOk x y g0 g1 t0 t1 m2) != (sumFOk x y g0 g1 t0 t1 m2)) = false := by simp
  have g8' := fun W => run_pair_same W ((firstG bb).F0 : Int) ((firstG bb).F1 : Int)
  have g9' := fun W => run_pair_same W ((firstG bb).S0 : Int) ((firstG bb).S1 : Int)
  go_wp2_with fail
  refine (vTable_same _ _ (sumFD x y g0 g1 t0 t1 m2) w11 Il Ix).mono ?_
  rintro e w12 ⟨rfl, b⟩
  clear xq0 xq1 xqL
  clear yq0 yq1 yqL
  clear uq0 uq1 uqL
  clear vq0 vq1 vqL
  have BB := b
  replace Hb := Hb.stay BB
  replace Hp := Hp.stay BB
  replace Hq := Hq.stay BB
  replace Hx := Hx.stay BB
  replace Hy := Hy.stay BB
  replace Hu := Hu.stay BB
  replace Hv := Hv.stay BB
  replace Hc := Hc.stay BB
  replace Hd := Hd.stay BB
  replace Il := Il.stay BB
  replace Ix := Ix.stay BB
  replace BW := belowOn BW BB
  clear b BB
  clear g1' g2' g3' g4' g5' g6' g7' g8' g9'
  clear Ix
  clear Hu
  clear Hv
  clear Hc
  clear Hd
  obtain ⟨one, hone⟩ : ∃ f, sumFOk x y g0 g1 t0 t1 m2 = f := ⟨_, rfl⟩
  rw [hone]
  go_upto_if 167 with fail
  go_cut [29, 31, 100, 106, 108, 109, 115, 117, 157, 158, 167] from 264 (fun _ _ _ _ _ _ _ _ _ _ _ wx => Below w12.heap.size w12 wx)
  case first =>
    clear BW
    have BW := Below.refl w12.heap.size w12
    cases one with
    | false =>
      go_wp2
      go_meet
      exact BW
    | true =>
      obtain ⟨h1, h2⟩ := fs_one hone
      have CL := implLocalValue_any x y (.slice al (sumFD x y g0 g1 t0 t1 m2).length cl) (sumFD x y g0 g1 t0 t1 m2) w12 Il
      rw [h1, h2] at CL
      clear h1 h2 hone
      go_wp2_with fail
      refine (CL).mono ?_
      rintro e w13 ⟨rfl, b⟩
      have BB := b
      replace Hb := Hb.stay BB
      replace Hp := Hp.stay BB
      replace Hq := Hq.stay BB
      replace Hx := Hx.stay BB
      replace Hy := Hy.stay BB
      replace Il := Il.stay BB
      replace BW := belowOn BW BB
      clear b BB
      go_wp2
      go_meet
      exact BW
  case rest =>
    obtain ⟨w14, rfl⟩ : ∃ W : World, W = wc := ⟨_, rfl⟩
    have BB := hcut
    clear hcut
    replace Hb := Hb.stay BB
    replace Hp := Hp.stay BB
    replace Hq := Hq.stay BB
    replace Hx := Hx.stay BB
    replace Hy := Hy.stay BB
    replace Il := Il.stay BB
    replace BW := belowOn BW BB
    clear BB hone
    clear Il
    cases hb : boxB bb with
    | false =>
      obtain ⟨h1, h2⟩ := fs_none hb f0 f1 s0 s1 m
      rw [h1, h2]
      clear h1 h2 hb
      go_wp2
      go_ret
      exact ⟨rfl, BW⟩
    | true =>
      obtain ⟨hB4, hB2⟩ := fs_bound hb
      have hW := (boxB_iff.1 hb).2.1
      have hG0 := fs_pos hb
      have HBB := Lib.hid hb
      clear hb
      cases ht : (firstG bb).there with
      | false =>
        clear ht
        have CLO := implIsLocal_any (.slice ab bb.Rows.length cb) bb w14 Hb.rd
        rw [HBB.out] at CLO
        cases hl : localOk bb with
        | false =>
          rw [hl] at CLO
          clear hB2 hl
          obtain ⟨⟨bq0, bq1, bq2, bq3⟩, -⟩ := id Hb
          have bqL := Hb.lt
          go_wp2_with fail
          refine (CLO).mono ?_
          rintro e w15 ⟨rfl, b⟩
          clear bq0 bq1 bqL bq2 bq3
          have BB := b
          replace Hb := Hb.stay BB
          replace Hp := Hp.stay BB
          replace Hq := Hq.stay BB
          replace Hx := Hx.stay BB
          replace Hy := Hy.stay BB
          replace BW := belowOn BW BB
          clear b BB
          clear CLO
          have r1 : IntKind.i64.wrap (2 * bb.Whole) = 2 * bb.Whole := wrapC64 _ (by omega) (by omega)
          have r2 : IntKind.i64.wrap (4 * bb.Whole) = 4 * bb.Whole := wrapC64 _ (by omega) (by omega)
          have r3 : ¬ 4 * bb.Whole < greatD bb := by omega
          obtain ⟨ok, hok⟩ : ∃ f, sumOk bb f0 f1 s0 s1 m = f := ⟨_, rfl⟩
          rw [hok]
          obtain ⟨⟨bq0, bq1, bq2, bq3⟩, -⟩ := id Hb
          cases ok with
          | false =>
            go_wp2
            go_ret
            exact ⟨rfl, BW⟩
          | true =>
            clear bq0 bq1 bq2 bq3
            obtain ⟨_, h1, h2, h3, h4⟩ := fs_sum hok
            have hmb : -1000000 ≤ sumD bb f0 f1 s0 s1 m ∧ sumD bb f0 f1 s0 s1 m ≤ 1000000 := by have := absI_cases (sumD bb f0 f1 s0 s1 m); omega
            have CF := implSumFunctional_any bb.X bb.Y f0 f1 s0 s1 m w15
            rw [h2] at CF
            clear hok h2
            obtain ⟨⟨eq0, eq1, eq2, eq3⟩, -⟩ := id Hb
            obtain ⟨⟨bq0, bq1, bq2, bq3⟩, -⟩ := id Hb
            have bqL := Hb.lt
            obtain ⟨pq0, pq1, -⟩ := Hp.cells
            have pqL := Hp.lt
            obtain ⟨qq0, qq1, -⟩ := Hq.cells
            have qqL := Hq.lt
            go_wp2_with fail
            refine (CF).mono ?_
            rintro e w16 ⟨ae, ce, ve, rfl, oe, b⟩
            clear bq0 bq1 bqL bq2 bq3
            clear pq0 pq1 pqL
            clear qq0 qq1 qqL
            have BB := b
            replace Hb := Hb.stay BB
            replace Hp := Hp.stay BB
            replace Hq := Hq.stay BB
            replace Hx := Hx.stay BB
            replace Hy := Hy.stay BB
            replace BW := belowOn BW BB
            clear b BB
            have Ie := oe.rdII
            clear oe CF eq0 eq1 eq2 eq3
            have CW := implWorthOf_any (.slice ae (sumFD bb.X bb.Y f0 f1 s0 s1 m).length ce) (sumFD bb.X bb.Y f0 f1 s0 s1 m) (.slice ab bb.Rows.length cb) bb w16 Ie Hb.rd
            rw [h3, h4] at CW
            clear h3 h4
            obtain ⟨⟨bq0, bq1, bq2, bq3⟩, -⟩ := id Hb
            have bqL := Hb.lt
            go_wp2_with fail
            refine (CW).mono ?_
            rintro e w17 ⟨rfl, b⟩
            clear bq0 bq1 bqL bq2 bq3
            have BB := b
            replace Hb := Hb.stay BB
            replace Hp := Hp.stay BB
            replace Hq := Hq.stay BB
            replace Hx := Hx.stay BB
            replace Hy := Hy.stay BB
            replace Ie := Ie.stay BB
            replace BW := belowOn BW BB
            clear b BB
            have CV := vSize_abs (sumD bb f0 f1 s0 s1 m) w17 hmb
            clear CW
            generalize absI (sumD bb f0 f1 s0 s1 m) = z at *
            generalize sumD bb f0 f1 s0 s1 m = sd at *
            have h5 : (sd == sd) = true := by simp
            go_wp2_with fail
            refine (CV).mono ?_
            rintro e w18 ⟨rfl, b⟩
            have BB := b
            replace Hb := Hb.stay BB
            replace Hp := Hp.stay BB
            replace Hq := Hq.stay BB
            replace Hx := Hx.stay BB
            replace Hy := Hy.stay BB
            replace Ie := Ie.stay BB
            replace BW := belowOn BW BB
            clear b BB
            go_wp2
            go_ret
            exact ⟨rfl, BW⟩
        | true =>
          have hB2' := hB2 hl
          rw [hl] at CLO
          clear hB2 hl
          have r4 : ¬ 2 * bb.Whole < greatD bb := by omega
          obtain ⟨⟨bq0, bq1, bq2, bq3⟩, -⟩ := id Hb
          have bqL := Hb.lt
          go_wp2_with fail
          refine (CLO).mono ?_
          rintro e w15 ⟨rfl, b⟩
          clear bq0 bq1 bqL bq2 bq3
          have BB := b
          replace Hb := Hb.stay BB
          replace Hp := Hp.stay BB
          replace Hq := Hq.stay BB
          replace Hx := Hx.stay BB
          replace Hy := Hy.stay BB
          replace BW := belowOn BW BB
          clear b BB
          clear CLO
          have r1 : IntKind.i64.wrap (2 * bb.Whole) = 2 * bb.Whole := wrapC64 _ (by omega) (by omega)
          have r2 : IntKind.i64.wrap (4 * bb.Whole) = 4 * bb.Whole := wrapC64 _ (by omega) (by omega)
          have r3 : ¬ 4 * bb.Whole < greatD bb := by omega
          obtain ⟨ok, hok⟩ : ∃ f, sumOk bb f0 f1 s0 s1 m = f := ⟨_, rfl⟩
          rw [hok]
          obtain ⟨⟨bq0, bq1, bq2, bq3⟩, -⟩ := id Hb
          cases ok with
          | false =>
            go_wp2
            go_ret
            exact ⟨rfl, BW⟩
          | true =>
            clear bq0 bq1 bq2 bq3
            obtain ⟨_, h1, h2, h3, h4⟩ := fs_sum hok
            have hmb : -1000000 ≤ sumD bb f0 f1 s0 s1 m ∧ sumD bb f0 f1 s0 s1 m ≤ 1000000 := by have := absI_cases (sumD bb f0 f1 s0 s1 m); omega
            have CF := implSumFunctional_any bb.X bb.Y f0 f1 s0 s1 m w15
            rw [h2] at CF
            clear hok h2
            obtain ⟨⟨eq0, eq1, eq2, eq3⟩, -⟩ := id Hb
            obtain ⟨⟨bq0, bq1, bq2, bq3⟩, -⟩ := id Hb
            have bqL := Hb.lt
            obtain ⟨pq0, pq1, -⟩ := Hp.cells
            have pqL := Hp.lt
            obtain ⟨qq0, qq1, -⟩ := Hq.cells
            have qqL := Hq.lt
            go_wp2_with fail
            refine (CF).mono ?_
            rintro e w16 ⟨ae, ce, ve, rfl, oe, b⟩
            clear bq0 bq1 bqL bq2 bq3
            clear pq0 pq1 pqL
            clear qq0 qq1 qqL
            have BB := b
            replace Hb := Hb.stay BB
            replace Hp := Hp.stay BB
            replace Hq := Hq.stay BB
            replace Hx := Hx.stay BB
            replace Hy := Hy.stay BB
            replace BW := belowOn BW BB
            clear b BB
            have Ie := oe.rdII
            clear oe CF eq0 eq1 eq2 eq3
            have CW := implWorthOf_any (.slice ae (sumFD bb.X bb.Y f0 f1 s0 s1 m).length ce) (sumFD bb.X bb.Y f0 f1 s0 s1 m) (.slice ab bb.Rows.length cb) bb w16 Ie Hb.rd
            rw [h3, h4] at CW
            clear h3 h4
            obtain ⟨⟨bq0, bq1, bq2, bq3⟩, -⟩ := id Hb
            have bqL := Hb.lt
            go_wp2_with fail
            refine (CW).mono ?_
            rintro e w17 ⟨rfl, b⟩
            clear bq0 bq1 bqL bq2 bq3
            have BB := b
            replace Hb := Hb.stay BB
            replace Hp := Hp.stay BB
            replace Hq := Hq.stay BB
            replace Hx := Hx.stay BB
            replace Hy := Hy.stay BB
            replace Ie := Ie.stay BB
            replace BW := belowOn BW BB
            clear b BB
            have CV := vSize_abs (sumD bb f0 f1 s0 s1 m) w17 hmb
            clear CW
            generalize absI (sumD bb f0 f1 s0 s1 m) = z at *
            generalize sumD bb f0 f1 s0 s1 m = sd at *
            have h5 : (sd == sd) = true := by simp
            go_wp2_with fail
            refine (CV).mono ?_
            rintro e w18 ⟨rfl, b⟩
            have BB := b
            replace Hb := Hb.stay BB
            replace Hp := Hp.stay BB
            replace Hq := Hq.stay BB
            replace Hx := Hx.stay BB
            replace Hy := Hy.stay BB
            replace Ie := Ie.stay BB
            replace BW := belowOn BW BB
            clear b BB
            go_wp2
            go_ret
            exact ⟨rfl, BW⟩
      | true =>
        obtain ⟨h1, h2⟩ := fs_there ht
        have hmb : -1000000 ≤ sumD bb (firstG bb).F0 (firstG bb).F1 (firstG bb).S0 (firstG bb).S1 (firstG bb).m ∧ sumD bb (firstG bb).F0 (firstG bb).F1 (firstG bb).S0 (firstG bb).S1 (firstG bb).m ≤ 1000000 := by have := absI_cases (sumD bb (firstG bb).F0 (firstG bb).F1 (firstG bb).S0 (firstG bb).S1 (firstG bb).m); omega
        have CS := implSumOf_any (.slice ab bb.Rows.length cb) bb (firstG bb).F0 (firstG bb).F1 (firstG bb).S0 (firstG bb).S1 (firstG bb).m w14 Hb.rd
        rw [h1] at CS
        have CV := fun W => vSize_abs (sumD bb (firstG bb).F0 (firstG bb).F1 (firstG bb).S0 (firstG bb).S1 (firstG bb).m) W hmb
        rw [h2] at CV
        have g3' : ((greatD bb) != (greatD bb)) = false := by simp
        clear ht h1 h2
        obtain ⟨⟨bq0, bq1, bq2, bq3⟩, -⟩ := id Hb
        have bqL := Hb.lt
        obtain ⟨xq0, xq1, -⟩ := Hx.cells
        have xqL := Hx.lt
        obtain ⟨yq0, yq1, -⟩ := Hy.cells
        have yqL := Hy.lt
        go_wp2_with fail
        refine (CS).mono ?_
        rintro e w15 ⟨rfl, b⟩
        clear bq0 bq1 bqL bq2 bq3
        clear xq0 xq1 xqL
        clear yq0 yq1 yqL
        have BB := b
        replace Hb := Hb.stay BB
        replace Hp := Hp.stay BB
        replace Hq := Hq.stay BB
        replace Hx := Hx.stay BB
        replace Hy := Hy.stay BB
        replace BW := belowOn BW BB
        clear b BB
        clear CS
        go_wp2_with fail
        refine (CV _).mono ?_
        rintro e w16 ⟨rfl, b⟩
        have BB := b
        replace Hb := Hb.stay BB
        replace Hp := Hp.stay BB
        replace Hq := Hq.stay BB
        replace Hx := Hx.stay BB
        replace Hy := Hy.stay BB
        replace BW := belowOn BW BB
        clear b BB
        clear CV g3'
        have CLO := implIsLocal_any (.slice ab bb.Rows.length cb) bb w16 Hb.rd
        rw [HBB.out] at CLO
        cases hl : localOk bb with
        | false =>
          rw [hl] at CLO
          clear hB2 hl
          obtain ⟨⟨bq0, bq1, bq2, bq3⟩, -⟩ := id Hb
          have bqL := Hb.lt
          go_wp2_with fail
          refine (CLO).mono ?_
          rintro e w17 ⟨rfl, b⟩
          clear bq0 bq1 bqL bq2 bq3
          have BB := b
          replace Hb := Hb.stay BB
          replace Hp := Hp.stay BB
          replace Hq := Hq.stay BB
          replace Hx := Hx.stay BB
          replace Hy := Hy.stay BB
          replace BW := belowOn BW BB
          clear b BB
          clear CLO
          have r1 : IntKind.i64.wrap (2 * bb.Whole) = 2 * bb.Whole := wrapC64 _ (by omega) (by omega)
          have r2 : IntKind.i64.wrap (4 * bb.Whole) = 4 * bb.Whole := wrapC64 _ (by omega) (by omega)
          have r3 : ¬ 4 * bb.Whole < greatD bb := by omega
          obtain ⟨ok, hok⟩ : ∃ f, sumOk bb f0 f1 s0 s1 m = f := ⟨_, rfl⟩
          rw [hok]
          obtain ⟨⟨bq0, bq1, bq2, bq3⟩, -⟩ := id Hb
          cases ok with
          | false =>
            go_wp2
            go_ret
            exact ⟨rfl, BW⟩
          | true =>
            clear bq0 bq1 bq2 bq3
            obtain ⟨_, h1, h2, h3, h4⟩ := fs_sum hok
            have hmb : -1000000 ≤ sumD bb f0 f1 s0 s1 m ∧ sumD bb f0 f1 s0 s1 m ≤ 1000000 := by have := absI_cases (sumD bb f0 f1 s0 s1 m); omega
            have CF := implSumFunctional_any bb.X bb.Y f0 f1 s0 s1 m w17
            rw [h2] at CF
            clear hok h2
            obtain ⟨⟨eq0, eq1, eq2, eq3⟩, -⟩ := id Hb
            obtain ⟨⟨bq0, bq1, bq2, bq3⟩, -⟩ := id Hb
            have bqL := Hb.lt
            obtain ⟨pq0, pq1, -⟩ := Hp.cells
            have pqL := Hp.lt
            obtain ⟨qq0, qq1, -⟩ := Hq.cells
            have qqL := Hq.lt
            go_wp2_with fail
            refine (CF).mono ?_
            rintro e w18 ⟨ae, ce, ve, rfl, oe, b⟩
            clear bq0 bq1 bqL bq2 bq3
            clear pq0 pq1 pqL
            clear qq0 qq1 qqL
            have BB := b
            replace Hb := Hb.stay BB
            replace Hp := Hp.stay BB
            replace Hq := Hq.stay BB
            replace Hx := Hx.stay BB
            replace Hy := Hy.stay BB
            replace BW := belowOn BW BB
            clear b BB
            have Ie := oe.rdII
            clear oe CF eq0 eq1 eq2 eq3
            have CW := implWorthOf_any (.slice ae (sumFD bb.X bb.Y f0 f1 s0 s1 m).length ce) (sumFD bb.X bb.Y f0 f1 s0 s1 m) (.slice ab bb.Rows.length cb) bb w18 Ie Hb.rd
            rw [h3, h4] at CW
            clear h3 h4
            obtain ⟨⟨bq0, bq1, bq2, bq3⟩, -⟩ := id Hb
            have bqL := Hb.lt
            go_wp2_with fail
            refine (CW).mono ?_
            rintro e w19 ⟨rfl, b⟩
            clear bq0 bq1 bqL bq2 bq3
            have BB := b
            replace Hb := Hb.stay BB
            replace Hp := Hp.stay BB
            replace Hq := Hq.stay BB
            replace Hx := Hx.stay BB
            replace Hy := Hy.stay BB
            replace Ie := Ie.stay BB
            replace BW := belowOn BW BB
            clear b BB
            have CV := vSize_abs (sumD bb f0 f1 s0 s1 m) w19 hmb
            clear CW
            generalize absI (sumD bb f0 f1 s0 s1 m) = z at *
            generalize sumD bb f0 f1 s0 s1 m = sd at *
            have h5 : (sd == sd) = true := by simp
            go_wp2_with fail
            refine (CV).mono ?_
            rintro e w20 ⟨rfl, b⟩
            have BB := b
            replace Hb := Hb.stay BB
            replace Hp := Hp.stay BB
            replace Hq := Hq.stay BB
            replace Hx := Hx.stay BB
            replace Hy := Hy.stay BB
            replace Ie := Ie.stay BB
            replace BW := belowOn BW BB
            clear b BB
            go_wp2
            go_ret
            exact ⟨rfl, BW⟩
        | true =>
          have hB2' := hB2 hl
          rw [hl] at CLO
          clear hB2 hl
          have r4 : ¬ 2 * bb.Whole < greatD bb := by omega
          obtain ⟨⟨bq0, bq1, bq2, bq3⟩, -⟩ := id Hb
          have bqL := Hb.lt
          go_wp2_with fail
          refine (CLO).mono ?_
          rintro e w17 ⟨rfl, b⟩
          clear bq0 bq1 bqL bq2 bq3
          have BB := b
          replace Hb := Hb.stay BB
          replace Hp := Hp.stay BB
          replace Hq := Hq.stay BB
          replace Hx := Hx.stay BB
          replace Hy := Hy.stay BB
          replace BW := belowOn BW BB
          clear b BB
          clear CLO
          have r1 : IntKind.i64.wrap (2 * bb.Whole) = 2 * bb.Whole := wrapC64 _ (by omega) (by omega)
          have r2 : IntKind.i64.wrap (4 * bb.Whole) = 4 * bb.Whole := wrapC64 _ (by omega) (by omega)
          have r3 : ¬ 4 * bb.Whole < greatD bb := by omega
          obtain ⟨ok, hok⟩ : ∃ f, sumOk bb f0 f1 s0 s1 m = f := ⟨_, rfl⟩
          rw [hok]
          obtain ⟨⟨bq0, bq1, bq2, bq3⟩, -⟩ := id Hb
          cases ok with
          | false =>
            go_wp2
            go_ret
            exact ⟨rfl, BW⟩
          | true =>
            clear bq0 bq1 bq2 bq3
            obtain ⟨_, h1, h2, h3, h4⟩ := fs_sum hok
            have hmb : -1000000 ≤ sumD bb f0 f1 s0 s1 m ∧ sumD bb f0 f1 s0 s1 m ≤ 1000000 := by have := absI_cases (sumD bb f0 f1 s0 s1 m); omega
            have CF := implSumFunctional_any bb.X bb.Y f0 f1 s0 s1 m w17
            rw [h2] at CF
            clear hok h2
            obtain ⟨⟨eq0, eq1, eq2, eq3⟩, -⟩ := id Hb
            obtain ⟨⟨bq0, bq1, bq2, bq3⟩, -⟩ := id Hb
            have bqL := Hb.lt
            obtain ⟨pq0, pq1, -⟩ := Hp.cells
            have pqL := Hp.lt
            obtain ⟨qq0, qq1, -⟩ := Hq.cells
            have qqL := Hq.lt
            go_wp2_with fail
            refine (CF).mono ?_
            rintro e w18 ⟨ae, ce, ve, rfl, oe, b⟩
            clear bq0 bq1 bqL bq2 bq3
            clear pq0 pq1 pqL
            clear qq0 qq1 qqL
            have BB := b
            replace Hb := Hb.stay BB
            replace Hp := Hp.stay BB
            replace Hq := Hq.stay BB
            replace Hx := Hx.stay BB
            replace Hy := Hy.stay BB
            replace BW := belowOn BW BB
            clear b BB
            have Ie := oe.rdII
            clear oe CF eq0 eq1 eq2 eq3
            have CW := implWorthOf_any (.slice ae (sumFD bb.X bb.Y f0 f1 s0 s1 m).length ce) (sumFD bb.X bb.Y f0 f1 s0 s1 m) (.slice ab bb.Rows.length cb) bb w18 Ie Hb.rd
            rw [h3, h4] at CW
            clear h3 h4
            obtain ⟨⟨bq0, bq1, bq2, bq3⟩, -⟩ := id Hb
            have bqL := Hb.lt
            go_wp2_with fail
            refine (CW).mono ?_
            rintro e w19 ⟨rfl, b⟩
            clear bq0 bq1 bqL bq2 bq3
            have BB := b
            replace Hb := Hb.stay BB
            replace Hp := Hp.stay BB
            replace Hq := Hq.stay BB
            replace Hx := Hx.stay BB
            replace Hy := Hy.stay BB
            replace Ie := Ie.stay BB
            replace BW := belowOn BW BB
            clear b BB
            have CV := vSize_abs (sumD bb f0 f1 s0 s1 m) w19 hmb
            clear CW
            generalize absI (sumD bb f0 f1 s0 s1 m) = z at *
            generalize sumD bb f0 f1 s0 s1 m = sd at *
            have h5 : (sd == sd) = true := by simp
            go_wp2_with fail
            refine (CV).mono ?_
            rintro e w20 ⟨rfl, b⟩
            have BB := b
            replace Hb := Hb.stay BB
            replace Hp := Hp.stay BB
            replace Hq := Hq.stay BB
            replace Hx := Hx.stay BB
            replace Hy := Hy.stay BB
            replace Ie := Ie.stay BB
            replace BW := belowOn BW BB
            clear b BB
            go_wp2
            go_ret
            exact ⟨rfl, BW⟩

/-! ### The row -/
set_option maxRecDepth 100000 in
theorem fnSums_lifted (os : Os) (started : os.Started) (H : Type) (enc : TypeId × Value → H) :
    ReturnsInHanded {} Try.checked os 4 .any (Rows.fnSumsSpec.pre6 enc Try.prog Try.f4 Rows.fnSumsRow.domain false) (Rows.fnSumsSpec.post enc Try.prog Try.f4 false true false false) := by
  refine returnsInHanded_of_change (C := Try.checked) Try.own started (by kernel_rfl) Try.func4
    (ChangeSpec.witness6 (enc := enc) (C := Try.checked) false ⟨#[], #[.slice none 0 0], []⟩ 8 (by kernel_rfl) (by kernel_rfl) (by kernel_rfl) (by kernel_rfl)) ?_
  intro W base args ds gs before hval0 hW hcnd _
  have hval : ∀ (j : Nat) t v, Try.f4.params[j]? = some t → args[j]? = some v → Value.okWide Try.prog W .any base t v := hval0
  have hW' := hW
  obtain ⟨p, q, hA0, hV, rfl, hfz, hnd⟩ := hW
  have hA : DataW.TrodAll enc Try.prog W 0 (fun _ => true) true Try.f4.params.toList args.toList ds p := hA0
  rw [Try.params4] at hA hval
  obtain ⟨v0, vs0, d0, ds0, p0, q0, hargs, rfl, rfl, h0, r0⟩ := trodAll_cons hA
  obtain ⟨rfl, rfl, rfl⟩ := trodAll_nil r0
  obtain rfl : args = #[v0] := by cases args; simp_all
  obtain ⟨aa0, n0, ca0, rfl, hm0, hx0⟩ := code_of Try.underlying22 Try.underlying5 Try.cellsByte (hval 0 22 v0 rfl rfl) h0
  clear hA0 hval0
  refine (fnSums_walk aa0 n0 ca0 W hm0 hx0).mono fun e W' ⟨he, hb⟩ => ?_
  subst he
  exact ⟨_, rfl, law_post Try.laidOut (by kernel_rfl) rfl Try.underlying4 rfl (fun ds hd => by match ds, hd with | [e0], _ => rfl) hW' hb⟩

theorem fnSums_holds : Rows.FnSumsSaid :=
  OpenClaim.holds_of_wide 4 Try.f4 rfl rfl rfl rfl rfl rfl rfl ⟨rfl, rfl, rfl, rfl, rfl⟩ rfl rfl rfl rfl rfl (by kernel_rfl) Try.func4 (by kernel_rfl)
    (of_decide_eq_true (by kernel_rfl)) (by unfold Func.isWrapper; first | (rw [if_pos (by decide +kernel)]; kernel_rfl) | (rw [if_neg (by decide +kernel)]; exact ⟨rfl, rfl⟩))
    (fun os started H enc _ => fnSums_lifted os started H enc)

end Go.Proofs.Ytnmnmnpeoiblhaa
