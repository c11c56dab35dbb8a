/- FnQuietBoxes: the law answers true for all arguments; the listed tables are as the program's text lays them (a tied card). -/
import Derived.Test.YtcifpfdlkpddeaaGreatDoorQxaj
import Derived.Test.YtcifpfdlkpddeaaGreatDoorQxar
import Derived.Test.YtcifpfdlkpddeaaGreatDoorQxbc
import Derived.Test.YtcifpfdlkpddeaaGreatDoorQxbd
import Derived.Test.YtcifpfdlkpddeaaGreatDoorQxbm
import Derived.Test.YtcifpfdlkpddeaaGreatDoorQxbn
import Derived.Test.YtcifpfdlkpddeaaGreatDoorQxas
import Derived.Test.YtcifpfdlkpddeaaGreatDoorQxat
import Derived.Test.YtcifpfdlkpddeaaGreatDoorQxau
import Derived.Test.YtcifpfdlkpddeaaGreatDoorQxaw
import Derived.Test.YtcifpfdlkpddeaaGreatDoorQxan
import Derived.Test.YtcifpfdlkpddeaaGreatDoorQxbq
import Derived.Test.YtcifpfdlkpddeaaGreatDoorQxay
import Derived.Test.YtcifpfdlkpddeaaGreatDoorQxaz
import Derived.Test.YtcifpfdlkpddeaaGreatDoorQxax
import Derived.Test.YtcifpfdlkpddeaaGreatDoorQxag
import Derived.Test.YtcifpfdlkpddeaaGreatDoorQxbb
import Derived.Deep.Cut
import Derived.Lay
set_option linter.unusedSimpArgs false
set_option linter.unusedVariables false
namespace Go.Proofs.YtcifpfdlkpddeaaGreatDoor
open Go.ChangeShapes Go.WideShapes Go.ChangeAt Go.RowKit
open Go.ChangeMaps (open_string shut_string)

theorem qbImplIsPlay (v : Value) (xs : List Int) (x y : Int) (w : World) (h : RdI w v xs) :
    Calls Tryz.prog 31 #[.int .i64 x, .int .i64 y, v] w fun e w' => e = .returned (.tuple #[.bool (sizesB x y && bitsB xs (x + y)), .bool (sizesB x y)]) ∧ Below w.heap.size w w' :=
  (implIsPlay_any v xs x y w h).mono fun e w' ⟨h, k⟩ => ⟨h, by rw [← k]; exact Below.refl _ _⟩
theorem qbSpecIsPlay (v : Value) (xs : List Int) (x y : Int) (w : World) (h : RdI w v xs) :
    Calls Tryz.prog 32 #[.int .i64 x, .int .i64 y, v] w fun e w' => e = .returned (.tuple #[.bool (sizesB x y && bitsB xs (x + y)), .bool (sizesB x y)]) ∧ Below w.heap.size w w' :=
  (specIsPlay_any v xs x y w h).mono fun e w' ⟨h, k⟩ => ⟨h, by rw [← k]; exact Below.refl _ _⟩

set_option maxRecDepth 20000 in
set_option maxHeartbeats 16000000 in
theorem fnQuietBoxes_walk (a : Option Addr) (n cap : Nat) (w : World) (hn : n ≤ maxLen) (h : n ≤ 65536 → RdB w (.slice a n cap) n) (ht : Tab w) (hE : ErrS w) (hmx : Max w) :
    Calls Tryz.prog 3 #[.slice a n cap] w fun e w' => e = .returned (.bool true) ∧ Below w.heap.size w w' := by
  by_cases hbig : (65536 : Int) < (n : Int)
  · have CB := rBig_any a n cap w hn
    have hd : decide ((65536 : Int) < (n : Int)) = true := decide_eq_true hbig
    rw [hd] at CB
    go_enter Tryz.func3, Tryz.ntmps3
    go_wp2_with (go_at_call 4; refine CB.mono ?_; rintro e w' ⟨rfl, rfl⟩)
    go_ret
    exact ⟨rfl, Below.refl _ _⟩
  have Icode := h (by omega)
  have HT := Lib.hid ht
  have HE := Lib.hid hE
  have HM := Lib.hid hmx
  have CB := rBig_any a n cap w hn
  have hd : decide ((65536 : Int) < (n : Int)) = false := decide_eq_false hbig
  rw [hd] at CB
  have BW := Below.refl w.heap.size w
  clear h hd hbig hn ht hE hmx
  go_enter Tryz.func3, Tryz.ntmps3
  go_wp2_with fail
  refine CB.mono ?_
  rintro e w0 ⟨rfl, rfl⟩
  clear CB
  go_wp2_with fail
  refine (drawFirstLoud_any (.slice a n cap) n w Icode).mono ?_
  rintro e w1 ⟨bb, ab, cb, vb, rfl, ob, b⟩
  have BB := b
  replace Icode := Icode.stay BB
  replace BW := belowOn BW BB
  clear b BB
  have rb := ob.rdII
  clear ob
  obtain ⟨B, hB⟩ : ∃ f, boxB bb = f := ⟨_, rfl⟩
  obtain ⟨Q, hQ⟩ : ∃ f, isQuietD bb = f := ⟨_, rfl⟩
  obtain ⟨L, hL⟩ : ∃ f, (firstD bb).2.2 = f := ⟨_, rfl⟩
  obtain ⟨K, hK⟩ : ∃ f, countsOk bb = f := ⟨_, rfl⟩
  have hLQ : L = (B && !Q) := by rw [← hL, ← hB, ← hQ]; exact qb_loud bb
  have hKQ : K = (B && Q) := by rw [← hK, ← hB, ← hQ]; exact qb_counts bb
  have CF := fun W (hh : RdII W (.slice ab bb.Rows.length cb) bb.Rows) => implFirstLoud_any _ bb W hh
  have CG := fun W (hh : RdII W (.slice ab bb.Rows.length cb) bb.Rows) => specFirstLoud_any _ bb W hh
  have CQ := fun W (hh : RdII W (.slice ab bb.Rows.length cb) bb.Rows) => implIsQuiet_any _ bb W hh
  have CR := fun W (hh : RdII W (.slice ab bb.Rows.length cb) bb.Rows) => specIsQuiet_any _ bb W hh
  have CI := fun W (hh : RdII W (.slice ab bb.Rows.length cb) bb.Rows) => implIsBox_any _ bb W hh
  have CC := fun W (hh : RdII W (.slice ab bb.Rows.length cb) bb.Rows) => implAnswerCounts_any _ bb W hh
  have CD := fun W (hh : RdII W (.slice ab bb.Rows.length cb) bb.Rows) => specAnswerCounts_any _ bb W hh
  have CT := fun W (hh : RdII W (.slice ab bb.Rows.length cb) bb.Rows) (h1 : Tab W) => implBoxText_any _ bb W hh h1
  have CU := fun W (hh : RdII W (.slice ab bb.Rows.length cb) bb.Rows) => specBoxText_any _ bb W hh
  rw [hL] at CF CG
  rw [hQ, hB] at CQ CR
  rw [hB] at CI CT CU
  rw [hK] at CC CD
  have HB := Lib.hid hB
  clear hB hQ hL hK
  replace CF := Lib.hid CF
  replace CG := Lib.hid CG
  replace CQ := Lib.hid CQ
  replace CR := Lib.hid CR
  replace CI := Lib.hid CI
  replace CC := Lib.hid CC
  replace CD := Lib.hid CD
  replace CT := Lib.hid CT
  replace CU := Lib.hid CU
  replace hLQ := Lib.hid hLQ
  replace hKQ := Lib.hid hKQ
  have bp0 := below_alloc w1 (.cells #[.int .i64 (bb).X, .int .i64 (bb).Y, .int .i64 (bb).Whole, .slice ab (bb).Rows.length cb] 26)
  have bp := bp0
  have Hb : BoxIn (w1.alloc (.cells #[.int .i64 (bb).X, .int .i64 (bb).Y, .int .i64 (bb).Whole, .slice ab (bb).Rows.length cb] 26)) (w1.heap.size) (bb) ab cb := ⟨BoxAt.top (by simp only [World.size_alloc]), rb.stay bp0⟩
  replace Icode := Icode.stay bp
  replace BW := belowOn BW bp
  clear bp bp0
  go_wp2_with fail
  refine (CF.out (w1.alloc (.cells #[.int .i64 (bb).X, .int .i64 (bb).Y, .int .i64 (bb).Whole, .slice ab (bb).Rows.length cb] 26)) Hb.rd).mono ?_
  rintro e w2 ⟨rfl, b⟩
  have BB := b
  replace Icode := Icode.stay BB
  replace Hb := Hb.stay BB
  replace BW := belowOn BW BB
  clear b BB
  clear rb
  obtain ⟨⟨bq0, bq1, bq2, bq3⟩, -⟩ := id Hb
  have bqL := Hb.lt
  go_wp2_with fail
  refine (CG.out w2 Hb.rd).mono ?_
  rintro e w3 ⟨rfl, b⟩
  clear bq0 bq1 bqL bq2 bq3
  have BB := b
  replace Icode := Icode.stay BB
  replace Hb := Hb.stay BB
  replace BW := belowOn BW BB
  clear b BB
  obtain ⟨⟨bq0, bq1, bq2, bq3⟩, -⟩ := id Hb
  have bqL := Hb.lt
  have g1 : ((firstD bb).1 != (firstD bb).1) = false := by simp
  have g2 : ((firstD bb).2.1 != (firstD bb).2.1) = false := by simp
  have g3 : (L != L) = false := by simp
  go_wp2_with fail
  refine (CQ.out w3 Hb.rd).mono ?_
  rintro e w4 ⟨rfl, b⟩
  clear bq0 bq1 bqL bq2 bq3
  have BB := b
  replace Icode := Icode.stay BB
  replace Hb := Hb.stay BB
  replace BW := belowOn BW BB
  clear b BB
  clear g1 g2 g3
  obtain ⟨⟨bq0, bq1, bq2, bq3⟩, -⟩ := id Hb
  have bqL := Hb.lt
  go_wp2_with fail
  refine (CR.out w4 Hb.rd).mono ?_
  rintro e w5 ⟨rfl, b⟩
  clear bq0 bq1 bqL bq2 bq3
  have BB := b
  replace Icode := Icode.stay BB
  replace Hb := Hb.stay BB
  replace BW := belowOn BW BB
  clear b BB
  go_upto_region 10 with fail
  go_cut [6, 9, 10, 11, 12, 13, 70, 72, 75, 76, 78, 81, 95, 97, 98, 99, 100, 102, 103, 104, 127] from 400 (fun _ _ s10 s11 _ _ _ _ _ _ _ _ _ _ _ _ _ _ _ _ s127 wx => s10 = .bool Q ∧ s11 = .bool B ∧ s127 = .bool false ∧ Below w5.heap.size w5 wx)
  case first =>
    clear BW
    have BW := Below.refl w5.heap.size w5
    have CJ := CI.out w5 Hb.rd
    have hl := hLQ.out
    obtain ⟨⟨bq0, bq1, bq2, bq3⟩, -⟩ := id Hb
    clear hKQ HB CF CG CQ CR CI CC CD CT CU hLQ Icode Hb
    have z := BW
    cases B <;> cases Q <;> (simp only [Bool.and_self, Bool.not_true, Bool.not_false, Bool.and_true, Bool.and_false, Bool.true_and, Bool.false_and] at hl; subst hl)
    all_goals
      go_wp2_with (go_at_call 10; refine CJ.mono ?_; rintro e w' ⟨rfl, b⟩)
      go_meet
      exact ⟨rfl, rfl, rfl, b⟩
  case rest =>
    obtain ⟨w6, rfl⟩ : ∃ W : World, W = wc := ⟨_, rfl⟩
    obtain ⟨rfl, rfl, rfl, BB⟩ := hcut
    replace Icode := Icode.stay BB
    replace Hb := Hb.stay BB
    replace BW := belowOn BW BB
    clear BB
    clear hLQ CF CG CQ CR CI
    obtain ⟨⟨bq0, bq1, bq2, bq3⟩, -⟩ := id Hb
    have bqL := Hb.lt
    go_wp2_with fail
    refine (CC.out w6 Hb.rd).mono ?_
    rintro e w7 ⟨ac, cc, rfl, oc, b⟩
    clear bq0 bq1 bqL bq2 bq3
    have BB := b
    replace Icode := Icode.stay BB
    replace Hb := Hb.stay BB
    replace BW := belowOn BW BB
    clear b BB
    have Ic := oc.rdI
    clear oc
    obtain ⟨⟨bq0, bq1, bq2, bq3⟩, -⟩ := id Hb
    have bqL := Hb.lt
    go_wp2_with fail
    refine (CD.out w7 Hb.rd).mono ?_
    rintro e w8 ⟨ad, cd, rfl, od, b⟩
    clear bq0 bq1 bqL bq2 bq3
    have BB := b
    replace Icode := Icode.stay BB
    replace Hb := Hb.stay BB
    replace Ic := Ic.stay BB
    replace BW := belowOn BW BB
    clear b BB
    have Id := od.rdI
    clear od
    clear CC CD
    go_upto_region 14 with fail
    go_cut [10, 11, 15, 17, 128, 130, 132, 133, 135, 137, 154] from 400 (fun _ s11 _ _ _ _ _ _ _ _ s154 wx => s11 = .bool B ∧ s154 = .bool false ∧ Below w8.heap.size w8 wx)
    case first =>
      clear BW
      have BW := Below.refl w8.heap.size w8
      have CJ := rInts_same _ _ (countsD bb) w8 Ic Id
      have hl := hKQ.out
      clear hKQ HB CT CU Icode Hb Ic Id
      have z := BW
      cases B <;> cases Q <;> (simp only [Bool.and_self, Bool.not_true, Bool.not_false, Bool.and_true, Bool.and_false, Bool.true_and, Bool.false_and] at hl; subst hl)
      all_goals
        go_wp2_with (go_at_call 13; refine CJ.mono ?_; rintro e w' ⟨rfl, b⟩)
        go_meet
        exact ⟨rfl, rfl, b⟩
    case rest =>
      obtain ⟨w9, rfl⟩ : ∃ W : World, W = wc := ⟨_, rfl⟩
      obtain ⟨rfl, rfl, BB⟩ := hcut
      replace Icode := Icode.stay BB
      replace Hb := Hb.stay BB
      replace Ic := Ic.stay BB
      replace Id := Id.stay BB
      replace BW := belowOn BW BB
      clear BB
      clear Ic
      clear Id
      clear hKQ
      obtain ⟨⟨bq0, bq1, bq2, bq3⟩, -⟩ := id Hb
      have bqL := Hb.lt
      go_wp2_with fail
      refine (CT.out w9 Hb.rd (HT.out.stays BW)).mono ?_
      rintro e w10 ⟨rfl, b⟩
      clear bq0 bq1 bqL bq2 bq3
      have BB := b
      replace Icode := Icode.stay BB
      replace Hb := Hb.stay BB
      replace BW := belowOn BW BB
      clear b BB
      obtain ⟨⟨bq0, bq1, bq2, bq3⟩, -⟩ := id Hb
      have bqL := Hb.lt
      go_wp2_with fail
      refine (CU.out w10 Hb.rd).mono ?_
      rintro e w11 ⟨rfl, b⟩
      clear bq0 bq1 bqL bq2 bq3
      have BB := b
      replace Icode := Icode.stay BB
      replace Hb := Hb.stay BB
      replace BW := belowOn BW BB
      clear b BB
      clear CT CU
      have g1 : ((txtR bb) != (txtR bb)) = false := by cases txtR bb with | mk d => show (!(d == d)) = false; simp
      have g2 : (B != B) = false := by simp
      go_upto_if 178 with fail
      clear g1 g2
      have BW0 := BW
      go_cut [11, 19, 21, 155, 157, 159, 160, 162, 164, 169, 170, 174, 175, 178] from 400 (fun _ _ _ _ _ _ _ _ _ _ _ _ _ _ wx => Below w11.heap.size w11 wx)
      case first =>
        clear BW
        have BW := Below.refl w11.heap.size w11
        cases B with
        | false =>
          go_wp2
          go_meet
          exact BW
        | true =>
          obtain ⟨h1, h2⟩ := qb_text HB.out
          have h3 := txtR_ok HB.out
          have h4 := boxW_join HB.out (boxW bb).length
          rw [List.take_length] at h4
          have h5 : (txtR bb).size ≤ 1048576 := by rw [h3]; show (joinB 32 (boxW bb)).size ≤ 1048576; omega
          clear h4
          have CP := implParseBox_any (txtR bb) w11 h5 (HT.out.stays BW0) (HE.out.stays BW0) (HM.out.stays BW0)
          rw [h3, h1, h2, ← h3] at CP
          clear h1 h2 h3 h5
          go_wp2_with fail
          refine (CP).mono ?_
          rintro e w12 ⟨ay, cy, vy, rfl, oy, b⟩
          have BB := b
          replace Icode := Icode.stay BB
          replace Hb := Hb.stay BB
          replace BW := belowOn BW BB
          clear b BB
          have ry := oy.rdII
          clear oy
          clear CP
          obtain ⟨⟨bq0, bq1, bq2, bq3⟩, -⟩ := id Hb
          have bqL := Hb.lt
          have bp0 := below_alloc w12 (.cells #[.int .i64 (bb).X, .int .i64 (bb).Y, .int .i64 (bb).Whole, .slice ay (bb).Rows.length cy] 26)
          have bp := bp0
          have Hy : BoxIn (w12.alloc (.cells #[.int .i64 (bb).X, .int .i64 (bb).Y, .int .i64 (bb).Whole, .slice ay (bb).Rows.length cy] 26)) (w12.heap.size) (bb) ay cy := ⟨BoxAt.top (by simp only [World.size_alloc]), ry.stay bp0⟩
          replace Icode := Icode.stay bp
          replace Hb := Hb.stay bp
          replace BW := belowOn BW bp
          clear bp bp0
          go_wp2_with fail
          refine (rBox_same _ _ bb (w12.alloc (.cells #[.int .i64 (bb).X, .int .i64 (bb).Y, .int .i64 (bb).Whole, .slice ay (bb).Rows.length cy] 26)) Hy.rd Hb.rd).mono ?_
          rintro e w13 ⟨rfl, b⟩
          clear bq0 bq1 bqL bq2 bq3
          have BB := b
          replace Icode := Icode.stay BB
          replace Hb := Hb.stay BB
          replace Hy := Hy.stay BB
          replace BW := belowOn BW BB
          clear b BB
          go_wp2
          go_meet
          exact BW
      case rest =>
        obtain ⟨w14, rfl⟩ : ∃ W : World, W = wc := ⟨_, rfl⟩
        have BB := hcut
        clear hcut
        replace Icode := Icode.stay BB
        replace Hb := Hb.stay BB
        replace BW := belowOn BW BB
        clear BB
        clear BW0 HB
        clear Hb
        go_wp2_with fail
        refine (drawParseBox_any (.slice a n cap) n w14 Icode).mono ?_
        rintro e w15 ⟨s, rfl, hs, b⟩
        have BB := b
        replace Icode := Icode.stay BB
        replace BW := belowOn BW BB
        clear b BB
        go_wp2_with fail
        refine (implParseBox_any s w15 hs (HT.out.stays BW) (HE.out.stays BW) (HM.out.stays BW)).mono ?_
        rintro e w16 ⟨ap, cp, vp, rfl, op, b⟩
        have BB := b
        replace Icode := Icode.stay BB
        replace BW := belowOn BW BB
        clear b BB
        have rp := op.rdII
        clear op
        have bp0 := below_alloc w16 (.cells #[.int .i64 (parseD s).X, .int .i64 (parseD s).Y, .int .i64 (parseD s).Whole, .slice ap (parseD s).Rows.length cp] 26)
        have bp := bp0
        have Hp : BoxIn (w16.alloc (.cells #[.int .i64 (parseD s).X, .int .i64 (parseD s).Y, .int .i64 (parseD s).Whole, .slice ap (parseD s).Rows.length cp] 26)) (w16.heap.size) (parseD s) ap cp := ⟨BoxAt.top (by simp only [World.size_alloc]), rp.stay bp0⟩
        replace Icode := Icode.stay bp
        replace BW := belowOn BW bp
        clear bp bp0
        go_wp2_with fail
        refine (specParseBox_any s (w16.alloc (.cells #[.int .i64 (parseD s).X, .int .i64 (parseD s).Y, .int .i64 (parseD s).Whole, .slice ap (parseD s).Rows.length cp] 26)) hs).mono ?_
        rintro e w17 ⟨aq, cq, vq, rfl, oq, b⟩
        have BB := b
        replace Icode := Icode.stay BB
        replace Hp := Hp.stay BB
        replace BW := belowOn BW BB
        clear b BB
        have rq := oq.rdII
        clear oq
        clear rp
        obtain ⟨⟨pq0, pq1, pq2, pq3⟩, -⟩ := id Hp
        have pqL := Hp.lt
        have bp0 := below_alloc w17 (.cells #[.int .i64 (parseD s).X, .int .i64 (parseD s).Y, .int .i64 (parseD s).Whole, .slice aq (parseD s).Rows.length cq] 26)
        have bp := bp0
        have Hq : BoxIn (w17.alloc (.cells #[.int .i64 (parseD s).X, .int .i64 (parseD s).Y, .int .i64 (parseD s).Whole, .slice aq (parseD s).Rows.length cq] 26)) (w17.heap.size) (parseD s) aq cq := ⟨BoxAt.top (by simp only [World.size_alloc]), rq.stay bp0⟩
        replace Icode := Icode.stay bp
        replace Hp := Hp.stay bp
        replace BW := belowOn BW bp
        clear bp bp0
        have g1 : ((parseOk s) != (parseOk s)) = false := by simp
        go_wp2_with fail
        refine (rBox_same _ _ (parseD s) (w17.alloc (.cells #[.int .i64 (parseD s).X, .int .i64 (parseD s).Y, .int .i64 (parseD s).Whole, .slice aq (parseD s).Rows.length cq] 26)) Hp.rd Hq.rd).mono ?_
        rintro e w18 ⟨rfl, b⟩
        clear pq0 pq1 pqL pq2 pq3
        have BB := b
        replace Icode := Icode.stay BB
        replace Hp := Hp.stay BB
        replace Hq := Hq.stay BB
        replace BW := belowOn BW BB
        clear b BB
        clear Hp
        clear Hq
        clear g1 rq hs HT HE HM
        go_wp2_with fail
        refine (drawPlayBox_any (.slice a n cap) n w18 Icode).mono ?_
        rintro e w19 ⟨x, y, ps, ag, cg, m, rfl, Ig, b⟩
        have BB := b
        replace Icode := Icode.stay BB
        replace BW := belowOn BW BB
        clear b BB
        go_wp2_with fail
        refine (implPlayBox_any x y _ ps m w19 Ig).mono ?_
        rintro e w20 ⟨af, cf, vf, rfl, of, b⟩
        have BB := b
        replace Icode := Icode.stay BB
        replace Ig := Ig.stay BB
        replace BW := belowOn BW BB
        clear b BB
        have rf := of.rdII
        clear of
        have bp0 := below_alloc w20 (.cells #[.int .i64 (playBoxD x y ps m).X, .int .i64 (playBoxD x y ps m).Y, .int .i64 (playBoxD x y ps m).Whole, .slice af (playBoxD x y ps m).Rows.length cf] 26)
        have bp := bp0
        have Hf : BoxIn (w20.alloc (.cells #[.int .i64 (playBoxD x y ps m).X, .int .i64 (playBoxD x y ps m).Y, .int .i64 (playBoxD x y ps m).Whole, .slice af (playBoxD x y ps m).Rows.length cf] 26)) (w20.heap.size) (playBoxD x y ps m) af cf := ⟨BoxAt.top (by simp only [World.size_alloc]), rf.stay bp0⟩
        replace Icode := Icode.stay bp
        replace Ig := Ig.stay bp
        replace BW := belowOn BW bp
        clear bp bp0
        go_wp2_with fail
        refine (specPlayBox_any x y _ ps m (w20.alloc (.cells #[.int .i64 (playBoxD x y ps m).X, .int .i64 (playBoxD x y ps m).Y, .int .i64 (playBoxD x y ps m).Whole, .slice af (playBoxD x y ps m).Rows.length cf] 26)) Ig).mono ?_
        rintro e w21 ⟨aq, cq, vq, rfl, oq, b⟩
        have BB := b
        replace Icode := Icode.stay BB
        replace Ig := Ig.stay BB
        replace Hf := Hf.stay BB
        replace BW := belowOn BW BB
        clear b BB
        have rq := oq.rdII
        clear oq
        clear rf
        obtain ⟨⟨fq0, fq1, fq2, fq3⟩, -⟩ := id Hf
        have fqL := Hf.lt
        have bp0 := below_alloc w21 (.cells #[.int .i64 (playBoxD x y ps m).X, .int .i64 (playBoxD x y ps m).Y, .int .i64 (playBoxD x y ps m).Whole, .slice aq (playBoxD x y ps m).Rows.length cq] 26)
        have bp := bp0
        have Hq : BoxIn (w21.alloc (.cells #[.int .i64 (playBoxD x y ps m).X, .int .i64 (playBoxD x y ps m).Y, .int .i64 (playBoxD x y ps m).Whole, .slice aq (playBoxD x y ps m).Rows.length cq] 26)) (w21.heap.size) (playBoxD x y ps m) aq cq := ⟨BoxAt.top (by simp only [World.size_alloc]), rq.stay bp0⟩
        replace Icode := Icode.stay bp
        replace Ig := Ig.stay bp
        replace Hf := Hf.stay bp
        replace BW := belowOn BW bp
        clear bp bp0
        have g1 : ((playOk x y ps m) != (playOk x y ps m)) = false := by simp
        go_wp2_with fail
        refine (rBox_same _ _ (playBoxD x y ps m) (w21.alloc (.cells #[.int .i64 (playBoxD x y ps m).X, .int .i64 (playBoxD x y ps m).Y, .int .i64 (playBoxD x y ps m).Whole, .slice aq (playBoxD x y ps m).Rows.length cq] 26)) Hf.rd Hq.rd).mono ?_
        rintro e w22 ⟨rfl, b⟩
        clear fq0 fq1 fqL fq2 fq3
        have BB := b
        replace Icode := Icode.stay BB
        replace Ig := Ig.stay BB
        replace Hf := Hf.stay BB
        replace Hq := Hq.stay BB
        replace BW := belowOn BW BB
        clear b BB
        clear Hq
        clear g1 rq
        go_wp2_with fail
        refine (drawProductBox_any (.slice a n cap) n w22 Icode).mono ?_
        rintro e w23 ⟨xs, ys, mm, a1, a2, c1, c2, rfl, I1, I2, b⟩
        have BB := b
        replace Icode := Icode.stay BB
        replace Ig := Ig.stay BB
        replace Hf := Hf.stay BB
        replace BW := belowOn BW BB
        clear b BB
        go_wp2_with fail
        refine (implProductBox_any _ xs _ ys mm w23 I1 I2).mono ?_
        rintro e w24 ⟨ah, ch, vh, rfl, oh, b⟩
        have BB := b
        replace Icode := Icode.stay BB
        replace Ig := Ig.stay BB
        replace Hf := Hf.stay BB
        replace I1 := I1.stay BB
        replace I2 := I2.stay BB
        replace BW := belowOn BW BB
        clear b BB
        have rh := oh.rdII
        clear oh
        have bp0 := below_alloc w24 (.cells #[.int .i64 (prodD xs ys mm).X, .int .i64 (prodD xs ys mm).Y, .int .i64 (prodD xs ys mm).Whole, .slice ah (prodD xs ys mm).Rows.length ch] 26)
        have bp := bp0
        have Hh : BoxIn (w24.alloc (.cells #[.int .i64 (prodD xs ys mm).X, .int .i64 (prodD xs ys mm).Y, .int .i64 (prodD xs ys mm).Whole, .slice ah (prodD xs ys mm).Rows.length ch] 26)) (w24.heap.size) (prodD xs ys mm) ah ch := ⟨BoxAt.top (by simp only [World.size_alloc]), rh.stay bp0⟩
        replace Icode := Icode.stay bp
        replace Ig := Ig.stay bp
        replace Hf := Hf.stay bp
        replace I1 := I1.stay bp
        replace I2 := I2.stay bp
        replace BW := belowOn BW bp
        clear bp bp0
        go_wp2_with fail
        refine (specProductBox_any _ xs _ ys mm (w24.alloc (.cells #[.int .i64 (prodD xs ys mm).X, .int .i64 (prodD xs ys mm).Y, .int .i64 (prodD xs ys mm).Whole, .slice ah (prodD xs ys mm).Rows.length ch] 26)) I1 I2).mono ?_
        rintro e w25 ⟨aq, cq, vq, rfl, oq, b⟩
        have BB := b
        replace Icode := Icode.stay BB
        replace Ig := Ig.stay BB
        replace Hf := Hf.stay BB
        replace I1 := I1.stay BB
        replace I2 := I2.stay BB
        replace Hh := Hh.stay BB
        replace BW := belowOn BW BB
        clear b BB
        have rq := oq.rdII
        clear oq
        clear rh
        obtain ⟨⟨hq0, hq1, hq2, hq3⟩, -⟩ := id Hh
        have hqL := Hh.lt
        have bp0 := below_alloc w25 (.cells #[.int .i64 (prodD xs ys mm).X, .int .i64 (prodD xs ys mm).Y, .int .i64 (prodD xs ys mm).Whole, .slice aq (prodD xs ys mm).Rows.length cq] 26)
        have bp := bp0
        have Hq : BoxIn (w25.alloc (.cells #[.int .i64 (prodD xs ys mm).X, .int .i64 (prodD xs ys mm).Y, .int .i64 (prodD xs ys mm).Whole, .slice aq (prodD xs ys mm).Rows.length cq] 26)) (w25.heap.size) (prodD xs ys mm) aq cq := ⟨BoxAt.top (by simp only [World.size_alloc]), rq.stay bp0⟩
        replace Icode := Icode.stay bp
        replace Ig := Ig.stay bp
        replace Hf := Hf.stay bp
        replace I1 := I1.stay bp
        replace I2 := I2.stay bp
        replace Hh := Hh.stay bp
        replace BW := belowOn BW bp
        clear bp bp0
        have g1 : ((prodOk xs ys mm) != (prodOk xs ys mm)) = false := by simp
        go_wp2_with fail
        refine (rBox_same _ _ (prodD xs ys mm) (w25.alloc (.cells #[.int .i64 (prodD xs ys mm).X, .int .i64 (prodD xs ys mm).Y, .int .i64 (prodD xs ys mm).Whole, .slice aq (prodD xs ys mm).Rows.length cq] 26)) Hh.rd Hq.rd).mono ?_
        rintro e w26 ⟨rfl, b⟩
        clear hq0 hq1 hqL hq2 hq3
        have BB := b
        replace Icode := Icode.stay BB
        replace Ig := Ig.stay BB
        replace Hf := Hf.stay BB
        replace I1 := I1.stay BB
        replace I2 := I2.stay BB
        replace Hh := Hh.stay BB
        replace Hq := Hq.stay BB
        replace BW := belowOn BW BB
        clear b BB
        clear Hq
        clear g1 rq
        go_wp2_with fail
        refine (drawNoiseBox_any (.slice a n cap) n w26 Icode).mono ?_
        rintro e w27 ⟨nx, ny, nm, rfl, b⟩
        have BB := b
        replace Icode := Icode.stay BB
        replace Ig := Ig.stay BB
        replace Hf := Hf.stay BB
        replace I1 := I1.stay BB
        replace I2 := I2.stay BB
        replace Hh := Hh.stay BB
        replace BW := belowOn BW BB
        clear b BB
        go_wp2_with fail
        refine (implNoiseBox_any nx ny nm w27).mono ?_
        rintro e w28 ⟨ap, cp, vp, rfl, op, b⟩
        have BB := b
        replace Icode := Icode.stay BB
        replace Ig := Ig.stay BB
        replace Hf := Hf.stay BB
        replace I1 := I1.stay BB
        replace I2 := I2.stay BB
        replace Hh := Hh.stay BB
        replace BW := belowOn BW BB
        clear b BB
        have rp := op.rdII
        clear op
        have bp0 := below_alloc w28 (.cells #[.int .i64 (noiseD nx ny nm).X, .int .i64 (noiseD nx ny nm).Y, .int .i64 (noiseD nx ny nm).Whole, .slice ap (noiseD nx ny nm).Rows.length cp] 26)
        have bp := bp0
        have Hp : BoxIn (w28.alloc (.cells #[.int .i64 (noiseD nx ny nm).X, .int .i64 (noiseD nx ny nm).Y, .int .i64 (noiseD nx ny nm).Whole, .slice ap (noiseD nx ny nm).Rows.length cp] 26)) (w28.heap.size) (noiseD nx ny nm) ap cp := ⟨BoxAt.top (by simp only [World.size_alloc]), rp.stay bp0⟩
        replace Icode := Icode.stay bp
        replace Ig := Ig.stay bp
        replace Hf := Hf.stay bp
        replace I1 := I1.stay bp
        replace I2 := I2.stay bp
        replace Hh := Hh.stay bp
        replace BW := belowOn BW bp
        clear bp bp0
        go_wp2_with fail
        refine (specNoiseBox_any nx ny nm (w28.alloc (.cells #[.int .i64 (noiseD nx ny nm).X, .int .i64 (noiseD nx ny nm).Y, .int .i64 (noiseD nx ny nm).Whole, .slice ap (noiseD nx ny nm).Rows.length cp] 26))).mono ?_
        rintro e w29 ⟨aq, cq, vq, rfl, oq, b⟩
        have BB := b
        replace Icode := Icode.stay BB
        replace Ig := Ig.stay BB
        replace Hf := Hf.stay BB
        replace I1 := I1.stay BB
        replace I2 := I2.stay BB
        replace Hh := Hh.stay BB
        replace Hp := Hp.stay BB
        replace BW := belowOn BW BB
        clear b BB
        have rq := oq.rdII
        clear oq
        clear rp
        obtain ⟨⟨pq0, pq1, pq2, pq3⟩, -⟩ := id Hp
        have pqL := Hp.lt
        have bp0 := below_alloc w29 (.cells #[.int .i64 (noiseD nx ny nm).X, .int .i64 (noiseD nx ny nm).Y, .int .i64 (noiseD nx ny nm).Whole, .slice aq (noiseD nx ny nm).Rows.length cq] 26)
        have bp := bp0
        have Hq : BoxIn (w29.alloc (.cells #[.int .i64 (noiseD nx ny nm).X, .int .i64 (noiseD nx ny nm).Y, .int .i64 (noiseD nx ny nm).Whole, .slice aq (noiseD nx ny nm).Rows.length cq] 26)) (w29.heap.size) (noiseD nx ny nm) aq cq := ⟨BoxAt.top (by simp only [World.size_alloc]), rq.stay bp0⟩
        replace Icode := Icode.stay bp
        replace Ig := Ig.stay bp
        replace Hf := Hf.stay bp
        replace I1 := I1.stay bp
        replace I2 := I2.stay bp
        replace Hh := Hh.stay bp
        replace Hp := Hp.stay bp
        replace BW := belowOn BW bp
        clear bp bp0
        have g1 : ((noiseOk nx ny nm) != (noiseOk nx ny nm)) = false := by simp
        go_wp2_with fail
        refine (rBox_same _ _ (noiseD nx ny nm) (w29.alloc (.cells #[.int .i64 (noiseD nx ny nm).X, .int .i64 (noiseD nx ny nm).Y, .int .i64 (noiseD nx ny nm).Whole, .slice aq (noiseD nx ny nm).Rows.length cq] 26)) Hp.rd Hq.rd).mono ?_
        rintro e w30 ⟨rfl, b⟩
        clear pq0 pq1 pqL pq2 pq3
        have BB := b
        replace Icode := Icode.stay BB
        replace Ig := Ig.stay BB
        replace Hf := Hf.stay BB
        replace I1 := I1.stay BB
        replace I2 := I2.stay BB
        replace Hh := Hh.stay BB
        replace Hp := Hp.stay BB
        replace Hq := Hq.stay BB
        replace BW := belowOn BW BB
        clear b BB
        clear Hp
        clear Hq
        clear g1 rq
        obtain ⟨five, hfive⟩ : ∃ f, playOk x y ps m = f := ⟨_, rfl⟩
        rw [hfive]
        go_upto_if 303 with fail
        go_cut [34, 36, 220, 225, 227, 228, 233, 235, 236, 237, 303] from 400 (fun _ _ _ _ _ _ _ _ _ _ _ wx => Below w30.heap.size w30 wx)
        case first =>
          clear BW
          have BW := Below.refl w30.heap.size w30
          cases five with
          | false =>
            go_wp2
            go_meet
            exact BW
          | true =>
            obtain ⟨h1, h2, h3, h4⟩ := qb_play hfive
            have C1 := implIsQuiet_any (.slice af (playBoxD x y ps m).Rows.length cf) (playBoxD x y ps m) w30 Hf.rd
            have C2 := fun W (hh : RdII W (.slice af (playBoxD x y ps m).Rows.length cf) (playBoxD x y ps m).Rows) => implPlayOf_any (.slice af (playBoxD x y ps m).Rows.length cf) (playBoxD x y ps m) W hh
            rw [h1, h2] at C1
            rw [h3, h4] at C2
            clear h1 h2 h3 h4 hfive
            obtain ⟨⟨fq0, fq1, fq2, fq3⟩, -⟩ := id Hf
            have fqL := Hf.lt
            go_wp2_with fail
            refine (C1).mono ?_
            rintro e w31 ⟨rfl, b⟩
            clear fq0 fq1 fqL fq2 fq3
            have BB := b
            replace Icode := Icode.stay BB
            replace Ig := Ig.stay BB
            replace Hf := Hf.stay BB
            replace I1 := I1.stay BB
            replace I2 := I2.stay BB
            replace Hh := Hh.stay BB
            replace BW := belowOn BW BB
            clear b BB
            obtain ⟨⟨fq0, fq1, fq2, fq3⟩, -⟩ := id Hf
            have fqL := Hf.lt
            go_wp2_with fail
            refine (C2 w31 Hf.rd).mono ?_
            rintro e w32 ⟨a7, c7, rfl, o7, b⟩
            clear fq0 fq1 fqL fq2 fq3
            have BB := b
            replace Icode := Icode.stay BB
            replace Ig := Ig.stay BB
            replace Hf := Hf.stay BB
            replace I1 := I1.stay BB
            replace I2 := I2.stay BB
            replace Hh := Hh.stay BB
            replace BW := belowOn BW BB
            clear b BB
            have I7 := o7.rdI
            clear o7
            clear C1 C2
            go_wp2_with fail
            refine (rInts_same _ _ ps w32 I7 Ig).mono ?_
            rintro e w33 ⟨rfl, b⟩
            have BB := b
            replace Icode := Icode.stay BB
            replace Ig := Ig.stay BB
            replace Hf := Hf.stay BB
            replace I1 := I1.stay BB
            replace I2 := I2.stay BB
            replace Hh := Hh.stay BB
            replace I7 := I7.stay BB
            replace BW := belowOn BW BB
            clear b BB
            go_wp2
            go_meet
            exact BW
        case rest =>
          obtain ⟨w34, rfl⟩ : ∃ W : World, W = wc := ⟨_, rfl⟩
          have BB := hcut
          clear hcut
          replace Icode := Icode.stay BB
          replace Ig := Ig.stay BB
          replace Hf := Hf.stay BB
          replace I1 := I1.stay BB
          replace I2 := I2.stay BB
          replace Hh := Hh.stay BB
          replace BW := belowOn BW BB
          clear BB
          clear hfive
          clear Hf
          clear Ig
          obtain ⟨six, hsix⟩ : ∃ f, prodOk xs ys mm = f := ⟨_, rfl⟩
          rw [hsix]
          go_upto_if 330 with fail
          go_cut [41, 43, 251, 255, 257, 258, 262, 264, 265, 266, 330] from 400 (fun _ _ _ _ _ _ _ _ _ _ _ wx => Below w34.heap.size w34 wx)
          case first =>
            clear BW
            have BW := Below.refl w34.heap.size w34
            cases six with
            | false =>
              go_wp2
              go_meet
              exact BW
            | true =>
              obtain ⟨h1, h2, h3, h4, x0, h5, h6, h7, h8, h9, h10⟩ := qb_prod hsix
              have C1 := implIsQuiet_any (.slice ah (prodD xs ys mm).Rows.length ch) (prodD xs ys mm) w34 Hh.rd
              have C2 := fun W (hh : RdII W (.slice ah (prodD xs ys mm).Rows.length ch) (prodD xs ys mm).Rows) => implAnswerCounts_any (.slice ah (prodD xs ys mm).Rows.length ch) (prodD xs ys mm) W hh
              rw [h1, h2] at C1
              rw [h3] at C2
              clear h1 h2 h3 hsix
              generalize countsD (prodD xs ys mm) = zs at *
              have HX := Lib.hid (And.intro h4 (And.intro h5 (And.intro h6 (And.intro h7 (And.intro h8 (And.intro h9 h10))))))
              clear h4 h5 h6 h7 h8 h9 h10
              obtain ⟨⟨hq0, hq1, hq2, hq3⟩, -⟩ := id Hh
              have hqL := Hh.lt
              go_wp2_with fail
              refine (C1).mono ?_
              rintro e w35 ⟨rfl, b⟩
              clear hq0 hq1 hqL hq2 hq3
              have BB := b
              replace Icode := Icode.stay BB
              replace I1 := I1.stay BB
              replace I2 := I2.stay BB
              replace Hh := Hh.stay BB
              replace BW := belowOn BW BB
              clear b BB
              obtain ⟨⟨hq0, hq1, hq2, hq3⟩, -⟩ := id Hh
              have hqL := Hh.lt
              go_wp2_with fail
              refine (C2 w35 Hh.rd).mono ?_
              rintro e w36 ⟨a7, c7, rfl, o7, b⟩
              clear hq0 hq1 hqL hq2 hq3
              have BB := b
              replace Icode := Icode.stay BB
              replace I1 := I1.stay BB
              replace I2 := I2.stay BB
              replace Hh := Hh.stay BB
              replace BW := belowOn BW BB
              clear b BB
              have I7 := o7.rdI
              clear o7
              clear C1 C2
              obtain ⟨h4, h5, h6, h7, h8, h9, h10⟩ := HX.out
              obtain ⟨e7, p7, d7, m7, k7⟩ := I7.cells
              obtain ⟨e1, p1, d1, m1, k1⟩ := I1.cells
              obtain ⟨e2, p2, d2, m2, k2⟩ := I2.cells
              have l7 : 0 < zs.length := (List.getElem?_eq_some_iff.1 h10).1
              have l1 : 0 < xs.length := (List.getElem?_eq_some_iff.1 h5).1
              have ka := k7 0 _ h10
              have kb := k1 0 _ h5
              have A7 := d7 l7
              have A1 := d1 l1
              subst A7
              subst A1
              unfold maxLen at m7 m1 m2
              have hmul : 0 ≤ x0 * mm ∧ x0 * mm ≤ 961 := by
                obtain ⟨X0, rfl⟩ := Int.eq_ofNat_of_zero_le h6
                obtain ⟨M0, rfl⟩ := Int.eq_ofNat_of_zero_le (show 0 ≤ mm by omega)
                have : X0 * M0 ≤ 31 * 31 := Nat.mul_le_mul (by omega) (by omega)
                rw [← Int.natCast_mul]
                omega
              have gw : IntKind.i64.wrap (x0 * mm) = x0 * mm := wrapC64 _ (by omega) (by omega)
              have gl : IntKind.i64.wrap ((xs.length : Int) + (ys.length : Int)) = (zs.length : Int) := by rw [h4, wrapC64 _ (by omega) (by omega)]; push_cast; rfl
              have gz : ((x0 * mm) != (x0 * mm)) = false := by simp
              have gy : ((zs.length : Int) != (zs.length : Int)) = false := by simp
              clear HX h4 h5 h6 h7 h8 h9 h10 k7 k1 k2 d7 d1 d2 Hh I7 I1 I2 Icode
              simp only [Nat.add_zero] at ka kb
              go_wp2
              go_quiet (fail)
              go_wp2
              go_meet
              exact belowOn BW ((Drw.mk _ _).below _)
          case rest =>
            obtain ⟨w37, rfl⟩ : ∃ W : World, W = wc := ⟨_, rfl⟩
            have BB := hcut
            clear hcut
            replace Icode := Icode.stay BB
            replace I1 := I1.stay BB
            replace I2 := I2.stay BB
            replace Hh := Hh.stay BB
            replace BW := belowOn BW BB
            clear BB
            clear hsix
            clear Hh
            clear I1
            clear I2
            go_wp2_with fail
            refine (drawIsPlay_any (.slice a n cap) n w37 Icode).mono ?_
            rintro e w38 ⟨x2, y2, qs, a3, c3, rfl, I3, b⟩
            have BB := b
            replace Icode := Icode.stay BB
            replace BW := belowOn BW BB
            clear b BB
            clear Icode
            go_wp2_with fail
            refine (qbImplIsPlay _ qs x2 y2 w38 I3).mono ?_
            rintro e w39 ⟨rfl, b⟩
            have BB := b
            replace I3 := I3.stay BB
            replace BW := belowOn BW BB
            clear b BB
            go_wp2_with fail
            refine (qbSpecIsPlay _ qs x2 y2 w39 I3).mono ?_
            rintro e w40 ⟨rfl, b⟩
            have BB := b
            replace I3 := I3.stay BB
            replace BW := belowOn BW BB
            clear b BB
            generalize (sizesB x2 y2 && bitsB qs (x2 + y2)) = D at *
            generalize sizesB x2 y2 = E at *
            have g1 : (D == D) = true := by simp
            have g2 : (E == E) = true := by simp
            cases D <;> cases E
            all_goals
              go_wp2
              go_ret
              exact ⟨rfl, BW⟩

/-! ### The row -/
set_option maxRecDepth 100000 in
theorem fnQuietBoxes_lifted (os : Os) (started : os.Started) (H : Type) (enc : TypeId × Value → H) :
    ReturnsInHanded {} Tryz.checked os 3 .any (fun w args => (Rows.fnQuietBoxesSpec.pre enc Tryz.prog Tryz.f3 [] false w args ∧ laidMetH Tryz.prog Rows.fnQuietBoxesRow.laid w) ∧ sizedMet enc Tryz.prog Tryz.f3 (OpenSpec.ofChange Rows.fnQuietBoxesSpec) false w args)
      (Rows.fnQuietBoxesSpec.post enc Tryz.prog Tryz.f3 false true false false) := by
  refine lift_shaped (C := Tryz.checked) (X := fun w _ => laidMetH Tryz.prog Rows.fnQuietBoxesRow.laid w) (fun _ _ _ hh h => h.of_heap hh) Tryz.own started (by kernel_rfl) Tryz.func3
    (ChangeSpec.witness_shaped (enc := enc) (C := Tryz.checked) (os := os) (X := fun w _ => laidMetH Tryz.prog Rows.fnQuietBoxesRow.laid w) false (World.laidAll Tryz.prog os Rows.fnQuietBoxesRow.laid) #[.slice none 0 0] 8 (World.laidAll_os _ _ _) (World.shaped_of_ZipB (by kernel_rfl) (by kernel_rfl)) (by kernel_rfl) (by kernel_rfl) (by kernel_rfl) (by rw [MakeChecks.laidMetH_plain _ _ _ (by kernel_rfl)]; exact laidMet_laidAll _ (by kernel_rfl) (by kernel_rfl))) ?_
  intro W base args ds gs before hval0 hW hL hsh
  have hval : ∀ (j : Nat) t v, Tryz.f3.params[j]? = some t → args[j]? = some v → Value.okWide Tryz.prog W .any base t v := hval0
  have hW' := hW
  obtain ⟨p, q, hA0, hV, rfl, hfz, hnd⟩ := hW
  have hA : DataW.TrodAll enc Tryz.prog W 0 (fun _ => true) true Tryz.f3.params.toList args.toList ds p := hA0
  rw [Tryz.params3] at hA hval
  obtain ⟨v0, vs0, d0, ds0, p0, q0, hargs, rfl, rfl, h0, r0⟩ := trodAll_cons hA
  obtain ⟨rfl, rfl, rfl⟩ := trodAll_nil r0
  obtain rfl : args = #[v0] := by cases args; simp_all
  obtain ⟨aa0, n0, ca0, rfl, hm0, hx0⟩ := rdB_of Tryz.underlying22 Tryz.underlying5 Tryz.cellsByte (hval 0 22 v0 rfl rfl) h0
  clear hA0 hval0
  obtain ⟨ht, hE⟩ := tabErr_of_laid7 hL
  have hmx := max_of_shaped hsh
  refine (fnQuietBoxes_walk aa0 n0 ca0 W hm0 hx0 ht hE hmx).mono fun e W' ⟨he, hb⟩ => ?_
  subst he
  exact ⟨_, rfl, law_post Tryz.laidOut (by kernel_rfl) rfl Tryz.underlying4 rfl (fun ds hd => by match ds, hd with | [e0], _ => rfl) hW' hb⟩

theorem fnQuietBoxes_row_holds : Rows.FnQuietBoxesSaid :=
  OpenClaim.holds_of_wide 3 Tryz.f3 rfl rfl rfl rfl rfl rfl rfl ⟨rfl, rfl, rfl, rfl, rfl⟩ rfl rfl rfl rfl rfl (by kernel_rfl) Tryz.func3 (by kernel_rfl)
    (of_decide_eq_true (by kernel_rfl)) (by unfold Func.isWrapper; first | (rw [if_pos (by decide +kernel)]; kernel_rfl) | (rw [if_neg (by decide +kernel)]; exact ⟨rfl, rfl⟩))
    (fun os started H enc _ => fnQuietBoxes_lifted os started H enc)

/-! ### The card -/
theorem fnQuietBoxes_holds : Rows.FnQuietBoxesCardSaid :=
  Claim7.holds_tied_plain_at .later [] [.data, .data, .data, .data, .sentinel, .sentinel, .pinned] true Rows.fnQuietBoxesCard.stood.harness true
    fnQuietBoxes_row_holds (fun _ h => by cases h) (by kernel_rfl) (fun _ h => by cases h) fnQuietBoxes_row_tie rfl ⟨rfl, rfl⟩ (by kernel_rfl) rfl
    (fun f fn hf hfn => by
      obtain rfl : f = 3 := Option.some.inj ((show Tryz.prog.funcNamed "loop.example/g01141/laws.FnQuietBoxes" = some 3 by kernel_rfl).symm.trans hf) |>.symm
      obtain rfl : fn = Tryz.f3 := (Option.some.inj (Tryz.func3.symm.trans hfn)).symm
      exact ⟨by kernel_rfl, fun j t ht => by
        rw [Tryz.params3] at ht
        have hm : t ∈ [22] := by simpa using Array.mem_of_getElem? ht
        have hall : ([22].all fun u => !Tryz.prog.wantsStandIn u) = true := by kernel_rfl
        exact (show Tryz.prog.wantsStandIn t = false by simpa using List.all_eq_true.1 hall t hm)⟩)
    (by kernel_rfl)

end Go.Proofs.YtcifpfdlkpddeaaGreatDoor
