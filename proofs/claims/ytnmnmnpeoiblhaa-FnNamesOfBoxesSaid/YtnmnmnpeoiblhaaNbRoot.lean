/- FnNamesOfBoxes: the law answers true for all arguments; the argument reads as it did. -/
import Derived.Test.YtnmnmnpeoiblhaaNbal
import Derived.Test.YtnmnmnpeoiblhaaNbbe
import Derived.Test.YtnmnmnpeoiblhaaNbbn
import Derived.Test.YtnmnmnpeoiblhaaNbbo
import Derived.Test.YtnmnmnpeoiblhaaNbao
import Derived.Test.YtnmnmnpeoiblhaaNbbi
import Derived.Test.YtnmnmnpeoiblhaaNbbp
import Derived.Test.YtnmnmnpeoiblhaaNbbc
import Derived.Test.YtnmnmnpeoiblhaaNban
import Derived.Test.YtnmnmnpeoiblhaaNbaw
import Derived.Test.YtnmnmnpeoiblhaaNbax
import Derived.Test.YtnmnmnpeoiblhaaNbap
import Derived.Test.YtnmnmnpeoiblhaaNbbq
import Derived.Test.YtnmnmnpeoiblhaaNbas
import Derived.Deep.Cut
set_option linter.unusedSimpArgs false
set_option linter.unusedVariables false
namespace Go.Proofs.Ytnmnmnpeoiblhaa
open Go.ChangeShapes Go.WideShapes Go.ChangeAt Go.RowKit
open Go.ChangeMaps (open_string shut_string)

set_option maxRecDepth 20000 in
set_option maxHeartbeats 16000000 in
theorem fnNamesOfBoxes_walk (a : Option Addr) (n cap : Nat) (w : World) (hn : n ≤ maxLen) (h : n ≤ 65536 → RdB w (.slice a n cap) n) :
    Calls Try.prog 3 #[.slice a n cap] w fun e w' => e = .returned (.bool true) ∧ Below w.heap.size w w' := by
  by_cases hbig : (65536 : Int) < (n : Int)
  · have CB := rBig_any a n cap w hn
    have hd : decide ((65536 : Int) < (n : Int)) = true := decide_eq_true hbig
    rw [hd] at CB
    go_enter Try.func3, Try.ntmps3
    go_wp2_with (go_at_call 5; refine CB.mono ?_; rintro e w' ⟨rfl, rfl⟩)
    go_ret
    exact ⟨rfl, Below.refl _ _⟩
  have Icode := h (by omega)
  have CB := rBig_any a n cap w hn
  have hd : decide ((65536 : Int) < (n : Int)) = false := decide_eq_false hbig
  rw [hd] at CB
  have BW := Below.refl w.heap.size w
  clear h hd hbig hn
  go_enter Try.func3, Try.ntmps3
  go_wp2_with fail
  refine CB.mono ?_
  rintro e w0 ⟨rfl, rfl⟩
  clear CB
  go_wp2_with fail
  refine (drawFlipAnswers_any (.slice a n cap) n w Icode).mono ?_
  rintro e w1 ⟨bb, fl, ab, afl, cb, cfl, vb, rfl, _, ob, ofl, b⟩
  have BB := b
  replace Icode := Icode.stay BB
  replace BW := belowOn BW BB
  clear b BB
  have Ifl := ofl.rdI
  have Pb := ob.rdII
  clear ob ofl
  have bp := below_alloc w1 (.cells #[.int .i64 (bb).X, .int .i64 (bb).Y, .int .i64 (bb).Whole, .slice ab (bb).Rows.length cb] 26)
  go_wp2_with fail
  refine (implFlipAnswers_any _ bb _ fl (w1.alloc (.cells #[.int .i64 (bb).X, .int .i64 (bb).Y, .int .i64 (bb).Whole, .slice ab (bb).Rows.length cb] 26)) (Pb.stay bp) (Ifl.stay bp)).mono ?_
  rintro e w2 ⟨af, cf, vf, rfl, of, b⟩
  have BB := belowOn bp b
  have Hb := (BoxIn.made Pb).stay b
  clear Pb bp
  replace Icode := Icode.stay BB
  replace Ifl := Ifl.stay BB
  replace BW := belowOn BW BB
  clear b BB
  have Pf := of.rdII
  clear of
  have bp := below_alloc w2 (.cells #[.int .i64 (flipBD bb fl).X, .int .i64 (flipBD bb fl).Y, .int .i64 (flipBD bb fl).Whole, .slice af (flipBD bb fl).Rows.length cf] 26)
  obtain ⟨⟨bq0, bq1, bq2, bq3⟩, -⟩ := id Hb
  have bqL := Hb.lt
  go_wp2_with fail
  refine (specFlipAnswers_any _ bb _ fl (w2.alloc (.cells #[.int .i64 (flipBD bb fl).X, .int .i64 (flipBD bb fl).Y, .int .i64 (flipBD bb fl).Whole, .slice af (flipBD bb fl).Rows.length cf] 26)) (Hb.stay bp).rd (Ifl.stay bp)).mono ?_
  rintro e w3 ⟨ax, cx, vx, rfl, ox, b⟩
  clear bq0 bq1 bq2 bq3 bqL
  have BB := belowOn bp b
  have Hf := (BoxIn.made Pf).stay b
  clear Pf bp
  replace Icode := Icode.stay BB
  replace Ifl := Ifl.stay BB
  replace Hb := Hb.stay BB
  replace BW := belowOn BW BB
  clear b BB
  have Px := ox.rdII
  clear ox
  have bp := below_alloc w3 (.cells #[.int .i64 (flipBD bb fl).X, .int .i64 (flipBD bb fl).Y, .int .i64 (flipBD bb fl).Whole, .slice ax (flipBD bb fl).Rows.length cx] 26)
  obtain ⟨⟨fq0, fq1, fq2, fq3⟩, -⟩ := id Hf
  have fqL := Hf.lt
  have g1 : ((flipBOk bb fl) != (flipBOk bb fl)) = false := by simp
  go_wp2_with fail
  refine (rBox_same _ _ (flipBD bb fl) (w3.alloc (.cells #[.int .i64 (flipBD bb fl).X, .int .i64 (flipBD bb fl).Y, .int .i64 (flipBD bb fl).Whole, .slice ax (flipBD bb fl).Rows.length cx] 26)) (Hf.stay bp).rd (Px.stay bp)).mono ?_
  rintro e w4 ⟨rfl, b⟩
  clear fq0 fq1 fq2 fq3 fqL
  have BB := belowOn bp b
  have Hx := (BoxIn.made Px).stay b
  clear Px bp
  replace Icode := Icode.stay BB
  replace Ifl := Ifl.stay BB
  replace Hb := Hb.stay BB
  replace Hf := Hf.stay BB
  replace BW := belowOn BW BB
  clear b BB
  clear Hx
  clear g1
  go_wp2_with fail
  refine (drawSwapPlayers_any (.slice a n cap) n w4 Icode).mono ?_
  rintro e w5 ⟨bc, ac, cc, vc, rfl, oc, b⟩
  have BB := b
  replace Icode := Icode.stay BB
  replace Ifl := Ifl.stay BB
  replace Hb := Hb.stay BB
  replace Hf := Hf.stay BB
  replace BW := belowOn BW BB
  clear b BB
  have Pc := oc.rdII
  clear oc
  have bp := below_alloc w5 (.cells #[.int .i64 (bc).X, .int .i64 (bc).Y, .int .i64 (bc).Whole, .slice ac (bc).Rows.length cc] 26)
  go_wp2_with fail
  refine (implSwapPlayers_any _ bc (w5.alloc (.cells #[.int .i64 (bc).X, .int .i64 (bc).Y, .int .i64 (bc).Whole, .slice ac (bc).Rows.length cc] 26)) (Pc.stay bp)).mono ?_
  rintro e w6 ⟨asw, cs, vs, rfl, os, b⟩
  have BB := belowOn bp b
  have Hc := (BoxIn.made Pc).stay b
  clear Pc bp
  replace Icode := Icode.stay BB
  replace Ifl := Ifl.stay BB
  replace Hb := Hb.stay BB
  replace Hf := Hf.stay BB
  replace BW := belowOn BW BB
  clear b BB
  have Ps := os.rdII
  clear os
  have bp := below_alloc w6 (.cells #[.int .i64 (swapD bc).X, .int .i64 (swapD bc).Y, .int .i64 (swapD bc).Whole, .slice asw (swapD bc).Rows.length cs] 26)
  obtain ⟨⟨cq0, cq1, cq2, cq3⟩, -⟩ := id Hc
  have cqL := Hc.lt
  go_wp2_with fail
  refine (specSwapPlayers_any _ bc (w6.alloc (.cells #[.int .i64 (swapD bc).X, .int .i64 (swapD bc).Y, .int .i64 (swapD bc).Whole, .slice asw (swapD bc).Rows.length cs] 26)) (Hc.stay bp).rd).mono ?_
  rintro e w7 ⟨ax, cx, vx, rfl, ox, b⟩
  clear cq0 cq1 cq2 cq3 cqL
  have BB := belowOn bp b
  have Hs := (BoxIn.made Ps).stay b
  clear Ps bp
  replace Icode := Icode.stay BB
  replace Ifl := Ifl.stay BB
  replace Hb := Hb.stay BB
  replace Hf := Hf.stay BB
  replace Hc := Hc.stay BB
  replace BW := belowOn BW BB
  clear b BB
  have Px := ox.rdII
  clear ox
  have bp := below_alloc w7 (.cells #[.int .i64 (swapD bc).X, .int .i64 (swapD bc).Y, .int .i64 (swapD bc).Whole, .slice ax (swapD bc).Rows.length cx] 26)
  obtain ⟨⟨sq0, sq1, sq2, sq3⟩, -⟩ := id Hs
  have sqL := Hs.lt
  have g1 : ((boxB bc) != (boxB bc)) = false := by simp
  go_wp2_with fail
  refine (rBox_same _ _ (swapD bc) (w7.alloc (.cells #[.int .i64 (swapD bc).X, .int .i64 (swapD bc).Y, .int .i64 (swapD bc).Whole, .slice ax (swapD bc).Rows.length cx] 26)) (Hs.stay bp).rd (Px.stay bp)).mono ?_
  rintro e w8 ⟨rfl, b⟩
  clear sq0 sq1 sq2 sq3 sqL
  have BB := belowOn bp b
  have Hx := (BoxIn.made Px).stay b
  clear Px bp
  replace Icode := Icode.stay BB
  replace Ifl := Ifl.stay BB
  replace Hb := Hb.stay BB
  replace Hf := Hf.stay BB
  replace Hc := Hc.stay BB
  replace Hs := Hs.stay BB
  replace BW := belowOn BW BB
  clear b BB
  clear Hx
  clear g1
  go_wp2_with fail
  refine (drawAskAgain_any (.slice a n cap) n w8 Icode).mono ?_
  rintro e w9 ⟨bd, fs, ss, ad, a1, a2, cd, c1, c2, vd, rfl, _, _, od, o1, o2, b⟩
  have BB := b
  replace Icode := Icode.stay BB
  replace Ifl := Ifl.stay BB
  replace Hb := Hb.stay BB
  replace Hf := Hf.stay BB
  replace Hc := Hc.stay BB
  replace Hs := Hs.stay BB
  replace BW := belowOn BW BB
  clear b BB
  have I1 := o1.rdI
  have I2 := o2.rdI
  have Pd := od.rdII
  clear od o1 o2
  have bp := below_alloc w9 (.cells #[.int .i64 (bd).X, .int .i64 (bd).Y, .int .i64 (bd).Whole, .slice ad (bd).Rows.length cd] 26)
  go_wp2_with fail
  refine (implAskAgain_any _ bd _ fs _ ss (w9.alloc (.cells #[.int .i64 (bd).X, .int .i64 (bd).Y, .int .i64 (bd).Whole, .slice ad (bd).Rows.length cd] 26)) (Pd.stay bp) (I1.stay bp) (I2.stay bp)).mono ?_
  rintro e w10 ⟨ak, ck, vk, rfl, os, b⟩
  have BB := belowOn bp b
  have Hd := (BoxIn.made Pd).stay b
  clear Pd bp
  replace Icode := Icode.stay BB
  replace Ifl := Ifl.stay BB
  replace Hb := Hb.stay BB
  replace Hf := Hf.stay BB
  replace Hc := Hc.stay BB
  replace Hs := Hs.stay BB
  replace I1 := I1.stay BB
  replace I2 := I2.stay BB
  replace BW := belowOn BW BB
  clear b BB
  have Pk := os.rdII
  clear os
  have bp := below_alloc w10 (.cells #[.int .i64 (askD bd fs ss).X, .int .i64 (askD bd fs ss).Y, .int .i64 (askD bd fs ss).Whole, .slice ak (askD bd fs ss).Rows.length ck] 26)
  obtain ⟨⟨dq0, dq1, dq2, dq3⟩, -⟩ := id Hd
  have dqL := Hd.lt
  go_wp2_with fail
  refine (specAskAgain_any _ bd _ fs _ ss (w10.alloc (.cells #[.int .i64 (askD bd fs ss).X, .int .i64 (askD bd fs ss).Y, .int .i64 (askD bd fs ss).Whole, .slice ak (askD bd fs ss).Rows.length ck] 26)) (Hd.stay bp).rd (I1.stay bp) (I2.stay bp)).mono ?_
  rintro e w11 ⟨ax, cx, vx, rfl, ox, b⟩
  clear dq0 dq1 dq2 dq3 dqL
  have BB := belowOn bp b
  have Hk := (BoxIn.made Pk).stay b
  clear Pk bp
  replace Icode := Icode.stay BB
  replace Ifl := Ifl.stay BB
  replace Hb := Hb.stay BB
  replace Hf := Hf.stay BB
  replace Hc := Hc.stay BB
  replace Hs := Hs.stay BB
  replace I1 := I1.stay BB
  replace I2 := I2.stay BB
  replace Hd := Hd.stay BB
  replace BW := belowOn BW BB
  clear b BB
  have Px := ox.rdII
  clear ox
  have bp := below_alloc w11 (.cells #[.int .i64 (askD bd fs ss).X, .int .i64 (askD bd fs ss).Y, .int .i64 (askD bd fs ss).Whole, .slice ax (askD bd fs ss).Rows.length cx] 26)
  obtain ⟨⟨kq0, kq1, kq2, kq3⟩, -⟩ := id Hk
  have kqL := Hk.lt
  have g1 : ((askOk bd fs ss) != (askOk bd fs ss)) = false := by simp
  go_wp2_with fail
  refine (rBox_same _ _ (askD bd fs ss) (w11.alloc (.cells #[.int .i64 (askD bd fs ss).X, .int .i64 (askD bd fs ss).Y, .int .i64 (askD bd fs ss).Whole, .slice ax (askD bd fs ss).Rows.length cx] 26)) (Hk.stay bp).rd (Px.stay bp)).mono ?_
  rintro e w12 ⟨rfl, b⟩
  clear kq0 kq1 kq2 kq3 kqL
  have BB := belowOn bp b
  have Hx := (BoxIn.made Px).stay b
  clear Px bp
  replace Icode := Icode.stay BB
  replace Ifl := Ifl.stay BB
  replace Hb := Hb.stay BB
  replace Hf := Hf.stay BB
  replace Hc := Hc.stay BB
  replace Hs := Hs.stay BB
  replace I1 := I1.stay BB
  replace I2 := I2.stay BB
  replace Hd := Hd.stay BB
  replace Hk := Hk.stay BB
  replace BW := belowOn BW BB
  clear b BB
  clear Hx
  clear I1
  clear I2
  clear g1
  go_wp2_with fail
  refine (drawFlipPlay_any (.slice a n cap) n w12 Icode).mono ?_
  rintro e w13 ⟨px, py, ps, pf, a3, a4, c3, c4, rfl, _, _, o3, o4, b⟩
  have BB := b
  replace Icode := Icode.stay BB
  replace Ifl := Ifl.stay BB
  replace Hb := Hb.stay BB
  replace Hf := Hf.stay BB
  replace Hc := Hc.stay BB
  replace Hs := Hs.stay BB
  replace Hd := Hd.stay BB
  replace Hk := Hk.stay BB
  replace BW := belowOn BW BB
  clear b BB
  have I3 := o3.rdI
  have I4 := o4.rdI
  have hcap := o3.capn
  clear o3 o4
  go_wp2_with fail
  refine (implFlipPlay_any px py _ ps _ pf w13 I3 I4 hcap).mono ?_
  rintro e w14 ⟨a5, c5, rfl, o5, b⟩
  have BB := b
  replace Icode := Icode.stay BB
  replace Ifl := Ifl.stay BB
  replace Hb := Hb.stay BB
  replace Hf := Hf.stay BB
  replace Hc := Hc.stay BB
  replace Hs := Hs.stay BB
  replace Hd := Hd.stay BB
  replace Hk := Hk.stay BB
  replace I3 := I3.stay BB
  replace I4 := I4.stay BB
  replace BW := belowOn BW BB
  clear b BB
  have I5 := o5.rdI
  clear o5 hcap
  go_wp2_with fail
  refine (specFlipPlay_any px py _ ps _ pf w14 I3 I4).mono ?_
  rintro e w15 ⟨a6, c6, rfl, o6, b⟩
  have BB := b
  replace Icode := Icode.stay BB
  replace Ifl := Ifl.stay BB
  replace Hb := Hb.stay BB
  replace Hf := Hf.stay BB
  replace Hc := Hc.stay BB
  replace Hs := Hs.stay BB
  replace Hd := Hd.stay BB
  replace Hk := Hk.stay BB
  replace I3 := I3.stay BB
  replace I4 := I4.stay BB
  replace I5 := I5.stay BB
  replace BW := belowOn BW BB
  clear b BB
  have I6 := o6.rdI
  clear o6
  have g1 : ((flipOk px py ps pf) != (flipOk px py ps pf)) = false := by simp
  go_wp2_with fail
  refine (rInts_same _ _ (flipD px py ps pf) w15 I5 I6).mono ?_
  rintro e w16 ⟨rfl, b⟩
  have BB := b
  replace Icode := Icode.stay BB
  replace Ifl := Ifl.stay BB
  replace Hb := Hb.stay BB
  replace Hf := Hf.stay BB
  replace Hc := Hc.stay BB
  replace Hs := Hs.stay BB
  replace Hd := Hd.stay BB
  replace Hk := Hk.stay BB
  replace I3 := I3.stay BB
  replace I4 := I4.stay BB
  replace I5 := I5.stay BB
  replace I6 := I6.stay BB
  replace BW := belowOn BW BB
  clear b BB
  clear I6
  clear g1
  go_wp2_with fail
  refine (drawPlayOf_any (.slice a n cap) n w16 Icode).mono ?_
  rintro e w17 ⟨be, ae, ce, ve, rfl, oe, b⟩
  have BB := b
  replace Icode := Icode.stay BB
  replace Ifl := Ifl.stay BB
  replace Hb := Hb.stay BB
  replace Hf := Hf.stay BB
  replace Hc := Hc.stay BB
  replace Hs := Hs.stay BB
  replace Hd := Hd.stay BB
  replace Hk := Hk.stay BB
  replace I3 := I3.stay BB
  replace I4 := I4.stay BB
  replace I5 := I5.stay BB
  replace BW := belowOn BW BB
  clear b BB
  have Pe := oe.rdII
  clear oe
  have bp := below_alloc w17 (.cells #[.int .i64 (be).X, .int .i64 (be).Y, .int .i64 (be).Whole, .slice ae (be).Rows.length ce] 26)
  go_wp2_with fail
  refine (implPlayOf_any _ be (w17.alloc (.cells #[.int .i64 (be).X, .int .i64 (be).Y, .int .i64 (be).Whole, .slice ae (be).Rows.length ce] 26)) (Pe.stay bp)).mono ?_
  rintro e w18 ⟨a7, c7, rfl, o7, b⟩
  have BB := belowOn bp b
  have He := (BoxIn.made Pe).stay b
  clear Pe bp
  replace Icode := Icode.stay BB
  replace Ifl := Ifl.stay BB
  replace Hb := Hb.stay BB
  replace Hf := Hf.stay BB
  replace Hc := Hc.stay BB
  replace Hs := Hs.stay BB
  replace Hd := Hd.stay BB
  replace Hk := Hk.stay BB
  replace I3 := I3.stay BB
  replace I4 := I4.stay BB
  replace I5 := I5.stay BB
  replace BW := belowOn BW BB
  clear b BB
  have I7 := o7.rdI
  clear o7
  obtain ⟨⟨eq0, eq1, eq2, eq3⟩, -⟩ := id He
  have eqL := He.lt
  go_wp2_with fail
  refine (specPlayOf_any _ be w18 He.rd).mono ?_
  rintro e w19 ⟨a8, c8, rfl, o8, b⟩
  clear eq0 eq1 eq2 eq3 eqL
  have BB := b
  replace Icode := Icode.stay BB
  replace Ifl := Ifl.stay BB
  replace Hb := Hb.stay BB
  replace Hf := Hf.stay BB
  replace Hc := Hc.stay BB
  replace Hs := Hs.stay BB
  replace Hd := Hd.stay BB
  replace Hk := Hk.stay BB
  replace I3 := I3.stay BB
  replace I4 := I4.stay BB
  replace I5 := I5.stay BB
  replace He := He.stay BB
  replace I7 := I7.stay BB
  replace BW := belowOn BW BB
  clear b BB
  have I8 := o8.rdI
  clear o8
  have g1 : ((playOfOk be) != (playOfOk be)) = false := by simp
  go_wp2_with fail
  refine (rInts_same _ _ (playOfD be) w19 I7 I8).mono ?_
  rintro e w20 ⟨rfl, b⟩
  have BB := b
  replace Icode := Icode.stay BB
  replace Ifl := Ifl.stay BB
  replace Hb := Hb.stay BB
  replace Hf := Hf.stay BB
  replace Hc := Hc.stay BB
  replace Hs := Hs.stay BB
  replace Hd := Hd.stay BB
  replace Hk := Hk.stay BB
  replace I3 := I3.stay BB
  replace I4 := I4.stay BB
  replace I5 := I5.stay BB
  replace He := He.stay BB
  replace I7 := I7.stay BB
  replace I8 := I8.stay BB
  replace BW := belowOn BW BB
  clear b BB
  clear I7
  clear I8
  clear He
  clear g1
  go_wp2_with fail
  refine (drawAgreementsOf_any (.slice a n cap) n w20 Icode).mono ?_
  rintro e w21 ⟨bg, ae, ce, ve, rfl, oe, b⟩
  have BB := b
  replace Icode := Icode.stay BB
  replace Ifl := Ifl.stay BB
  replace Hb := Hb.stay BB
  replace Hf := Hf.stay BB
  replace Hc := Hc.stay BB
  replace Hs := Hs.stay BB
  replace Hd := Hd.stay BB
  replace Hk := Hk.stay BB
  replace I3 := I3.stay BB
  replace I4 := I4.stay BB
  replace I5 := I5.stay BB
  replace BW := belowOn BW BB
  clear b BB
  have Pe := oe.rdII
  clear oe
  have bp := below_alloc w21 (.cells #[.int .i64 (bg).X, .int .i64 (bg).Y, .int .i64 (bg).Whole, .slice ae (bg).Rows.length ce] 26)
  go_wp2_with fail
  refine (implAgreementsOf_any _ bg (w21.alloc (.cells #[.int .i64 (bg).X, .int .i64 (bg).Y, .int .i64 (bg).Whole, .slice ae (bg).Rows.length ce] 26)) (Pe.stay bp)).mono ?_
  rintro e w22 ⟨a7, c7, rfl, o7, b⟩
  have BB := belowOn bp b
  have He := (BoxIn.made Pe).stay b
  clear Pe bp
  replace Icode := Icode.stay BB
  replace Ifl := Ifl.stay BB
  replace Hb := Hb.stay BB
  replace Hf := Hf.stay BB
  replace Hc := Hc.stay BB
  replace Hs := Hs.stay BB
  replace Hd := Hd.stay BB
  replace Hk := Hk.stay BB
  replace I3 := I3.stay BB
  replace I4 := I4.stay BB
  replace I5 := I5.stay BB
  replace BW := belowOn BW BB
  clear b BB
  have I7 := o7.rdI
  clear o7
  obtain ⟨⟨eq0, eq1, eq2, eq3⟩, -⟩ := id He
  have eqL := He.lt
  go_wp2_with fail
  refine (specAgreementsOf_any _ bg w22 He.rd).mono ?_
  rintro e w23 ⟨a8, c8, rfl, o8, b⟩
  clear eq0 eq1 eq2 eq3 eqL
  have BB := b
  replace Icode := Icode.stay BB
  replace Ifl := Ifl.stay BB
  replace Hb := Hb.stay BB
  replace Hf := Hf.stay BB
  replace Hc := Hc.stay BB
  replace Hs := Hs.stay BB
  replace Hd := Hd.stay BB
  replace Hk := Hk.stay BB
  replace I3 := I3.stay BB
  replace I4 := I4.stay BB
  replace I5 := I5.stay BB
  replace He := He.stay BB
  replace I7 := I7.stay BB
  replace BW := belowOn BW BB
  clear b BB
  have I8 := o8.rdI
  clear o8
  have g1 : ((boxB bg) != (boxB bg)) = false := by simp
  go_wp2_with fail
  refine (rInts_same _ _ (agreeD bg) w23 I7 I8).mono ?_
  rintro e w24 ⟨rfl, b⟩
  have BB := b
  replace Icode := Icode.stay BB
  replace Ifl := Ifl.stay BB
  replace Hb := Hb.stay BB
  replace Hf := Hf.stay BB
  replace Hc := Hc.stay BB
  replace Hs := Hs.stay BB
  replace Hd := Hd.stay BB
  replace Hk := Hk.stay BB
  replace I3 := I3.stay BB
  replace I4 := I4.stay BB
  replace I5 := I5.stay BB
  replace He := He.stay BB
  replace I7 := I7.stay BB
  replace I8 := I8.stay BB
  replace BW := belowOn BW BB
  clear b BB
  clear I7
  clear I8
  clear He
  clear Icode
  clear g1
  obtain ⟨one, hone⟩ : ∃ f, boxB bc = f := ⟨_, rfl⟩
  rw [hone]
  go_upto_if 211 with fail
  go_cut [11, 13, 89, 91, 93, 94, 96, 98, 99, 100, 211] from 356 (fun _ _ _ _ _ _ _ _ _ _ _ wx => Below w24.heap.size w24 wx)
  case first =>
    clear BW
    have BW := Below.refl w24.heap.size w24
    cases one with
    | false =>
      go_wp2
      go_meet
      exact BW
    | true =>
      obtain ⟨f1, f2⟩ := names_one hone
      obtain ⟨⟨sq0, sq1, sq2, sq3⟩, -⟩ := id Hs
      have sqL := Hs.lt
      have CS := implSwapPlayers_any (.slice asw (swapD bc).Rows.length cs) (swapD bc) w24 Hs.rd
      rw [f2, f1] at CS
      go_wp2_with fail
      refine (CS).mono ?_
      rintro e w25 ⟨as2, cs2, vs2, rfl, os2, b⟩
      clear sq0 sq1 sq2 sq3 sqL
      have BB := b
      replace Ifl := Ifl.stay BB
      replace Hb := Hb.stay BB
      replace Hf := Hf.stay BB
      replace Hc := Hc.stay BB
      replace Hs := Hs.stay BB
      replace Hd := Hd.stay BB
      replace Hk := Hk.stay BB
      replace I3 := I3.stay BB
      replace I4 := I4.stay BB
      replace I5 := I5.stay BB
      replace BW := belowOn BW BB
      clear b BB
      have Py := os2.rdII
      clear os2 CS f1 f2
      have bp := below_alloc w25 (.cells #[.int .i64 (bc).X, .int .i64 (bc).Y, .int .i64 (bc).Whole, .slice as2 (bc).Rows.length cs2] 26)
      obtain ⟨⟨cq0, cq1, cq2, cq3⟩, -⟩ := id Hc
      have cqL := Hc.lt
      go_wp2_with fail
      refine (rBox_same _ _ bc (w25.alloc (.cells #[.int .i64 (bc).X, .int .i64 (bc).Y, .int .i64 (bc).Whole, .slice as2 (bc).Rows.length cs2] 26)) (Py.stay bp) (Hc.stay bp).rd).mono ?_
      rintro e w26 ⟨rfl, b⟩
      clear cq0 cq1 cq2 cq3 cqL
      have BB := belowOn bp b
      have Hy := (BoxIn.made Py).stay b
      clear Py bp
      replace Ifl := Ifl.stay BB
      replace Hb := Hb.stay BB
      replace Hf := Hf.stay BB
      replace Hc := Hc.stay BB
      replace Hs := Hs.stay BB
      replace Hd := Hd.stay BB
      replace Hk := Hk.stay BB
      replace I3 := I3.stay BB
      replace I4 := I4.stay BB
      replace I5 := I5.stay BB
      replace BW := belowOn BW BB
      clear b BB
      go_wp2
      go_meet
      exact BW
  case rest =>
    obtain ⟨w27, rfl⟩ : ∃ W : World, W = wc := ⟨_, rfl⟩
    have BB := hcut
    clear hcut
    replace Ifl := Ifl.stay BB
    replace Hb := Hb.stay BB
    replace Hf := Hf.stay BB
    replace Hc := Hc.stay BB
    replace Hs := Hs.stay BB
    replace Hd := Hd.stay BB
    replace Hk := Hk.stay BB
    replace I3 := I3.stay BB
    replace I4 := I4.stay BB
    replace I5 := I5.stay BB
    replace BW := belowOn BW BB
    clear BB hone
    clear Hc
    clear Hs
    obtain ⟨two, htwo⟩ : ∃ f, askOk bd fs ss = f := ⟨_, rfl⟩
    rw [htwo]
    go_upto_if 225 with fail
    go_cut [18, 20, 114, 118, 120, 121, 125, 127, 128, 129, 225] from 356 (fun _ _ _ _ _ _ _ _ _ _ _ wx => Below w27.heap.size w27 wx)
    case first =>
      clear BW
      have BW := Below.refl w27.heap.size w27
      cases two with
      | false =>
        go_wp2
        go_meet
        exact BW
      | true =>
        obtain ⟨f1, f2, f3⟩ := names_two htwo
        have C1 := implIsQuiet_any (.slice ad bd.Rows.length cd) bd w27 Hd.rd
        rw [f1] at C1
        have C2 := fun W (hh : RdII W (.slice ak (askD bd fs ss).Rows.length ck) (askD bd fs ss).Rows) => implIsQuiet_any (.slice ak (askD bd fs ss).Rows.length ck) (askD bd fs ss) W hh
        rw [f2] at C2
        clear f1 f2
        cases hq : isQuietD bd with
        | false =>
          rw [hq] at C1
          clear f3 hq
          generalize isQuietD (askD bd fs ss) = qs at *
          obtain ⟨⟨dq0, dq1, dq2, dq3⟩, -⟩ := id Hd
          have dqL := Hd.lt
          go_wp2_with fail
          refine (C1).mono ?_
          rintro e w28 ⟨rfl, b⟩
          clear dq0 dq1 dq2 dq3 dqL
          have BB := b
          replace Ifl := Ifl.stay BB
          replace Hb := Hb.stay BB
          replace Hf := Hf.stay BB
          replace Hd := Hd.stay BB
          replace Hk := Hk.stay BB
          replace I3 := I3.stay BB
          replace I4 := I4.stay BB
          replace I5 := I5.stay BB
          replace BW := belowOn BW BB
          clear b BB
          obtain ⟨⟨kq0, kq1, kq2, kq3⟩, -⟩ := id Hk
          have kqL := Hk.lt
          go_wp2_with fail
          refine (C2 w28 Hk.rd).mono ?_
          rintro e w29 ⟨rfl, b⟩
          clear kq0 kq1 kq2 kq3 kqL
          have BB := b
          replace Ifl := Ifl.stay BB
          replace Hb := Hb.stay BB
          replace Hf := Hf.stay BB
          replace Hd := Hd.stay BB
          replace Hk := Hk.stay BB
          replace I3 := I3.stay BB
          replace I4 := I4.stay BB
          replace I5 := I5.stay BB
          replace BW := belowOn BW BB
          clear b BB
          go_wp2
          go_meet
          exact BW
        | true =>
          have f4 := f3 hq
          rw [hq] at C1
          rw [f4] at C2
          clear f3 f4 hq
          obtain ⟨⟨dq0, dq1, dq2, dq3⟩, -⟩ := id Hd
          have dqL := Hd.lt
          go_wp2_with fail
          refine (C1).mono ?_
          rintro e w28 ⟨rfl, b⟩
          clear dq0 dq1 dq2 dq3 dqL
          have BB := b
          replace Ifl := Ifl.stay BB
          replace Hb := Hb.stay BB
          replace Hf := Hf.stay BB
          replace Hd := Hd.stay BB
          replace Hk := Hk.stay BB
          replace I3 := I3.stay BB
          replace I4 := I4.stay BB
          replace I5 := I5.stay BB
          replace BW := belowOn BW BB
          clear b BB
          obtain ⟨⟨kq0, kq1, kq2, kq3⟩, -⟩ := id Hk
          have kqL := Hk.lt
          go_wp2_with fail
          refine (C2 w28 Hk.rd).mono ?_
          rintro e w29 ⟨rfl, b⟩
          clear kq0 kq1 kq2 kq3 kqL
          have BB := b
          replace Ifl := Ifl.stay BB
          replace Hb := Hb.stay BB
          replace Hf := Hf.stay BB
          replace Hd := Hd.stay BB
          replace Hk := Hk.stay BB
          replace I3 := I3.stay BB
          replace I4 := I4.stay BB
          replace I5 := I5.stay BB
          replace BW := belowOn BW BB
          clear b BB
          go_wp2
          go_meet
          exact BW
    case rest =>
      obtain ⟨w30, rfl⟩ : ∃ W : World, W = wc := ⟨_, rfl⟩
      have BB := hcut
      clear hcut
      replace Ifl := Ifl.stay BB
      replace Hb := Hb.stay BB
      replace Hf := Hf.stay BB
      replace Hd := Hd.stay BB
      replace Hk := Hk.stay BB
      replace I3 := I3.stay BB
      replace I4 := I4.stay BB
      replace I5 := I5.stay BB
      replace BW := belowOn BW BB
      clear BB htwo
      clear Hd
      clear Hk
      obtain ⟨three, hthree⟩ : ∃ f, flipOk px py ps pf = f := ⟨_, rfl⟩
      rw [hthree]
      go_upto_if 249 with fail
      go_cut [26, 28, 144, 149, 151, 152, 157, 159, 160, 161, 249] from 356 (fun _ _ _ _ _ _ _ _ _ _ _ wx => Below w30.heap.size w30 wx)
      case first =>
        clear BW
        have BW := Below.refl w30.heap.size w30
        cases three with
        | false =>
          go_wp2
          go_meet
          exact BW
        | true =>
          obtain ⟨f1, f2, f3, f4⟩ := names_three hthree
          have C1 := implPlayBox_any px py (.slice a3 ps.length c3) ps 2 w30 I3
          rw [f1] at C1
          go_wp2_with fail
          refine (C1).mono ?_
          rintro e w31 ⟨a9, c9, v9, rfl, o9, b⟩
          have BB := b
          replace Ifl := Ifl.stay BB
          replace Hb := Hb.stay BB
          replace Hf := Hf.stay BB
          replace I3 := I3.stay BB
          replace I4 := I4.stay BB
          replace I5 := I5.stay BB
          replace BW := belowOn BW BB
          clear b BB
          have Pp := o9.rdII
          clear o9 C1 f1
          have bp := below_alloc w31 (.cells #[.int .i64 (playBoxD px py ps 2).X, .int .i64 (playBoxD px py ps 2).Y, .int .i64 (playBoxD px py ps 2).Whole, .slice a9 (playBoxD px py ps 2).Rows.length c9] 26)
          have C2 := implFlipAnswers_any (.slice a9 (playBoxD px py ps 2).Rows.length c9) (playBoxD px py ps 2) (.slice a4 pf.length c4) pf (w31.alloc (.cells #[.int .i64 (playBoxD px py ps 2).X, .int .i64 (playBoxD px py ps 2).Y, .int .i64 (playBoxD px py ps 2).Whole, .slice a9 (playBoxD px py ps 2).Rows.length c9] 26)) (Pp.stay bp) (I4.stay bp)
          rw [f2] at C2
          go_wp2_with fail
          refine (C2).mono ?_
          rintro e w32 ⟨a8, c8, v8, rfl, o8, b⟩
          have BB := belowOn bp b
          have Hp := (BoxIn.made Pp).stay b
          clear Pp bp
          replace Ifl := Ifl.stay BB
          replace Hb := Hb.stay BB
          replace Hf := Hf.stay BB
          replace I3 := I3.stay BB
          replace I4 := I4.stay BB
          replace I5 := I5.stay BB
          replace BW := belowOn BW BB
          clear b BB
          have Po := o8.rdII
          clear o8 C2 f2
          have bp := below_alloc w32 (.cells #[.int .i64 (flipBD (playBoxD px py ps 2) pf).X, .int .i64 (flipBD (playBoxD px py ps 2) pf).Y, .int .i64 (flipBD (playBoxD px py ps 2) pf).Whole, .slice a8 (flipBD (playBoxD px py ps 2) pf).Rows.length c8] 26)
          have C3 := implPlayOf_any (.slice a8 (flipBD (playBoxD px py ps 2) pf).Rows.length c8) (flipBD (playBoxD px py ps 2) pf) (w32.alloc (.cells #[.int .i64 (flipBD (playBoxD px py ps 2) pf).X, .int .i64 (flipBD (playBoxD px py ps 2) pf).Y, .int .i64 (flipBD (playBoxD px py ps 2) pf).Whole, .slice a8 (flipBD (playBoxD px py ps 2) pf).Rows.length c8] 26)) (Po.stay bp)
          rw [f3, f4] at C3
          go_wp2_with fail
          refine (C3).mono ?_
          rintro e w33 ⟨a7, c7, rfl, o7, b⟩
          have BB := belowOn bp b
          have Ho := (BoxIn.made Po).stay b
          clear Po bp
          replace Ifl := Ifl.stay BB
          replace Hb := Hb.stay BB
          replace Hf := Hf.stay BB
          replace I3 := I3.stay BB
          replace I4 := I4.stay BB
          replace I5 := I5.stay BB
          replace Hp := Hp.stay BB
          replace BW := belowOn BW BB
          clear b BB
          have I7 := o7.rdI
          clear o7 C3 f3 f4
          go_wp2_with fail
          refine (rInts_same _ _ (flipD px py ps pf) w33 I7 I5).mono ?_
          rintro e w34 ⟨rfl, b⟩
          have BB := b
          replace Ifl := Ifl.stay BB
          replace Hb := Hb.stay BB
          replace Hf := Hf.stay BB
          replace I3 := I3.stay BB
          replace I4 := I4.stay BB
          replace I5 := I5.stay BB
          replace Hp := Hp.stay BB
          replace Ho := Ho.stay BB
          replace I7 := I7.stay BB
          replace BW := belowOn BW BB
          clear b BB
          go_wp2
          go_meet
          exact BW
      case rest =>
        obtain ⟨w35, rfl⟩ : ∃ W : World, W = wc := ⟨_, rfl⟩
        have BB := hcut
        clear hcut
        replace Ifl := Ifl.stay BB
        replace Hb := Hb.stay BB
        replace Hf := Hf.stay BB
        replace I3 := I3.stay BB
        replace I4 := I4.stay BB
        replace I5 := I5.stay BB
        replace BW := belowOn BW BB
        clear BB hthree
        clear I3
        clear I4
        clear I5
        obtain ⟨ok, hok⟩ : ∃ f, flipBOk bb fl = f := ⟨_, rfl⟩
        rw [hok]
        cases ok with
        | false =>
          go_wp2
          go_ret
          exact ⟨rfl, BW⟩
        | true =>
          obtain ⟨f1, f2, f3, f4⟩ := names_four hok
          obtain ⟨X, Y, L, N, hX, hY, x1, x3, y1, y3, n1, n2, L9, n3, N6, hR⟩ := names_round hok
          have HNN := Lib.hid (And.intro hX (And.intro hY (And.intro n1 (And.intro n2 n3))))
          clear hok hX hY n1 n2 n3
          obtain ⟨⟨fq0, fq1, fq2, fq3⟩, -⟩ := id Hf
          have fqL := Hf.lt
          have C1 := implFlipAnswers_any (.slice af (flipBD bb fl).Rows.length cf) (flipBD bb fl) (.slice afl fl.length cfl) fl w35 Hf.rd Ifl
          rw [f3, f4] at C1
          go_wp2_with fail
          refine (C1).mono ?_
          rintro e w36 ⟨a9, c9, v9, rfl, o9, b⟩
          clear fq0 fq1 fq2 fq3 fqL
          have BB := b
          replace Ifl := Ifl.stay BB
          replace Hb := Hb.stay BB
          replace Hf := Hf.stay BB
          replace BW := belowOn BW BB
          clear b BB
          have Pk := o9.rdII
          clear o9 C1 f3 f4
          have bp := below_alloc w36 (.cells #[.int .i64 (bb).X, .int .i64 (bb).Y, .int .i64 (bb).Whole, .slice a9 (bb).Rows.length c9] 26)
          obtain ⟨⟨bq0, bq1, bq2, bq3⟩, -⟩ := id Hb
          have bqL := Hb.lt
          have C2 := implAgreementsOf_any (.slice ab bb.Rows.length cb) bb (w36.alloc (.cells #[.int .i64 (bb).X, .int .i64 (bb).Y, .int .i64 (bb).Whole, .slice a9 (bb).Rows.length c9] 26)) (Hb.stay bp).rd
          rw [f1] at C2
          go_wp2_with fail
          refine (C2).mono ?_
          rintro e w37 ⟨a7, c7, rfl, o7, b⟩
          clear bq0 bq1 bq2 bq3 bqL
          have BB := belowOn bp b
          have Hk := (BoxIn.made Pk).stay b
          clear Pk bp
          replace Ifl := Ifl.stay BB
          replace Hb := Hb.stay BB
          replace Hf := Hf.stay BB
          replace BW := belowOn BW BB
          clear b BB
          have I7 := o7.rdI
          clear o7 C2 f1
          obtain ⟨⟨fq0, fq1, fq2, fq3⟩, -⟩ := id Hf
          have fqL := Hf.lt
          have C3 := implAgreementsOf_any (.slice af (flipBD bb fl).Rows.length cf) (flipBD bb fl) w37 Hf.rd
          rw [f2] at C3
          go_wp2_with fail
          refine (C3).mono ?_
          rintro e w38 ⟨a8, c8, rfl, o8, b⟩
          clear fq0 fq1 fq2 fq3 fqL
          have BB := b
          replace Ifl := Ifl.stay BB
          replace Hb := Hb.stay BB
          replace Hf := Hf.stay BB
          replace Hk := Hk.stay BB
          replace I7 := I7.stay BB
          replace BW := belowOn BW BB
          clear b BB
          have I8 := o8.rdI
          clear o8 C3 f2
          clear Hf
          obtain ⟨⟨kq0, kq1, kq2, kq3⟩, -⟩ := id Hk
          have kqL := Hk.lt
          obtain ⟨⟨bq0, bq1, bq2, bq3⟩, -⟩ := id Hb
          have bqL := Hb.lt
          go_wp2_with fail
          refine (rBox_same _ _ bb w38 Hk.rd Hb.rd).mono ?_
          rintro e w39 ⟨rfl, b⟩
          clear kq0 kq1 kq2 kq3 kqL
          clear bq0 bq1 bq2 bq3 bqL
          have BB := b
          replace Ifl := Ifl.stay BB
          replace Hb := Hb.stay BB
          replace Hk := Hk.stay BB
          replace I7 := I7.stay BB
          replace I8 := I8.stay BB
          replace BW := belowOn BW BB
          clear b BB
          clear Hk
          obtain ⟨e7, p7, d7, m7, k7⟩ := I7.cells
          obtain ⟨e8, p8, d8, m8, k8⟩ := I8.cells
          obtain ⟨ef, pf', df, mf, kf⟩ := Ifl.cells
          obtain ⟨⟨b0, b1, b2, b3⟩, -⟩ := id Hb
          have bl := Hb.lt
          obtain ⟨hX, hY, n1, n2, n3⟩ := HNN.out
          rw [n1] at d7
          rw [n2] at d8
          rw [n3] at df
          rw [n1, n2, n3]
          rw [hX] at b0
          rw [hY] at b1
          generalize hbf : flipBD bb fl = bf at *
          generalize hab : agreeD bb = xa at *
          generalize haf : agreeD bf = xf at *
          have HR := Lib.hid hR
          clear hR hX hY n1 n2 n3 m7 m8 mf I7 I8 Ifl Hb b2 b3 hbf hab haf
          go_wp2
          go_loopw [57] (fun i wr => ∃ k : Nat, k ≤ L ∧ i = .int .i64 k ∧ Drw w39 wr) (fun i _ => L - (intOf i).toNat)
          case atStart => exact ⟨0, by omega, rfl, Drw.refl _⟩
          case round =>
            obtain ⟨k, hk, rfl, hd⟩ := hrel
            by_cases hlt : k < L
            · obtain ⟨i, j, f, g, s, m, z, q1, q2, hi, hj, hf2, hg2, hs2, q3, xf1, xf2, xm, xz, q4, hz1, hz2⟩ := HR.out k hlt
              obtain rfl := d7 (by omega)
              obtain rfl := d8 (by omega)
              obtain rfl := df (by omega)
              have y1' := k7 k _ xm
              have y2' := k8 k _ xz
              have y3' := kf i _ xf1
              have y4' := kf (X + j) _ xf2
              rw [← hd.cell] at y1' y2' y3' y4' b0 b1
              have r1 : IntKind.i64.wrap (i : Int) = (i : Int) := wrapC64 _ (by omega) (by omega)
              have r2 : IntKind.i64.wrap (j : Int) = (j : Int) := wrapC64 _ (by omega) (by omega)
              have r3 : IntKind.i64.wrap ((X : Int) + (j : Int)) = (X : Int) + (j : Int) := wrapC64 _ (by omega) (by omega)
              have r4 : IntKind.i64.wrap ((f : Int) + (g : Int)) = (f : Int) + (g : Int) := wrapC64 _ (by omega) (by omega)
              have r5 : IntKind.i64.wrap (s : Int) = (s : Int) := wrapC64 _ (by omega) (by omega)
              have r6 : IntKind.i64.wrap (2 * (s : Int)) = 2 * (s : Int) := wrapC64 _ (by omega) (by omega)
              have r7 : IntKind.i64.wrap (1 - 2 * (s : Int)) = 1 - 2 * (s : Int) := wrapC64 _ (by omega) (by omega)
              have r8 : IntKind.i64.wrap z = z := wrapC64 _ (by omega) (by omega)
              have r9 : (z != z) = false := by simp
              have hY0 : ¬ (Y : Int) = 0 := by omega
              clear xf1 xf2 xm xz k7 k8 kf
              go_wp2
              go_quiet (fail)
              go_wp2
              go_quiet (fail)
              go_wp2
              go_roundw
              case rel => exact ⟨k + 1, by omega, by go_num, hd.trans (Drw.mk _ _)⟩
              case measure => simp [intOf]; omega
            · go_wp2
              go_ret
              exact ⟨rfl, belowOn BW (hd.below _)⟩

/-! ### The row -/
set_option maxRecDepth 100000 in
theorem fnNamesOfBoxes_lifted (os : Os) (started : os.Started) (H : Type) (enc : TypeId × Value → H) :
    ReturnsInHanded {} Try.checked os 3 .any (Rows.fnNamesOfBoxesSpec.pre6 enc Try.prog Try.f3 Rows.fnNamesOfBoxesRow.domain false) (Rows.fnNamesOfBoxesSpec.post enc Try.prog Try.f3 false true false false) := by
  refine returnsInHanded_of_change (C := Try.checked) Try.own started (by kernel_rfl) Try.func3
    (ChangeSpec.witness6 (enc := enc) (C := Try.checked) false ⟨#[], #[.slice none 0 0], []⟩ 8 (by kernel_rfl) (by kernel_rfl) (by kernel_rfl) (by kernel_rfl)) ?_
  intro W base args ds gs before hval0 hW hcnd _
  have hval : ∀ (j : Nat) t v, Try.f3.params[j]? = some t → args[j]? = some v → Value.okWide Try.prog W .any base t v := hval0
  have hW' := hW
  obtain ⟨p, q, hA0, hV, rfl, hfz, hnd⟩ := hW
  have hA : DataW.TrodAll enc Try.prog W 0 (fun _ => true) true Try.f3.params.toList args.toList ds p := hA0
  rw [Try.params3] at hA hval
  obtain ⟨v0, vs0, d0, ds0, p0, q0, hargs, rfl, rfl, h0, r0⟩ := trodAll_cons hA
  obtain ⟨rfl, rfl, rfl⟩ := trodAll_nil r0
  obtain rfl : args = #[v0] := by cases args; simp_all
  obtain ⟨aa0, n0, ca0, rfl, hm0, hx0⟩ := rdB_of Try.underlying22 Try.underlying5 Try.cellsByte (hval 0 22 v0 rfl rfl) h0
  clear hA0 hval0
  refine (fnNamesOfBoxes_walk aa0 n0 ca0 W hm0 hx0).mono fun e W' ⟨he, hb⟩ => ?_
  subst he
  exact ⟨_, rfl, law_post Try.laidOut (by kernel_rfl) rfl Try.underlying4 rfl (fun ds hd => by match ds, hd with | [e0], _ => rfl) hW' hb⟩

theorem fnNamesOfBoxes_holds : Rows.FnNamesOfBoxesSaid :=
  OpenClaim.holds_of_wide 3 Try.f3 rfl rfl rfl rfl rfl rfl rfl ⟨rfl, rfl, rfl, rfl, rfl⟩ rfl rfl rfl rfl rfl (by kernel_rfl) Try.func3 (by kernel_rfl)
    (of_decide_eq_true (by kernel_rfl)) (by unfold Func.isWrapper; first | (rw [if_pos (by decide +kernel)]; kernel_rfl) | (rw [if_neg (by decide +kernel)]; exact ⟨rfl, rfl⟩))
    (fun os started H enc _ => fnNamesOfBoxes_lifted os started H enc)

end Go.Proofs.Ytnmnmnpeoiblhaa
