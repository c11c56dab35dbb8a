/- ReduceBox: contracts of the reference's function. -/
import Derived.Test.YtjedajfpohhojaaFnReduceI
set_option linter.unusedSimpArgs false
set_option linter.unusedVariables false
namespace Go.Proofs.Ytjedajfpohhojaa
open Go.RowKit

set_option maxRecDepth 100000 in
set_option maxHeartbeats 3200000 in
theorem l2Reduced_any (va : Value) (a : BoxD) (w : World) (hok : boxB a = true) (ra : RdII w va a.Rows) :
    Calls Try.prog 85 #[.agg #[.int .i64 a.X, .int .i64 a.Y, .int .i64 a.Whole, va]] w (BoxOnly w a.X a.Y (a.Whole / (redG a : Int)) (redL a).Rows) := by
  have PA := Lib.hid (fun k hk => boxB_path hok ra k hk)
  have PN := Lib.hid (fun k rs hr => boxB_nats hok k rs hr)
  have HM := Lib.hid hok
  obtain ⟨hx, hy⟩ := (boxB_iff.1 hok).1
  obtain ⟨wa0, wa1⟩ := (boxB_iff.1 hok).2.1
  have la := boxB_len2 hok
  have hl9 : a.Rows.length ≤ 9 := boxB_len hok
  have hl1 : 1 ≤ a.Rows.length := by rw [la]; exact Nat.mul_le_mul (show 1 ≤ a.X.toNat by omega) (show 1 ≤ a.Y.toNat by omega)
  have hW : ((a.Whole.toNat : Nat) : Int) = a.Whole := Int.toNat_of_nonneg (by omega)
  have hbd := fun n => gcdRows_bd (g := a.Whole.toNat) (rss := a.Rows.take n) (by omega) (by omega)
  have hred := gcdRows_bd (g := a.Whole.toNat) (rss := a.Rows) (by omega) (by omega)
  have HW := Lib.hid hW
  have HB := Lib.hid hbd
  obtain ⟨ba, off, cap, _, _, _, rfl, _⟩ := PA.out 0 (by omega)
  clear hok hW hbd la
  go_enter Try.func85, Try.ntmps85
  go_wp2
  obtain ⟨w1, hw1⟩ : ∃ w1, w1 = ((w.alloc (.cells #[.int .i64 a.X, .int .i64 a.Y, .int .i64 a.Whole, .slice (some ⟨ba, off, none⟩) a.Rows.length cap] 25)).alloc (.cells #[.int .i64 0, .int .i64 0, .int .i64 0, .slice none 0 0] 25)) := ⟨_, rfl⟩
  have A1 : BoxAt w1 w.heap.size a.X a.Y a.Whole (.slice (some ⟨ba, off, none⟩) a.Rows.length cap) := by rw [hw1]; exact ⟨(by repeat' (first | with_reducible assumption | (refine cell_top ?_ rfl; first | with_reducible rfl | (simp only [World.size_alloc, World.size_setCell]; done)) | (refine cell_under ?_ ?_; (first | omega | (simp only [World.size_alloc, World.size_setCell]; omega))) | refine cell_drew ?_)), (by repeat' (first | with_reducible assumption | (refine cell_top ?_ rfl; first | with_reducible rfl | (simp only [World.size_alloc, World.size_setCell]; done)) | (refine cell_under ?_ ?_; (first | omega | (simp only [World.size_alloc, World.size_setCell]; omega))) | refine cell_drew ?_)), (by repeat' (first | with_reducible assumption | (refine cell_top ?_ rfl; first | with_reducible rfl | (simp only [World.size_alloc, World.size_setCell]; done)) | (refine cell_under ?_ ?_; (first | omega | (simp only [World.size_alloc, World.size_setCell]; omega))) | refine cell_drew ?_)), (by repeat' (first | with_reducible assumption | (refine cell_top ?_ rfl; first | with_reducible rfl | (simp only [World.size_alloc, World.size_setCell]; done)) | (refine cell_under ?_ ?_; (first | omega | (simp only [World.size_alloc, World.size_setCell]; omega))) | refine cell_drew ?_))⟩
  have R1 : RetAt w1 (w.heap.size + 1) := by rw [hw1]; exact (by repeat' (first | with_reducible assumption | (refine RetAt.top ?_; first | with_reducible rfl | (simp only [World.size_alloc, World.size_setCell]; done)) | refine RetAt.under ?_))
  have B1 : Below w.heap.size w w1 := by rw [hw1]; exact (by repeat' (first | with_reducible exact Below.refl _ _ | with_reducible assumption | with_reducible apply Below.alloc | with_reducible apply Below.setCell | with_reducible apply Below.drew | exact Nat.le_refl _ | omega | (simp only [World.size_alloc, World.size_setCell]; omega)))
  have hs1 : w1.heap.size = w.heap.size + 1 + 1 := by rw [hw1]; simp only [World.size_alloc]
  have HS1 := Lib.hid hs1
  rw [← hw1]
  have H1 := Lib.hid hw1
  clear hw1 hs1
  go_loopw [4, 3] (fun s4 s3 wr => ∃ n : Nat, n ≤ a.Rows.length ∧ s4 = .int .i64 n ∧ s3 = .int .i64 (gcdRows a.Whole.toNat (a.Rows.take n) : Nat) ∧ Drw w1 wr) (fun s4 _ _ => a.Rows.length - (intOf s4).toNat)
  case atStart => exact ⟨0, by omega, rfl, by rw [List.take_zero]; show Value.int .i64 a.Whole = (.int .i64 (a.Whole.toNat : Nat)); rw [HW.out], Drw.refl _⟩
  case round =>
    obtain ⟨n, hn, rfl, rfl, hd⟩ := hrel
    have AR := A1.kept (hd.below w1.heap.size) A1.lt
    have e3 := AR.e3
    by_cases hlt : n < a.Rows.length
    · obtain ⟨_, _, _, b2, o2, c2, ev, _, ca, lba, lb2, PAk⟩ := PA.out n hlt
      simp only [Value.slice.injEq, Option.some.injEq, Addr.mk.injEq, and_true, true_and] at ev
      obtain ⟨⟨rfl, rfl⟩, rfl⟩ := ev
      obtain ⟨rs, hrs⟩ : ∃ rs, a.Rows[n]? = some rs := ⟨_, List.getElem?_eq_getElem hlt⟩
      obtain ⟨hr4, hrx⟩ := PN.out n rs hrs
      have HR := Lib.hid hrs
      have HR4 := Lib.hid hr4
      have HPA := Lib.hid PAk
      have hgb := HB.out n
      have HT := Lib.hid (gcdRows_take a.Whole.toNat a.Rows n rs hrs)
      have HCA := Lib.hid ca
      generalize hgg : gcdRows a.Whole.toNat (a.Rows.take n) = gg at *
      have HG := Lib.hid hgg
      clear PAk hrs hr4 hrx hgg ca
      go_wp2
      clear e3 AR
      go_loopw [5, 3] (fun s5 s3 wz => ∃ q : Nat, q ≤ 4 ∧ s5 = .int .i64 q ∧ s3 = .int .i64 (gcdRow gg (rs.take q) : Nat) ∧ Drw w1 wz) (fun s5 _ _ => 4 - (intOf s5).toNat)
      case atStart => exact ⟨0, by omega, rfl, rfl, hd⟩
      case round =>
        clear hd
        obtain ⟨q, hq, rfl, rfl, hd⟩ := hrel
        have AR := A1.kept (hd.below w1.heap.size) A1.lt
        have e3 := AR.e3
        have BZ := B1.trans (hd.below w.heap.size)
        have hca := keepAt BZ lba HCA.out
        by_cases hqt : q < 4
        · obtain ⟨x, cx, ⟨bx0, bx1⟩, _, hcx⟩ := HPA.out q hqt
          obtain ⟨y, hy⟩ : ∃ y, rs[q]? = some y := ⟨_, List.getElem?_eq_getElem (by rw [HR4.out]; exact hqt)⟩
          obtain rfl : y = x := by rw [← hcx]; exact (cellAt_get HR.out hy).symm
          obtain ⟨N, rfl⟩ := Int.eq_ofNat_of_zero_le bx0
          have hcx' := keepAt BZ lb2 cx
          have hgq := gcdRow_bd (g := gg) (rs := rs.take q) hgb.1 hgb.2
          have HS := Lib.hid (gcdRow_take gg rs q _ hy)
          generalize hgk : gcdRow gg (rs.take q) = gk at *
          have HK := Lib.hid hgk
          clear hcx hy cx hgk
          go_wp2_with (go_at_call 104; (with_reducible refine (l2Gcd_any gk N (by omega) (by omega) _).mono ?_); rintro e w2 ⟨rfl, hd2⟩)
          go_roundw
          case rel => exact ⟨q + 1, by omega, by go_num, by rw [HS.out]; rfl, hd.trans hd2⟩
          case measure => simp [intOf]; omega
        · obtain rfl : q = 4 := by omega
          have ht : rs.take 4 = rs := List.take_of_length_le (by rw [HR4.out]; omega)
          have hv : gcdRow gg (rs.take 4) = gcdRows a.Whole.toNat (a.Rows.take (n + 1)) := by rw [ht, HT.out]
          have HV := Lib.hid hv
          clear ht hv
          go_wp2
          go_roundw
          case rel => exact ⟨n + 1, by omega, by go_num, by rw [HV.out], hd⟩
          case measure => simp [intOf]; omega
    · obtain rfl : n = a.Rows.length := by omega
      rw [List.take_length]
      have hgg : gcdRows a.Whole.toNat a.Rows = redG a := rfl
      rw [hgg] at hred ⊢
      have BR := B1.trans (hd.below w.heap.size)
      have RR := R1.kept (hd.below w1.heap.size) R1.lt
      obtain ⟨e0, e1, e2, _⟩ := AR
      have hw1z : w.heap.size + 1 < wr.heap.size := RR.lt
      have hdl : redL a = boxOf a.X a.Y (a.Whole * 1 / (redG a : Int)) (timesN a 1 (redG a : Int)) := by
        unfold redL
        rw [Int.mul_one]
        apply boxOf_congr
        intro i j _ _
        unfold rowOf redN timesN
        simp only [Int.mul_one]
      have hrl : (redL a).Rows = rowsTo (timesN a 1 (redG a : Int)) a.Y.toNat (a.X.toNat * a.Y.toNat) := by rw [hdl]; rfl
      generalize redG a = d at *
      have HRL := Lib.hid hrl
      clear hgg hdl hrl
      go_wp2_with fail
      refine (l2Times_any _ a 1 d HM.out ⟨by omega, by omega⟩ ⟨by omega, by omega⟩ _ (ra.kept (Nat.le_refl _) BR)).mono ?_
      rintro e w2 ⟨ar, c, vs, rfl, o2, b2⟩
      have B2 := BR.trans (b2.mono BR.size)
      have hend := box_out (g := w.heap.size + 1) B2 (by omega) (by omega) o2 (.int .i64 a.X) (.int .i64 a.Y) (.int .i64 (a.Whole * 1 / (d : Int))) (.slice ar (a.X.toNat * a.Y.toNat) c)
      obtain ⟨r0, r1, r2, r3, rf⟩ := RR.call b2
      clear o2 b2
      go_wp2
      refine bodyPost_ret (v := .agg #[.int .i64 a.X, .int .i64 a.Y, .int .i64 (a.Whole * 1 / (d : Int)), .slice ar (a.X.toNat * a.Y.toNat) c]) ?_ rfl ?_
      · simp [results, Try.results85, go_sem, r0, r1, r2, r3]
      · rw [HRL.out, show a.Whole / (d : Int) = a.Whole * 1 / (d : Int) by rw [Int.mul_one]]
        exact ⟨ar, c, vs, rfl, hend.1, hend.2⟩
set_option maxHeartbeats 1600000 in
theorem specReduceBox_any (va : Value) (a : BoxD) (w : World) (ra : RdII w va a.Rows) :
    Calls Try.prog 40 #[.agg #[.int .i64 a.X, .int .i64 a.Y, .int .i64 a.Whole, va]] w (BoxRes w (redD a) (boxB a)) := by
  go_enter Try.func40, Try.ntmps40
  go_wp2_with fail
  refine (l2Box_any _ a _ (ra.kept (Nat.le_refl _) (by repeat' (first | with_reducible exact Below.refl _ _ | with_reducible assumption | with_reducible apply Below.alloc | with_reducible apply Below.setCell | with_reducible apply Below.drew | exact Nat.le_refl _ | omega | (simp only [World.size_alloc, World.size_setCell]; omega))))).mono ?_
  rintro e w1 ⟨rfl, b1⟩
  have B1 : Below w.heap.size w w1 := Below.trans (by repeat' (first | with_reducible exact Below.refl _ _ | with_reducible assumption | with_reducible apply Below.alloc | with_reducible apply Below.setCell | with_reducible apply Below.drew | exact Nat.le_refl _ | omega | (simp only [World.size_alloc, World.size_setCell]; omega))) (b1.mono (by first | exact Nat.le_refl _ | omega | (simp only [World.size_alloc, World.size_setCell]; omega)))
  have A1 : BoxAt w1 w.heap.size a.X a.Y a.Whole va := ⟨keepCell b1 (by repeat' (first | with_reducible assumption | (refine cell_top ?_ rfl; first | with_reducible rfl | (simp only [World.size_alloc, World.size_setCell]; done)) | (refine cell_under ?_ ?_; (first | omega | (simp only [World.size_alloc, World.size_setCell]; omega))) | refine cell_drew ?_)), keepCell b1 (by repeat' (first | with_reducible assumption | (refine cell_top ?_ rfl; first | with_reducible rfl | (simp only [World.size_alloc, World.size_setCell]; done)) | (refine cell_under ?_ ?_; (first | omega | (simp only [World.size_alloc, World.size_setCell]; omega))) | refine cell_drew ?_)), keepCell b1 (by repeat' (first | with_reducible assumption | (refine cell_top ?_ rfl; first | with_reducible rfl | (simp only [World.size_alloc, World.size_setCell]; done)) | (refine cell_under ?_ ?_; (first | omega | (simp only [World.size_alloc, World.size_setCell]; omega))) | refine cell_drew ?_)), keepCell b1 (by repeat' (first | with_reducible assumption | (refine cell_top ?_ rfl; first | with_reducible rfl | (simp only [World.size_alloc, World.size_setCell]; done)) | (refine cell_under ?_ ?_; (first | omega | (simp only [World.size_alloc, World.size_setCell]; omega))) | refine cell_drew ?_))⟩
  have R1 : RetAt w1 (w.heap.size + 1) := RetAt.call b1 (by repeat' (first | with_reducible assumption | (refine RetAt.top ?_; first | with_reducible rfl | (simp only [World.size_alloc, World.size_setCell]; done)) | refine RetAt.under ?_))
  have hz := b1.size
  simp only [World.size_alloc] at hz
  clear b1
  rcases Bool.eq_false_or_eq_true (boxB a) with hok | hok
  · have hD : redD a = redL a := by unfold redD; rw [hok]; simp
    have HD := Lib.hid hD
    have HM := Lib.hid hok
    rw [hok]
    clear hD hok
    obtain ⟨a0, a1, a2, a3⟩ := A1
    go_wp2_with fail
    refine (l2Reduced_any _ a _ HM.out (ra.kept (Nat.le_refl _) B1)).mono ?_
    rintro e w2 ⟨ar, c, vs, rfl, o2, b2⟩
    have B2 := B1.trans (b2.mono B1.size)
    have hend := box_out (g := w.heap.size + 1) B2 (by omega) (by omega) o2 (.int .i64 a.X) (.int .i64 a.Y) (.int .i64 (a.Whole / (redG a : Int))) (.slice ar (a.X.toNat * a.Y.toNat) c)
    obtain ⟨r0, r1, r2, r3, rf⟩ := R1.call b2
    clear o2 b2
    go_wp2
    refine bodyPost_ret (v := .tuple #[.agg #[.int .i64 a.X, .int .i64 a.Y, .int .i64 (a.Whole / (redG a : Int)), .slice ar (a.X.toNat * a.Y.toNat) c], .bool true]) ?_ rfl ?_
    · simp [results, Try.results40, go_sem, r0, r1, r2, r3]
    · rw [HD.out, HM.out]
      have hl : (redL a).Rows.length = a.X.toNat * a.Y.toNat := boxOf_len _ _ _ _
      exact ⟨ar, c, vs, by rw [hl]; rfl, by rw [hl]; exact hend.1, hend.2⟩
  · have hD : redD a = zeroD := by unfold redD; rw [hok]; simp
    rw [hok]
    have HD := Lib.hid hD
    have HM := Lib.hid hok
    clear hD hok
    obtain ⟨r0, r1, r2, r3, rf⟩ := R1
    go_wp2
    refine bodyPost_ret (v := .tuple #[.agg #[.int .i64 0, .int .i64 0, .int .i64 0, .slice none 0 0], .bool false]) ?_ rfl ?_
    · simp [results, Try.results40, go_sem, r0, r1, r2, r3]
    · rw [HD.out, HM.out]; exact BoxRes.zero (by repeat' (first | with_reducible exact Below.refl _ _ | with_reducible assumption | with_reducible apply Below.alloc | with_reducible apply Below.setCell | with_reducible apply Below.drew | exact Nat.le_refl _ | omega | (simp only [World.size_alloc, World.size_setCell]; omega)))
end Go.Proofs.Ytjedajfpohhojaa
