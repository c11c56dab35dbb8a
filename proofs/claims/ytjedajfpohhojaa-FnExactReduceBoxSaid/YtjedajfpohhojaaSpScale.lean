/- ScaleBox: contracts of the reference's function. -/
import Derived.Test.YtjedajfpohhojaaFnScale
import Derived.Test.YtjedajfpohhojaaSpMix
import Derived.Deep.DeepCutAuto
set_option linter.unusedSimpArgs false
set_option linter.unusedVariables false
namespace Go.Proofs.Ytjedajfpohhojaa
open Go.RowKit

def timesN (b : BoxD) (k d : Int) : Num := fun i j p q => numB b i j p q * k / d
set_option maxHeartbeats 3200000 in
theorem l2Times_any (va : Value) (a : BoxD) (k d : Int) (qa : boxB a = true) (hk : 1 ≤ k ∧ k ≤ 1000) (hd : 1 ≤ d ∧ d ≤ 1000) (w : World) (ra : RdII w va a.Rows) :
    Calls Try.prog 73 #[.agg #[.int .i64 a.X, .int .i64 a.Y, .int .i64 a.Whole, va], .int .i64 k, .int .i64 d] w (BoxOnly w a.X a.Y (a.Whole * k / d) (rowsTo (timesN a k d) a.Y.toNat (a.X.toNat * a.Y.toNat))) := by
  have la := boxB_len2 qa
  have PA := Lib.hid (fun k hk => boxB_path qa ra k hk)
  obtain ⟨⟨hx0, hx1⟩, hy0, hy1⟩ := (boxB_iff.1 qa).1
  have hl9 : a.Rows.length ≤ 9 := boxB_len qa
  have hl1 : 1 ≤ a.Rows.length := by rw [la]; exact Nat.mul_le_mul (show 1 ≤ a.X.toNat by omega) (show 1 ≤ a.Y.toNat by omega)
  obtain ⟨wa0, wa1⟩ := (boxB_iff.1 qa).2.1
  obtain ⟨ba, off, cap, _, _, _, rfl, _⟩ := PA.out 0 (by omega)
  obtain ⟨hk0, hk1⟩ := hk
  obtain ⟨hd0, hd1⟩ := hd
  obtain ⟨hm0, hm1⟩ := mul_small (by omega) wa1 hk0 hk1
  have LA := Lib.hid la
  clear la qa ra
  have A0 : BoxAt ((w.alloc (.cells #[.int .i64 a.X, .int .i64 a.Y, .int .i64 a.Whole, .slice (some ⟨ba, off, none⟩) a.Rows.length cap] 25)).alloc (.cells #[.int .i64 0, .int .i64 0, .int .i64 0, .slice none 0 0] 25)) w.heap.size a.X a.Y a.Whole (.slice (some ⟨ba, off, none⟩) a.Rows.length cap) := ⟨(by repeat' (first | with_reducible assumption | (refine cell_top ?_ rfl; first | with_reducible rfl | (simp only [World.size_alloc, World.size_setCell]; done)) | (refine cell_under ?_ ?_; (first | omega | (simp only [World.size_alloc, World.size_setCell]; omega))) | refine cell_drew ?_)), (by repeat' (first | with_reducible assumption | (refine cell_top ?_ rfl; first | with_reducible rfl | (simp only [World.size_alloc, World.size_setCell]; done)) | (refine cell_under ?_ ?_; (first | omega | (simp only [World.size_alloc, World.size_setCell]; omega))) | refine cell_drew ?_)), (by repeat' (first | with_reducible assumption | (refine cell_top ?_ rfl; first | with_reducible rfl | (simp only [World.size_alloc, World.size_setCell]; done)) | (refine cell_under ?_ ?_; (first | omega | (simp only [World.size_alloc, World.size_setCell]; omega))) | refine cell_drew ?_)), (by repeat' (first | with_reducible assumption | (refine cell_top ?_ rfl; first | with_reducible rfl | (simp only [World.size_alloc, World.size_setCell]; done)) | (refine cell_under ?_ ?_; (first | omega | (simp only [World.size_alloc, World.size_setCell]; omega))) | refine cell_drew ?_))⟩
  have hwm := wrap_in (a.Whole * k) (by omega) (by omega)
  have hdz : ¬ d = 0 := by omega
  obtain ⟨hq0, hq1⟩ := div_small hm0 hm1 hd0
  have hq : IntKind.i64.wrap ((a.Whole * k).tdiv d) = a.Whole * k / d := by rw [Int.tdiv_eq_ediv_of_nonneg hm0]; exact wrap_in _ (by omega) (by omega)
  go_enter Try.func73, Try.ntmps73
  go_upto_region 1 with fail
  go_cut [7] (fun s7 wx => ∃ (gb lo : Nat) (ra : Option Addr), s7 = .pointer (some ⟨gb, 0, none⟩) ∧ lo = w.heap.size + 1 + 1 ∧ BoxRel wx lo gb lo wx a.X a.Y (a.Whole * k / d) [] ra 0 [] ∧ Below w.heap.size w wx ∧ BoxAt wx w.heap.size a.X a.Y a.Whole (.slice (some ⟨ba, off, none⟩) a.Rows.length cap) ∧ RetAt wx (w.heap.size + 1))
  case first =>
    go_wp2
    obtain ⟨w1, hw1⟩ : ∃ w1, w1 = ((w.alloc (.cells #[.int .i64 a.X, .int .i64 a.Y, .int .i64 a.Whole, .slice (some ⟨ba, off, none⟩) a.Rows.length cap] 25)).alloc (.cells #[.int .i64 0, .int .i64 0, .int .i64 0, .slice none 0 0] 25)) := ⟨_, rfl⟩
    rw [← hw1] at A0 ⊢
    have hs1 : w1.heap.size = w.heap.size + 1 + 1 := by rw [hw1]; simp only [World.size_alloc]
    have R1 : RetAt w1 (w.heap.size + 1) := by rw [hw1]; exact (by repeat' (first | with_reducible assumption | (refine RetAt.top ?_; first | with_reducible rfl | (simp only [World.size_alloc, World.size_setCell]; done)) | refine RetAt.under ?_))
    have B1 : Below w.heap.size w w1 := by rw [hw1]; exact (by repeat' (first | with_reducible exact Below.refl _ _ | with_reducible assumption | with_reducible apply Below.alloc | with_reducible apply Below.setCell | with_reducible apply Below.drew | exact Nat.le_refl _ | omega | (simp only [World.size_alloc, World.size_setCell]; omega)))
    have H1 := Lib.hid hw1
    have HS1 := Lib.hid hs1
    have HA := Lib.hid A0
    clear hw1 hs1
    obtain ⟨a0, a1, a2, a3⟩ := A0
    go_region_held3 (fun W => W.cell? ⟨w.heap.size, 0, none⟩ = some (.int .i64 a.X) ∧ W.cell? ⟨w.heap.size, 1, none⟩ = some (.int .i64 a.Y) ∧ W.cell? ⟨w.heap.size, 2, none⟩ = some (.int .i64 a.Whole)) (first | exact ⟨a0, a1, a2⟩ | go_keep) (fail)
    all_goals
      have hB2 : ∀ o1 o2 : Obj, Below w1.heap.size w1 ((w1.alloc o1).alloc o2).drew := fun o1 o2 => (((Below.refl _ _).alloc (Nat.le_refl _) _).alloc (by rw [World.size_alloc]; omega) _).drew
      go_wp2_with fail
      go_meet
      first
        | exact ⟨_, _, _, rfl, HS1.out, BoxRel.startA w1 _ _ _ _ _ rfl rfl, B1.trans ((hB2 _ _).mono B1.size), HA.out.kept (hB2 _ _) HA.out.lt, R1.call (hB2 _ _)⟩
        | exact ⟨_, _, _, rfl, HS1.out, BoxRel.startB w1 _ _ _ _ _ rfl rfl, B1.trans ((hB2 _ _).mono B1.size), HA.out.kept (hB2 _ _) HA.out.lt, R1.call (hB2 _ _)⟩
  case rest =>
    obtain ⟨gb, lo, ra, rfl, hlo, hst, BW, A3, hret3⟩ := hcut
    have HLO := Lib.hid hlo
    obtain ⟨W3, rfl⟩ : ∃ W3 : World, W3 = wc := ⟨_, rfl⟩
    clear hlo A0 hq
    go_wp2
    go_loopw [8] (fun s wr => ∃ n : Nat, n ≤ a.Rows.length ∧ s = .int .i64 n ∧ ∃ ar c vs, BoxRel W3 lo gb lo wr a.X a.Y (a.Whole * k / d) (rowsTo (timesN a k d) a.Y.toNat n) ar c vs) (fun s _ => a.Rows.length - (intOf s).toNat)
    case atStart => exact ⟨0, by omega, rfl, _, _, _, by simpa [rowsTo] using hst⟩
    case round =>
      clear hst
      obtain ⟨n, hn, rfl, ar, c, vs, hR⟩ := hrel
      have f3 := keepAt hR.below (by have := HLO.out; omega) A3.e3
      by_cases hlt : n < a.Rows.length
      · obtain ⟨_, _, _, b2, o2, c2, ev, _, ca, lba, lb2, PAk⟩ := PA.out n hlt
        simp only [Value.slice.injEq, Option.some.injEq, Addr.mk.injEq, and_true, true_and] at ev
        obtain ⟨⟨rfl, rfl⟩, rfl⟩ := ev
        have HPA := Lib.hid PAk
        clear PAk
        have hE := OwnV.empty 3 wr
        go_wp2
        obtain ⟨wo, rfl⟩ : ∃ wo : World, wo = wr := ⟨_, rfl⟩
        go_loopw [10, 9] (fun s8 s7 wz => ∃ q : Nat, q ≤ 4 ∧ s8 = .int .i64 q ∧ ∃ aq cq, s7 = .slice aq q cq ∧ OwnV 3 wo.heap.size wz.heap.size wz (.slice aq q cq) (ints (rowTo (timesN a k d) ((n / a.Y.toNat : Nat) : Int) ((n % a.Y.toNat : Nat) : Int) q)) ∧ Below wo.heap.size wo wz) (fun s8 _ _ => 4 - (intOf s8).toNat)
        case atStart => exact ⟨0, by omega, rfl, _, _, rfl, by simpa [rowTo, ints] using hE, (Below.refl _ _).alloc (Nat.le_refl _) _⟩
        case round =>
          clear hE
          obtain ⟨q, hq, rfl, aq, cq, rfl, hO, hB⟩ := hrel
          have hm := hR.b4
          have BA := hR.below.trans (hB.mono hm)
          have BAw := BW.trans (BA.mono (by have := HLO.out; omega))
          have e3 := keepAt BA (by have := HLO.out; omega) A3.e3
          have ca' := keepAt BAw lba ca
          by_cases hqt : q < 4
          · obtain ⟨x, cx, ⟨bx0, bx1⟩, nx, _⟩ := HPA.out q hqt
            have cx' := keepAt BAw lb2 cx
            obtain ⟨hp0, hp1⟩ := mul_small bx0 (by omega) hk0 hk1
            have hnum : timesN a k d ((n / a.Y.toNat : Nat) : Int) ((n % a.Y.toNat : Nat) : Int) ((q : Int) / 2) ((q : Int) % 2) = x * k / d := by
              unfold timesN; rw [nx]
            have hrs := rowTo_succ (timesN a k d) ((n / a.Y.toNat : Nat) : Int) ((n % a.Y.toNat : Nat) : Int) q
            rw [hnum] at hrs
            have hlen : (ints (rowTo (timesN a k d) ((n / a.Y.toNat : Nat) : Int) ((n % a.Y.toNat : Nat) : Int) q)).length = q := by simp
            have hz := hB.size
            have hrs2 : ints (rowTo (timesN a k d) ((n / a.Y.toNat : Nat) : Int) ((n % a.Y.toNat : Nat) : Int) q) ++ [Value.int .i64 (x * k / d)] = ints (rowTo (timesN a k d) ((n / a.Y.toNat : Nat) : Int) ((n % a.Y.toNat : Nat) : Int) (q + 1)) := by rw [hrs]; simp [ints]
            have HS := Lib.hid hrs2
            have HN := Lib.hid hlen
            generalize hgl : ints (rowTo (timesN a k d) ((n / a.Y.toNat : Nat) : Int) ((n % a.Y.toNat : Nat) : Int) q) = L at *
            have HG := Lib.hid hgl
            clear hgl nx hnum hrs hrs2 hlen ca cx
            go_wp2_with (at_builtin; refine append1_own rfl _ _ 22 3 rfl Try.underlying22 Try.infoInt rfl hO rfl rfl rfl (by rw [HN.out]; omega) (by omega) hz ?_)
            intro a2 c2 w2 hO2 hg2
            have hB2 : Below wo.heap.size wo w2 := hB.grown hg2 hz (fun g hg => (hO.lt g hg).1)
            rw [HS.out, HN.out] at hO2
            clear hO hB
            go_wp2
            go_roundw
            case rel => exact ⟨q + 1, by omega, by go_num, a2, c2, by rw [HN.out], hO2, hB2⟩
            case measure => simp [intOf]; omega
          · obtain rfl : q = 4 := by omega
            rw [rowTo_four] at hO
            have hb1 := hB
            have hrow := hO
            obtain ⟨wd, rfl⟩ : ∃ wd : World, wd = wr := ⟨_, rfl⟩
            have hRd := hR.later hb1
            obtain ⟨⟨g0, g1, g2, g3⟩, gf⟩ := hRd.cells
            have ht := hRd.rows.top
            have hlen := hRd.rows.len
            rw [rowsTo_length] at hlen ht g3
            have HN := Lib.hid hlen
            have hn9 : vs.length ≤ 4194304 := by omega
            have hlo := hRd.b4
            clear hlen
            go_wp2_with (at_builtin; refine append1_at rfl _ _ 23 22 rfl Try.underlying23 Try.infoInts rfl ht rfl rfl rfl rfl hn9 (by omega) hlo ?_)
            intro a2 c2 w2 hT2 hg2
            have hp := hR.push hb1 hrow hT2 (by rw [rowsTo_length]; exact hg2) (by rw [HN.out]; simp)
            obtain ⟨hp1, f1, f2⟩ := hp
            clear g0 g1 g2 g3 gf hR hRd ht hT2 hrow
            rw [← rows_next (timesN a k d) a.Y.toNat n] at hp1
            go_wp2
            go_roundw
            case rel => exact ⟨n + 1, by omega, by go_num, a2, c2, _, hp1⟩
            case measure => simp [intOf]; omega
      · obtain rfl : n = a.Rows.length := by omega
        have hrt := hret3.kept hR.below (by have := HLO.out; omega)
        obtain ⟨⟨g0, g1, g2, g3⟩, gf⟩ := hR.cells
        have hrows := hR.rows
        have B5 := BW.trans (hR.below.mono (by have := HLO.out; omega))
        rw [rowsTo_length] at g3 hrows
        obtain ⟨e0, e1, e2, e3, ef⟩ := hrt
        have hend := box_out (g := w.heap.size + 1) B5 (by omega) (by have := HLO.out; omega) hrows (.int .i64 a.X) (.int .i64 a.Y) (.int .i64 (a.Whole * k / d)) (.slice ar a.Rows.length c)
        clear hrows hR
        go_wp2
        refine bodyPost_ret (v := .agg #[.int .i64 a.X, .int .i64 a.Y, .int .i64 (a.Whole * k / d), .slice ar a.Rows.length c]) ?_ rfl ?_
        · simp [results, Try.results73, go_sem, e0, e1, e2, e3]
        · rw [LA.out] at hend ⊢
          exact ⟨ar, c, vs, rfl, hend.1, hend.2⟩
theorem timesN_four {a : BoxD} (qa : boxB a = true) (k : Int) (i j : Nat) (hk : 1 ≤ k) (hi : (i : Int) < a.X) (hj : (j : Int) < a.Y) : FourN (timesN a k 1) (a.Whole * k) i j := by
  obtain ⟨h0, h1, h2, h3, h4⟩ := boxB_four qa i j hi hj
  unfold FourN timesN
  simp only [Int.ediv_one]
  refine ⟨Int.mul_nonneg h0 (by omega), Int.mul_nonneg h1 (by omega), Int.mul_nonneg h2 (by omega), Int.mul_nonneg h3 (by omega), ?_⟩
  rw [← h4, Int.add_mul, Int.add_mul, Int.add_mul]
theorem scale_eq (a : BoxD) (k : Int) : boxOf a.X a.Y (a.Whole * k) (timesN a k 1) = boxOf a.X a.Y (k * a.Whole) (scaleN a k) := by
  rw [Int.mul_comm k a.Whole]
  apply boxOf_congr
  intro i j _ _
  unfold rowOf timesN scaleN
  simp only [Int.ediv_one, Int.mul_comm]
theorem scale_boxB {a : BoxD} (qa : boxB a = true) (k : Int) (hk : 1 ≤ k) : boxB (boxOf a.X a.Y (a.Whole * k) (timesN a k 1)) = decide (k * a.Whole ≤ 1000) := by
  rw [boxOf_boxB _ _ _ _ (boxB_sizes qa) (fun i j hi hj => timesN_four qa k i j hk hi hj)]
  have h1 := (boxB_iff.1 qa).2.1
  have h2 : 1 * 1 ≤ a.Whole * k := Int.mul_le_mul h1.1 hk (by omega) (by omega)
  rw [Bool.eq_iff_iff, inB_iff, decide_eq_true_iff, Int.mul_comm k]
  omega
set_option maxHeartbeats 1600000 in
theorem specScaleBox_any (va : Value) (a : BoxD) (k : Int) (w : World) (ra : RdII w va a.Rows) :
    Calls Try.prog 32 #[.agg #[.int .i64 a.X, .int .i64 a.Y, .int .i64 a.Whole, va], .int .i64 k] w (BoxRes w (scaleD a k) (scaleOk a k)) := by
  go_enter Try.func32, Try.ntmps32
  go_wp2_with fail
  refine (l2Box_any _ a _ (ra.kept (Nat.le_refl _) (by repeat' (first | with_reducible exact Below.refl _ _ | with_reducible assumption | with_reducible apply Below.alloc | with_reducible apply Below.setCell | with_reducible apply Below.drew | exact Nat.le_refl _ | omega | (simp only [World.size_alloc, World.size_setCell]; omega))))).mono ?_
  rintro e w1 ⟨rfl, b1⟩
  have B1 : Below w.heap.size w w1 := Below.trans (by repeat' (first | with_reducible exact Below.refl _ _ | with_reducible assumption | with_reducible apply Below.alloc | with_reducible apply Below.setCell | with_reducible apply Below.drew | exact Nat.le_refl _ | omega | (simp only [World.size_alloc, World.size_setCell]; omega))) (b1.mono (by first | exact Nat.le_refl _ | omega | (simp only [World.size_alloc, World.size_setCell]; omega)))
  have A1 : BoxAt w1 w.heap.size a.X a.Y a.Whole va := ⟨keepCell b1 (by repeat' (first | with_reducible assumption | (refine cell_top ?_ rfl; first | with_reducible rfl | (simp only [World.size_alloc, World.size_setCell]; done)) | (refine cell_under ?_ ?_; (first | omega | (simp only [World.size_alloc, World.size_setCell]; omega))) | refine cell_drew ?_)), keepCell b1 (by repeat' (first | with_reducible assumption | (refine cell_top ?_ rfl; first | with_reducible rfl | (simp only [World.size_alloc, World.size_setCell]; done)) | (refine cell_under ?_ ?_; (first | omega | (simp only [World.size_alloc, World.size_setCell]; omega))) | refine cell_drew ?_)), keepCell b1 (by repeat' (first | with_reducible assumption | (refine cell_top ?_ rfl; first | with_reducible rfl | (simp only [World.size_alloc, World.size_setCell]; done)) | (refine cell_under ?_ ?_; (first | omega | (simp only [World.size_alloc, World.size_setCell]; omega))) | refine cell_drew ?_)), keepCell b1 (by repeat' (first | with_reducible assumption | (refine cell_top ?_ rfl; first | with_reducible rfl | (simp only [World.size_alloc, World.size_setCell]; done)) | (refine cell_under ?_ ?_; (first | omega | (simp only [World.size_alloc, World.size_setCell]; omega))) | refine cell_drew ?_))⟩
  have R1 : RetAt w1 (w.heap.size + 1) := RetAt.call b1 (by repeat' (first | with_reducible assumption | (refine RetAt.top ?_; first | with_reducible rfl | (simp only [World.size_alloc, World.size_setCell]; done)) | refine RetAt.under ?_))
  have hz := b1.size
  simp only [World.size_alloc] at hz
  clear b1
  rcases Bool.eq_false_or_eq_true (boxB a) with hok | hok
  · rw [hok]
    obtain ⟨a0, a1, a2, a3⟩ := A1
    rcases Bool.eq_false_or_eq_true (inB k 1 1000) with h1 | h1
    · obtain ⟨hk0, hk1⟩ := inB_iff.1 h1
      go_wp2_with (go_at_call 52; refine (l1In_any _ _ _ _).mono ?_; rintro e w' ⟨rfl, rfl⟩)
      refine (l2Times_any va a k 1 hok ⟨hk0, hk1⟩ ⟨by omega, by omega⟩ _ (ra.kept (Nat.le_refl _) B1)).mono ?_
      rintro e w2 ⟨ar, c, vs, rfl, o2, b2⟩
      have B2 := B1.trans (b2.mono B1.size)
      have R2 := R1.call b2
      have hz2 := b2.size
      rw [Int.ediv_one]
      have hrd : RdII w2 (.slice ar (boxOf a.X a.Y (a.Whole * k) (timesN a k 1)).Rows.length c) (boxOf a.X a.Y (a.Whole * k) (timesN a k 1)).Rows := by rw [boxOf_len]; exact o2.rdII
      by_cases hle : k * a.Whole ≤ 1000
      · have hm : scaleOk a k = true := by unfold scaleOk; rw [hok, h1, decide_eq_true hle]; rfl
        have hD : scaleD a k = boxOf a.X a.Y (a.Whole * k) (timesN a k 1) := by unfold scaleD; rw [hm, scale_eq]; simp
        have hk := l2Kept_yes ar c (boxOf a.X a.Y (a.Whole * k) (timesN a k 1)) w2 hrd (by rw [scale_boxB hok k hk0]; exact decide_eq_true hle)
        simp only [boxOf_len, boxOf_X, boxOf_Y, boxOf_Whole] at hk
        have HD := Lib.hid hD
        have HM := Lib.hid hm
        have HK := Lib.hid hk
        clear hD hm hk a0 a1 a2 a3
        go_wp2_with fail
        refine HK.out.mono ?_
        rintro e w3 ⟨rfl, b3⟩
        have B3 := B2.trans (b3.mono B2.size)
        have hend := box_out (g := w.heap.size + 1) B3 (by omega) (by omega) ((o2.kept b3 (Nat.le_refl _)).weaken (Nat.le_refl _) b3.size) (.int .i64 a.X) (.int .i64 a.Y) (.int .i64 (a.Whole * k)) (.slice ar (a.X.toNat * a.Y.toNat) c)
        obtain ⟨r0, r1, r2, r3, rf⟩ := R2.call b3
        clear o2 b2 b3 R1
        go_wp2
        refine bodyPost_ret (v := .tuple #[.agg #[.int .i64 a.X, .int .i64 a.Y, .int .i64 (a.Whole * k), .slice ar (a.X.toNat * a.Y.toNat) c], .bool true]) ?_ rfl ?_
        · simp [results, Try.results32, go_sem, r0, r1, r2, r3]
        · rw [HD.out, HM.out]
          exact ⟨ar, c, vs, by rw [boxOf_len]; rfl, by rw [boxOf_len]; exact hend.1, hend.2⟩
      · have hm : scaleOk a k = false := by unfold scaleOk; rw [hok, h1, decide_eq_false hle]; rfl
        have hD : scaleD a k = zeroD := by unfold scaleD; rw [hm]; simp
        have hk := l2Kept_no ar c (boxOf a.X a.Y (a.Whole * k) (timesN a k 1)) w2 hrd (by rw [scale_boxB hok k hk0]; exact decide_eq_false hle)
        simp only [boxOf_len, boxOf_X, boxOf_Y, boxOf_Whole] at hk
        have HD := Lib.hid hD
        have HM := Lib.hid hm
        have HK := Lib.hid hk
        clear hD hm hk a0 a1 a2 a3
        go_wp2_with fail
        refine HK.out.mono ?_
        rintro e w3 ⟨rfl, b3⟩
        have B3 := B2.trans (b3.mono B2.size)
        obtain ⟨r0, r1, r2, r3, rf⟩ := R2.call b3
        clear o2 b2 b3 R1
        go_wp2
        refine bodyPost_ret (v := .tuple #[.agg #[.int .i64 0, .int .i64 0, .int .i64 0, .slice none 0 0], .bool false]) ?_ rfl ?_
        · simp [results, Try.results32, go_sem, r0, r1, r2, r3]
        · rw [HD.out, HM.out]; exact BoxRes.zero (by repeat' (first | with_reducible exact Below.refl _ _ | with_reducible assumption | with_reducible apply Below.alloc | with_reducible apply Below.setCell | with_reducible apply Below.drew | exact Nat.le_refl _ | omega | (simp only [World.size_alloc, World.size_setCell]; omega)))
    · have hm : scaleOk a k = false := by unfold scaleOk; rw [hok, h1]; rfl
      have hD : scaleD a k = zeroD := by unfold scaleD; rw [hm]; simp
      have HD := Lib.hid hD
      have HM := Lib.hid hm
      clear hD hm
      obtain ⟨r0, r1, r2, r3, rf⟩ := R1
      go_wp2_with (go_at_call 52; refine (l1In_any _ _ _ _).mono ?_; rintro e w' ⟨rfl, rfl⟩)
      refine bodyPost_ret (v := .tuple #[.agg #[.int .i64 0, .int .i64 0, .int .i64 0, .slice none 0 0], .bool false]) ?_ rfl ?_
      · simp [results, Try.results32, go_sem, r0, r1, r2, r3]
      · rw [HD.out, HM.out]; exact BoxRes.zero (by repeat' (first | with_reducible exact Below.refl _ _ | with_reducible assumption | with_reducible apply Below.alloc | with_reducible apply Below.setCell | with_reducible apply Below.drew | exact Nat.le_refl _ | omega | (simp only [World.size_alloc, World.size_setCell]; omega)))
  · have hm : scaleOk a k = false := by unfold scaleOk; rw [hok]; rfl
    have hD : scaleD a k = zeroD := by unfold scaleD; rw [hm]; simp
    rw [hok]
    have HD := Lib.hid hD
    have HM := Lib.hid hm
    clear hD hm
    obtain ⟨r0, r1, r2, r3, rf⟩ := R1
    go_wp2
    refine bodyPost_ret (v := .tuple #[.agg #[.int .i64 0, .int .i64 0, .int .i64 0, .slice none 0 0], .bool false]) ?_ rfl ?_
    · simp [results, Try.results32, go_sem, r0, r1, r2, r3]
    · rw [HD.out, HM.out]; exact BoxRes.zero (by repeat' (first | with_reducible exact Below.refl _ _ | with_reducible assumption | with_reducible apply Below.alloc | with_reducible apply Below.setCell | with_reducible apply Below.drew | exact Nat.le_refl _ | omega | (simp only [World.size_alloc, World.size_setCell]; omega)))
end Go.Proofs.Ytjedajfpohhojaa
