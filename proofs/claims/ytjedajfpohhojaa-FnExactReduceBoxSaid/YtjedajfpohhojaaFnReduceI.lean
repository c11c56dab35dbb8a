/- ReduceBox: contracts of the program's function. -/
import Derived.Test.YtjedajfpohhojaaFnReduce
set_option linter.unusedSimpArgs false
set_option linter.unusedVariables false
namespace Go.Proofs.Ytjedajfpohhojaa
open Go.RowKit

set_option maxHeartbeats 800000 in
theorem red_call (w : World) (g4 g5 : Nat) (va : Value) (a : BoxD) (d : Nat) (ha : boxB a = true) (hd0 : 1 ≤ d) (hd1 : d ≤ 1000) (ra : RdII w va a.Rows)
    (ca : BoxAt w g4 a.X a.Y a.Whole va) (cd : w.cell? ⟨g5, 0, none⟩ = some (.int .i64 d)) (i j p q : Nat) (hi : (i : Int) < a.X) (hj : (j : Int) < a.Y) (hp : p < 2) (hq : q < 2) :
    Calls Try.prog 87 #[.int .i64 i, .int .i64 j, .int .i64 p, .int .i64 q, .pointer (some ⟨g4, 0, none⟩), .pointer (some ⟨g5, 0, none⟩)] w fun e w' => e = .returned (.int .i64 (redN a d i j p q)) ∧ Below w.heap.size w w' := by
  have na := numB_bound ha i j hi hj p q hp hq
  have wa := (boxB_iff.1 ha).2.1
  have h1 := div_small (n := numB a i j p q) (d := (d : Int)) na.1 (by omega) (by omega)
  have hw : IntKind.i64.wrap ((numB a i j p q).tdiv (d : Int)) = numB a i j p q / (d : Int) := by rw [Int.tdiv_eq_ediv_of_nonneg na.1]; exact wrap_in _ (by omega) (by omega)
  have hz : ¬ (d : Int) = 0 := by omega
  have hz2 : ¬ d = 0 := by omega
  clear na h1 wa
  unfold redN
  go_enter Try.func87, Try.ntmps87
  go_wp2
  go_region_held3 (fun w' => (Below w.heap.size w w' ∧ w'.cell? ⟨g4, 0, none⟩ = some (.int .i64 a.X) ∧ w'.cell? ⟨g4, 1, none⟩ = some (.int .i64 a.Y) ∧ w'.cell? ⟨g4, 2, none⟩ = some (.int .i64 a.Whole) ∧ w'.cell? ⟨g4, 3, none⟩ = some va) ∧
      w'.cell? ⟨g5, 0, none⟩ = some (.int .i64 d))
    (first | exact ⟨held1 (Below.refl _ _).drew ca, cd⟩ | exact ⟨held1 hBn ca, keepCell hBn cd⟩)
    (first
      | (go_at_call 71; have hS := (And.left (by assumption : (Below w.heap.size w _ ∧ _) ∧ _)).1; (with_reducible refine (at_any va a ha i j p q hi hj hp hq _ (ra.kept (Nat.le_refl _) hS)).mono ?_); rintro e w1 ⟨rfl, b1⟩; have hBn : Below w.heap.size w w1 := hS.trans (b1.mono hS.size)))
  all_goals
    go_wp2
    go_ret
    exact ⟨rfl, hBn⟩
theorem red_func (args : Array Value) (w : World) : (callFunc 87 args).run Try.prog w = .ok (.enter 87 args) w := by kernel_rfl

/-- A variable of its own block. -/
structure VarAt (w : World) (g : Nat) (wz : World) (u : Value) : Prop where
  below : Below w.heap.size w wz
  le : w.heap.size ≤ g
  cell : wz.cell? ⟨g, 0, none⟩ = some u
  frz : wz.frozen? ⟨g, 0, none⟩ = false
theorem VarAt.set {w wz : World} {g : Nat} {u : Value} (h : VarAt w g wz u) (v : Value) : VarAt w g (wz.setCell ⟨g, 0, none⟩ v) v := by
  refine ⟨h.below.setCell h.le _, h.le, ?_, ?_⟩
  · exact World.cell?_setCell_same _ _ _ (by rw [h.cell])
  · rw [World.frozen?_setCell]; exact h.frz
theorem VarAt.drw {w wz wz' : World} {g : Nat} {u : Value} (h : VarAt w g wz u) (d : Drw wz wz') : VarAt w g wz' u := by
  obtain ⟨n, rfl⟩ := d
  exact ⟨below_drewN h.below n, h.le, h.cell, h.frz⟩
theorem VarAt.start (w : World) (u : Value) (T : Nat) : VarAt w w.heap.size (w.alloc (.cells #[u] T)) u :=
  ⟨(Below.refl _ _).alloc (Nat.le_refl _) _, Nat.le_refl _, cell_top rfl rfl, by simp⟩

set_option maxRecDepth 100000 in
set_option maxHeartbeats 3200000 in
theorem implReduceBox_any (va : Value) (a : BoxD) (w : World) (ra : RdII w va a.Rows) :
    Calls Try.prog 41 #[.agg #[.int .i64 a.X, .int .i64 a.Y, .int .i64 a.Whole, va]] w (BoxRes w (redD a) (boxB a)) := by
  go_enter Try.func41, Try.ntmps41
  go_wp2_with fail
  refine (implIsBox_any _ a _ (ra.kept (Nat.le_refl _) (by repeat' (first | with_reducible exact Below.refl _ _ | with_reducible assumption | with_reducible apply Below.alloc | with_reducible apply Below.setCell | with_reducible apply Below.drew | exact Nat.le_refl _ | omega | (simp only [World.size_alloc, World.size_setCell]; omega))))).mono ?_
  rintro e w1 ⟨rfl, b1⟩
  have B1 : Below w.heap.size w w1 := Below.trans (by repeat' (first | with_reducible exact Below.refl _ _ | with_reducible assumption | with_reducible apply Below.alloc | with_reducible apply Below.setCell | with_reducible apply Below.drew | exact Nat.le_refl _ | omega | (simp only [World.size_alloc, World.size_setCell]; omega))) (b1.mono (by first | exact Nat.le_refl _ | omega | (simp only [World.size_alloc, World.size_setCell]; omega)))
  have A1 : BoxAt w1 w.heap.size a.X a.Y a.Whole va := ⟨keepCell b1 (by repeat' (first | with_reducible assumption | (refine cell_top ?_ rfl; first | with_reducible rfl | (simp only [World.size_alloc, World.size_setCell]; done)) | (refine cell_under ?_ ?_; (first | omega | (simp only [World.size_alloc, World.size_setCell]; omega))) | refine cell_drew ?_)), keepCell b1 (by repeat' (first | with_reducible assumption | (refine cell_top ?_ rfl; first | with_reducible rfl | (simp only [World.size_alloc, World.size_setCell]; done)) | (refine cell_under ?_ ?_; (first | omega | (simp only [World.size_alloc, World.size_setCell]; omega))) | refine cell_drew ?_)), keepCell b1 (by repeat' (first | with_reducible assumption | (refine cell_top ?_ rfl; first | with_reducible rfl | (simp only [World.size_alloc, World.size_setCell]; done)) | (refine cell_under ?_ ?_; (first | omega | (simp only [World.size_alloc, World.size_setCell]; omega))) | refine cell_drew ?_)), keepCell b1 (by repeat' (first | with_reducible assumption | (refine cell_top ?_ rfl; first | with_reducible rfl | (simp only [World.size_alloc, World.size_setCell]; done)) | (refine cell_under ?_ ?_; (first | omega | (simp only [World.size_alloc, World.size_setCell]; omega))) | refine cell_drew ?_))⟩
  have R1 : RetAt w1 (w.heap.size + 1) := RetAt.call b1 (by repeat' (first | with_reducible assumption | (refine RetAt.top ?_; first | with_reducible rfl | (simp only [World.size_alloc, World.size_setCell]; done)) | refine RetAt.under ?_))
  have hz := b1.size
  simp only [World.size_alloc] at hz
  clear b1
  rcases Bool.eq_false_or_eq_true (boxB a) with hok | hok
  · have hD : redD a = redL a := by unfold redD; rw [hok]; simp
    have HD := Lib.hid hD
    have HM := Lib.hid hok
    have PA := Lib.hid (fun k hk => boxB_path hok ra k hk)
    have PN := Lib.hid (fun k rs hr => boxB_nats hok k rs hr)
    obtain ⟨hx, hy⟩ := (boxB_iff.1 hok).1
    obtain ⟨wa0, wa1⟩ := (boxB_iff.1 hok).2.1
    have la := boxB_len2 hok
    have hl9 : a.Rows.length ≤ 9 := boxB_len hok
    have hl1 : 1 ≤ a.Rows.length := by rw [la]; exact Nat.mul_le_mul (show 1 ≤ a.X.toNat by omega) (show 1 ≤ a.Y.toNat by omega)
    have hW : ((a.Whole.toNat : Nat) : Int) = a.Whole := Int.toNat_of_nonneg (by omega)
    have hbd := fun n => gcdRows_bd (g := a.Whole.toNat) (rss := a.Rows.take n) (by omega) (by omega)
    have hred := gcdRows_bd (g := a.Whole.toNat) (rss := a.Rows) (by omega) (by omega)
    have HW := Lib.hid hW
    have HB := Lib.hid hbd
    obtain ⟨ba, off, cap, _, _, _, rfl, _⟩ := PA.out 0 (by omega)
    rw [hok]
    obtain ⟨a0, a1, a2, a3⟩ := A1
    have hst := VarAt.start w1 (.int .i64 a.Whole) 3
    have HA := Lib.hid (BoxAt.mk a0 a1 a2 a3)
    have hlt1 : w.heap.size < w1.heap.size := by omega
    clear hD hok hW hbd la
    go_wp2
    go_loopw [18] (fun s18 wr => ∃ n : Nat, n ≤ a.Rows.length ∧ s18 = .int .i64 n ∧ VarAt w1 w1.heap.size wr (.int .i64 (gcdRows a.Whole.toNat (a.Rows.take n) : Nat))) (fun s18 _ => a.Rows.length - (intOf s18).toNat)
    case atStart => exact ⟨0, by omega, rfl, by rw [List.take_zero]; show VarAt w1 w1.heap.size _ (.int .i64 (a.Whole.toNat : Nat)); rw [HW.out]; exact hst⟩
    case round =>
      clear hst a0 a1 a2 a3
      obtain ⟨n, hn, rfl, hV⟩ := hrel
      by_cases hlt : n < a.Rows.length
      · obtain ⟨_, _, _, b2, o2, c2, ev, _, ca, lba, lb2, PAk⟩ := PA.out n hlt
        simp only [Value.slice.injEq, Option.some.injEq, Addr.mk.injEq, and_true, true_and] at ev
        obtain ⟨⟨rfl, rfl⟩, rfl⟩ := ev
        obtain ⟨rs, hrs⟩ : ∃ rs, a.Rows[n]? = some rs := ⟨_, List.getElem?_eq_getElem hlt⟩
        obtain ⟨hr4, hrx⟩ := PN.out n rs hrs
        have HR := Lib.hid hrs
        have HR4 := Lib.hid hr4
        have HPA := Lib.hid PAk
        have hca := keepAt (B1.trans (hV.below.mono B1.size)) lba ca
        have hgb := HB.out n
        have HT := Lib.hid (gcdRows_take a.Whole.toNat a.Rows n rs hrs)
        generalize hgg : gcdRows a.Whole.toNat (a.Rows.take n) = gg at *
        have HG := Lib.hid hgg
        clear PAk hrs hr4 hrx hgg ca
        go_wp2
        go_loopw [24] (fun s24 wz => ∃ q : Nat, q ≤ 4 ∧ s24 = .int .i64 q ∧ VarAt w1 w1.heap.size wz (.int .i64 (gcdRow gg (rs.take q) : Nat))) (fun s24 _ => 4 - (intOf s24).toNat)
        case atStart => exact ⟨0, by omega, rfl, hV⟩
        case round =>
          clear hV hca
          obtain ⟨q, hq, rfl, hV⟩ := hrel
          by_cases hqt : q < 4
          · obtain ⟨x, cx, ⟨bx0, bx1⟩, _, hcx⟩ := HPA.out q hqt
            obtain ⟨y, hy⟩ : ∃ y, rs[q]? = some y := ⟨_, List.getElem?_eq_getElem (by rw [HR4.out]; exact hqt)⟩
            obtain rfl : y = x := by rw [← hcx]; exact (cellAt_get HR.out hy).symm
            obtain ⟨N, rfl⟩ := Int.eq_ofNat_of_zero_le bx0
            have hcx' := keepAt (B1.trans (hV.below.mono B1.size)) lb2 cx
            have hgq := gcdRow_bd (g := gg) (rs := rs.take q) hgb.1 hgb.2
            have HS := Lib.hid (gcdRow_take gg rs q _ hy)
            have vc := hV.cell
            have vf := hV.frz
            generalize hgk : gcdRow gg (rs.take q) = gk at *
            have HK := Lib.hid hgk
            clear hcx hy cx hgk
            go_wp2_with (go_at_call 86; (with_reducible refine (divisor_any gk N (by omega) (by omega) _).mono ?_); rintro e w2 ⟨rfl, hd⟩; have hV2 := hV.drw hd; have vc := hV2.cell; have vf := hV2.frz)
            go_roundw
            case rel => exact ⟨q + 1, by omega, by go_num, by rw [HS.out]; exact hV2.set _⟩
            case measure => simp [intOf]; omega
          · obtain rfl : q = 4 := by omega
            have ht : rs.take 4 = rs := List.take_of_length_le (by rw [HR4.out]; omega)
            rw [ht, ← HT.out] at hV
            have HV := Lib.hid hV
            clear ht hV
            go_wp2
            go_roundw
            case rel => exact ⟨n + 1, by omega, by go_num, HV.out⟩
            case measure => simp [intOf]; omega
      · obtain rfl : n = a.Rows.length := by omega
        rw [List.take_length] at hV
        have hgg : gcdRows a.Whole.toNat a.Rows = redG a := rfl
        rw [hgg] at hV hred
        generalize hgk : redG a = d at *
        have HK := Lib.hid hgk
        clear hgk hgg
        have BV := hV.below
        have cd := hV.cell
        have BB := B1.trans (BV.mono B1.size)
        have AV := HA.out.kept BV HA.out.lt
        have RV := R1.call BV
        have hzd := BV.size
        have hm := Int.tdiv_eq_ediv_of_nonneg (a := a.Whole) (b := (d : Int)) (by omega)
        obtain ⟨hq0, hq1⟩ := div_small (n := a.Whole) (d := (d : Int)) (by omega) (by omega) (by omega)
        have hqq : IntKind.i64.wrap (a.Whole.tdiv (d : Int)) = a.Whole / (d : Int) := by rw [hm]; exact wrap_in _ (by omega) (by omega)
        have hdz : ¬ (d : Int) = 0 := by omega
        have hdz2 : ¬ d = 0 := by omega
        have hlV : w1.heap.size < wr.heap.size := World.block_lt_of_cell? wr ⟨w1.heap.size, 0, none⟩ cd
        obtain ⟨r0, r1, r2, r3, rf⟩ := RV
        have HV := Lib.hid AV
        clear hV hm
        obtain ⟨v0, v1, v2, v3⟩ := AV
        have hne : ¬ (w.heap.size + 1 = w1.heap.size) := by omega
        have hne2 : ¬ (w1.heap.size = w.heap.size + 1) := by omega
        have CB : ∀ wr' : World, Below wr.drew.heap.size wr.drew wr' → ∀ i j p q : Nat, (i : Int) < a.X → (j : Int) < a.Y → p < 2 → q < 2 →
            Calls Try.prog 87 (#[.int .i64 i, .int .i64 j, .int .i64 p, .int .i64 q] ++ #[.pointer (some ⟨w.heap.size, 0, none⟩), .pointer (some ⟨w1.heap.size, 0, none⟩)]) wr' fun e w' => e = .returned (.int .i64 (redN a d i j p q)) ∧ Below wr'.heap.size wr' w' :=
          fun wr' hB i j p q hi hj hp hq => red_call wr' _ _ _ a d HM.out hred.1 hred.2 (ra.kept (Nat.le_refl _) (BB.drew.trans (hB.mono (show w.heap.size ≤ wr.heap.size from BB.size)))) ((HV.out.sameHeap (w' := wr.drew) rfl).kept hB HV.out.lt) (keepCell hB cd) i j p q hi hj hp hq
        have CB := Lib.hid CB
        go_wp2
        go_region_held3 (fun W => W.cell? ⟨w.heap.size, 0, none⟩ = some (.int .i64 a.X) ∧ W.cell? ⟨w.heap.size, 1, none⟩ = some (.int .i64 a.Y) ∧ W.cell? ⟨w.heap.size, 2, none⟩ = some (.int .i64 a.Whole) ∧ W.cell? ⟨w1.heap.size, 0, none⟩ = some (.int .i64 d))
          (first | exact ⟨v0, v1, v2, cd⟩ | exact ⟨keepCell b2 v0, keepCell b2 v1, keepCell b2 v2, keepCell b2 cd⟩ | go_keep)
          (first | (go_at_call 69
                    refine (newBoxZ_any a.X a.Y hx hy (a.Whole / (d : Int)) 87 #[.pointer (some ⟨w.heap.size, 0, none⟩), .pointer (some ⟨w1.heap.size, 0, none⟩)] (redN a d) _ red_func CB.out).mono ?_
                    rintro e w2 ⟨ar, c, vs, rfl, o2, b2⟩
                    have B2 : Below w.heap.size w w2 := BB.drew.trans (b2.mono (show w.heap.size ≤ wr.heap.size from BB.size))
                    have hend := box_out (g := w.heap.size + 1) B2 (by omega) (show w.heap.size + 1 < wr.heap.size by omega) o2 (.int .i64 a.X) (.int .i64 a.Y) (.int .i64 (a.Whole / (d : Int))) (.slice ar (a.X.toNat * a.Y.toNat) c)
                    obtain ⟨r0, r1, r2, r3, rf⟩ := (RetAt.call b2 ⟨r0, r1, r2, r3, rf⟩ : RetAt w2 (w.heap.size + 1))
                    have HE := Lib.hid hend
                    clear hend o2))
        all_goals
          go_wp2
          have hl : redL a = boxOf a.X a.Y (a.Whole / (d : Int)) (redN a d) := by unfold redL; rw [HK.out]
          refine bodyPost_ret (v := .tuple #[.agg #[.int .i64 a.X, .int .i64 a.Y, .int .i64 (a.Whole / (d : Int)), .slice ar (a.X.toNat * a.Y.toNat) c], .bool true]) ?_ rfl ?_
          · simp [results, Try.results41, go_sem, r0, r1, r2, r3]
          · rw [HD.out, HM.out, hl]
            first
              | exact ⟨ar, c, vs, by rw [boxOf_len]; rfl, by rw [boxOf_len]; exact HE.out.1, HE.out.2⟩
              | exact ⟨ar, c, vs, by rw [boxOf_len]; rfl, by rw [boxOf_len]; exact HE.out.1.sameHeap rfl, HE.out.2.drew⟩
  · have hD : redD a = zeroD := by unfold redD; rw [hok]; simp
    rw [hok]
    have HD := Lib.hid hD
    have HM := Lib.hid hok
    clear hD hok
    obtain ⟨r0, r1, r2, r3, rf⟩ := R1
    go_wp2
    refine bodyPost_ret (v := .tuple #[.agg #[.int .i64 0, .int .i64 0, .int .i64 0, .slice none 0 0], .bool false]) ?_ rfl ?_
    · simp [results, Try.results41, go_sem, r0, r1, r2, r3]
    · rw [HD.out, HM.out]; exact BoxRes.zero (by repeat' (first | with_reducible exact Below.refl _ _ | with_reducible assumption | with_reducible apply Below.alloc | with_reducible apply Below.setCell | with_reducible apply Below.drew | exact Nat.le_refl _ | omega | (simp only [World.size_alloc, World.size_setCell]; omega)))
end Go.Proofs.Ytjedajfpohhojaa
