/- PlayBox: contracts of the reference's function. The worth of a play by places. Functionals: contracts of the program's and the reference's test. The worth of a functional: contracts of the program's and the reference's sum. -/
import Derived.Test.YtcifpfdlkpddeaaGreatDoorQxay
import Derived.Test.YtcifpfdlkpddeaaGreatDoorQxah
import Derived.Test.YtcifpfdlkpddeaaGreatDoorQxae
import Derived.Test.YtcifpfdlkpddeaaGreatDoorQxab
import Derived.Test.YtcifpfdlkpddeaaGreatDoorQxar
set_option linter.unusedSimpArgs false
set_option linter.unusedVariables false
namespace Go.Proofs.YtcifpfdlkpddeaaGreatDoor
open Go.RowKit

theorem play_row {x : Int} {ps : List Int} {whole : Int} {i k : Nat} {p q n : Nat} (hp : ps[i]? = some (p : Int)) (hq : ps[x.toNat + k]? = some (q : Int)) (p2 : p < 2) (q2 : q < 2) (hn : 2 * p + q = n) :
    rowOf (playN x ps whole) i k = (List.replicate 4 (0 : Int)).set n whole := by
  subst hn
  unfold rowOf playN
  simp only [Int.toNat_natCast, List.getD_eq_getElem?_getD, hp, hq, Option.getD_some]
  have : p = 0 ∨ p = 1 := by omega
  have : q = 0 ∨ q = 1 := by omega
  rcases ‹p = 0 ∨ p = 1› with rfl | rfl <;> rcases ‹q = 0 ∨ q = 1› with rfl | rfl <;> simp [List.replicate]

set_option maxHeartbeats 3200000 in
theorem l2PlayBox_any (x y : Int) (v : Value) (ps : List Int) (whole : Int) (hs : sizesB x y = true) (hp : bitsB ps (x + y) = true) (w : World) (h : RdI w v ps) :
    Calls Tryz.prog 65 #[.int .i64 x, .int .i64 y, v, .int .i64 whole] w (BoxOnly w x y whole (rowsTo (playN x ps whole) y.toNat (x.toNat * y.toNat))) := by
  obtain ⟨⟨hx0, hx1⟩, hy0, hy1⟩ := sizesB_iff.1 hs
  obtain ⟨hall, hlen⟩ := bits_iff.1 hp
  obtain ⟨X, rfl⟩ := Int.eq_ofNat_of_zero_le (show 0 ≤ x by omega)
  obtain ⟨Y, rfl⟩ := Int.eq_ofNat_of_zero_le (show 0 ≤ y by omega)
  obtain ⟨a1, b1, o1, k1, rfl, m1, e1, d1⟩ := h
  unfold maxLen at m1
  obtain rfl := e1 (by omega)
  have hXY : X * Y ≤ 9 := Nat.mul_le_mul (show X ≤ 3 by omega) (show Y ≤ 3 by omega)
  simp only [Int.toNat_natCast]
  have HL := Lib.hid hlen
  have HA := Lib.hid hall
  have HD := Lib.hid d1
  clear hlen hall d1 e1 hp hs
  go_enter Tryz.func65, Tryz.ntmps65
  go_wp2
  obtain ⟨W3, hW3⟩ : ∃ W3, W3 = (((w.alloc (.cells #[.int .i64 0, .int .i64 0, .int .i64 0, .slice none 0 0] 26)).alloc (.cells #[] 33)).alloc (.cells #[.int .i64 X, .int .i64 Y, .int .i64 whole, .slice (some ⟨w.heap.size + 1, 0, none⟩) 0 0] 26)) := ⟨_, rfl⟩
  obtain ⟨hst, hB3, hs3⟩ := BoxRel.start3 (w.alloc (.cells #[.int .i64 0, .int .i64 0, .int .i64 0, .slice none 0 0] 26)) W3 (w.heap.size + 1) X Y whole (World.size_alloc _ _) hW3
  have hret3 : RetAt W3 w.heap.size := by rw [hW3]; exact (by repeat' (first | with_reducible assumption | (refine RetAt.top ?_; first | with_reducible rfl | (simp only [World.size_alloc, World.size_setCell]; done)) | refine RetAt.under ?_))
  have BW : Below w.heap.size w W3 := by rw [hW3]; exact (by repeat' (first | with_reducible exact Below.refl _ _ | with_reducible assumption | with_reducible apply Below.alloc | with_reducible apply Below.setCell | with_reducible apply Below.drew | exact Nat.le_refl _ | omega | (simp only [World.size_alloc, World.size_setCell]; omega)))
  have HW := Lib.hid hW3
  clear hW3 hB3
  go_loopw [10] (fun s wr => ∃ i : Nat, i ≤ X ∧ s = .int .i64 i ∧ ∃ a c vs, BoxRel W3 (w.heap.size + 1) (w.heap.size + 1 + 1) (w.heap.size + 1) wr X Y whole (rowsTo (playN X ps whole) Y (i * Y)) a c vs) (fun s _ => X - (intOf s).toNat)
  case atStart => exact ⟨0, by omega, rfl, _, _, _, by rw [← HW.out]; simpa [rowsTo] using hst⟩
  case round =>
    clear hst
    obtain ⟨i, hi, rfl, a, c, vs, hR⟩ := hrel
    by_cases hlt : i < X
    · go_wp2
      go_loopw [11] (fun s wr => ∃ j : Nat, j ≤ Y ∧ s = .int .i64 j ∧ ∃ a c vs, BoxRel W3 (w.heap.size + 1) (w.heap.size + 1 + 1) (w.heap.size + 1) wr X Y whole (rowsTo (playN X ps whole) Y (i * Y + j)) a c vs) (fun s _ => Y - (intOf s).toNat)
      case atStart => exact ⟨0, by omega, rfl, _, _, _, hR⟩
      case round =>
        clear hR
        obtain ⟨j, hj, rfl, a, c, vs, hR⟩ := hrel
        by_cases hjt : j < Y
        · have hBw : Below w.heap.size w wr := BW.trans (hR.below.mono (by have := BW.size; omega))
          have hsz := hBw.size
          have hl := HL.out
          obtain ⟨m, hm⟩ : ∃ m : Nat, X + j = m := ⟨_, rfl⟩
          have hmi : (X : Int) + (j : Int) = (m : Int) := by omega
          have hil : i < ps.length := by omega
          have hml : m < ps.length := by omega
          obtain ⟨p, hpi⟩ : ∃ p, ps[i]? = some p := ⟨_, List.getElem?_eq_getElem hil⟩
          obtain ⟨q, hqm⟩ : ∃ q, ps[m]? = some q := ⟨_, List.getElem?_eq_getElem hml⟩
          have p01 := allIn_get HA.out hpi
          have q01 := allIn_get HA.out hqm
          obtain ⟨p, rfl⟩ := Int.eq_ofNat_of_zero_le p01.1
          obtain ⟨q, rfl⟩ := Int.eq_ofNat_of_zero_le q01.1
          obtain ⟨n, hn⟩ : ∃ n : Nat, 2 * p + q = n := ⟨_, rfl⟩
          have hrow := play_row (whole := whole) (x := (X : Int)) hpi (by rw [Int.toNat_natCast, hm]; exact hqm) (by omega) (by omega) hn
          have hn4 : n < 4 := by omega
          have cp0 := HD.out i _ hpi
          have cq0 := HD.out m _ hqm
          have lb := World.block_lt_of_cell? _ _ cp0
          simp only [] at lb
          have hne : wr.heap.size ≠ b1 := by omega
          have cp := ((hBw.alloc (by omega) (.cells zero4 3)).cell (p := ⟨b1, o1 + i, none⟩) lb).trans cp0
          have cq := ((hBw.alloc (by omega) (.cells zero4 3)).cell (p := ⟨b1, o1 + m, none⟩) lb).trans cq0
          have hz := zero4_own wr
          have i0 : (0 : Int) ≤ (i : Int) := by omega
          have i1 : (i : Int) < (ps.length : Int) := by omega
          have j0 : (0 : Int) ≤ (m : Int) := by omega
          have j1 : (m : Int) < (ps.length : Int) := by omega
          have n0 : (0 : Int) ≤ (n : Int) := by omega
          have n1 : (n : Int) < 4 := by omega
          have w1 : IntKind.i64.wrap (2 * (p : Int)) = 2 * (p : Int) := wrap_in _ (by omega) (by omega)
          have w2 : 2 * (p : Int) + (q : Int) = (n : Int) := by omega
          have w3 : IntKind.i64.wrap (n : Int) = (n : Int) := wrap_in _ (by omega) (by omega)
          have w4 : IntKind.i64.wrap (m : Int) = (m : Int) := wrap_in _ (by omega) (by omega)
          have hmk := mk4_run wr
          have HR := Lib.hid hrow
          clear hrow hpi hqm cp0 cq0 p01 q01 hl hm hn
          go_wp2
          clear hmk
          have cn : (wr.alloc (.cells zero4 3)).cell? ⟨wr.heap.size, n, none⟩ = some (.int .i64 0) := cell_top rfl (by
            have : n = 0 ∨ n = 1 ∨ n = 2 ∨ n = 3 := by omega
            rcases this with rfl | rfl | rfl | rfl <;> rfl)
          have cf : (wr.alloc (.cells zero4 3)).frozen? ⟨wr.heap.size, n, none⟩ = false := by simp
          generalize hwm : wr.alloc (.cells zero4 3) = wm at *
          have HM := Lib.hid hwm
          clear hwm
          go_region_held3 (fun w' => w'.cell? ⟨b1, o1 + i, none⟩ = some (.int .i64 p) ∧ w'.cell? ⟨b1, o1 + m, none⟩ = some (.int .i64 q)) (first | exact ⟨cp, cq⟩ | exact ⟨(World.cell?_setCell_far _ _ _ _ hne).trans cp, (World.cell?_setCell_far _ _ _ _ hne).trans cq⟩) (fail)
          have hrow : OwnV 3 wr.heap.size (wr.heap.size + 1) (wm.setCell ⟨wr.heap.size, n, none⟩ (.int .i64 whole)).drew (.slice (some ⟨wr.heap.size, 0, none⟩) 4 4) (ints (rowOf (playN X ps whole) i j)) := by
            have h1 := (hz.set (g := wr.heap.size) (j := n) rfl (by simpa using hn4) (.int .i64 whole)).of_block (w' := (wm.setCell ⟨wr.heap.size, n, none⟩ (.int .i64 whole)).drew) (fun _ _ => rfl)
            rw [HR.out]
            simpa [ints] using h1
          have hsz2 : (wm.setCell ⟨wr.heap.size, n, none⟩ (.int .i64 whole)).drew.heap.size = wr.heap.size + 1 := by
            show (wm.setCell ⟨wr.heap.size, n, none⟩ (.int .i64 whole)).heap.size = _
            rw [World.size_setCell, ← HM.out, World.size_alloc]
          have hb1 : Below wr.heap.size wr (wm.setCell ⟨wr.heap.size, n, none⟩ (.int .i64 whole)).drew := by
            rw [← HM.out]; exact (((Below.refl _ _).alloc (Nat.le_refl _) _).setCell (Nat.le_refl _) _).drew
          clear hz cn cf cp cq
          generalize (wm.setCell ⟨wr.heap.size, n, none⟩ (.int .i64 whole)).drew = wd at *
          have hrow' : OwnV 3 wr.heap.size wd.heap.size wd (.slice (some ⟨wr.heap.size, 0, none⟩) 4 4) (ints (rowOf (playN X ps whole) i j)) := by rw [hsz2]; exact hrow
          clear hrow hsz2
          have hrow := hrow'
          have hn9 : i * Y + j ≤ 9 := by
            have h1 : i * Y + j < (i + 1) * Y := by rw [Nat.succ_mul]; omega
            have h2 : (i + 1) * Y ≤ X * Y := Nat.mul_le_mul_right _ (by omega)
            omega
          clear hrow'
          have hRd := hR.later hb1
          obtain ⟨⟨g0, g1, g2, g3⟩, gf⟩ := hRd.cells
          have ht := hRd.rows.top
          have hlen := hRd.rows.len
          rw [rowsTo_length] at hlen ht g3
          have HN := Lib.hid hlen
          have hn9 : vs.length ≤ 4194304 := by omega
          have hlo := hRd.b4
          clear hlen
          go_wp2_with (at_builtin; refine append1_at rfl _ _ 24 33 rfl Tryz.underlying24 Tryz.infoInts rfl ht rfl rfl rfl rfl hn9 (by omega) hlo ?_)
          intro a2 c2 w2 hT2 hg2
          have hp := hR.push hb1 hrow hT2 (by rw [rowsTo_length]; exact hg2) (by rw [HN.out]; simp)
          obtain ⟨hp1, f1, f2⟩ := hp
          clear g0 g1 g2 g3 gf hR hRd ht hT2 hrow
          rw [← rowsTo_succ (playN X ps whole) Y i j hjt] at hp1
          go_wp2
          go_roundw
          case rel => exact ⟨j + 1, by omega, by go_num, a2, c2, _, hp1⟩
          case measure => simp [intOf]; omega
        · obtain rfl : j = Y := by omega
          go_wp2
          go_roundw
          case rel => exact ⟨i + 1, by omega, by go_num, a, c, vs, by rw [Nat.succ_mul]; exact hR⟩
          case measure => simp [intOf]; omega
    · obtain rfl : i = X := by omega
      have hrt := hret3.kept hR.below (by omega)
      obtain ⟨⟨g0, g1, g2, g3⟩, gf⟩ := hR.cells
      have hrows := hR.rows
      have B5 := BW.trans (hR.below.mono (by have := BW.size; omega))
      rw [rowsTo_length] at g3 hrows
      obtain ⟨e0, e1, e2, e3, ef⟩ := hrt
      have hend := box_out (g := w.heap.size) B5 (by omega) (by omega) hrows (.int .i64 i) (.int .i64 Y) (.int .i64 whole) (.slice a (i * Y) c)
      clear hrows hR
      go_wp2
      refine bodyPost_ret (v := .agg #[.int .i64 i, .int .i64 Y, .int .i64 whole, .slice a (i * Y) c]) ?_ rfl ?_
      · simp [results, Tryz.results65, go_sem, e0, e1, e2, e3]
      · exact ⟨a, c, vs, rfl, hend.1, hend.2⟩
set_option maxHeartbeats 800000 in
theorem specPlayBox_any (x y : Int) (v : Value) (ps : List Int) (whole : Int) (w : World) (h : RdI w v ps) :
    Calls Tryz.prog 22 #[.int .i64 x, .int .i64 y, v, .int .i64 whole] w (BoxRes w (playBoxD x y ps whole) (playOk x y ps whole)) := by
  have hr : ∀ w', Below w.heap.size w w' → RdI w' v ps := fun w' hb => h.kept (Nat.le_refl _) hb
  obtain ⟨av, ba, off, cap, rfl, _⟩ := h
  rcases Bool.eq_false_or_eq_true (playOk x y ps whole) with hok | hok
  · have hD : playBoxD x y ps whole = boxOf x y whole (playN x ps whole) := by unfold playBoxD; rw [hok]; simp
    rw [hD, hok]
    obtain ⟨q1, q2, q3⟩ := and3_true hok
    have q12 : (sizesB x y && bitsB ps (x + y)) = true := by rw [q1, q2]; rfl
    clear hD hok
    go_enter Tryz.func22, Tryz.ntmps22
    go_wp2_with (first | (go_at_call 63; refine (l2Play_any _ _ _ ps _ (hr _ (by repeat' (first | with_reducible exact Below.refl _ _ | with_reducible assumption | with_reducible apply Below.alloc | with_reducible apply Below.setCell | with_reducible apply Below.drew | exact Nat.le_refl _ | omega | (simp only [World.size_alloc, World.size_setCell]; omega))))).mono ?_; rintro e w' ⟨rfl, rfl⟩) | (go_at_call 64; refine (l1In_any _ _ _ _).mono ?_; rintro e w' ⟨rfl, rfl⟩))
    refine (l2PlayBox_any x y _ ps whole q1 q2 _ (hr _ (by repeat' (first | with_reducible exact Below.refl _ _ | with_reducible assumption | with_reducible apply Below.alloc | with_reducible apply Below.setCell | with_reducible apply Below.drew | exact Nat.le_refl _ | omega | (simp only [World.size_alloc, World.size_setCell]; omega))))).mono ?_
    rintro e w1 ⟨a, c, vs, rfl, o1, b1⟩
    have B1 : Below w.heap.size w w1 := Below.trans (by repeat' (first | with_reducible exact Below.refl _ _ | with_reducible assumption | with_reducible apply Below.alloc | with_reducible apply Below.setCell | with_reducible apply Below.drew | exact Nat.le_refl _ | omega | (simp only [World.size_alloc, World.size_setCell]; omega))) (b1.mono (by first | exact Nat.le_refl _ | omega | (simp only [World.size_alloc, World.size_setCell]; omega)))
    obtain ⟨hc, hf⟩ := bcell b1
    have hz := b1.size
    simp only [World.size_alloc] at hc hf hz o1
    clear b1
    have hend := box_out (g := w.heap.size) B1 (by omega) (by omega) o1 (.int .i64 x) (.int .i64 y) (.int .i64 whole) (.slice a (x.toNat * y.toNat) c)
    clear o1
    go_wp2
    refine bodyPost_ret (v := .tuple #[.agg #[.int .i64 x, .int .i64 y, .int .i64 whole, .slice a (x.toNat * y.toNat) c], .bool true]) ?_ rfl ?_
    · simp [results, Tryz.results22, go_sem, hc]
    · exact ⟨a, c, vs, by rw [boxOf_len]; rfl, by rw [boxOf_len]; exact hend.1, hend.2⟩
  · have hD : playBoxD x y ps whole = zeroD := by unfold playBoxD; rw [hok]; simp
    rw [hD, hok]
    clear hD
    rcases Bool.eq_false_or_eq_true (sizesB x y && bitsB ps (x + y)) with q1 | q1
    · have q3 : inB whole 1 1000 = false := by
        unfold playOk at hok
        rw [Bool.and_eq_true] at q1
        rw [q1.1, q1.2] at hok
        simpa using hok
      clear hok
      go_enter Tryz.func22, Tryz.ntmps22
      go_wp2_with (first | (go_at_call 63; refine (l2Play_any _ _ _ ps _ (hr _ (by repeat' (first | with_reducible exact Below.refl _ _ | with_reducible assumption | with_reducible apply Below.alloc | with_reducible apply Below.setCell | with_reducible apply Below.drew | exact Nat.le_refl _ | omega | (simp only [World.size_alloc, World.size_setCell]; omega))))).mono ?_; rintro e w' ⟨rfl, rfl⟩) | (go_at_call 64; refine (l1In_any _ _ _ _).mono ?_; rintro e w' ⟨rfl, rfl⟩))
      refine bodyPost_ret (v := .tuple #[.agg #[.int .i64 0, .int .i64 0, .int .i64 0, .slice none 0 0], .bool false]) ?_ rfl ?_
      · simp [results, Tryz.results22, go_sem]
      · exact BoxRes.zero (by repeat' (first | with_reducible exact Below.refl _ _ | with_reducible assumption | with_reducible apply Below.alloc | with_reducible apply Below.setCell | with_reducible apply Below.drew | exact Nat.le_refl _ | omega | (simp only [World.size_alloc, World.size_setCell]; omega)))
    · clear hok
      go_enter Tryz.func22, Tryz.ntmps22
      go_wp2_with (first | (go_at_call 63; refine (l2Play_any _ _ _ ps _ (hr _ (by repeat' (first | with_reducible exact Below.refl _ _ | with_reducible assumption | with_reducible apply Below.alloc | with_reducible apply Below.setCell | with_reducible apply Below.drew | exact Nat.le_refl _ | omega | (simp only [World.size_alloc, World.size_setCell]; omega))))).mono ?_; rintro e w' ⟨rfl, rfl⟩))
      refine bodyPost_ret (v := .tuple #[.agg #[.int .i64 0, .int .i64 0, .int .i64 0, .slice none 0 0], .bool false]) ?_ rfl ?_
      · simp [results, Tryz.results22, go_sem]
      · exact BoxRes.zero (by repeat' (first | with_reducible exact Below.refl _ _ | with_reducible assumption | with_reducible apply Below.alloc | with_reducible apply Below.setCell | with_reducible apply Below.drew | exact Nat.le_refl _ | omega | (simp only [World.size_alloc, World.size_setCell]; omega)))
end Go.Proofs.YtcifpfdlkpddeaaGreatDoor
set_option linter.unusedSimpArgs false
set_option linter.unusedVariables false
namespace Go.Proofs.YtcifpfdlkpddeaaGreatDoor
open Go.RowKit

def playRows (x y : Int) (ps : List Int) : List (List Int) := rowsTo (playN x ps 1) y.toNat (x.toNat * y.toNat)
def playW (x y : Int) (f : List (List Int)) (ps : List Int) : Int := worthR f (playRows x y ps)
theorem playRows_len (x y : Int) (ps : List Int) : (playRows x y ps).length = x.toNat * y.toNat := by simp [playRows]
theorem wRow_one {X Y : Nat} {f : List (List Int)} {ps : List Int} {i k p q n : Nat} (hi : i < X) (hk : k < Y) (hp : ps[i]? = some (p : Int)) (hq : ps[X + k]? = some (q : Int)) (p2 : p < 2) (q2 : q < 2) (hn : i * Y + k = n) :
    wRow f (playRows X Y ps) n 4 = cellAt f n (2 * p + q) := by
  have hr : (playRows X Y ps)[n]? = some ((List.replicate 4 (0 : Int)).set (2 * p + q) 1) := by
    unfold playRows
    rw [← hn, Int.toNat_natCast, Int.toNat_natCast, rowsTo_get _ _ _ _ _ hk (by
      have : (i + 1) * Y ≤ X * Y := Nat.mul_le_mul_right Y hi
      rw [Nat.add_mul] at this
      omega)]
    rw [play_row (x := (X : Int)) hp hq p2 q2 rfl]
  have c : ∀ t, t < 4 → cellAt (playRows X Y ps) n t = if t = 2 * p + q then 1 else 0 := by
    intro t ht
    unfold cellAt
    rw [show (playRows X Y ps).getD n [] = (List.replicate 4 (0 : Int)).set (2 * p + q) 1 by rw [List.getD_eq_getElem?_getD, hr, Option.getD_some]]
    have hp' : p = 0 ∨ p = 1 := by omega
    have hq' : q = 0 ∨ q = 1 := by omega
    have ht' : t = 0 ∨ t = 1 ∨ t = 2 ∨ t = 3 := by omega
    rcases hp' with rfl | rfl <;> rcases hq' with rfl | rfl <;> rcases ht' with rfl | rfl | rfl | rfl <;> rfl
  rw [wRow_succ, wRow_succ, wRow_succ, wRow_succ, wRow_zero, c 0 (by omega), c 1 (by omega), c 2 (by omega), c 3 (by omega)]
  have hp' : p = 0 ∨ p = 1 := by omega
  have hq' : q = 0 ∨ q = 1 := by omega
  rcases hp' with rfl | rfl <;> rcases hq' with rfl | rfl <;> simp
theorem playW_eq {X Y : Nat} (f : List (List Int)) (ps : List Int) : playW X Y f ps = worthTo f (playRows X Y ps) (X * Y) := by
  unfold playW worthR; rw [playRows_len]; rfl
/-- The numbers of a play by places. -/
theorem bits_get {ps : List Int} {n : Int} (h : bitsB ps n = true) {j : Nat} (hj : (j : Int) < n) : ∃ p : Nat, ps[j]? = some (p : Int) ∧ p < 2 := by
  obtain ⟨h1, h2⟩ := bits_iff.1 h
  have hl : j < ps.length := by omega
  obtain ⟨k0, k1⟩ := allIn_get h1 (List.getElem?_eq_getElem hl)
  exact ⟨(ps[j]).toNat, by rw [List.getElem?_eq_getElem hl]; congr 1; omega, by omega⟩
end Go.Proofs.YtcifpfdlkpddeaaGreatDoor
set_option linter.unusedSimpArgs false
set_option linter.unusedVariables false
namespace Go.Proofs.YtcifpfdlkpddeaaGreatDoor
open Go.RowKit

theorem funcB_sizes {x y : Int} {f : List (List Int)} (h : sizesB x y = false) : funcB x y f = false := by unfold funcB; rw [h]; rfl
theorem funcB_len {x y : Int} {f : List (List Int)} (h : ¬ (f.length : Int) = x * y) : funcB x y f = false := by unfold funcB; rw [decide_eq_false h]; simp
theorem funcB_row {x y : Int} {f : List (List Int)} {k : Nat} {rs : List Int} (h : f[k]? = some rs) (hr : funcRowB rs = false) : funcB x y f = false := by
  unfold funcB; rw [all_false h hr]; simp
theorem funcRow_in {rs : List Int} (h : allIn rs (-99) 99 = false) : funcRowB rs = false := by unfold funcRowB; rw [h]; simp
theorem funcRow_len {rs : List Int} (h : ¬ rs.length = 4) : funcRowB rs = false := by unfold funcRowB; rw [decide_eq_false h]; simp
theorem sizes_mul {x y : Int} (h : sizesB x y = true) : 0 ≤ x * y ∧ x * y ≤ 9 := by
  obtain ⟨⟨hx0, hx1⟩, hy0, hy1⟩ := sizesB_iff.1 h
  have e1 : x = 1 ∨ x = 2 ∨ x = 3 := by omega
  rcases e1 with e1 | e1 | e1 <;> rw [e1] <;> omega

end Go.Proofs.YtcifpfdlkpddeaaGreatDoor
set_option linter.unusedSimpArgs false
set_option linter.unusedVariables false
namespace Go.Proofs.YtcifpfdlkpddeaaGreatDoor
open Go.RowKit

/-- The cells that lead to a valid functional's number. -/
theorem func_path {f : List (List Int)} (hf : f.all funcRowB = true) {w : World} {v : Value} (h : RdII w v f) (k : Nat) (hk : k < f.length) :
    ∃ (ba off cap b2 o2 c2 : Nat), v = .slice (some ⟨ba, off, none⟩) f.length cap ∧ w.cell? ⟨ba, off + k, none⟩ = some (.slice (some ⟨b2, o2, none⟩) 4 c2) ∧ ba < w.heap.size ∧ b2 < w.heap.size ∧
      ∀ q, q < 4 → ∃ x : Int, w.cell? ⟨b2, o2 + q, none⟩ = some (.int .i64 x) ∧ (-99 ≤ x ∧ x ≤ 99) ∧ cellAt f k q = x := by
  obtain ⟨av, ba, off, cap, rfl, hm, ha, hc⟩ := h
  obtain rfl := ha (by omega)
  have hrs : f[k]? = some f[k] := List.getElem?_eq_getElem hk
  obtain ⟨p0, p1, p2, p3, hrow, h0, h1, h2, h3⟩ := funcRow_four (all_get hf hrs)
  obtain ⟨v', hv', a2, b2, o2, c2, rfl, _, ha2, hc2⟩ := hc k _ hrs
  rw [hrow] at hv' ha2 hc2 hrs
  obtain rfl := ha2 (by simp)
  have l1 := World.block_lt_of_cell? _ _ hv'
  have l2 := World.block_lt_of_cell? _ _ (hc2 0 p0 rfl)
  refine ⟨ba, off, cap, b2, o2, c2, rfl, hv', l1, l2, fun q hq => ?_⟩
  have : q = 0 ∨ q = 1 ∨ q = 2 ∨ q = 3 := by omega
  rcases this with rfl | rfl | rfl | rfl
  · exact ⟨p0, hc2 0 p0 rfl, h0, cellAt_get hrs rfl⟩
  · exact ⟨p1, hc2 1 p1 rfl, h1, cellAt_get hrs rfl⟩
  · exact ⟨p2, hc2 2 p2 rfl, h2, cellAt_get hrs rfl⟩
  · exact ⟨p3, hc2 3 p3 rfl, h3, cellAt_get hrs rfl⟩
theorem func_len {f : List (List Int)} {b : BoxD} (hf : funcB b.X b.Y f = true) (hb : boxB b = true) : f.length = b.Rows.length := by
  have h1 := (funcB_iff.1 hf).2.1
  have h2 := (boxB_iff.1 hb).2.2.1
  omega
theorem prod_bd {x y : Int} (hx : -99 ≤ x ∧ x ≤ 99) (hy : 0 ≤ y ∧ y ≤ 1000) : -99000 ≤ x * y ∧ x * y ≤ 99000 := mul_bd x y 99 1000 hx hy

end Go.Proofs.YtcifpfdlkpddeaaGreatDoor
