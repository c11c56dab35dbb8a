/- MixtureBox, IsMixture: contracts of the program's and the reference's functions. -/
import Derived.Test.YtbleeakcmmpcgaaFnMixt
import Derived.Test.YtbleeakcmmpcgaaSpMixt
import Derived.Test.YtbleeakcmmpcgaaFnShares
import Derived.Test.YtbleeakcmmpcgaaPlainM2
import Derived.Test.YtbleeakcmmpcgaaFnAlikeT
set_option linter.unusedSimpArgs false
set_option linter.unusedVariables false
namespace Go.Proofs.Ytbleeakcmmpcgaa
open Go.RowKit

/-- The mixture of shares that are shares. -/
def mixtE (x y : Int) (xs : List Int) : BoxD := { X := x, Y := y, Whole := xs.sum, Rows := mixR x.toNat y.toNat (playsTo (x.toNat + y.toNat) (2 ^ (x.toNat + y.toNat))) xs (2 ^ (x.toNat + y.toNat)) }
theorem mixtD_yes {x y : Int} {xs : List Int} (h : sharesB x y xs = true) : mixtD x y xs = mixtE x y xs := by unfold mixtD; rw [if_pos h]; rfl
theorem mixtD_no {x y : Int} {xs : List Int} (h : sharesB x y xs = false) : mixtD x y xs = zeroD := by unfold mixtD; rw [h]; rfl
theorem mixtE_len {x y : Int} {xs : List Int} (h : sharesB x y xs = true) : (mixtE x y xs).Rows.length = x.toNat * y.toNat := by
  have hb := mixt_box h
  rw [mixtD_yes h] at hb
  obtain ⟨⟨hx0, hy0⟩, _, hl, _⟩ := boxB_iff.1 hb
  have e1 : (mixtE x y xs).X = x := rfl
  have e2 : (mixtE x y xs).Y = y := rfl
  rw [e1] at hx0 hl
  rw [e2] at hy0 hl
  obtain ⟨X, rfl⟩ := Int.eq_ofNat_of_zero_le (show 0 ≤ x by omega)
  obtain ⟨Y, rfl⟩ := Int.eq_ofNat_of_zero_le (show 0 ≤ y by omega)
  rw [Int.toNat_natCast, Int.toNat_natCast]
  exact Int.ofNat_inj.1 (hl.trans (Int.natCast_mul X Y).symm)
theorem shares_parts {x y : Int} {xs : List Int} (h : sharesB x y xs = true) : ((1 ≤ x ∧ x ≤ 3) ∧ (1 ≤ y ∧ y ≤ 3)) ∧ xs.length = 2 ^ (x.toNat + y.toNat) ∧ allIn xs 0 1000 = true ∧ xs.sum ≤ 1000 := by
  unfold sharesB at h
  simp only [Bool.and_eq_true, decide_eq_true_eq] at h
  obtain ⟨h1, h2, h3, h4⟩ := h
  exact ⟨sizesB_iff.1 h1, h2, h3, (inB_iff.1 h4).2⟩
theorem l3Mixture_int (x y : Int) (v : Value) (xs : List Int) (hs : sharesB x y xs = true) (w : World) (h : RdI w v xs) :
    Calls Try.prog 66 #[.int .i64 x, .int .i64 y, v] w (BoxOnly w x y xs.sum (mixtE x y xs).Rows) := by
  obtain ⟨⟨hx, hy⟩, h2, h3, h4⟩ := shares_parts hs
  obtain ⟨X, rfl⟩ := Int.eq_ofNat_of_zero_le (show 0 ≤ x by omega)
  obtain ⟨Y, rfl⟩ := Int.eq_ofNat_of_zero_le (show 0 ≤ y by omega)
  exact l3Mixture_any X Y (by omega) (by omega) v xs w h (by simpa using h2) h3 h4
theorem mixture_int (x y : Int) (v : Value) (xs : List Int) (hs : sharesB x y xs = true) (w : World) (h : RdI w v xs) :
    Calls Try.prog 68 #[.int .i64 x, .int .i64 y, v] w (BoxOnly w x y xs.sum (mixtE x y xs).Rows) := by
  obtain ⟨⟨hx, hy⟩, h2, h3, h4⟩ := shares_parts hs
  obtain ⟨X, rfl⟩ := Int.eq_ofNat_of_zero_le (show 0 ≤ x by omega)
  obtain ⟨Y, rfl⟩ := Int.eq_ofNat_of_zero_le (show 0 ≤ y by omega)
  exact mixture_any X Y (by omega) (by omega) v xs w h (by simpa using h2) h3 h4

set_option maxHeartbeats 1600000 in
theorem specMixtureBox_any (x y : Int) (v : Value) (xs : List Int) (w : World) (h : RdI w v xs) (hn : xs.length ≤ 1048576) :
    Calls Try.prog 24 #[.int .i64 x, .int .i64 y, v] w (BoxRes w (mixtD x y xs) (sharesB x y xs)) := by
  rcases Bool.eq_false_or_eq_true (sharesB x y xs) with hok | hok
  · have HO := Lib.hid hok
    have HL := Lib.hid (mixtE_len hok)
    have HD := Lib.hid (mixtD_yes hok)
    rw [hok]
    have CS := fun W (hB : Below w.heap.size w W) => l3Shares_any x y v xs W (h.kept (Nat.le_refl _) hB) hn
    have CM := fun W (hB : Below w.heap.size w W) => l3Mixture_int x y v xs hok W (h.kept (Nat.le_refl _) hB)
    rw [hok] at CS
    obtain ⟨av, ba, off, cap, rfl, _⟩ := h
    clear hok hn
    go_enter Try.func24, Try.ntmps24
    go_wp2_with fail
    refine (CS _ (by repeat' (first | with_reducible exact Below.refl _ _ | with_reducible assumption | with_reducible apply Below.alloc | with_reducible apply Below.setCell | with_reducible apply Below.drew | exact Nat.le_refl _ | omega | (simp only [World.size_alloc, World.size_setCell]; omega)))).mono ?_
    rintro e w' ⟨rfl, rfl⟩
    go_wp2_with fail
    refine (CM _ (by repeat' (first | with_reducible exact Below.refl _ _ | with_reducible assumption | with_reducible apply Below.alloc | with_reducible apply Below.setCell | with_reducible apply Below.drew | exact Nat.le_refl _ | omega | (simp only [World.size_alloc, World.size_setCell]; omega)))).mono ?_
    rintro e w1 ⟨a, c, vs, rfl, o1, b1⟩
    have B1 : Below w.heap.size w w1 := Below.trans (by repeat' (first | with_reducible exact Below.refl _ _ | with_reducible assumption | with_reducible apply Below.alloc | with_reducible apply Below.setCell | with_reducible apply Below.drew | exact Nat.le_refl _ | omega | (simp only [World.size_alloc, World.size_setCell]; omega))) (b1.mono (by first | exact Nat.le_refl _ | omega | (simp only [World.size_alloc, World.size_setCell]; omega)))
    obtain ⟨hc, hf⟩ := bcell b1
    have hz := b1.size
    simp only [World.size_alloc] at hc hf hz o1
    clear b1 CS CM
    have hend := box_out (g := w.heap.size) B1 (by omega) (by omega) o1 (.int .i64 x) (.int .i64 y) (.int .i64 xs.sum) (.slice a (x.toNat * y.toNat) c)
    clear o1
    go_wp2
    refine bodyPost_ret (v := .tuple #[.agg #[.int .i64 x, .int .i64 y, .int .i64 xs.sum, .slice a (x.toNat * y.toNat) c], .bool true]) ?_ rfl ?_
    · simp [results, Try.results24, go_sem, hc]
    · rw [HD.out]
      exact ⟨a, c, vs, by rw [HL.out]; rfl, by rw [HL.out]; exact hend.1, hend.2⟩
  · have HD := Lib.hid (mixtD_no hok)
    rw [hok]
    have CS := fun W (hB : Below w.heap.size w W) => l3Shares_any x y v xs W (h.kept (Nat.le_refl _) hB) hn
    rw [hok] at CS
    obtain ⟨av, ba, off, cap, rfl, _⟩ := h
    clear hok hn
    go_enter Try.func24, Try.ntmps24
    go_wp2_with fail
    refine (CS _ (by repeat' (first | with_reducible exact Below.refl _ _ | with_reducible assumption | with_reducible apply Below.alloc | with_reducible apply Below.setCell | with_reducible apply Below.drew | exact Nat.le_refl _ | omega | (simp only [World.size_alloc, World.size_setCell]; omega)))).mono ?_
    rintro e w' ⟨rfl, rfl⟩
    clear CS
    go_wp2
    refine bodyPost_ret (v := .tuple #[.agg #[.int .i64 0, .int .i64 0, .int .i64 0, .slice none 0 0], .bool false]) ?_ rfl ?_
    · simp [results, Try.results24, go_sem]
    · rw [HD.out]
      exact BoxRes.zero (by repeat' (first | with_reducible exact Below.refl _ _ | with_reducible assumption | with_reducible apply Below.alloc | with_reducible apply Below.setCell | with_reducible apply Below.drew | exact Nat.le_refl _ | omega | (simp only [World.size_alloc, World.size_setCell]; omega)))
set_option maxHeartbeats 1600000 in
theorem implMixtureBox_any (x y : Int) (v : Value) (xs : List Int) (w : World) (h : RdI w v xs) (hn : xs.length ≤ 1048576) :
    Calls Try.prog 26 #[.int .i64 x, .int .i64 y, v] w (BoxRes w (mixtD x y xs) (sharesB x y xs)) := by
  rcases Bool.eq_false_or_eq_true (sharesB x y xs) with hok | hok
  · have HO := Lib.hid hok
    have HL := Lib.hid (mixtE_len hok)
    have HD := Lib.hid (mixtD_yes hok)
    rw [hok]
    have CS := fun W (hB : Below w.heap.size w W) => areShares_any x y v xs W (h.kept (Nat.le_refl _) hB) hn
    have CM := fun W (hB : Below w.heap.size w W) => mixture_int x y v xs hok W (h.kept (Nat.le_refl _) hB)
    rw [hok] at CS
    obtain ⟨av, ba, off, cap, rfl, _⟩ := h
    clear hok hn
    go_enter Try.func26, Try.ntmps26
    go_wp2_with fail
    refine (CS _ (by repeat' (first | with_reducible exact Below.refl _ _ | with_reducible assumption | with_reducible apply Below.alloc | with_reducible apply Below.setCell | with_reducible apply Below.drew | exact Nat.le_refl _ | omega | (simp only [World.size_alloc, World.size_setCell]; omega)))).mono ?_
    rintro e w' ⟨rfl, rfl⟩
    go_wp2_with fail
    refine (CM _ (by repeat' (first | with_reducible exact Below.refl _ _ | with_reducible assumption | with_reducible apply Below.alloc | with_reducible apply Below.setCell | with_reducible apply Below.drew | exact Nat.le_refl _ | omega | (simp only [World.size_alloc, World.size_setCell]; omega)))).mono ?_
    rintro e w1 ⟨a, c, vs, rfl, o1, b1⟩
    have B1 : Below w.heap.size w w1 := Below.trans (by repeat' (first | with_reducible exact Below.refl _ _ | with_reducible assumption | with_reducible apply Below.alloc | with_reducible apply Below.setCell | with_reducible apply Below.drew | exact Nat.le_refl _ | omega | (simp only [World.size_alloc, World.size_setCell]; omega))) (b1.mono (by first | exact Nat.le_refl _ | omega | (simp only [World.size_alloc, World.size_setCell]; omega)))
    obtain ⟨hc, hf⟩ := bcell b1
    have hz := b1.size
    simp only [World.size_alloc] at hc hf hz o1
    clear b1 CS CM
    have hend := box_out (g := w.heap.size) B1 (by omega) (by omega) o1 (.int .i64 x) (.int .i64 y) (.int .i64 xs.sum) (.slice a (x.toNat * y.toNat) c)
    clear o1
    go_wp2
    refine bodyPost_ret (v := .tuple #[.agg #[.int .i64 x, .int .i64 y, .int .i64 xs.sum, .slice a (x.toNat * y.toNat) c], .bool true]) ?_ rfl ?_
    · simp [results, Try.results26, go_sem, hc]
    · rw [HD.out]
      exact ⟨a, c, vs, by rw [HL.out]; rfl, by rw [HL.out]; exact hend.1, hend.2⟩
  · have HD := Lib.hid (mixtD_no hok)
    rw [hok]
    have CS := fun W (hB : Below w.heap.size w W) => areShares_any x y v xs W (h.kept (Nat.le_refl _) hB) hn
    rw [hok] at CS
    obtain ⟨av, ba, off, cap, rfl, _⟩ := h
    clear hok hn
    go_enter Try.func26, Try.ntmps26
    go_wp2_with fail
    refine (CS _ (by repeat' (first | with_reducible exact Below.refl _ _ | with_reducible assumption | with_reducible apply Below.alloc | with_reducible apply Below.setCell | with_reducible apply Below.drew | exact Nat.le_refl _ | omega | (simp only [World.size_alloc, World.size_setCell]; omega)))).mono ?_
    rintro e w' ⟨rfl, rfl⟩
    clear CS
    go_wp2
    refine bodyPost_ret (v := .tuple #[.agg #[.int .i64 0, .int .i64 0, .int .i64 0, .slice none 0 0], .bool false]) ?_ rfl ?_
    · simp [results, Try.results26, go_sem]
    · rw [HD.out]
      exact BoxRes.zero (by repeat' (first | with_reducible exact Below.refl _ _ | with_reducible assumption | with_reducible apply Below.alloc | with_reducible apply Below.setCell | with_reducible apply Below.drew | exact Nat.le_refl _ | omega | (simp only [World.size_alloc, World.size_setCell]; omega)))

def isMixtOk (b : BoxD) (xs : List Int) : Bool := boxB b && sharesB b.X b.Y xs
def isMixtD (b : BoxD) (xs : List Int) : Bool := isMixtOk b xs && alikeR b.Rows (mixtE b.X b.Y xs).Rows b.Whole xs.sum
theorem isMixt_same {b : BoxD} {xs : List Int} (hb : boxB b = true) (hs : sharesB b.X b.Y xs = true) : sameB b (mixtE b.X b.Y xs) = true :=
  sameB_iff.2 ⟨hb, mixtD_yes hs ▸ mixt_box hs, rfl, rfl⟩
set_option maxHeartbeats 1600000 in
theorem specIsMixture_any (vb : Value) (b : BoxD) (v : Value) (xs : List Int) (w : World) (rb : RdII w vb b.Rows) (h : RdI w v xs) (hn : xs.length ≤ 1048576) :
    Calls Try.prog 33 #[.agg #[.int .i64 b.X, .int .i64 b.Y, .int .i64 b.Whole, vb], v] w fun e w' => e = .returned (.tuple #[.bool (isMixtD b xs), .bool (isMixtOk b xs)]) ∧ Below w.heap.size w w' := by
  have CS := fun W (hB : Below w.heap.size w W) => l3Shares_any b.X b.Y v xs W (h.kept (Nat.le_refl _) hB) hn
  have CM := fun W (hB : Below w.heap.size w W) hok => l3Mixture_int b.X b.Y v xs hok W (h.kept (Nat.le_refl _) hB)
  obtain ⟨av, ba, off, cap, rfl, _⟩ := h
  go_enter Try.func33, Try.ntmps33
  go_wp2_with fail
  refine (l2Box_any vb b _ (rb.kept (Nat.le_refl _) (by repeat' (first | with_reducible exact Below.refl _ _ | with_reducible assumption | with_reducible apply Below.alloc | with_reducible apply Below.setCell | with_reducible apply Below.drew | exact Nat.le_refl _ | omega | (simp only [World.size_alloc, World.size_setCell]; omega))))).mono ?_
  rintro e w1 ⟨rfl, b1⟩
  have B1 : Below w.heap.size w w1 := Below.trans (by repeat' (first | with_reducible exact Below.refl _ _ | with_reducible assumption | with_reducible apply Below.alloc | with_reducible apply Below.setCell | with_reducible apply Below.drew | exact Nat.le_refl _ | omega | (simp only [World.size_alloc, World.size_setCell]; omega))) (b1.mono (by first | exact Nat.le_refl _ | omega | (simp only [World.size_alloc, World.size_setCell]; omega)))
  have A1 : BoxAt w1 w.heap.size b.X b.Y b.Whole vb := ⟨keepCell b1 (by repeat' (first | with_reducible assumption | (refine cell_top ?_ rfl; first | with_reducible rfl | (simp only [World.size_alloc, World.size_setCell]; done)) | (refine cell_under ?_ ?_; (first | omega | (simp only [World.size_alloc, World.size_setCell]; omega))) | refine cell_drew ?_)), keepCell b1 (by repeat' (first | with_reducible assumption | (refine cell_top ?_ rfl; first | with_reducible rfl | (simp only [World.size_alloc, World.size_setCell]; done)) | (refine cell_under ?_ ?_; (first | omega | (simp only [World.size_alloc, World.size_setCell]; omega))) | refine cell_drew ?_)), keepCell b1 (by repeat' (first | with_reducible assumption | (refine cell_top ?_ rfl; first | with_reducible rfl | (simp only [World.size_alloc, World.size_setCell]; done)) | (refine cell_under ?_ ?_; (first | omega | (simp only [World.size_alloc, World.size_setCell]; omega))) | refine cell_drew ?_)), keepCell b1 (by repeat' (first | with_reducible assumption | (refine cell_top ?_ rfl; first | with_reducible rfl | (simp only [World.size_alloc, World.size_setCell]; done)) | (refine cell_under ?_ ?_; (first | omega | (simp only [World.size_alloc, World.size_setCell]; omega))) | refine cell_drew ?_))⟩
  clear b1
  rcases Bool.eq_false_or_eq_true (boxB b) with hok | hok
  · obtain ⟨a0, a1, a2, a3⟩ := A1
    have HM := Lib.hid hok
    rw [hok]
    go_wp2_with fail
    refine (CS _ B1).mono ?_
    rintro e w2 ⟨rfl, rfl⟩
    have A1 : BoxAt w1 w.heap.size b.X b.Y b.Whole vb := ⟨a0, a1, a2, a3⟩
    clear a0 a1 a2 a3
    rcases Bool.eq_false_or_eq_true (sharesB b.X b.Y xs) with hf | hf
    · have HS := Lib.hid (isMixt_same hok hf)
      have HO := Lib.hid (show isMixtOk b xs = true by unfold isMixtOk; rw [hok, hf]; rfl)
      have HD := Lib.hid (show isMixtD b xs = alikeR b.Rows (mixtE b.X b.Y xs).Rows b.Whole xs.sum by unfold isMixtD; rw [HO.out]; rfl)
      have HF := Lib.hid hf
      rw [hf]
      clear hok hf CS
      go_wp2
      go_region_held3 (fun W => Below w1.heap.size w1 W ∧ W.cell? ⟨w.heap.size, 0, none⟩ = some (.int .i64 b.X) ∧ W.cell? ⟨w.heap.size, 1, none⟩ = some (.int .i64 b.Y) ∧ W.cell? ⟨w.heap.size, 2, none⟩ = some (.int .i64 b.Whole) ∧ W.cell? ⟨w.heap.size, 3, none⟩ = some vb)
        (first | exact held1 (Below.refl _ _).drew A1 | exact held1 hBn A1)
        (first
          | (go_at_call 66; have hS := And.left (by assumption : Below w1.heap.size w1 _ ∧ _); (with_reducible refine (CM _ (B1.trans (hS.mono B1.size)) HF.out).mono ?_); rintro e w2 ⟨am, cm, vsm, rfl, om, b2⟩; have hBn := hS.trans (b2.mono hS.size))
          | (go_at_call 70; have hS := And.left (by assumption : Below w1.heap.size w1 _ ∧ _); (refine (l2Alike_any vb b _ (mixtE b.X b.Y xs) HS.out _ (rb.kept (Nat.le_refl _) (B1.trans (hS.mono B1.size))) om.rdII).mono ?_); rintro e w3 ⟨rfl, b3⟩; have hBn := hS.trans (b3.mono hS.size)))
      go_wp2
      refine bodyPost_ret (v := .tuple #[.bool (alikeR b.Rows (mixtE b.X b.Y xs).Rows b.Whole xs.sum), .bool true]) (by simp [results, Try.results33, go_sem]; rfl) rfl ⟨by rw [HD.out, HO.out], B1.trans (hBn.mono B1.size)⟩
    · have HO := Lib.hid (show isMixtOk b xs = false by unfold isMixtOk; rw [hok, hf]; rfl)
      have HD := Lib.hid (show isMixtD b xs = false by unfold isMixtD; rw [HO.out]; rfl)
      rw [hf]
      clear hf hok CS CM
      go_wp2
      refine bodyPost_ret (v := .tuple #[.bool false, .bool false]) (by simp [results, Try.results33, go_sem]) rfl ⟨by rw [HD.out, HO.out], B1⟩
  · have HO := Lib.hid (show isMixtOk b xs = false by unfold isMixtOk; rw [hok]; rfl)
    have HD := Lib.hid (show isMixtD b xs = false by unfold isMixtD; rw [HO.out]; rfl)
    rw [hok]
    clear hok CS CM
    go_wp2
    refine bodyPost_ret (v := .tuple #[.bool false, .bool false]) (by simp [results, Try.results33, go_sem]) rfl ⟨by rw [HD.out, HO.out], B1⟩
set_option maxHeartbeats 1600000 in
theorem implIsMixture_any (vb : Value) (b : BoxD) (v : Value) (xs : List Int) (w : World) (rb : RdII w vb b.Rows) (h : RdI w v xs) (hn : xs.length ≤ 1048576) :
    Calls Try.prog 35 #[.agg #[.int .i64 b.X, .int .i64 b.Y, .int .i64 b.Whole, vb], v] w fun e w' => e = .returned (.tuple #[.bool (isMixtD b xs), .bool (isMixtOk b xs)]) ∧ Below w.heap.size w w' := by
  have CS := fun W (hB : Below w.heap.size w W) => areShares_any b.X b.Y v xs W (h.kept (Nat.le_refl _) hB) hn
  have CM := fun W (hB : Below w.heap.size w W) hok => mixture_int b.X b.Y v xs hok W (h.kept (Nat.le_refl _) hB)
  obtain ⟨av, ba, off, cap, rfl, _⟩ := h
  go_enter Try.func35, Try.ntmps35
  go_wp2_with fail
  refine (implIsBox_any vb b _ (rb.kept (Nat.le_refl _) (by repeat' (first | with_reducible exact Below.refl _ _ | with_reducible assumption | with_reducible apply Below.alloc | with_reducible apply Below.setCell | with_reducible apply Below.drew | exact Nat.le_refl _ | omega | (simp only [World.size_alloc, World.size_setCell]; omega))))).mono ?_
  rintro e w1 ⟨rfl, b1⟩
  have B1 : Below w.heap.size w w1 := Below.trans (by repeat' (first | with_reducible exact Below.refl _ _ | with_reducible assumption | with_reducible apply Below.alloc | with_reducible apply Below.setCell | with_reducible apply Below.drew | exact Nat.le_refl _ | omega | (simp only [World.size_alloc, World.size_setCell]; omega))) (b1.mono (by first | exact Nat.le_refl _ | omega | (simp only [World.size_alloc, World.size_setCell]; omega)))
  have A1 : BoxAt w1 w.heap.size b.X b.Y b.Whole vb := ⟨keepCell b1 (by repeat' (first | with_reducible assumption | (refine cell_top ?_ rfl; first | with_reducible rfl | (simp only [World.size_alloc, World.size_setCell]; done)) | (refine cell_under ?_ ?_; (first | omega | (simp only [World.size_alloc, World.size_setCell]; omega))) | refine cell_drew ?_)), keepCell b1 (by repeat' (first | with_reducible assumption | (refine cell_top ?_ rfl; first | with_reducible rfl | (simp only [World.size_alloc, World.size_setCell]; done)) | (refine cell_under ?_ ?_; (first | omega | (simp only [World.size_alloc, World.size_setCell]; omega))) | refine cell_drew ?_)), keepCell b1 (by repeat' (first | with_reducible assumption | (refine cell_top ?_ rfl; first | with_reducible rfl | (simp only [World.size_alloc, World.size_setCell]; done)) | (refine cell_under ?_ ?_; (first | omega | (simp only [World.size_alloc, World.size_setCell]; omega))) | refine cell_drew ?_)), keepCell b1 (by repeat' (first | with_reducible assumption | (refine cell_top ?_ rfl; first | with_reducible rfl | (simp only [World.size_alloc, World.size_setCell]; done)) | (refine cell_under ?_ ?_; (first | omega | (simp only [World.size_alloc, World.size_setCell]; omega))) | refine cell_drew ?_))⟩
  clear b1
  rcases Bool.eq_false_or_eq_true (boxB b) with hok | hok
  · obtain ⟨a0, a1, a2, a3⟩ := A1
    have HM := Lib.hid hok
    rw [hok]
    go_wp2_with fail
    refine (CS _ B1).mono ?_
    rintro e w2 ⟨rfl, rfl⟩
    rcases Bool.eq_false_or_eq_true (sharesB b.X b.Y xs) with hf | hf
    · have HS := Lib.hid (isMixt_same hok hf)
      have HO := Lib.hid (show isMixtOk b xs = true by unfold isMixtOk; rw [hok, hf]; rfl)
      have HD := Lib.hid (show isMixtD b xs = alikeR b.Rows (mixtE b.X b.Y xs).Rows b.Whole xs.sum by unfold isMixtD; rw [HO.out]; rfl)
      have HF := Lib.hid hf
      rw [hf]
      clear hok hf CS
      go_wp2_with fail
      refine (CM _ B1 HF.out).mono ?_
      rintro e w2 ⟨am, cm, vsm, rfl, om, b2⟩
      have B2 := B1.trans (b2.mono B1.size)
      have A2 := (BoxAt.mk a0 a1 a2 a3).kept b2 (World.block_lt_of_cell? _ _ a0)
      have hz := b2.size
      have hz1 := B1.size
      have hlt : w.heap.size < w2.heap.size := World.block_lt_of_cell? _ _ A2.1
      obtain ⟨c0, c1, c2, c3⟩ := A2
      clear a0 a1 a2 a3 CM
      go_wp2_with fail
      refine (alike_any vb b _ (mixtE b.X b.Y xs) HS.out _ (rb.kept (Nat.le_refl _) (B2.trans (Below.mono (by repeat' (first | with_reducible exact Below.refl _ _ | with_reducible assumption | with_reducible apply Below.alloc | with_reducible apply Below.setCell | with_reducible apply Below.drew | exact Nat.le_refl _ | omega | (simp only [World.size_alloc, World.size_setCell]; omega))) B2.size))) (om.rdII.kept (Nat.le_refl _) (by repeat' (first | with_reducible exact Below.refl _ _ | with_reducible assumption | with_reducible apply Below.alloc | with_reducible apply Below.setCell | with_reducible apply Below.drew | exact Nat.le_refl _ | omega | (simp only [World.size_alloc, World.size_setCell]; omega))))).mono ?_
      rintro e w3 ⟨rfl, rfl⟩
      go_wp2
      refine bodyPost_ret (v := .tuple #[.bool (alikeR b.Rows (mixtE b.X b.Y xs).Rows b.Whole xs.sum), .bool true]) (by simp [results, Try.results35, go_sem]; rfl) rfl ⟨by rw [HD.out, HO.out], B2.trans (Below.mono (by repeat' (first | with_reducible exact Below.refl _ _ | with_reducible assumption | with_reducible apply Below.alloc | with_reducible apply Below.setCell | with_reducible apply Below.drew | exact Nat.le_refl _ | omega | (simp only [World.size_alloc, World.size_setCell]; omega))) B2.size)⟩
    · have HO := Lib.hid (show isMixtOk b xs = false by unfold isMixtOk; rw [hok, hf]; rfl)
      have HD := Lib.hid (show isMixtD b xs = false by unfold isMixtD; rw [HO.out]; rfl)
      rw [hf]
      clear hf hok CS CM
      go_wp2
      refine bodyPost_ret (v := .tuple #[.bool false, .bool false]) (by simp [results, Try.results35, go_sem]) rfl ⟨by rw [HD.out, HO.out], B1⟩
  · have HO := Lib.hid (show isMixtOk b xs = false by unfold isMixtOk; rw [hok]; rfl)
    have HD := Lib.hid (show isMixtD b xs = false by unfold isMixtD; rw [HO.out]; rfl)
    rw [hok]
    clear hok CS CM
    go_wp2
    refine bodyPost_ret (v := .tuple #[.bool false, .bool false]) (by simp [results, Try.results35, go_sem]) rfl ⟨by rw [HD.out, HO.out], B1⟩
end Go.Proofs.Ytbleeakcmmpcgaa
