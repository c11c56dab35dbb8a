/- IsQuiet and FirstLoud: contracts of the program's and the reference's functions. The triple worth: tests and the reference's sum. The greatest triple worth of all that a box becomes, in two orders. No program in sight. -/
import Derived.Test.YtnmnmnpeoiblhaaSuav
import Derived.Test.YtnmnmnpeoiblhaaSuai
import Derived.Test.YtnmnmnpeoiblhaaSuau
set_option linter.unusedSimpArgs false
set_option linter.unusedVariables false
namespace Go.Proofs.Ytnmnmnpeoiblhaa
open Go.RowKit

def quietB (b : BoxD) : Bool := (loudF b).isNone
theorem loudS_neg (b : BoxD) : decide ((loudS b).1 < 0) = quietB b := by
  unfold loudS quietB
  cases loudF b with
  | none => rfl
  | some p => simp <;> omega
theorem loudI_quiet (b : BoxD) : (loudI b).2.2 = !quietB b := by
  unfold loudI quietB
  cases loudF b <;> rfl

def isQuietD (b : BoxD) : Bool := boxB b && quietB b
set_option maxHeartbeats 800000 in
theorem isQuiet_any (v : Value) (b : BoxD) (w : World) (h : RdII w v b.Rows) :
    Calls Try.prog 81 #[.agg #[.int .i64 b.X, .int .i64 b.Y, .int .i64 b.Whole, v]] w fun e w' => e = .returned (.bool (boxB b && quietB b)) ∧ Below w.heap.size w w' := by
  go_enter Try.func81, Try.ntmps81
  go_wp2_with fail
  refine (implIsBox_any v b _ (h.kept (Nat.le_refl _) (by repeat' (first | with_reducible exact Below.refl _ _ | with_reducible assumption | with_reducible apply Below.alloc | with_reducible apply Below.setCell | with_reducible apply Below.drew | exact Nat.le_refl _ | omega | (simp only [World.size_alloc, World.size_setCell]; omega))))).mono ?_
  rintro e w1 ⟨rfl, b1⟩
  have B1 : Below w.heap.size w w1 := Below.trans (by repeat' (first | with_reducible exact Below.refl _ _ | with_reducible assumption | with_reducible apply Below.alloc | with_reducible apply Below.setCell | with_reducible apply Below.drew | exact Nat.le_refl _ | omega | (simp only [World.size_alloc, World.size_setCell]; omega))) (b1.mono (by first | exact Nat.le_refl _ | omega | (simp only [World.size_alloc, World.size_setCell]; omega)))
  have A1 : BoxAt w1 w.heap.size b.X b.Y b.Whole v := ⟨keepCell b1 (by repeat' (first | with_reducible assumption | (refine cell_top ?_ rfl; first | with_reducible rfl | (simp only [World.size_alloc, World.size_setCell]; done)) | (refine cell_under ?_ ?_; (first | omega | (simp only [World.size_alloc, World.size_setCell]; omega))) | refine cell_drew ?_)), keepCell b1 (by repeat' (first | with_reducible assumption | (refine cell_top ?_ rfl; first | with_reducible rfl | (simp only [World.size_alloc, World.size_setCell]; done)) | (refine cell_under ?_ ?_; (first | omega | (simp only [World.size_alloc, World.size_setCell]; omega))) | refine cell_drew ?_)), keepCell b1 (by repeat' (first | with_reducible assumption | (refine cell_top ?_ rfl; first | with_reducible rfl | (simp only [World.size_alloc, World.size_setCell]; done)) | (refine cell_under ?_ ?_; (first | omega | (simp only [World.size_alloc, World.size_setCell]; omega))) | refine cell_drew ?_)), keepCell b1 (by repeat' (first | with_reducible assumption | (refine cell_top ?_ rfl; first | with_reducible rfl | (simp only [World.size_alloc, World.size_setCell]; done)) | (refine cell_under ?_ ?_; (first | omega | (simp only [World.size_alloc, World.size_setCell]; omega))) | refine cell_drew ?_))⟩
  clear b1
  rcases Bool.eq_false_or_eq_true (boxB b) with hok | hok
  · obtain ⟨a0, a1, a2, a3⟩ := A1
    have HM := Lib.hid hok
    rw [hok]
    clear hok
    go_wp2_with fail
    refine (loud_any v b HM.out _ (h.kept (Nat.le_refl _) B1)).mono ?_
    rintro e w2 ⟨rfl, b2⟩
    have B2 := B1.trans (b2.mono B1.size)
    have hq := loudI_quiet b
    have HQ := Lib.hid hq
    generalize (loudI b).2.2 = q3 at *
    clear hq
    go_wp2
    go_ret
    exact ⟨ret_bool (by rw [HQ.out, HM.out]; simp), B2⟩
  · have HM := Lib.hid hok
    rw [hok]
    clear hok
    go_wp2
    go_ret
    exact ⟨ret_bool (by rw [HM.out]; rfl), B1⟩
set_option maxHeartbeats 800000 in
theorem implIsQuiet_any (v : Value) (b : BoxD) (w : World) (h : RdII w v b.Rows) :
    Calls Try.prog 26 #[.agg #[.int .i64 b.X, .int .i64 b.Y, .int .i64 b.Whole, v]] w fun e w' => e = .returned (.tuple #[.bool (isQuietD b), .bool (boxB b)]) ∧ Below w.heap.size w w' := by
  go_enter Try.func26, Try.ntmps26
  go_wp2_with fail
  refine (implIsBox_any v b _ (h.kept (Nat.le_refl _) (by repeat' (first | with_reducible exact Below.refl _ _ | with_reducible assumption | with_reducible apply Below.alloc | with_reducible apply Below.setCell | with_reducible apply Below.drew | exact Nat.le_refl _ | omega | (simp only [World.size_alloc, World.size_setCell]; omega))))).mono ?_
  rintro e w1 ⟨rfl, b1⟩
  have B1 : Below w.heap.size w w1 := Below.trans (by repeat' (first | with_reducible exact Below.refl _ _ | with_reducible assumption | with_reducible apply Below.alloc | with_reducible apply Below.setCell | with_reducible apply Below.drew | exact Nat.le_refl _ | omega | (simp only [World.size_alloc, World.size_setCell]; omega))) (b1.mono (by first | exact Nat.le_refl _ | omega | (simp only [World.size_alloc, World.size_setCell]; omega)))
  have A1 : BoxAt w1 w.heap.size b.X b.Y b.Whole v := ⟨keepCell b1 (by repeat' (first | with_reducible assumption | (refine cell_top ?_ rfl; first | with_reducible rfl | (simp only [World.size_alloc, World.size_setCell]; done)) | (refine cell_under ?_ ?_; (first | omega | (simp only [World.size_alloc, World.size_setCell]; omega))) | refine cell_drew ?_)), keepCell b1 (by repeat' (first | with_reducible assumption | (refine cell_top ?_ rfl; first | with_reducible rfl | (simp only [World.size_alloc, World.size_setCell]; done)) | (refine cell_under ?_ ?_; (first | omega | (simp only [World.size_alloc, World.size_setCell]; omega))) | refine cell_drew ?_)), keepCell b1 (by repeat' (first | with_reducible assumption | (refine cell_top ?_ rfl; first | with_reducible rfl | (simp only [World.size_alloc, World.size_setCell]; done)) | (refine cell_under ?_ ?_; (first | omega | (simp only [World.size_alloc, World.size_setCell]; omega))) | refine cell_drew ?_)), keepCell b1 (by repeat' (first | with_reducible assumption | (refine cell_top ?_ rfl; first | with_reducible rfl | (simp only [World.size_alloc, World.size_setCell]; done)) | (refine cell_under ?_ ?_; (first | omega | (simp only [World.size_alloc, World.size_setCell]; omega))) | refine cell_drew ?_))⟩
  clear b1
  rcases Bool.eq_false_or_eq_true (boxB b) with hok | hok
  · obtain ⟨a0, a1, a2, a3⟩ := A1
    have HM := Lib.hid hok
    rw [hok]
    clear hok
    go_wp2_with fail
    refine (isQuiet_any v b _ (h.kept (Nat.le_refl _) B1)).mono ?_
    rintro e w2 ⟨rfl, b2⟩
    have B2 := B1.trans (b2.mono B1.size)
    rw [HM.out]
    go_wp2
    refine bodyPost_ret (v := .tuple #[.bool (true && quietB b), .bool true]) (by simp [results, Try.results26, go_sem]) rfl ⟨by unfold isQuietD; rw [HM.out], B2⟩
  · have HM := Lib.hid hok
    rw [hok]
    clear hok
    go_wp2
    refine bodyPost_ret (v := .tuple #[.bool false, .bool false]) (by simp [results, Try.results26, go_sem]) rfl ⟨by unfold isQuietD; rw [HM.out]; rfl, B1⟩
def firstD (b : BoxD) : Int × Int × Bool := if boxB b then loudI b else (0, 0, false)
end Go.Proofs.Ytnmnmnpeoiblhaa
set_option linter.unusedSimpArgs false
set_option linter.unusedVariables false
namespace Go.Proofs.Ytnmnmnpeoiblhaa
open Go.RowKit

def tripleOk (b : BoxD) : Bool := (boxB b && quietB b) && (decide (b.X = 3) && decide (b.Y = 3))
theorem tripleOk_iff {b : BoxD} : tripleOk b = true ↔ boxB b = true ∧ quietB b = true ∧ b.X = 3 ∧ b.Y = 3 := by
  unfold tripleOk
  simp only [Bool.and_eq_true, decide_eq_true_iff, and_assoc]
theorem tripleOk_no {b : BoxD} (h : ¬ (boxB b = true ∧ quietB b = true ∧ b.X = 3 ∧ b.Y = 3)) : tripleOk b = false := Bool.eq_false_iff.2 fun h' => h (tripleOk_iff.1 h')
def n11 (b : BoxD) (x y : Nat) : Int := numB b x y 1 1
def tripleV (b : BoxD) : Int := n11 b 0 0 + n11 b 0 1 + n11 b 0 2 + n11 b 1 0 + n11 b 1 1 - n11 b 1 2 + n11 b 2 0 - n11 b 2 1 - oneB b 0 0 0 - 2 * oneB b 1 0 0 - oneB b 1 0 1
def tripleD (b : BoxD) : Int := if tripleOk b then tripleV b else 0
set_option maxHeartbeats 800000 in
theorem isTriple_any (v : Value) (b : BoxD) (w : World) (h : RdII w v b.Rows) :
    Calls Try.prog 122 #[.agg #[.int .i64 b.X, .int .i64 b.Y, .int .i64 b.Whole, v]] w fun e w' => e = .returned (.bool (tripleOk b)) ∧ Below w.heap.size w w' := by
  go_enter Try.func122, Try.ntmps122
  go_wp2_with fail
  refine (isQuiet_any v b _ (h.kept (Nat.le_refl _) (by repeat' (first | with_reducible exact Below.refl _ _ | with_reducible assumption | with_reducible apply Below.alloc | with_reducible apply Below.setCell | with_reducible apply Below.drew | exact Nat.le_refl _ | omega | (simp only [World.size_alloc, World.size_setCell]; omega))))).mono ?_
  rintro e w1 ⟨rfl, b1⟩
  have B2 : Below w.heap.size w w1 := Below.trans (by repeat' (first | with_reducible exact Below.refl _ _ | with_reducible assumption | with_reducible apply Below.alloc | with_reducible apply Below.setCell | with_reducible apply Below.drew | exact Nat.le_refl _ | omega | (simp only [World.size_alloc, World.size_setCell]; omega))) (b1.mono (by first | exact Nat.le_refl _ | omega | (simp only [World.size_alloc, World.size_setCell]; omega)))
  have A2 : BoxAt w1 w.heap.size b.X b.Y b.Whole v := ⟨keepCell b1 (by repeat' (first | with_reducible assumption | (refine cell_top ?_ rfl; first | with_reducible rfl | (simp only [World.size_alloc, World.size_setCell]; done)) | (refine cell_under ?_ ?_; (first | omega | (simp only [World.size_alloc, World.size_setCell]; omega))) | refine cell_drew ?_)), keepCell b1 (by repeat' (first | with_reducible assumption | (refine cell_top ?_ rfl; first | with_reducible rfl | (simp only [World.size_alloc, World.size_setCell]; done)) | (refine cell_under ?_ ?_; (first | omega | (simp only [World.size_alloc, World.size_setCell]; omega))) | refine cell_drew ?_)), keepCell b1 (by repeat' (first | with_reducible assumption | (refine cell_top ?_ rfl; first | with_reducible rfl | (simp only [World.size_alloc, World.size_setCell]; done)) | (refine cell_under ?_ ?_; (first | omega | (simp only [World.size_alloc, World.size_setCell]; omega))) | refine cell_drew ?_)), keepCell b1 (by repeat' (first | with_reducible assumption | (refine cell_top ?_ rfl; first | with_reducible rfl | (simp only [World.size_alloc, World.size_setCell]; done)) | (refine cell_under ?_ ?_; (first | omega | (simp only [World.size_alloc, World.size_setCell]; omega))) | refine cell_drew ?_))⟩
  clear b1
  rcases Bool.eq_false_or_eq_true (boxB b && quietB b) with hq | hq
  · have hq' := hq
    rw [Bool.and_eq_true] at hq'
    have HQ := Lib.hid hq'
    rw [hq]
    clear hq hq'
    obtain ⟨e0, e1, e2, e3⟩ := A2
    by_cases h3 : b.X = 3
    · have h3z : (b.X == 3) = true := by simp [h3]
      have H3 := Lib.hid h3
      clear h3
      by_cases h4 : b.Y = 3
      · have h4z : (b.Y == 3) = true := by simp [h4]
        have H4 := Lib.hid h4
        clear h4
        go_wp2
        go_ret
        exact ⟨ret_bool (tripleOk_iff.2 ⟨HQ.out.1, HQ.out.2, H3.out, H4.out⟩).symm, B2⟩
      · have h4z : (b.Y == 3) = false := by simp [h4]
        have H4 := Lib.hid h4
        clear h4
        go_wp2
        go_ret
        exact ⟨ret_bool (tripleOk_no (fun h => H4.out h.2.2.2)).symm, B2⟩
    · have h3z : (b.X == 3) = false := by simp [h3]
      have H3 := Lib.hid h3
      clear h3
      go_wp2
      go_ret
      exact ⟨ret_bool (tripleOk_no (fun h => H3.out h.2.2.1)).symm, B2⟩
  · have HQ := Lib.hid hq
    rw [hq]
    clear hq
    go_wp2
    go_ret
    exact ⟨ret_bool (tripleOk_no (fun h => by have := HQ.out; rw [h.1, h.2.1] at this; cases this)).symm, B2⟩
def sg (k : Nat) : Int := [1, 1, 1, 1, 1, -1, 1, -1, 0].getD k 0
theorem sg_bd (k : Nat) (hk : k < 9) : -1 ≤ sg k ∧ sg k ≤ 1 := by
  have : k = 0 ∨ k = 1 ∨ k = 2 ∨ k = 3 ∨ k = 4 ∨ k = 5 ∨ k = 6 ∨ k = 7 ∨ k = 8 := by omega
  rcases this with rfl | rfl | rfl | rfl | rfl | rfl | rfl | rfl | rfl <;> decide
def tripleUp (b : BoxD) : Nat → Int
  | 0 => -(oneB b 0 0 0) - 2 * oneB b 1 0 0 - oneB b 1 0 1
  | k + 1 => tripleUp b k + sg k * n11 b (k / 3) (k % 3)
theorem tripleUp_nine (b : BoxD) : tripleUp b 9 = tripleV b := by
  have e : tripleUp b 9 = -(oneB b 0 0 0) - 2 * oneB b 1 0 0 - oneB b 1 0 1 + 1 * n11 b 0 0 + 1 * n11 b 0 1 + 1 * n11 b 0 2 + 1 * n11 b 1 0 + 1 * n11 b 1 1 + -1 * n11 b 1 2 + 1 * n11 b 2 0 + -1 * n11 b 2 1 + 0 * n11 b 2 2 := rfl
  rw [e]
  unfold tripleV
  omega
end Go.Proofs.Ytnmnmnpeoiblhaa
set_option linter.unusedSimpArgs false
set_option linter.unusedVariables false
namespace Go.Proofs.Ytnmnmnpeoiblhaa

def mostI (a b : Int) : Int := if a < b then b else a
theorem mostI_le {a b m : Int} : mostI a b ≤ m ↔ a ≤ m ∧ b ≤ m := by unfold mostI; split <;> omega
/-- The triple worth of a box whose answers are flipped. -/
def trF (a : BoxD) (c : Nat) : Int := tripleV (flipBL a (bitsTo 6 c 6))
def upF (a : BoxD) (z : Int) : Nat → Int
  | 0 => z
  | c + 1 => mostI (upF a z c) (trF a c)
def upS (s : BoxD) (f : List Int) (z : Int) : Nat → Int
  | 0 => z
  | k + 1 => upF (againL s f (ordAt k)) (upS s f z k) 64
def upO (s : BoxD) (z : Int) : Nat → Int
  | 0 => z
  | i + 1 => upS s (ordAt i) (upO s z i) 6
def mostT (b : BoxD) : Int := upO (swapL b) (upO b (tripleV b) 6) 6
theorem upF_le {a : BoxD} {z m : Int} : ∀ n, upF a z n ≤ m ↔ z ≤ m ∧ ∀ c, c < n → trF a c ≤ m := by
  intro n
  induction n with
  | zero => exact ⟨fun h => ⟨h, fun c hc => absurd hc (by omega)⟩, fun h => h.1⟩
  | succ n ih =>
    show mostI _ _ ≤ m ↔ _
    rw [mostI_le, ih]
    constructor
    · rintro ⟨⟨h1, h2⟩, h3⟩
      refine ⟨h1, fun c hc => ?_⟩
      rcases Nat.lt_or_ge c n with h | h
      · exact h2 c h
      · obtain rfl : c = n := by omega
        exact h3
    · rintro ⟨h1, h2⟩
      exact ⟨⟨h1, fun c hc => h2 c (by omega)⟩, h2 n (by omega)⟩
theorem upS_le {s : BoxD} {f : List Int} {z m : Int} : ∀ n, upS s f z n ≤ m ↔ z ≤ m ∧ ∀ k, k < n → ∀ c, c < 64 → trF (againL s f (ordAt k)) c ≤ m := by
  intro n
  induction n with
  | zero => exact ⟨fun h => ⟨h, fun c hc => absurd hc (by omega)⟩, fun h => h.1⟩
  | succ n ih =>
    show upF _ _ 64 ≤ m ↔ _
    rw [upF_le, ih]
    constructor
    · rintro ⟨⟨h1, h2⟩, h3⟩
      refine ⟨h1, fun c hc => ?_⟩
      rcases Nat.lt_or_ge c n with h | h
      · exact h2 c h
      · obtain rfl : c = n := by omega
        exact h3
    · rintro ⟨h1, h2⟩
      exact ⟨⟨h1, fun c hc => h2 c (by omega)⟩, h2 n (by omega)⟩
theorem upO_le {s : BoxD} {z m : Int} : ∀ n, upO s z n ≤ m ↔ z ≤ m ∧ ∀ i, i < n → ∀ k, k < 6 → ∀ c, c < 64 → trF (againL s (ordAt i) (ordAt k)) c ≤ m := by
  intro n
  induction n with
  | zero => exact ⟨fun h => ⟨h, fun c hc => absurd hc (by omega)⟩, fun h => h.1⟩
  | succ n ih =>
    show upS _ _ _ 6 ≤ m ↔ _
    rw [upS_le, ih]
    constructor
    · rintro ⟨⟨h1, h2⟩, h3⟩
      refine ⟨h1, fun c hc => ?_⟩
      rcases Nat.lt_or_ge c n with h | h
      · exact h2 c h
      · obtain rfl : c = n := by omega
        exact h3
    · rintro ⟨h1, h2⟩
      exact ⟨⟨h1, fun c hc => h2 c (by omega)⟩, h2 n (by omega)⟩

/-- The flips of a code, the least digit first. -/
def flipsOf (c : Nat) : List Int := seqTo (fun i => ((c / 2 ^ i % 2 : Nat) : Int)) 6
def frF (a : BoxD) (c : Nat) : Int := tripleV (flipBL a (flipsOf c))
def mostF (a : BoxD) : Int := bestUp (frF a) 64
def spS (b t : BoxD) (f : List Int) (z : Int) : Nat → Int
  | 0 => z
  | k + 1 => mostI (mostI (spS b t f z k) (mostF (againL b f (ordAt k)))) (mostF (againL t f (ordAt k)))
def spO (b t : BoxD) (z : Int) : Nat → Int
  | 0 => z
  | i + 1 => spS b t (ordAt i) (spO b t z i) 6
theorem bestUp_le {g : Nat → Int} {m : Int} : ∀ n, bestUp g (n + 1) ≤ m ↔ ∀ c, c < n + 1 → g c ≤ m := by
  intro n
  induction n with
  | zero =>
    have e : bestUp g (0 + 1) = g 0 := by show (if _ then _ else _) = _; rw [if_pos (Or.inl rfl)]
    rw [e]
    exact ⟨fun h c hc => by (obtain rfl : c = 0 := by omega); exact h, fun h => h 0 (by omega)⟩
  | succ n ih =>
    have e : bestUp g (n + 1 + 1) = mostI (bestUp g (n + 1)) (g (n + 1)) := by
      show (if n + 1 = 0 ∨ bestUp g (n + 1) < g (n + 1) then _ else _) = _
      unfold mostI
      by_cases h : bestUp g (n + 1) < g (n + 1)
      · rw [if_pos (Or.inr h), if_pos h]
      · rw [if_neg (fun h' => h'.elim (fun e => by omega) h), if_neg h]
    rw [e, mostI_le, ih]
    constructor
    · rintro ⟨h1, h2⟩ c hc
      rcases Nat.lt_or_ge c (n + 1) with h | h
      · exact h1 c h
      · obtain rfl : c = n + 1 := by omega
        exact h2
    · intro h
      exact ⟨fun c hc => h c (by omega), h (n + 1) (by omega)⟩
theorem flips_to : ∀ c, c < 64 → ∃ d, d < 64 ∧ flipsOf d = bitsTo 6 c 6 := by decide +kernel
theorem flips_from : ∀ d, d < 64 → ∃ c, c < 64 ∧ bitsTo 6 c 6 = flipsOf d := by decide +kernel
theorem mostF_le {a : BoxD} {m : Int} : mostF a ≤ m ↔ ∀ c, c < 64 → trF a c ≤ m := by
  unfold mostF
  rw [bestUp_le 63]
  constructor
  · intro h c hc
    obtain ⟨d, hd, e⟩ := flips_to c hc
    have := h d hd
    unfold frF at this
    unfold trF
    rw [← e]; exact this
  · intro h d hd
    obtain ⟨c, hc, e⟩ := flips_from d hd
    have := h c hc
    unfold trF at this
    unfold frF
    rw [← e]; exact this
theorem spS_le {b t : BoxD} {f : List Int} {z m : Int} : ∀ n, spS b t f z n ≤ m ↔ z ≤ m ∧ ∀ k, k < n → (∀ c, c < 64 → trF (againL b f (ordAt k)) c ≤ m) ∧ ∀ c, c < 64 → trF (againL t f (ordAt k)) c ≤ m := by
  intro n
  induction n with
  | zero => exact ⟨fun h => ⟨h, fun c hc => absurd hc (by omega)⟩, fun h => h.1⟩
  | succ n ih =>
    show mostI _ _ ≤ m ↔ _
    rw [mostI_le, mostI_le, ih, mostF_le, mostF_le]
    constructor
    · rintro ⟨⟨⟨h1, h2⟩, h3⟩, h4⟩
      refine ⟨h1, fun c hc => ?_⟩
      rcases Nat.lt_or_ge c n with h | h
      · exact h2 c h
      · obtain rfl : c = n := by omega
        exact ⟨h3, h4⟩
    · rintro ⟨h1, h2⟩
      exact ⟨⟨⟨h1, fun c hc => h2 c (by omega)⟩, (h2 n (by omega)).1⟩, (h2 n (by omega)).2⟩
theorem spO_le {b t : BoxD} {z m : Int} : ∀ n, spO b t z n ≤ m ↔ z ≤ m ∧ ∀ i, i < n → ∀ k, k < 6 → (∀ c, c < 64 → trF (againL b (ordAt i) (ordAt k)) c ≤ m) ∧ ∀ c, c < 64 → trF (againL t (ordAt i) (ordAt k)) c ≤ m := by
  intro n
  induction n with
  | zero => exact ⟨fun h => ⟨h, fun c hc => absurd hc (by omega)⟩, fun h => h.1⟩
  | succ n ih =>
    show spS _ _ _ _ 6 ≤ m ↔ _
    rw [spS_le, ih]
    constructor
    · rintro ⟨⟨h1, h2⟩, h3⟩
      refine ⟨h1, fun c hc => ?_⟩
      rcases Nat.lt_or_ge c n with h | h
      · exact h2 c h
      · obtain rfl : c = n := by omega
        exact h3
    · rintro ⟨h1, h2⟩
      exact ⟨⟨h1, fun c hc => h2 c (by omega)⟩, h2 n (by omega)⟩
/-- Both orders find the same greatest triple. -/
theorem spO_eq (b : BoxD) : spO b (swapL b) (tripleV b) 6 = mostT b := by
  have key : ∀ m, spO b (swapL b) (tripleV b) 6 ≤ m ↔ mostT b ≤ m := by
    intro m
    unfold mostT
    rw [spO_le, upO_le, upO_le]
    constructor
    · rintro ⟨h1, h2⟩
      exact ⟨⟨h1, fun i hi k hk c hc => (h2 i hi k hk).1 c hc⟩, fun i hi k hk c hc => (h2 i hi k hk).2 c hc⟩
    · rintro ⟨⟨h1, h2⟩, h3⟩
      exact ⟨h1, fun i hi k hk => ⟨fun c hc => h2 i hi k hk c hc, fun c hc => h3 i hi k hk c hc⟩⟩
  exact Int.le_antisymm ((key _).2 (Int.le_refl _)) ((key _).1 (Int.le_refl _))
end Go.Proofs.Ytnmnmnpeoiblhaa
