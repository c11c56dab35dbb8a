/- The greatest triple worth of all that a box becomes, in two orders. No program in sight. Orders and flips of three questions: what the walks need of them. No program in sight. The reference's copy of a list: contract. ProductBox: contracts of the program's and the reference's function. -/
import Derived.Test.YtadnjljpceeolaaLoav
import Derived.Test.YtadnjljpceeolaaLoaz
import Derived.Test.YtadnjljpceeolaaLobd
import Derived.Test.YtadnjljpceeolaaLoaf
import Derived.Test.YtadnjljpceeolaaLoai
import Derived.Test.YtadnjljpceeolaaLoak
set_option linter.unusedSimpArgs false
set_option linter.unusedVariables false
namespace Go.Proofs.Ytadnjljpceeolaa

def mostI (a b : Int) : Int := if a < b then b else a
theorem mostI_le {a b m : Int} : mostI a b ≤ m ↔ a ≤ m ∧ b ≤ m := by unfold mostI; split <;> omega
/-- The triple worth of a box whose answers are flipped. -/
def trF (a : BoxD) (c : Nat) : Int := tripleV (flipBL a (bitsTo 6 c 6))
def upF (a : BoxD) (z : Int) : Nat → Int
  | 0 => z
  | c + 1 => mostI (upF a z c) (trF a c)
def upS (s : BoxD) (f : List Int) (z : Int) : Nat → Int
  | 0 => z
  | k + 1 => upF (againL s f (ordAt k)) (upS s f z k) 64
def upO (s : BoxD) (z : Int) : Nat → Int
  | 0 => z
  | i + 1 => upS s (ordAt i) (upO s z i) 6
def mostT (b : BoxD) : Int := upO (swapL b) (upO b (tripleV b) 6) 6
theorem upF_le {a : BoxD} {z m : Int} : ∀ n, upF a z n ≤ m ↔ z ≤ m ∧ ∀ c, c < n → trF a c ≤ m := by
  intro n
  induction n with
  | zero => exact ⟨fun h => ⟨h, fun c hc => absurd hc (by omega)⟩, fun h => h.1⟩
  | succ n ih =>
    show mostI _ _ ≤ m ↔ _
    rw [mostI_le, ih]
    constructor
    · rintro ⟨⟨h1, h2⟩, h3⟩
      refine ⟨h1, fun c hc => ?_⟩
      rcases Nat.lt_or_ge c n with h | h
      · exact h2 c h
      · obtain rfl : c = n := by omega
        exact h3
    · rintro ⟨h1, h2⟩
      exact ⟨⟨h1, fun c hc => h2 c (by omega)⟩, h2 n (by omega)⟩
theorem upS_le {s : BoxD} {f : List Int} {z m : Int} : ∀ n, upS s f z n ≤ m ↔ z ≤ m ∧ ∀ k, k < n → ∀ c, c < 64 → trF (againL s f (ordAt k)) c ≤ m := by
  intro n
  induction n with
  | zero => exact ⟨fun h => ⟨h, fun c hc => absurd hc (by omega)⟩, fun h => h.1⟩
  | succ n ih =>
    show upF _ _ 64 ≤ m ↔ _
    rw [upF_le, ih]
    constructor
    · rintro ⟨⟨h1, h2⟩, h3⟩
      refine ⟨h1, fun c hc => ?_⟩
      rcases Nat.lt_or_ge c n with h | h
      · exact h2 c h
      · obtain rfl : c = n := by omega
        exact h3
    · rintro ⟨h1, h2⟩
      exact ⟨⟨h1, fun c hc => h2 c (by omega)⟩, h2 n (by omega)⟩
theorem upO_le {s : BoxD} {z m : Int} : ∀ n, upO s z n ≤ m ↔ z ≤ m ∧ ∀ i, i < n → ∀ k, k < 6 → ∀ c, c < 64 → trF (againL s (ordAt i) (ordAt k)) c ≤ m := by
  intro n
  induction n with
  | zero => exact ⟨fun h => ⟨h, fun c hc => absurd hc (by omega)⟩, fun h => h.1⟩
  | succ n ih =>
    show upS _ _ _ 6 ≤ m ↔ _
    rw [upS_le, ih]
    constructor
    · rintro ⟨⟨h1, h2⟩, h3⟩
      refine ⟨h1, fun c hc => ?_⟩
      rcases Nat.lt_or_ge c n with h | h
      · exact h2 c h
      · obtain rfl : c = n := by omega
        exact h3
    · rintro ⟨h1, h2⟩
      exact ⟨⟨h1, fun c hc => h2 c (by omega)⟩, h2 n (by omega)⟩

/-- The flips of a code, the least digit first. -/
def flipsOf (c : Nat) : List Int := seqTo (fun i => ((c / 2 ^ i % 2 : Nat) : Int)) 6
def frF (a : BoxD) (c : Nat) : Int := tripleV (flipBL a (flipsOf c))
def mostF (a : BoxD) : Int := bestUp (frF a) 64
def spS (b t : BoxD) (f : List Int) (z : Int) : Nat → Int
  | 0 => z
  | k + 1 => mostI (mostI (spS b t f z k) (mostF (againL b f (ordAt k)))) (mostF (againL t f (ordAt k)))
def spO (b t : BoxD) (z : Int) : Nat → Int
  | 0 => z
  | i + 1 => spS b t (ordAt i) (spO b t z i) 6
theorem bestUp_le {g : Nat → Int} {m : Int} : ∀ n, bestUp g (n + 1) ≤ m ↔ ∀ c, c < n + 1 → g c ≤ m := by
  intro n
  induction n with
  | zero =>
    have e : bestUp g (0 + 1) = g 0 := by show (if _ then _ else _) = _; rw [if_pos (Or.inl rfl)]
    rw [e]
    exact ⟨fun h c hc => by (obtain rfl : c = 0 := by omega); exact h, fun h => h 0 (by omega)⟩
  | succ n ih =>
    have e : bestUp g (n + 1 + 1) = mostI (bestUp g (n + 1)) (g (n + 1)) := by
      show (if n + 1 = 0 ∨ bestUp g (n + 1) < g (n + 1) then _ else _) = _
      unfold mostI
      by_cases h : bestUp g (n + 1) < g (n + 1)
      · rw [if_pos (Or.inr h), if_pos h]
      · rw [if_neg (fun h' => h'.elim (fun e => by omega) h), if_neg h]
    rw [e, mostI_le, ih]
    constructor
    · rintro ⟨h1, h2⟩ c hc
      rcases Nat.lt_or_ge c (n + 1) with h | h
      · exact h1 c h
      · obtain rfl : c = n + 1 := by omega
        exact h2
    · intro h
      exact ⟨fun c hc => h c (by omega), h (n + 1) (by omega)⟩
theorem flips_to : ∀ c, c < 64 → ∃ d, d < 64 ∧ flipsOf d = bitsTo 6 c 6 := by decide +kernel
theorem flips_from : ∀ d, d < 64 → ∃ c, c < 64 ∧ bitsTo 6 c 6 = flipsOf d := by decide +kernel
theorem mostF_le {a : BoxD} {m : Int} : mostF a ≤ m ↔ ∀ c, c < 64 → trF a c ≤ m := by
  unfold mostF
  rw [bestUp_le 63]
  constructor
  · intro h c hc
    obtain ⟨d, hd, e⟩ := flips_to c hc
    have := h d hd
    unfold frF at this
    unfold trF
    rw [← e]; exact this
  · intro h d hd
    obtain ⟨c, hc, e⟩ := flips_from d hd
    have := h c hc
    unfold trF at this
    unfold frF
    rw [← e]; exact this
theorem spS_le {b t : BoxD} {f : List Int} {z m : Int} : ∀ n, spS b t f z n ≤ m ↔ z ≤ m ∧ ∀ k, k < n → (∀ c, c < 64 → trF (againL b f (ordAt k)) c ≤ m) ∧ ∀ c, c < 64 → trF (againL t f (ordAt k)) c ≤ m := by
  intro n
  induction n with
  | zero => exact ⟨fun h => ⟨h, fun c hc => absurd hc (by omega)⟩, fun h => h.1⟩
  | succ n ih =>
    show mostI _ _ ≤ m ↔ _
    rw [mostI_le, mostI_le, ih, mostF_le, mostF_le]
    constructor
    · rintro ⟨⟨⟨h1, h2⟩, h3⟩, h4⟩
      refine ⟨h1, fun c hc => ?_⟩
      rcases Nat.lt_or_ge c n with h | h
      · exact h2 c h
      · obtain rfl : c = n := by omega
        exact ⟨h3, h4⟩
    · rintro ⟨h1, h2⟩
      exact ⟨⟨⟨h1, fun c hc => h2 c (by omega)⟩, (h2 n (by omega)).1⟩, (h2 n (by omega)).2⟩
theorem spO_le {b t : BoxD} {z m : Int} : ∀ n, spO b t z n ≤ m ↔ z ≤ m ∧ ∀ i, i < n → ∀ k, k < 6 → (∀ c, c < 64 → trF (againL b (ordAt i) (ordAt k)) c ≤ m) ∧ ∀ c, c < 64 → trF (againL t (ordAt i) (ordAt k)) c ≤ m := by
  intro n
  induction n with
  | zero => exact ⟨fun h => ⟨h, fun c hc => absurd hc (by omega)⟩, fun h => h.1⟩
  | succ n ih =>
    show spS _ _ _ _ 6 ≤ m ↔ _
    rw [spS_le, ih]
    constructor
    · rintro ⟨⟨h1, h2⟩, h3⟩
      refine ⟨h1, fun c hc => ?_⟩
      rcases Nat.lt_or_ge c n with h | h
      · exact h2 c h
      · obtain rfl : c = n := by omega
        exact h3
    · rintro ⟨h1, h2⟩
      exact ⟨⟨h1, fun c hc => h2 c (by omega)⟩, h2 n (by omega)⟩
/-- Both orders find the same greatest triple. -/
theorem spO_eq (b : BoxD) : spO b (swapL b) (tripleV b) 6 = mostT b := by
  have key : ∀ m, spO b (swapL b) (tripleV b) 6 ≤ m ↔ mostT b ≤ m := by
    intro m
    unfold mostT
    rw [spO_le, upO_le, upO_le]
    constructor
    · rintro ⟨h1, h2⟩
      exact ⟨⟨h1, fun i hi k hk c hc => (h2 i hi k hk).1 c hc⟩, fun i hi k hk c hc => (h2 i hi k hk).2 c hc⟩
    · rintro ⟨⟨h1, h2⟩, h3⟩
      exact ⟨h1, fun i hi k hk => ⟨fun c hc => h2 i hi k hk c hc, fun c hc => h3 i hi k hk c hc⟩⟩
  exact Int.le_antisymm ((key _).2 (Int.le_refl _)) ((key _).1 (Int.le_refl _))
end Go.Proofs.Ytadnjljpceeolaa
set_option linter.unusedSimpArgs false
set_option linter.unusedVariables false
namespace Go.Proofs.Ytadnjljpceeolaa
open Go.RowKit

theorem ord_again {b : BoxD} (hb : boxB b = true) (hX : b.X = 3) (hY : b.Y = 3) {i k : Nat} (hi : i < 6) (hk : k < 6) : againB b (ordAt i) (ordAt k) = true := by
  obtain ⟨h1, h2⟩ := ordAt_ok i hi
  obtain ⟨h3, h4⟩ := ordAt_ok k hk
  refine againB_iff.2 ⟨?_, ?_, ?_⟩
  · rw [h1, h3]; decide
  · rw [hX]; exact h2
  · rw [hY]; exact h4
theorem againL_X {b : BoxD} {i k : Nat} (hi : i < 6) (hk : k < 6) : (againL b (ordAt i) (ordAt k)).X = 3 ∧ (againL b (ordAt i) (ordAt k)).Y = 3 := by
  unfold againL
  show ((ordAt i).length : Int) = 3 ∧ ((ordAt k).length : Int) = 3
  rw [(ordAt_ok i hi).1, (ordAt_ok k hk).1]
  exact ⟨rfl, rfl⟩
theorem againL_whole (b : BoxD) (f s : List Int) : (againL b f s).Whole = b.Whole := rfl
theorem ords_get {i : Nat} (hi : i < 6) : ords[i]? = some (ordAt i) := by
  have : i = 0 ∨ i = 1 ∨ i = 2 ∨ i = 3 ∨ i = 4 ∨ i = 5 := by omega
  rcases this with rfl | rfl | rfl | rfl | rfl | rfl <;> rfl
theorem flipsOf_bits (c : Nat) : bitsB (flipsOf c) 6 = true := by
  refine bits_iff.2 ⟨allIn_true fun j x hx => ?_, by unfold flipsOf; rw [seqTo_len]; rfl⟩
  unfold flipsOf at hx
  have hj : j < 6 := by have := (List.getElem?_eq_some_iff.1 hx).1; rw [seqTo_len] at this; exact this
  rw [seqTo_get _ _ _ hj] at hx
  cases hx
  exact inB_iff.2 (by omega)
theorem bits6_bits (c : Nat) : bitsB (bitsTo 6 c 6) 6 = true := bitsTo_bits 6 c 6 rfl
theorem upF_new (a : BoxD) (z : Int) (c : Nat) (u t : Int) (hu : u = upF a z c) (ht : t = trF a c) : (if u < t then t else u) = upF a z (c + 1) := by subst hu ht; rfl
/-- The orders as a value: rows of the call's own making. -/
theorem cells3 {w : World} {g : Nat} {x y z : Int} (h0 : w.cell? ⟨g, 0, none⟩ = some (.int .i64 x)) (h1 : w.cell? ⟨g, 1, none⟩ = some (.int .i64 y)) (h2 : w.cell? ⟨g, 2, none⟩ = some (.int .i64 z)) : RdI w (.slice (some ⟨g, 0, none⟩) 3 3) [x, y, z] := by
  refine ⟨_, g, 0, 3, rfl, by simp [maxLen], fun _ => rfl, fun j u hu => ?_⟩
  have hj : j < 3 := (List.getElem?_eq_some_iff.1 hu).1
  have : j = 0 ∨ j = 1 ∨ j = 2 := by omega
  rcases this with rfl | rfl | rfl <;> (simp at hu; subst hu; assumption)
theorem ords_rd {w : World} {g0 g1 g2 g3 g4 g5 g : Nat} (r0 : RdI w (.slice (some ⟨g0, 0, none⟩) 3 3) [0, 1, 2]) (r1 : RdI w (.slice (some ⟨g1, 0, none⟩) 3 3) [0, 2, 1]) (r2 : RdI w (.slice (some ⟨g2, 0, none⟩) 3 3) [1, 0, 2])
    (r3 : RdI w (.slice (some ⟨g3, 0, none⟩) 3 3) [1, 2, 0]) (r4 : RdI w (.slice (some ⟨g4, 0, none⟩) 3 3) [2, 0, 1]) (r5 : RdI w (.slice (some ⟨g5, 0, none⟩) 3 3) [2, 1, 0])
    (c0 : w.cell? ⟨g, 0, none⟩ = some (.slice (some ⟨g0, 0, none⟩) 3 3)) (c1 : w.cell? ⟨g, 1, none⟩ = some (.slice (some ⟨g1, 0, none⟩) 3 3)) (c2 : w.cell? ⟨g, 2, none⟩ = some (.slice (some ⟨g2, 0, none⟩) 3 3))
    (c3 : w.cell? ⟨g, 3, none⟩ = some (.slice (some ⟨g3, 0, none⟩) 3 3)) (c4 : w.cell? ⟨g, 4, none⟩ = some (.slice (some ⟨g4, 0, none⟩) 3 3)) (c5 : w.cell? ⟨g, 5, none⟩ = some (.slice (some ⟨g5, 0, none⟩) 3 3)) :
    RdII w (.slice (some ⟨g, 0, none⟩) 6 6) ords := by
  refine ⟨_, g, 0, 6, rfl, by simp [maxLen, ords], fun _ => rfl, fun i rs h => ?_⟩
  have hi : i < 6 := (List.getElem?_eq_some_iff.1 h).1
  rw [Nat.zero_add]
  have : i = 0 ∨ i = 1 ∨ i = 2 ∨ i = 3 ∨ i = 4 ∨ i = 5 := by omega
  rcases this with rfl | rfl | rfl | rfl | rfl | rfl <;> (simp [ords] at h; subst h; exact ⟨_, by assumption, by assumption⟩)
/-- One of the orders, read out of them. -/
theorem ords_path {w : World} {g c : Nat} (h : RdII w (.slice (some ⟨g, 0, none⟩) 6 c) ords) {i : Nat} (hi : i < 6) : ∃ a c2, w.cell? ⟨g, i, none⟩ = some (.slice a 3 c2) ∧ RdI w (.slice a 3 c2) (ordAt i) ∧ g < w.heap.size := by
  obtain ⟨a, b, off, cap, hv, _, ha, hc⟩ := h
  have he := ha (by decide)
  injection hv with e1 e2 e3
  rw [he] at e1
  simp only [Option.some.injEq, Addr.mk.injEq, and_true] at e1
  obtain ⟨rfl, rfl⟩ := e1
  obtain ⟨v', hc1, hr⟩ := hc i _ (ords_get hi)
  obtain ⟨a2, b2, o2, c2, hv2, hm2, ha2, hc2⟩ := hr
  rw [Nat.zero_add] at hc1
  rw [(ordAt_ok i hi).1] at hv2
  have lt := World.block_lt_of_cell? _ _ hc1
  exact ⟨a2, c2, by rw [hc1, hv2], ⟨a2, b2, o2, c2, by rw [(ordAt_ok i hi).1], hm2, ha2, hc2⟩, lt⟩
/-- The best behind start s. -/
def upT (b : BoxD) : Nat → Int
  | 0 => tripleV b
  | 1 => upO b (tripleV b) 6
  | _ => mostT b
end Go.Proofs.Ytadnjljpceeolaa
set_option linter.unusedSimpArgs false
set_option linter.unusedVariables false
namespace Go.Proofs.Ytadnjljpceeolaa
open Go.RowKit

set_option maxHeartbeats 400000 in
theorem l1Own_any (v : Value) (xs : List Int) (w : World) (h : RdI w v xs) (hcap : ∀ c : Nat, v = .slice none 0 c → c = 0) (hn : xs.length ≤ 1048576) :
    Calls Try.prog 83 #[v] w fun e w' => ∃ a c, e = .returned (.slice a xs.length c) ∧ OwnV 3 w.heap.size w'.heap.size w' (.slice a xs.length c) (ints xs) ∧ Below w.heap.size w w' := by
  have hE := OwnV.empty 3 w
  have hr := h.kept (Nat.le_refl _) (show Below w.heap.size w (w.alloc (.cells #[] 3)) from (by repeat' (first | with_reducible exact Below.refl _ _ | with_reducible assumption | with_reducible apply Below.alloc | with_reducible apply Below.setCell | with_reducible apply Below.drew | exact Nat.le_refl _ | omega | (simp only [World.size_alloc, World.size_setCell]; omega))))
  have hlo : w.heap.size ≤ (w.alloc (.cells #[] 3)).heap.size := (by first | exact Nat.le_refl _ | omega | (simp only [World.size_alloc, World.size_setCell]; omega))
  obtain ⟨av, cv, hv⟩ : ∃ a c, v = .slice a xs.length c := by obtain ⟨a, _, _, c, hv, _⟩ := h; exact ⟨a, c, hv⟩
  subst hv
  go_enter Try.func83, Try.ntmps83
  go_wp2_with (at_builtin; refine appendAll_own (vx := .slice av xs.length cv) rfl _ _ 22 3 rfl Try.underlying22 Try.infoInt hE rfl rfl hr (by simp only [List.length_nil]; omega) (by omega) hlo hcap ?_)
  intro a2 c2 w2 hO hg
  have hB : Below w.heap.size w w2 := Below.grown (by repeat' (first | with_reducible exact Below.refl _ _ | with_reducible assumption | with_reducible apply Below.alloc | with_reducible apply Below.setCell | with_reducible apply Below.drew | exact Nat.le_refl _ | omega | (simp only [World.size_alloc, World.size_setCell]; omega))) hg hlo (fun g hg' => (hE.lt g hg').1)
  go_wp2
  go_ret
  exact ⟨a2, c2, rfl, hO, hB⟩
end Go.Proofs.Ytadnjljpceeolaa
set_option linter.unusedSimpArgs false
set_option linter.unusedVariables false
namespace Go.Proofs.Ytadnjljpceeolaa
open Go.RowKit

def chancesB (xs : List Int) (m : Int) : Bool := allIn xs 0 m && inB xs.length 1 3
set_option maxHeartbeats 400000 in
theorem l2Chances_any (v : Value) (xs : List Int) (m : Int) (w : World) (h : RdI w v xs) :
    Calls Try.prog 158 #[v, .int .i64 m] w fun e w' => e = .returned (.bool (chancesB xs m)) ∧ w = w' := by
  obtain ⟨a, b, off, cap, rfl, hm, ha, hc⟩ := h
  unfold maxLen at hm
  go_enter Try.func158, Try.ntmps158
  go_wp2
  go_loop [5] (fun i => ∃ k : Nat, k ≤ xs.length ∧ i = .int .i64 k ∧ ∀ (j : Nat) (x : Int), j < k → xs[j]? = some x → inB x 0 m = true) (fun i => xs.length - (intOf i).toNat)
  case atStart => exact ⟨0, by omega, rfl, fun j x hj => by omega⟩
  case round =>
    obtain ⟨k, hk, rfl, hall⟩ := hrel
    have HA := Lib.hid hall
    clear hall
    by_cases hlt : k < xs.length
    · obtain rfl := ha (by omega)
      obtain ⟨x, hx⟩ : ∃ x, xs[k]? = some x := ⟨_, List.getElem?_eq_getElem hlt⟩
      have hcell := hc k x hx
      have HX := Lib.hid hx
      clear hc hx
      rcases Bool.eq_false_or_eq_true (inB x 0 m) with h1 | h1
      · go_wp2_with (go_at_call 139; refine (l1In_any _ _ _ _).mono ?_; rintro e w' ⟨rfl, rfl⟩)
        go_round
        case rel => exact ⟨k + 1, by omega, by go_num, fun j x' hj hx' => by
          by_cases e : j = k
          · subst e; rw [HX.out] at hx'; cases hx'; exact h1
          · exact HA.out j x' (by omega) hx'⟩
        case measure => simp [intOf]; omega
      · go_wp2_with (go_at_call 139; refine (l1In_any _ _ _ _).mono ?_; rintro e w' ⟨rfl, rfl⟩)
        go_ret
        exact ⟨ret_bool (by unfold chancesB; rw [allIn_false HX.out h1]; rfl), rfl⟩
    · go_wp2_with (go_at_call 139; refine (l1In_any _ _ _ _).mono ?_; rintro e w' ⟨rfl, rfl⟩)
      go_ret
      obtain rfl : k = xs.length := by omega
      refine ⟨ret_bool ?_, rfl⟩
      unfold chancesB
      rw [allIn_true (fun j x hx => HA.out j x (List.getElem?_eq_some_iff.1 hx).1 hx)]
      rw [Bool.true_and]
end Go.Proofs.Ytadnjljpceeolaa
