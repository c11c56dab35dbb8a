/- ReduceBox: contracts of the program's and the reference's function. -/
import Derived.Test.YtjedajfpohhojaaSpScale
set_option linter.unusedSimpArgs false
set_option linter.unusedVariables false
namespace Go.Proofs.Ytjedajfpohhojaa
open Go.RowKit

def gcdRow (g : Nat) (rs : List Int) : Nat := rs.foldl (fun g n => Nat.gcd g n.toNat) g
def gcdRows (g : Nat) (rss : List (List Int)) : Nat := rss.foldl gcdRow g
theorem gcdRow_snoc (g : Nat) (rs : List Int) (n : Int) : gcdRow g (rs ++ [n]) = Nat.gcd (gcdRow g rs) n.toNat := by simp [gcdRow, List.foldl_append]
theorem gcdRows_snoc (g : Nat) (rss : List (List Int)) (rs : List Int) : gcdRows g (rss ++ [rs]) = gcdRow (gcdRows g rss) rs := by simp [gcdRows, List.foldl_append]
theorem gcd_bd (g n : Nat) (h0 : 1 ≤ g) (h1 : g ≤ 1000) : 1 ≤ Nat.gcd g n ∧ Nat.gcd g n ≤ 1000 :=
  ⟨Nat.gcd_pos_of_pos_left n h0, Nat.le_trans (Nat.gcd_le_left n h0) h1⟩
def redG (b : BoxD) : Nat := gcdRows b.Whole.toNat b.Rows
def redN (b : BoxD) (d : Int) : Num := fun i j p q => numB b i j p q / d
def redL (b : BoxD) : BoxD := boxOf b.X b.Y (b.Whole / (redG b : Int)) (redN b (redG b : Int))
def redD (b : BoxD) : BoxD := if boxB b then redL b else zeroD
theorem redD_size (b : BoxD) : (redD b).Rows.length + sumLen (redD b).Rows ≤ 4194304 := by
  unfold redD
  split
  · rename_i h
    exact boxOf_size _ _ _ _ (boxB_sizes h)
  · simp [zeroD, sumLen]

set_option maxHeartbeats 400000 in
theorem divisor_any (a b : Nat) (ha : a ≤ 1000) (hb : b ≤ 1000) (w : World) :
    Calls Try.prog 86 #[.int .i64 a, .int .i64 b] w fun e w' => e = .returned (.int .i64 (Nat.gcd a b)) ∧ Drw w w' := by
  go_enter Try.func86, Try.ntmps86
  go_wp2
  go_loopw [0, 1] (fun s0 s1 wr => ∃ x y : Nat, s0 = .int .i64 x ∧ s1 = .int .i64 y ∧ x ≤ 1000 ∧ y ≤ 1000 ∧ Nat.gcd x y = Nat.gcd a b ∧ Drw w wr) (fun _ s1 _ => (intOf s1).toNat)
  case atStart => exact ⟨a, b, rfl, rfl, ha, hb, rfl, Drw.refl _⟩
  case round =>
    obtain ⟨x, y, rfl, rfl, hx, hy, hg, hd⟩ := hrel
    have HG := Lib.hid hg
    clear hg
    rcases Nat.eq_zero_or_pos y with h0 | h0
    · subst h0
      go_wp2
      go_ret
      exact ⟨ret_int (by rw [← HG.out, Nat.gcd_zero_right]), hd⟩
    · have hz : ¬ (y : Int) = 0 := by omega
      have hzz : ((y : Int) != 0) = true := by simp; omega
      have hlt := Nat.mod_lt x h0
      have ht : IntKind.i64.wrap ((x : Int).tmod (y : Int)) = ((x % y : Nat) : Int) := by
        rw [Int.tmod_eq_emod_of_nonneg (by omega), ← Int.natCast_emod]
        exact wrap_in _ (by omega) (by omega)
      have ht2 : (x : Int) % (y : Int) = ((x % y : Nat) : Int) := (Int.natCast_emod x y).symm
      have HN : Nat.gcd y (x % y) = Nat.gcd x y := by rw [Nat.gcd_comm y (x % y), ← Nat.gcd_rec y x, Nat.gcd_comm]
      have HN := Lib.hid HN
      generalize x % y = z at *
      go_wp2
      go_quiet (fail)
      go_wp2
      go_roundw
      case rel => exact ⟨y, z, rfl, by first | rfl | rw [ht2], hy, by omega, by rw [HN.out, HG.out], hd.trans (Drw.mk _ _)⟩
      case measure => simp [intOf]; omega
set_option maxHeartbeats 400000 in
theorem l2Gcd_any (a b : Nat) (ha : a ≤ 1000) (hb : b ≤ 1000) (w : World) :
    Calls Try.prog 104 #[.int .i64 a, .int .i64 b] w fun e w' => e = .returned (.int .i64 (Nat.gcd a b)) ∧ Drw w w' := by
  go_enter Try.func104, Try.ntmps104
  go_wp2
  go_loopw [0, 1] (fun s0 s1 wr => ∃ x y : Nat, s0 = .int .i64 x ∧ s1 = .int .i64 y ∧ x ≤ 1000 ∧ y ≤ 1000 ∧ Nat.gcd x y = Nat.gcd a b ∧ Drw w wr) (fun _ s1 _ => (intOf s1).toNat)
  case atStart => exact ⟨a, b, rfl, rfl, ha, hb, rfl, Drw.refl _⟩
  case round =>
    obtain ⟨x, y, rfl, rfl, hx, hy, hg, hd⟩ := hrel
    have HG := Lib.hid hg
    clear hg
    rcases Nat.eq_zero_or_pos y with h0 | h0
    · subst h0
      go_wp2
      go_ret
      exact ⟨ret_int (by rw [← HG.out, Nat.gcd_zero_right]), hd⟩
    · have hz : ¬ (y : Int) = 0 := by omega
      have hlt := Nat.mod_lt x h0
      have ht : IntKind.i64.wrap ((x : Int).tmod (y : Int)) = ((x % y : Nat) : Int) := by
        rw [Int.tmod_eq_emod_of_nonneg (by omega), ← Int.natCast_emod]
        exact wrap_in _ (by omega) (by omega)
      have ht2 : (x : Int) % (y : Int) = ((x % y : Nat) : Int) := (Int.natCast_emod x y).symm
      have HN : Nat.gcd y (x % y) = Nat.gcd x y := by rw [Nat.gcd_comm y (x % y), ← Nat.gcd_rec y x, Nat.gcd_comm]
      have HN := Lib.hid HN
      generalize x % y = z at *
      go_wp2
      go_quiet (fail)
      go_wp2
      go_roundw
      case rel => exact ⟨y, z, rfl, by first | rfl | rw [ht2], hy, by omega, by rw [HN.out, HG.out], hd.trans (Drw.mk _ _)⟩
      case measure => simp [intOf]; omega
theorem boxB_nats {b : BoxD} (hb : boxB b = true) (k : Nat) (rs : List Int) (hr : b.Rows[k]? = some rs) : rs.length = 4 ∧ ∀ (q : Nat) (x : Int), rs[q]? = some x → 0 ≤ x ∧ x ≤ b.Whole := by
  obtain ⟨_, _, _, h4⟩ := boxB_iff.1 hb
  obtain ⟨h1, h2, _⟩ := fourB_iff.1 (rowsB_get h4 hr)
  exact ⟨h1, fun q x hx => allIn_get h2 hx⟩
theorem gcdRow_bd {g : Nat} {rs : List Int} (h0 : 1 ≤ g) (h1 : g ≤ 1000) : 1 ≤ gcdRow g rs ∧ gcdRow g rs ≤ 1000 := by
  unfold gcdRow
  induction rs generalizing g with
  | nil => exact ⟨h0, h1⟩
  | cons n t ih => exact ih (gcd_bd g n.toNat h0 h1).1 (gcd_bd g n.toNat h0 h1).2
theorem gcdRows_bd {g : Nat} {rss : List (List Int)} (h0 : 1 ≤ g) (h1 : g ≤ 1000) : 1 ≤ gcdRows g rss ∧ gcdRows g rss ≤ 1000 := by
  unfold gcdRows
  induction rss generalizing g with
  | nil => exact ⟨h0, h1⟩
  | cons r t ih => exact ih (gcdRow_bd h0 h1).1 (gcdRow_bd h0 h1).2
theorem gcdRow_take (g : Nat) (rs : List Int) (k : Nat) (x : Int) (h : rs[k]? = some x) : gcdRow g (rs.take (k + 1)) = Nat.gcd (gcdRow g (rs.take k)) x.toNat := by
  rw [List.take_add_one, h, Option.toList_some, gcdRow_snoc]
theorem gcdRows_take (g : Nat) (rss : List (List Int)) (k : Nat) (rs : List Int) (h : rss[k]? = some rs) : gcdRows g (rss.take (k + 1)) = gcdRow (gcdRows g (rss.take k)) rs := by
  rw [List.take_add_one, h, Option.toList_some, gcdRows_snoc]

end Go.Proofs.Ytjedajfpohhojaa
