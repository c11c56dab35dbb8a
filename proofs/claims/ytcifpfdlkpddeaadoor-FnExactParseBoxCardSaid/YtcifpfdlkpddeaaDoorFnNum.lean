/- The decimal text of a number: what the reference's l1Num and the program's call of the library hand back. -/
import Derived.Test.YtcifpfdlkpddeaaDoorHarA
import Derived.Test.YtcifpfdlkpddeaaDoorShelf
import Derived.Lib.ItoaNum
import Derived.Lib.ItoaMem
import Derived.Lib.ItoaLen
import Derived.Lib.SmallJoins
import Derived.Lib.AppendIntMem
set_option linter.unusedSimpArgs false
set_option linter.unusedVariables false
namespace Go.Proofs.YtcifpfdlkpddeaaDoor
open Go.RowKit

/-- The text of ten digits, as the program's text holds it. -/
def digs : ByteArray := ⟨#[48, 49, 50, 51, 52, 53, 54, 55, 56, 57]⟩
theorem digs_size : digs.size = 10 := rfl
theorem digs_piece_fin : ∀ i : Fin 10, (digs.data.toList.drop i.val).take (i.val + 1 - i.val) = [UInt8.ofNat (48 + i.val)] := by decide +kernel
theorem digs_piece {i : Nat} (h : i < 10) : (digs.data.toList.drop i).take (i + 1 - i) = [UInt8.ofNat (48 + i)] := digs_piece_fin ⟨i, h⟩

theorem digs_extract_fin : ∀ i : Fin 10, digs.extract i.val (i.val + 1) = ⟨#[UInt8.ofNat (48 + i.val)]⟩ := by decide +kernel
theorem digs_extract {i : Nat} (h : i < 10) : digs.extract i (i + 1) = ⟨[UInt8.ofNat (48 + i)].toArray⟩ := digs_extract_fin ⟨i, h⟩

theorem wrapIn (x : Int) (h0 : -9223372036854775808 ≤ x) (h1 : x ≤ 9223372036854775807) : IntKind.i64.wrap x = x := IntWalk.i64_in _ (by omega)
theorem decDigits_big {u : Nat} (h : ¬ u < 10) : Lib.decDigits u = Lib.decDigits (u / 10) ++ [UInt8.ofNat (48 + u % 10)] := by rw [Lib.decDigits, dif_neg h]

set_option maxRecDepth 20000 in
set_option maxHeartbeats 1000000 in
theorem l1Num_nat (k : Nat) : ∀ (u : Nat) (w : World), u ≤ k → u ≤ 9223372036854775800 →
    Calls Tryd.prog 25 #[.int .i64 u] w fun e w' => e = .returned (.string ⟨(Lib.decDigits u).toArray⟩) ∧ Drw w w' := by
  induction k with
  | zero =>
    intro u w hk hu
    obtain rfl : u = 0 := by omega
    go_enter Tryd.func25, Tryd.ntmps25
    go_wp2_with fail
    go_ret
    exact ⟨by rw [Lib.decDigits_one (by decide)]; rfl, Drw.refl _⟩
  | succ k ih =>
    intro u w hk hu
    by_cases h10 : u < 10
    · go_enter Tryd.func25, Tryd.ntmps25
      go_wp2_with fail
      go_ret
      exact ⟨by rw [Lib.decDigits_one h10, ← digs_extract h10]; rfl, Drw.refl _⟩
    · obtain ⟨q, hq⟩ : ∃ q : Nat, q = u / 10 := ⟨_, rfl⟩
      obtain ⟨r, hr⟩ : ∃ r : Nat, r = u % 10 := ⟨_, rfl⟩
      have hr10 : r < 10 := by omega
      have e0 := decDigits_big h10
      rw [← hq, ← hr] at e0
      have IH : ∀ n, Calls Tryd.prog 25 #[.int .i64 (q : Int)] (w.drewN n) fun e w' => e = .returned (.string ⟨(Lib.decDigits q).toArray⟩) ∧ Drw (w.drewN n) w' :=
        fun n => ih q _ (by omega) (by omega)
      have e1 : (u : Int) / 10 = (q : Int) := by omega
      have e2 : (u : Int) % 10 = (r : Int) := by omega
      have e3 : (u : Int).tdiv 10 = (q : Int) := by rw [Int.tdiv_eq_ediv_of_nonneg (by omega)]; exact e1
      have e4 : (u : Int).tmod 10 = (r : Int) := by rw [Int.tmod_eq_emod_of_nonneg (by omega)]; exact e2
      have e5 : IntKind.i64.wrap (q : Int) = (q : Int) := wrapIn _ (by omega) (by omega)
      have e6 : IntKind.i64.wrap (r : Int) = (r : Int) := wrapIn _ (by omega) (by omega)
      have e7 : IntKind.i64.wrap ((r : Int) + 1) = (r : Int) + 1 := wrapIn _ (by omega) (by omega)
      have f1 : (0 : Int) ≤ (r : Int) := by omega
      have f2 : (0 : Int) ≤ (r : Int) + 1 := by omega
      have f3 : (r : Int) ≤ (r : Int) + 1 := by omega
      have f4 : (r : Int) + 1 ≤ 10 := by omega
      have f5 : r ≤ r + 1 := by omega
      have f6 : r + 1 ≤ 10 := by omega
      have f7 : r ≤ 9 := by omega
      have hx : (ByteArray.mk #[48, 49, 50, 51, 52, 53, 54, 55, 56, 57]).extract r (r + 1) = ⟨#[UInt8.ofNat (48 + r)]⟩ := digs_extract hr10
      have hxs : ((ByteArray.mk #[48, 49, 50, 51, 52, 53, 54, 55, 56, 57]).extract r (r + 1)).size = 1 := by rw [hx]; rfl
      have HX := Lib.hid hx
      clear hx
      have hl : (Lib.decDigits q).length ≤ 20 := by rw [Lib.decDigits_length]; exact Lib.nDigits_le20 _ (by omega)
      generalize hD : Lib.decDigits q = D at *
      have hl3 : ¬ (9223372036854775807 < D.length + 1) := by omega
      generalize UInt8.ofNat (48 + r) = c at *
      have hu10 : (10 : Int) ≤ (u : Int) := by omega
      rw [e0]
      clear e0 ih hD hq hr hk e1 e2
      go_enter Tryd.func25, Tryd.ntmps25
      go_wp2_with fail
      go_quiet (with_reducible exact quietDrw (IH _))
      go_wp2
      go_ret
      exact ⟨by rw [HX.out]; simp [ByteArray.mk_append_mk], Drw.mk _ _⟩

theorem l1Num_any (n : Int) (w : World) (h0 : -1000000 ≤ n) (h1 : n ≤ 1000000) :
    Calls Tryd.prog 25 #[.int .i64 n] w fun e w' => e = .returned (.string ⟨(Lib.itoa n).toArray⟩) ∧ Drw w w' := by
  by_cases hn : n < 0
  · obtain ⟨u, rfl⟩ : ∃ u : Nat, n = -(u : Int) := ⟨n.natAbs, by omega⟩
    have e0 : Lib.itoa (-(u : Int)) = 45 :: Lib.decDigits u := Lib.itoa_neg u (by omega)
    have hl : (Lib.decDigits u).length ≤ 20 := by rw [Lib.decDigits_length]; exact Lib.nDigits_le20 _ (by omega)
    have C := l1Num_nat u u
    rw [e0]
    generalize Lib.decDigits u = D at *
    clear e0
    have hl3 : ¬ (9223372036854775807 < 1 + D.length) := by omega
    have hl4 : ¬ (9223372036854775807 < D.length + 1) := by omega
    go_enter Tryd.func25, Tryd.ntmps25
    go_wp2_with (go_at_call 25; refine (C _ (Nat.le_refl _) (by omega)).mono ?_; rintro e w' ⟨rfl, hd⟩)
    go_ret
    exact ⟨by rw [ByteArray.mk_append_mk [45] D]; rfl, hd⟩
  · obtain ⟨u, rfl⟩ : ∃ u : Nat, n = (u : Int) := ⟨n.toNat, by omega⟩
    rw [Lib.itoa_nonneg]
    exact l1Num_nat u u w (Nat.le_refl _) (by omega)

/-- The library's table of powers of ten holds what its text lays. -/
def Tab (w : World) : Prop := Lib.TabIs Tryd.prog w "internal/strconv.uint64pow10" .u64 Lib.pow10Tab
theorem Tryd.gPow : Tryd.prog.globalNamed "internal/strconv.uint64pow10" = some 5 := by kernel_rfl
theorem Tab.stays {w w' : World} (h : Tab w) (hb : Below w.heap.size w w') : Tab w' := Joins.var_stays Tryd.gPow h hb (Nat.le_refl _)

theorem drwSize {w w' : World} (h : Drw w w') : w'.heap.size = w.heap.size := by rw [h.heap]
theorem itoa_any (n : Int) (w : World) (h0 : -1000000 ≤ n) (h1 : n ≤ 1000000) (ht : Tab w) :
    Calls Tryd.prog 30 #[.int .i64 n] w fun e w' => e = .returned (.string ⟨(Lib.itoa n).toArray⟩) ∧ Below w.heap.size w w' :=
  (Tryd.strconv_Itoa n (by omega) (by omega) w ht).mono fun e w' ⟨he, k, os, hw⟩ => ⟨he, by rw [hw]; exact Lib.below_grow _ _ (Nat.le_refl _) _ _⟩

/-- What FormatInt hands back. -/
def fmtS (n : Int) : ByteArray := if inB n (-999999) 999999 then ⟨(Lib.itoa n).toArray⟩ else ⟨#[]⟩
theorem fmtS_in {n : Int} (h : inB n (-999999) 999999 = true) : fmtS n = ⟨(Lib.itoa n).toArray⟩ := by unfold fmtS; rw [if_pos h]
theorem fmtS_out {n : Int} (h : inB n (-999999) 999999 = false) : fmtS n = ⟨#[]⟩ := by unfold fmtS; rw [if_neg (by simp [h])]

end Go.Proofs.YtcifpfdlkpddeaaDoor
