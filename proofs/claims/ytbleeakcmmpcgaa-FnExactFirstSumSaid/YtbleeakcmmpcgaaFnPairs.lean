/- All pairs of questions: contracts of the program's and the reference's function. -/
import Derived.Test.YtbleeakcmmpcgaaPairs
import Derived.Test.YtbleeakcmmpcgaaFnA
set_option linter.unusedSimpArgs false
set_option linter.unusedVariables false
namespace Go.Proofs.Ytbleeakcmmpcgaa
open Go.RowKit

theorem pairInfo : (Try.prog.info? 50).map (fun i => (i.zero, i.size, i.bytes)) = some (some (.agg #[.int .i64 0, .int .i64 0]), 2, 16) := by kernel_rfl
def PairsRes (w : World) (ps : List (Nat × Nat)) (e : Ending) (w' : World) : Prop :=
  ∃ v, e = .returned v ∧ RdP w.heap.size w' v ps ∧ Below w.heap.size w w'
set_option maxHeartbeats 1600000 in
theorem pairs_any (n : Nat) (hn : n ≤ 3) (w : World) :
    Calls Try.prog 107 #[.int .i64 n] w (PairsRes w (pairsTo n n)) := by
  have hE := OwnP.empty 50 w
  go_enter Try.func107, Try.ntmps107
  go_wp2
  go_loopw [8, 3] (fun s so wr => ∃ i : Nat, i ≤ n ∧ s = .int .i64 i ∧ ∃ a c, so = .slice a (pairsTo n i).length c ∧ OwnP 50 w.heap.size wr.heap.size wr (.slice a (pairsTo n i).length c) (pairsTo n i) ∧ Below w.heap.size w wr) (fun s _ _ => n - (intOf s).toNat)
  case atStart => exact ⟨0, by omega, rfl, _, _, rfl, by simpa [pairsTo] using hE, (by repeat' (first | with_reducible exact Below.refl _ _ | with_reducible assumption | with_reducible apply Below.alloc | with_reducible apply Below.setCell | with_reducible apply Below.drew | exact Nat.le_refl _ | omega | (simp only [World.size_alloc, World.size_setCell]; omega)))⟩
  case round =>
    clear hE
    obtain ⟨i, hi, rfl, a, c, rfl, hO, hB⟩ := hrel
    by_cases hlt : i < n
    · have hpl := pairsTo_length n i
      have hin : i * n ≤ 9 := Nat.mul_le_mul (show i ≤ 3 by omega) hn
      go_wp2
      go_loopw [5, 3] (fun s so wz => ∃ t : Nat, i + 1 + t ≤ n ∧ s = .int .i64 ((i + 1 + t : Nat) : Int) ∧ ∃ a c, so = .slice a (pairsTo n i ++ pairsRow i t).length c ∧ OwnP 50 w.heap.size wz.heap.size wz (.slice a (pairsTo n i ++ pairsRow i t).length c) (pairsTo n i ++ pairsRow i t) ∧ Below w.heap.size w wz) (fun s _ _ => n - (intOf s).toNat)
      case atStart => exact ⟨0, by omega, by first | rfl | go_num | simp, a, c, by simp [pairsRow], by simpa [pairsRow] using hO, hB⟩
      case round =>
        clear hO hB
        obtain ⟨t, ht, rfl, a, c, rfl, hO, hB⟩ := hrel
        obtain ⟨q, hq⟩ : ∃ q, q = i + 1 + t := ⟨_, rfl⟩
        rw [← hq] at ht
        rw [← hq]
        have hl2 : (pairsTo n i ++ pairsRow i t).length ≤ 20 := by rw [List.length_append, pairsRow_length]; omega
        have hx : (pairsTo n i ++ pairsRow i t) ++ [(i, q)] = pairsTo n i ++ pairsRow i (t + 1) := by
          rw [List.append_assoc, hq]; rfl
        have HQ := Lib.hid hq
        have HX := Lib.hid hx
        generalize hL : pairsTo n i ++ pairsRow i t = L at *
        have HL := Lib.hid hL
        have hsz := hB.size
        clear hx hL hq hpl
        by_cases hjt : q < n
        · go_wp2_with (at_builtin; refine append2_own rfl _ _ 98 50 rfl Try.underlying98 pairInfo rfl hO rfl rfl rfl rfl (by omega) (by omega) hsz ?_)
          intro a2 c2 w2 hO2 hg2
          have hB2 : Below w.heap.size w w2 := hB.grown hg2 hsz (fun g hg => (hO.lt g hg).1)
          have hl3 : (L ++ [(i, q)]).length = L.length + 1 := by simp
          rw [← hl3] at hO2
          rw [HX.out] at hO2
          rw [HX.out] at hl3
          clear hO
          go_wp2
          go_roundw
          case rel => exact ⟨t + 1, by have := HQ.out; omega, by have := HQ.out; first | go_num | (congr 1; omega), a2, c2, by rw [hl3], hO2, hB2⟩
          case measure => simp [intOf]; omega
        · go_wp2
          go_roundw
          have e1 : t = n - (i + 1) := by have := HQ.out; omega
          case rel => exact ⟨i + 1, by omega, by go_num, a, c, by rw [← HL.out, e1]; rfl, by rw [← HL.out, e1] at hO; exact hO, hB⟩
          case measure => simp [intOf]; omega
    · obtain rfl : i = n := by omega
      go_wp2
      go_ret
      exact ⟨_, rfl, hO.rd, hB⟩
set_option maxHeartbeats 1600000 in
theorem l3Pairs_any (n : Nat) (hn : n ≤ 3) (w : World) :
    Calls Try.prog 105 #[.int .i64 n] w (PairsRes w (pairsTo n n)) := by
  have hE := OwnP.empty 50 w
  go_enter Try.func105, Try.ntmps105
  go_wp2
  go_loopw [4, 3] (fun s so wr => ∃ i : Nat, i ≤ n ∧ s = .int .i64 i ∧ ∃ a c, so = .slice a (pairsTo n i).length c ∧ OwnP 50 w.heap.size wr.heap.size wr (.slice a (pairsTo n i).length c) (pairsTo n i) ∧ Below w.heap.size w wr) (fun s _ _ => n - (intOf s).toNat)
  case atStart => exact ⟨0, by omega, rfl, _, _, rfl, by simpa [pairsTo] using hE, (by repeat' (first | with_reducible exact Below.refl _ _ | with_reducible assumption | with_reducible apply Below.alloc | with_reducible apply Below.setCell | with_reducible apply Below.drew | exact Nat.le_refl _ | omega | (simp only [World.size_alloc, World.size_setCell]; omega)))⟩
  case round =>
    clear hE
    obtain ⟨i, hi, rfl, a, c, rfl, hO, hB⟩ := hrel
    by_cases hlt : i < n
    · have hpl := pairsTo_length n i
      have hin : i * n ≤ 9 := Nat.mul_le_mul (show i ≤ 3 by omega) hn
      go_wp2
      go_loopw [5, 3] (fun s so wz => ∃ t : Nat, i + 1 + t ≤ n ∧ s = .int .i64 ((i + 1 + t : Nat) : Int) ∧ ∃ a c, so = .slice a (pairsTo n i ++ pairsRow i t).length c ∧ OwnP 50 w.heap.size wz.heap.size wz (.slice a (pairsTo n i ++ pairsRow i t).length c) (pairsTo n i ++ pairsRow i t) ∧ Below w.heap.size w wz) (fun s _ _ => n - (intOf s).toNat)
      case atStart => exact ⟨0, by omega, by first | rfl | go_num | simp, a, c, by simp [pairsRow], by simpa [pairsRow] using hO, hB⟩
      case round =>
        clear hO hB
        obtain ⟨t, ht, rfl, a, c, rfl, hO, hB⟩ := hrel
        obtain ⟨q, hq⟩ : ∃ q, q = i + 1 + t := ⟨_, rfl⟩
        rw [← hq] at ht
        rw [← hq]
        have hl2 : (pairsTo n i ++ pairsRow i t).length ≤ 20 := by rw [List.length_append, pairsRow_length]; omega
        have hx : (pairsTo n i ++ pairsRow i t) ++ [(i, q)] = pairsTo n i ++ pairsRow i (t + 1) := by
          rw [List.append_assoc, hq]; rfl
        have HQ := Lib.hid hq
        have HX := Lib.hid hx
        generalize hL : pairsTo n i ++ pairsRow i t = L at *
        have HL := Lib.hid hL
        have hsz := hB.size
        clear hx hL hq hpl
        by_cases hjt : q < n
        · go_wp2_with (at_builtin; refine append2_own rfl _ _ 98 50 rfl Try.underlying98 pairInfo rfl hO rfl rfl rfl rfl (by omega) (by omega) hsz ?_)
          intro a2 c2 w2 hO2 hg2
          have hB2 : Below w.heap.size w w2 := hB.grown hg2 hsz (fun g hg => (hO.lt g hg).1)
          have hl3 : (L ++ [(i, q)]).length = L.length + 1 := by simp
          rw [← hl3] at hO2
          rw [HX.out] at hO2
          rw [HX.out] at hl3
          clear hO
          go_wp2
          go_roundw
          case rel => exact ⟨t + 1, by have := HQ.out; omega, by have := HQ.out; first | go_num | (congr 1; omega), a2, c2, by rw [hl3], hO2, hB2⟩
          case measure => simp [intOf]; omega
        · go_wp2
          go_roundw
          have e1 : t = n - (i + 1) := by have := HQ.out; omega
          case rel => exact ⟨i + 1, by omega, by go_num, a, c, by rw [← HL.out, e1]; rfl, by rw [← HL.out, e1] at hO; exact hO, hB⟩
          case measure => simp [intOf]; omega
    · obtain rfl : i = n := by omega
      go_wp2
      go_ret
      exact ⟨_, rfl, hO.rd, hB⟩
theorem pairs_int (n : Int) (hn : 1 ≤ n ∧ n ≤ 3) (w : World) :
    Calls Try.prog 107 #[.int .i64 n] w (PairsRes w (pairsTo n.toNat n.toNat)) := by
  obtain ⟨N, rfl⟩ := Int.eq_ofNat_of_zero_le (show 0 ≤ n by omega)
  exact pairs_any N (by omega) w
theorem l3Pairs_int (n : Int) (hn : 1 ≤ n ∧ n ≤ 3) (w : World) :
    Calls Try.prog 105 #[.int .i64 n] w (PairsRes w (pairsTo n.toNat n.toNat)) := by
  obtain ⟨N, rfl⟩ := Int.eq_ofNat_of_zero_le (show 0 ≤ n by omega)
  exact l3Pairs_any N (by omega) w
end Go.Proofs.Ytbleeakcmmpcgaa
