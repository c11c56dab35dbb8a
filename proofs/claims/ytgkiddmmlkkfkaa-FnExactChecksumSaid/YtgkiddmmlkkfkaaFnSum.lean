/- Checksum: the program's answer is the reference's, for all arguments. -/
import Derived.Test.YtgkiddmmlkkfkaaPlain
import Derived.Test.YtgkiddmmlkkfkaaChecked
set_option linter.unusedSimpArgs false
set_option linter.unusedVariables false
namespace Go.Proofs.Ytgkiddmmlkkfkaa
open Go.ChangeShapes Go.WideShapes Go.ChangeAt Go.RowKit
open Go.ChangeMaps (open_string shut_string)

set_option maxHeartbeats 400000 in
theorem l1Sum_any (s : ByteArray) (w : World) (hs : s.size ≤ maxLen) :
    Calls Try.prog 50 #[.string s] w fun e w' => e = .returned (.int .i64 (csum s.data.toList)) ∧ w = w' := by
  unfold maxLen at hs
  go_enter Try.func50, Try.ntmps50
  go_wp2
  go_loop [3, 4] (fun n i => ∃ k : Nat, k ≤ s.size ∧ i = .int .i64 k ∧ n = .int .i64 (csum (s.data.toList.take k))) (fun _ i => s.size - (intOf i).toNat)
  case atStart => exact ⟨0, Nat.zero_le _, rfl, rfl⟩
  case round =>
    obtain ⟨k, hk, rfl, rfl⟩ := hrel
    have hb := csum_bound (s.data.toList.take k)
    by_cases hlt : k < s.size
    · have hsn : csum (s.data.toList.take (k + 1)) = (41 * csum (s.data.toList.take k) + (s[k].toNat : Int) + 1) % 999979 := by rw [bytes_take s k hlt, csum_snoc]
      have hby := byte_bound s[k]
      have HS := Lib.hid hsn
      clear hsn
      generalize hg : csum (s.data.toList.take k) = c at *
      have HG := Lib.hid hg
      clear hg
      go_wp2
      go_round
      case rel => exact ⟨k + 1, by omega, by go_num, by rw [HS.out]⟩
      case measure => simp [intOf]; omega
    · go_wp2
      go_ret
      obtain rfl : k = s.size := by omega
      exact ⟨ret_int (by rw [List.take_of_length_le (by simp)]), rfl⟩

set_option maxHeartbeats 400000 in
theorem checksum_any (s : ByteArray) (w : World) (hs : s.size ≤ maxLen) :
    Calls Try.prog 51 #[.string s] w fun e w' => e = .returned (.int .i64 (csum s.data.toList)) ∧ w = w' := by
  unfold maxLen at hs
  go_enter Try.func51, Try.ntmps51
  go_wp2
  go_loop [3, 7] (fun n i => ∃ k : Nat, k ≤ s.size ∧ i = .int .i64 k ∧ n = .int .i64 (csum (s.data.toList.take k))) (fun _ i => s.size - (intOf i).toNat)
  case atStart => exact ⟨0, Nat.zero_le _, rfl, rfl⟩
  case round =>
    obtain ⟨k, hk, rfl, rfl⟩ := hrel
    have hb := csum_bound (s.data.toList.take k)
    by_cases hlt : k < s.size
    · have hsn : csum (s.data.toList.take (k + 1)) = (41 * csum (s.data.toList.take k) + (s[k].toNat : Int) + 1) % 999979 := by rw [bytes_take s k hlt, csum_snoc]
      have hby := byte_bound s[k]
      have HS := Lib.hid hsn
      clear hsn
      generalize hg : csum (s.data.toList.take k) = c at *
      have HG := Lib.hid hg
      clear hg
      go_wp2
      go_round
      case rel => exact ⟨k + 1, by omega, by go_num, by rw [HS.out]⟩
      case measure => simp [intOf]; omega
    · go_wp2
      go_ret
      obtain rfl : k = s.size := by omega
      exact ⟨ret_int (by rw [List.take_of_length_le (by simp)]), rfl⟩

def csR (s : ByteArray) : Int := if (4000 : Int) < s.size then 0 else csum s.data.toList
def csOk (s : ByteArray) : Bool := decide (¬ (4000 : Int) < s.size)
theorem specChecksum_any (s : ByteArray) (w : World) (hs : s.size ≤ maxLen) :
    Calls Try.prog 16 #[.string s] w fun e w' => e = .returned (.tuple #[.int .i64 (csR s), .bool (csOk s)]) ∧ w = w' := by
  have hm := hs
  unfold maxLen at hs
  by_cases h1 : (4000 : Int) < s.size
  · go_enter Try.func16, Try.ntmps16
    go_wp2
    go_ret2
    exact ⟨by unfold csR csOk; simp [h1]; try omega, rfl⟩
  · go_enter Try.func16, Try.ntmps16
    go_wp2_with (go_at_call 50; refine (l1Sum_any s _ hm).mono ?_; rintro e w' ⟨rfl, rfl⟩)
    go_ret2
    exact ⟨by unfold csR csOk; simp [h1]; try omega, rfl⟩
theorem implChecksum_any (s : ByteArray) (w : World) (hs : s.size ≤ maxLen) :
    Calls Try.prog 17 #[.string s] w fun e w' => e = .returned (.tuple #[.int .i64 (csR s), .bool (csOk s)]) ∧ w = w' := by
  have hm := hs
  unfold maxLen at hs
  by_cases h1 : (4000 : Int) < s.size
  · go_enter Try.func17, Try.ntmps17
    go_wp2
    go_ret2
    exact ⟨by unfold csR csOk; simp [h1]; try omega, rfl⟩
  · go_enter Try.func17, Try.ntmps17
    go_wp2_with (go_at_call 51; refine (checksum_any s _ hm).mono ?_; rintro e w' ⟨rfl, rfl⟩)
    go_ret2
    exact ⟨by unfold csR csOk; simp [h1]; try omega, rfl⟩
end Go.Proofs.Ytgkiddmmlkkfkaa
