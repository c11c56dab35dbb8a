/- Agreements: contracts. -/
import Derived.Test.YtbleeakcmmpcgaaPlainC
import Derived.Test.YtbleeakcmmpcgaaFnFlip
import Derived.Test.YtbleeakcmmpcgaaFnBoxI
set_option linter.unusedSimpArgs false
set_option linter.unusedVariables false
namespace Go.Proofs.Ytbleeakcmmpcgaa
open Go.RowKit

set_option maxHeartbeats 400000 in
theorem agreement_any (v : Value) (p q r s : Int) (w : World) (h : RdI w v [p, q, r, s]) (hp : 0 ≤ p ∧ p ≤ 1000) (hq : 0 ≤ q ∧ q ≤ 1000) (hr : 0 ≤ r ∧ r ≤ 1000) (hs : 0 ≤ s ∧ s ≤ 1000) :
    Calls Try.prog 104 #[v] w fun e w' => e = .returned (.int .i64 (p - q - r + s)) ∧ Drw w w' := by
  obtain ⟨a, b, off, cap, rfl, hm, ha, hc⟩ := h
  obtain rfl := ha (by simp)
  have c0 := hc 0 p rfl
  have c1 := hc 1 q rfl
  have c2 := hc 2 r rfl
  have c3 := hc 3 s rfl
  simp only [Nat.add_zero] at c0
  clear hc ha hm
  go_enter Try.func104, Try.ntmps104
  go_wp2
  go_quiet (fail)
  go_wp2
  go_ret
  exact ⟨rfl, Drw.mk _ _⟩
set_option maxHeartbeats 400000 in
theorem l2Agree_any (v : Value) (p q r s : Int) (w : World) (h : RdI w v [p, q, r, s]) (hp : 0 ≤ p ∧ p ≤ 1000) (hq : 0 ≤ q ∧ q ≤ 1000) (hr : 0 ≤ r ∧ r ≤ 1000) (hs : 0 ≤ s ∧ s ≤ 1000) :
    Calls Try.prog 102 #[v] w fun e w' => e = .returned (.int .i64 (p - q - r + s)) ∧ Drw w w' := by
  obtain ⟨a, b, off, cap, rfl, hm, ha, hc⟩ := h
  obtain rfl := ha (by simp)
  have c0 := hc 0 p rfl
  have c1 := hc 1 q rfl
  have c2 := hc 2 r rfl
  have c3 := hc 3 s rfl
  simp only [Nat.add_zero] at c0
  clear hc ha hm
  go_enter Try.func102, Try.ntmps102
  go_wp2
  go_quiet (fail)
  go_wp2
  go_ret
  exact ⟨rfl, Drw.mk _ _⟩
end Go.Proofs.Ytbleeakcmmpcgaa
