/- The pieces of a text: what the reference's l1Split and the program's library calls hand back. -/
import Derived.Test.YtcifpfdlkpddeaaDoorHarS
import Derived.Test.YtcifpfdlkpddeaaDoorFnRead
set_option linter.unusedSimpArgs false
set_option linter.unusedVariables false
namespace Go.Proofs.YtcifpfdlkpddeaaDoor
open Go.RowKit Go.WideShapes

/-- The pieces, as texts. -/
def piecesB (b : UInt8) (s : ByteArray) : List ByteArray := (pieces b s.data.toList).map fun l => ⟨l.toArray⟩
theorem piecesB_length (b : UInt8) (s : ByteArray) : (piecesB b s).length ≤ s.size + 1 := by
  have := pieces_length b s.data.toList
  simpa [piecesB] using this
theorem extract_mk (s : ByteArray) (f k : Nat) (h : f ≤ k) : s.extract f k = ⟨((s.data.toList.drop f).take (k - f)).toArray⟩ := by
  apply bytes_inj
  rw [Lib.extract_data]
theorem piecesB_start (b : UInt8) (s : ByteArray) : piecesB b s = [] ++ (pieces b (s.data.toList.drop 0)).map fun l => (⟨l.toArray⟩ : ByteArray) := rfl
theorem piecesB_hit {b : UInt8} {s : ByteArray} {D : List ByteArray} {f k : Nat} (h : piecesB b s = D ++ (pieces b (s.data.toList.drop f)).map fun l => (⟨l.toArray⟩ : ByteArray)) (hf : f ≤ k) (hk : s.data.toList[k]? = some b) (hno : ∀ j : Nat, f ≤ j → j < k → s.data.toList[j]? ≠ some b) :
    piecesB b s = (D ++ [s.extract f k]) ++ (pieces b (s.data.toList.drop (k + 1))).map fun l => (⟨l.toArray⟩ : ByteArray) := by
  rw [h, pieces_hit (i := k - f) (by rw [List.getElem?_drop]; rw [show f + (k - f) = k by omega]; exact hk) (fun j hj => by rw [List.getElem?_drop]; exact hno (f + j) (by omega) (by omega)),
    List.map_cons, List.drop_drop, show f + (k - f + 1) = k + 1 by omega, extract_mk s f k hf]
  simp
theorem piecesB_end {b : UInt8} {s : ByteArray} {D : List ByteArray} {f : Nat} (h : piecesB b s = D ++ (pieces b (s.data.toList.drop f)).map fun l => (⟨l.toArray⟩ : ByteArray)) (hf : f ≤ s.size) (hno : ∀ j : Nat, f ≤ j → s.data.toList[j]? ≠ some b) :
    piecesB b s = D ++ [s.extract f s.size] := by
  rw [h, pieces_none (fun j => by rw [List.getElem?_drop]; exact hno (f + j) (by omega)), extract_mk s f s.size hf]
  have : (s.data.toList.drop f).take (s.size - f) = s.data.toList.drop f := List.take_of_length_le (by simp)
  rw [this]
  rfl

set_option maxHeartbeats 1000000 in
theorem l1Split_any (s : ByteArray) (b : UInt8) (w : World) (hs : s.size ≤ 1048576) :
    Calls Tryd.prog 9 #[.string s, .int .u8 b.toNat] w fun e w' => ∃ a c, e = .returned (.slice a (piecesB b s).length c) ∧ OwnV 9 w.heap.size w'.heap.size w' (.slice a (piecesB b s).length c) (strs (piecesB b s)) ∧ Below w.heap.size w w' := by
  have hE := OwnV.empty 9 w
  have hS := Lib.hid (piecesB_start b s)
  have hB0 : Below w.heap.size w (w.alloc (.cells #[] 9)) := (Below.refl _ _).alloc (Nat.le_refl _) _
  obtain ⟨lo, hlo⟩ : ∃ lo, lo = w.heap.size := ⟨_, rfl⟩
  go_enter Tryd.func9, Tryd.ntmps9
  go_wp2
  go_loopw [5, 6, 7] (fun s5 s6 s7 wr => ∃ (k f : Nat) (D : List ByteArray), k ≤ s.size ∧ f ≤ k ∧ D.length ≤ k ∧ s7 = .int .i64 k ∧ s6 = .int .i64 f ∧ Hid (piecesB b s = D ++ (pieces b (s.data.toList.drop f)).map fun l => (⟨l.toArray⟩ : ByteArray)) ∧
      Hid (∀ j : Nat, f ≤ j → j < k → s.data.toList[j]? ≠ some b) ∧ ∃ a4 c4, s5 = .slice a4 D.length c4 ∧ OwnV 9 lo wr.heap.size wr (.slice a4 D.length c4) (strs D) ∧ Below lo w wr) (fun _ _ s7 _ => s.size - (intOf s7).toNat)
  case atStart => exact ⟨0, 0, [], by omega, by omega, by simp, rfl, rfl, hS, Lib.hid (fun j h1 h2 => by omega), _, _, rfl, by rw [hlo]; simpa [strs] using hE, by rw [hlo]; exact hB0⟩
  case round =>
    obtain ⟨k, f, D, hk, hf, hD, rfl, rfl, HP, HN, a4, c4, rfl, hO, hB⟩ := hrel
    have hz := hB.size
    by_cases hlt : k < s.size
    · have hg := byte_get hlt
      by_cases he : s[k] = b
      · have hez := byte_eq_true he
        have HP2 := Lib.hid (piecesB_hit HP.out hf (hg.trans (by rw [he])) HN.out)
        obtain ⟨x, hx⟩ : ∃ x, s.extract f k = x := ⟨_, rfl⟩
        rw [hx] at HP2
        clear hg HP HN hE hB0
        have hdl : (strs D).length ≤ 4194304 := by rw [strs_length]; omega
        go_wp2_with (at_builtin; refine append1_own rfl _ _ 30 9 rfl Tryd.underlying30 Tryd.infoStr rfl hO rfl rfl rfl hdl (by omega) (by omega) ?_)
        intro a2 c2 w2 hO3 hg2
        have hBn : Below lo w w2 := hB.grown hg2 (by omega) (fun g hg => (hO.lt g hg).1)
        clear hO
        go_wp2
        go_roundw
        case rel => exact ⟨k + 1, k + 1, D ++ [x], by omega, by omega, by simp; omega, by go_num, by go_num, HP2, Lib.hid (fun j h1 h2 => by omega), a2, c2, by simp [strs_length], by rw [hlo]; simpa [strs] using hO3, hBn⟩
        case measure => simp [intOf]; omega
      · have hez := byte_eq_false he
        have HG := Lib.hid hg
        have HE := Lib.hid he
        clear hg he hE hB0
        go_wp2
        go_roundw
        case rel => exact ⟨k + 1, f, D, by omega, by omega, by omega, by go_num, rfl, HP, Lib.hid (fun j h1 h2 => by
          by_cases e : j = k
          · subst e; rw [HG.out]; intro h; exact HE.out (Option.some.inj h)
          · exact HN.out j h1 (by omega)), a4, c4, rfl, hO, hB⟩
        case measure => simp [intOf]; omega
    · have HP2 := piecesB_end HP.out (by omega) (fun j hj => by
        by_cases h : j < k
        · exact HN.out j hj h
        · rw [List.getElem?_eq_none (by simp; omega)]; simp)
      obtain ⟨x, hx⟩ : ∃ x, s.extract f s.size = x := ⟨_, rfl⟩
      rw [hx] at HP2
      have HQ := Lib.hid HP2
      clear HP HN hE hB0 HP2 hS
      have hdl : (strs D).length ≤ 4194304 := by rw [strs_length]; omega
      go_wp2_with (at_builtin; refine append1_own rfl _ _ 30 9 rfl Tryd.underlying30 Tryd.infoStr rfl hO rfl rfl rfl hdl (by omega) (by omega) ?_)
      intro a2 c2 w2 hO3 hg2
      have hBn : Below lo w w2 := hB.grown hg2 (by omega) (fun g hg => (hO.lt g hg).1)
      clear hO
      go_wp2
      go_ret
      refine ⟨a2, c2, by rw [HQ.out]; simp [strs_length], ?_, by rw [← hlo]; exact hBn⟩
      rw [HQ.out]
      simpa [strs] using hO3
end Go.Proofs.YtcifpfdlkpddeaaDoor
