/- A text whose checksum follows it: what the reference's and the program's VerifyChecksum hand back. -/
import Derived.Test.YtenlfegldjfpjaaDoorFnSplit
import Derived.Test.YtenlfegldjfpjaaDoorRowS
set_option linter.unusedSimpArgs false
set_option linter.unusedVariables false
namespace Go.Proofs.YtenlfegldjfpjaaDoor
open Go.RowKit Go.WideShapes

/-- The text ahead of the first mark. -/
def headP (s : ByteArray) : ByteArray := ⟨(Lib.cut s.data.toList [35]).1.toArray⟩
theorem headP_head (s : ByteArray) : (piecesB 35 s)[0]? = some (headP s) := by
  have h := cut_pieces 35 s.data.toList
  unfold piecesB headP
  rw [List.getElem?_map, ← List.head?_eq_getElem?, h]
  rfl
theorem headP_size (s : ByteArray) : (headP s).size ≤ s.size := by
  unfold headP Lib.cut
  split
  · show (s.data.toList.take _).toArray.size ≤ _
    simp
    omega
  · show (s.data.toList).toArray.size ≤ _
    simp
theorem headP_none (s : ByteArray) : hasC (headP s).data.toList 35 = false := by
  apply hasC_false
  intro k hk
  unfold headP Lib.cut at hk
  split at hk
  · rename_i h0
    obtain ⟨i, hi⟩ : ∃ i : Nat, Lib.index s.data.toList [35] = i := ⟨(Lib.index s.data.toList [35]).toNat, by omega⟩
    have hi' := hi
    rw [index_one] at hi'
    obtain ⟨a, b⟩ := Lib.indexByte_some hi'
    simp only [hi, Int.toNat_natCast, List.toList_toArray, List.getElem?_take] at hk
    split at hk
    · exact b k (by assumption) hk
    · cases hk
  · rename_i h0
    have hx : Lib.indexByte s.data.toList 35 = -1 := by
      rw [← index_one]
      have := Lib.index_ge s.data.toList [35]
      omega
    exact Lib.indexByte_none hx k (by simpa using hk)
/-- What VerifyChecksum hands back. -/
def verOk (s : ByteArray) : Bool := decide (s.size ≤ 4000) && decide (sealB (headP s) = s)
def verR (s : ByteArray) : ByteArray := if verOk s then headP s else ⟨#[]⟩
theorem verR_ok {s : ByteArray} (h : verOk s = true) : verR s = headP s := by unfold verR; rw [if_pos h]
theorem verR_not {s : ByteArray} (h : verOk s = false) : verR s = ⟨#[]⟩ := by unfold verR; rw [if_neg (by simp [h])]
theorem ver_seal (s : ByteArray) : verOk s = (sealOk (headP s) && decide (sealB (headP s) = s)) := by
  unfold verOk sealOk
  by_cases h : sealB (headP s) = s
  · have h1 := headP_size s
    have h2 := headP_none s
    rw [h, h2]
    simp
    omega
  · simp [h]

theorem specVerify_any (s : ByteArray) (w : World) (hs : s.size ≤ 1048576) :
    Calls Tryd.prog 34 #[.string s] w fun e w' => e = .returned (.tuple #[.string (verR s), .bool (verOk s)]) ∧ Below w.heap.size w w' := by
  by_cases h1 : (4000 : Int) < s.size
  · have e1 : verOk s = false := by unfold verOk; simp; omega
    rw [verR_not e1, e1]
    go_enter Tryd.func34, Tryd.ntmps34
    go_wp2
    go_ret2
    exact ⟨rfl, Below.refl _ _⟩
  · have C := l1Split_any s 35 w hs
    have hh := headP_head s
    have C2 := fun W => l1Seal_any (headP s) W (by have := headP_size s; omega)
    have hlen : 0 < (piecesB 35 s).length := (List.getElem?_eq_some_iff.1 hh).1
    go_enter Tryd.func34, Tryd.ntmps34
    go_wp2_with fail
    refine C.mono ?_
    rintro e w1 ⟨a, c, rfl, hO, hb1⟩
    obtain ⟨a0, b0, o0, c0, hv, hm, ha, hc⟩ := hO.rdS
    obtain rfl := (Value.slice.inj hv).1
    have hcell : w1.cell? ⟨b0, o0, none⟩ = some (.string (headP s)) := by simpa using hc 0 _ hh
    have hlen2 : (0 : Int) < ((piecesB 35 s).length : Int) := by omega
    unfold maxLen at hm
    obtain rfl := ha hlen
    clear hc ha hv
    have hsz := hb1.size
    obtain ⟨t, ht⟩ : ∃ t, headP s = t := ⟨_, rfl⟩
    rw [ht] at hcell C2
    by_cases he : sealB t = s
    · have e1 : verOk s = true := by unfold verOk; rw [ht, he]; simp; omega
      have e2 : verR s = t := by rw [verR_ok e1, ht]
      have HR := Lib.hid (And.intro e2 e1)
      rw [he] at C2
      clear he e1 e2 ht hh
      go_wp2_with (go_at_call 60; refine (C2 _).mono ?_; rintro e w' ⟨rfl, hd⟩)
      go_ret2
      exact ⟨by rw [HR.out.1, HR.out.2]; rfl, hb1.trans (hd.below _)⟩
    · have e1 : verOk s = false := by unfold verOk; rw [ht]; simp [he]
      have e2 := verR_not e1
      have HR := Lib.hid (And.intro e2 e1)
      have es : ((sealB t).toList == s.toList) = false := by
        rw [beq_eq_false_iff_ne, ByteArray.toList_eq, ByteArray.toList_eq]
        intro e
        exact he (bytes_inj e)
      generalize sealB t = z at *
      clear he e1 e2 ht hh
      go_wp2_with (go_at_call 60; refine (C2 _).mono ?_; rintro e w' ⟨rfl, hd⟩)
      go_ret2
      exact ⟨by rw [HR.out.1, HR.out.2]; rfl, hb1.trans (hd.below _)⟩

theorem cutS_any (s : ByteArray) (w : World) (hs : s.size ≤ 1048576) (hm : Max w) :
    Calls Tryd.prog 61 #[.string s, .string ⟨#[35]⟩] w fun e w' => ∃ (r : ByteArray) (b : Bool), e = .returned (.tuple #[.string (headP s), .string r, .bool b]) ∧ Drw w w' := by
  obtain ⟨m, hm⟩ := hm
  refine (Tryd.strings_Cut s ⟨#[35]⟩ m w (by omega) hm).mono ?_
  rintro e w' ⟨rfl, n, rfl⟩
  exact ⟨_, _, rfl, Drw.mk _ _⟩

theorem implVerify_any (s : ByteArray) (w : World) (hs : s.size ≤ 1048576) (ht : Tab w) (hm : Max w) :
    Calls Tryd.prog 22 #[.string s] w fun e w' => e = .returned (.tuple #[.string (verR s), .bool (verOk s)]) ∧ Below w.heap.size w w' := by
  have C := cutS_any s w hs hm
  have C2 := fun W h => implAppend_any (headP s) W (by have := headP_size s; omega) h
  have hv := ver_seal s
  obtain ⟨t, hht⟩ : ∃ t, headP s = t := ⟨_, rfl⟩
  rw [hht] at C C2 hv
  cases h1 : sealOk t with
  | false =>
    have e1 : verOk s = false := by rw [hv, h1]; rfl
    have e2 := verR_not e1
    rw [h1, sealR_not h1] at C2
    rw [e1, e2]
    clear hv h1 e1 e2 hht
    go_enter Tryd.func22, Tryd.ntmps22
    go_wp2_with fail
    refine C.mono ?_
    rintro e w1 ⟨r, b, rfl, hd1⟩
    have ht1 := ht.stays (hd1.below _)
    have hs1 := drwSize hd1
    go_wp2_with (go_at_call 20; refine (C2 _ ht1).mono ?_; rintro e w2 ⟨rfl, hb2⟩)
    go_ret2
    exact ⟨rfl, (hd1.below _).trans (hb2.mono (by omega))⟩
  | true =>
    rw [h1, sealR_ok h1] at C2
    by_cases he : sealB t = s
    · have e1 : verOk s = true := by rw [hv, h1, he]; simp
      have e2 : verR s = t := by rw [verR_ok e1, hht]
      have HR := Lib.hid (And.intro e2 e1)
      rw [he] at C2
      clear hv h1 e1 e2 hht he
      go_enter Tryd.func22, Tryd.ntmps22
      go_wp2_with fail
      refine C.mono ?_
      rintro e w1 ⟨r, b, rfl, hd1⟩
      have ht1 := ht.stays (hd1.below _)
      have hs1 := drwSize hd1
      go_wp2_with (go_at_call 20; refine (C2 _ ht1).mono ?_; rintro e w2 ⟨rfl, hb2⟩)
      go_ret2
      exact ⟨by rw [HR.out.1, HR.out.2]; rfl, (hd1.below _).trans (hb2.mono (by omega))⟩
    · have e1 : verOk s = false := by rw [hv, h1]; simp [he]
      have e2 := verR_not e1
      have es : ((sealB t).toList == s.toList) = false := by
        rw [beq_eq_false_iff_ne, ByteArray.toList_eq, ByteArray.toList_eq]
        intro e
        exact he (bytes_inj e)
      rw [e1, e2]
      generalize sealB t = z at *
      clear hv h1 e1 e2 hht he
      go_enter Tryd.func22, Tryd.ntmps22
      go_wp2_with fail
      refine C.mono ?_
      rintro e w1 ⟨r, b, rfl, hd1⟩
      have ht1 := ht.stays (hd1.below _)
      have hs1 := drwSize hd1
      go_wp2_with (go_at_call 20; refine (C2 _ ht1).mono ?_; rintro e w2 ⟨rfl, hb2⟩)
      go_ret2
      exact ⟨rfl, (hd1.below _).trans (hb2.mono (by omega))⟩
end Go.Proofs.YtenlfegldjfpjaaDoor
