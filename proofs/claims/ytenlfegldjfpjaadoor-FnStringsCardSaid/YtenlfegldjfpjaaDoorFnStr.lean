/- What the law on texts needs besides: a byte of the law's bytes, a sealed text opens, a text's bytes and back. -/
import Derived.Test.YtenlfegldjfpjaaDoorDraw
import Derived.Test.YtenlfegldjfpjaaDoorFnVerify
import Derived.Test.YtenlfegldjfpjaaDoorPlainX
import Derived.Test.YtenlfegldjfpjaaDoorRowE
import Derived.Lib.ConvBytes
set_option linter.unusedSimpArgs false
set_option linter.unusedVariables false
namespace Go.Proofs.YtenlfegldjfpjaaDoor
open Go.RowKit Go.WideShapes

theorem vAt_any (v : Value) (n i : Nat) (w : World) (h : RdB w v n) (hi : i ≤ 100) :
    Calls Tryd.prog 23 #[v, .int .i64 i] w fun e w' => ∃ x : Nat, e = .returned (.int .i64 x) ∧ x ≤ 255 ∧ w = w' := by
  obtain ⟨a, b, off, cap, rfl, hn, ha, hc⟩ := h
  by_cases hlt : i < n
  · obtain rfl := ha (by omega)
    obtain ⟨x, hx, h1⟩ := hc i hlt
    clear hc
    go_enter Tryd.func23, Tryd.ntmps23
    go_wp2
    go_ret
    exact ⟨x, rfl, hx, rfl⟩
  · obtain ⟨z, hz⟩ : ∃ z : Nat, z = i * 7 + n := ⟨_, rfl⟩
    have e1 : (i : Int) * 7 + (n : Int) = (z : Int) := by omega
    have e2 : (z : Int).tmod 256 = ((z % 256 : Nat) : Int) := by
      rw [Int.tmod_eq_emod_of_nonneg (by omega)]; rfl
    have hr : z % 256 ≤ 255 := by omega
    have e3 : IntKind.i64.wrap ((z % 256 : Nat) : Int) = ((z % 256 : Nat) : Int) := wrapIn64 _ (by omega) (by omega)
    generalize z % 256 = r at *
    have hzb : z ≤ 70000 := by omega
    clear hz hc
    go_enter Tryd.func23, Tryd.ntmps23
    go_wp2
    go_ret
    exact ⟨r, rfl, hr, rfl⟩

theorem hasC_no {l : List UInt8} {c : UInt8} (h : hasC l c = false) : ∀ j : Nat, l[j]? ≠ some c := by
  intro j hj
  rw [hasC_true hj] at h
  cases h
theorem sealB_bytes (x : ByteArray) : (sealB x).data.toList = sealL x.data.toList := by
  unfold sealB sealL
  simp [ByteArray.data_append]
/-- A sealed text opens. -/
theorem open_seal {x : ByteArray} (h : sealOk x = true) : verOk (sealB x) = true ∧ verR (sealB x) = x := by
  unfold sealOk at h
  simp only [Bool.and_eq_true, decide_eq_true_eq, Bool.not_eq_true'] at h
  obtain ⟨h1, h2, h3⟩ := h
  have hh : headP (sealB x) = x := by
    unfold headP
    apply bytes_inj
    have hp := pieces_hit (c := 35) (l := (sealB x).data.toList) (i := x.data.toList.length) (by rw [sealB_bytes]; exact mark_at _ _) (fun k hk => by
      rw [sealB_bytes]
      unfold sealL
      rw [List.getElem?_append_left hk]
      exact hasC_no h2 k)
    have hc := cut_pieces 35 (sealB x).data.toList
    rw [hp] at hc
    have := Option.some.inj hc
    rw [← this, sealB_bytes]
    unfold sealL
    simp
  have hv : verOk (sealB x) = true := by
    unfold verOk
    rw [hh]
    simp
    exact h3
  exact ⟨hv, (verR_ok hv).trans hh⟩
/-- .. and no text that differs in one byte does. -/
theorem open_changed {x : ByteArray} (h : sealOk x = true) {k : Nat} {b c : UInt8} (hk : (sealB x).data.toList[k]? = some c) (hb : b ≠ c) : verOk ⟨((sealB x).data.toList.set k b).toArray⟩ = false := by
  unfold sealOk at h
  simp only [Bool.and_eq_true, decide_eq_true_eq, Bool.not_eq_true'] at h
  obtain ⟨_, h2, _⟩ := h
  rw [sealB_bytes] at hk
  have hn := headP_none ⟨((sealB x).data.toList.set k b).toArray⟩
  have hne := seal_changed (h := (headP ⟨((sealB x).data.toList.set k b).toArray⟩).data.toList) (hasC_no h2) (hasC_no hn) hk hb
  unfold verOk
  rw [Bool.and_eq_false_iff]
  right
  apply decide_eq_false
  intro he
  apply hne
  rw [← sealB_bytes, he, sealB_bytes]
/-- The bytes of a text, laid anew: what stands in them. -/
theorem bytes_frozen (w : World) (e : TypeId) (s : ByteArray) (j : Nat) (hj : j < s.size) : (Lib.bytesWorld w e s).frozen? ⟨w.heap.size, j, none⟩ = false := by
  have hs : s.size ≤ (Lib.bytesCells w e s).size := by simp [Lib.bytesCells]
  unfold World.frozen?
  rw [Lib.bytesWorld_at_new]
  simp
  omega
theorem xor_ne {x y : Nat} (hx : x < 256) (hy : y < 256) (h0 : y ≠ 0) : Nat.xor x y < 256 ∧ Nat.xor x y ≠ x := by
  refine ⟨Nat.xor_lt_two_pow (n := 8) hx hy, fun h => h0 ?_⟩
  have h1 : x ^^^ y = x := h
  have h2 : x ^^^ (x ^^^ y) = x ^^^ x := by rw [h1]
  rw [← Nat.xor_assoc, Nat.xor_self, Nat.zero_xor] at h2
  exact h2

/-- The text of bytes of which one was stored anew. -/
theorem text_set (wb W : World) (g k cap : Nat) (y : ByteArray) (b : UInt8) (hk : k < y.size) (hcl : ∀ j : Nat, j < y.size → wb.cell? ⟨g, j, none⟩ = some (.int .u8 (y.data.toList.getD j 0).toNat))
    (hW : ∀ j : Nat, W.cell? ⟨g, j, none⟩ = (wb.setCell ⟨g, k, none⟩ (.int .u8 (b.toNat : Int))).cell? ⟨g, j, none⟩) :
    (convert 22 9 (.slice (some ⟨g, 0, none⟩) y.size cap)).run Tryd.prog W = .ok (.string ⟨(y.data.toList.set k b).toArray⟩) W := by
  have h := run_convert_bytes_back (P := Tryd.prog) W 22 9 5 ⟨g, 0, none⟩ cap (y.data.toList.set k b) Tryd.underlying22 Tryd.underlying5 Tryd.underlying9 (fun j hj => by
    have hj' : j < y.size := by simpa using hj
    rw [add_plain, Nat.zero_add, hW j]
    by_cases e : k = j
    · subst e
      rw [World.cell?_setCell_same _ _ _ (hcl k hk)]
      simp
    · rw [World.cell?_setCell_other _ _ _ _ (by first | (simp; done) | (simp; exact e)), hcl j hj', List.getElem_set_ne e, List.getD_eq_getElem?_getD, List.getElem?_eq_getElem (by simpa using hj')]
      rfl)
  rw [List.length_set] at h
  exact h
end Go.Proofs.YtenlfegldjfpjaaDoor
