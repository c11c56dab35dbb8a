/- Contracts of the laws' own helpers over one slice of ints: copy, compare, mark, ask. -/
import Derived.Test.YtcifpfdlkpddeaaDoorChecked
import Derived.Test.YtcifpfdlkpddeaaDoorPlain
import Derived.Deep.QuietTactic
import Derived.BigQuiet
import Derived.StillTailTactics
set_option linter.unusedSimpArgs false
set_option linter.unusedVariables false
namespace Go.Proofs.YtcifpfdlkpddeaaDoor
open Go.RowKit

theorem Tryd.infoInt : (Tryd.prog.info? 3).map (fun i => (i.zero, i.size, i.bytes)) = some (some (.int .i64 0), 1, 8) := by kernel_rfl

theorem l1In_any (n lo hi : Int) (w : World) :
    Calls Tryd.prog 24 #[.int .i64 n, .int .i64 lo, .int .i64 hi] w fun e w' => e = .returned (.bool (inB n lo hi)) ∧ w = w' := by
  unfold inB
  by_cases h1 : lo ≤ n <;> by_cases h2 : n ≤ hi <;>
  (go_enter Tryd.func24, Tryd.ntmps24
   go_wp2
   go_ret
   exact ⟨by simp [h1, h2], rfl⟩)
theorem within_any (n lo hi : Int) (w : World) :
    Calls Tryd.prog 15 #[.int .i64 n, .int .i64 lo, .int .i64 hi] w fun e w' => e = .returned (.bool (inB n lo hi)) ∧ w = w' := by
  unfold inB
  by_cases h1 : lo ≤ n <;> by_cases h2 : n ≤ hi <;>
  (go_enter Tryd.func15, Tryd.ntmps15
   go_wp2
   go_ret
   exact ⟨by simp [h1, h2], rfl⟩)

/-- A row that is known whole is the call's own. -/
theorem ownV_of_rowIs {T lo : Nat} {w : World} {g : Nat} {vs : List Value} {f : Nat → Value} (h : w.rowIs g T vs.length f) (hlo : lo ≤ g) (hf : ∀ j u, vs[j]? = some u → f j = u) (hm : vs.length ≤ maxLen) :
    OwnV T lo (g + 1) w (.slice (some ⟨g, 0, none⟩) vs.length vs.length) vs := by
  obtain ⟨c, hh, hs, hc⟩ := h
  refine ⟨⟨by omega, Or.inr ⟨g, vs.length, c, rfl, hlo, hh, Nat.le_refl _, hm, by omega, ?_⟩⟩, fun g' hg => by simp [Value.ownBlock] at hg; omega⟩
  apply List.ext_getElem?
  intro j
  rw [List.getElem?_take]
  by_cases hj : j < vs.length
  · rw [if_pos (by omega)]
    have h1 := hc j (by omega)
    rw [hf j _ (List.getElem?_eq_getElem hj)] at h1
    rw [List.getElem?_eq_getElem hj]
    simpa using h1
  · rw [if_neg (by omega), List.getElem?_eq_none (by omega)]

/-! ### eqIntS -/
set_option maxHeartbeats 400000 in
theorem eqIntS_any (v1 v2 : Value) (xs ys : List Int) (w : World) (h1 : RdI w v1 xs) (h2 : RdI w v2 ys) :
    Calls Tryd.prog 35 #[v1, v2] w fun e w' => e = .returned (.bool (decide (xs = ys))) ∧ Drw w w' := by
  obtain ⟨a1, b1, o1, c1, rfl, m1, e1, k1⟩ := h1
  obtain ⟨a2, b2, o2, c2, rfl, m2, e2, k2⟩ := h2
  unfold maxLen at m1 m2
  by_cases hl : xs.length = ys.length
  · have hlz : ((xs.length : Int) != (ys.length : Int)) = false := by rw [hl]; simp
    have H := Lib.hid hl
    clear hl
    go_enter Tryd.func35, Tryd.ntmps35
    go_wp2
    go_loopw [5] (fun i wr => ∃ k : Nat, k ≤ xs.length ∧ i = .int .i64 k ∧ (∀ j, j < k → xs[j]? = ys[j]?) ∧ Drw w wr) (fun i _ => xs.length - (intOf i).toNat)
    case atStart => exact ⟨0, by omega, rfl, fun j hj => by omega, Drw.refl _⟩
    case round =>
      obtain ⟨k, hk, rfl, hj, hd⟩ := hrel
      by_cases hlt : k < xs.length
      · have hlt2 : k < ys.length := by rw [← H.out]; exact hlt
        obtain rfl := e1 (by omega)
        obtain rfl := e2 (by omega)
        have hx := k1 k _ (List.getElem?_eq_getElem hlt)
        rw [← hd.cell] at hx
        have hy := k2 k _ (List.getElem?_eq_getElem hlt2)
        rw [← hd.cell] at hy
        clear k1 k2
        by_cases he : xs[k] = ys[k]
        · have hez : (xs[k] != ys[k]) = false := by simp [he]
          have HE := Lib.hid he
          clear he
          go_wp2
          go_quiet (fail)
          go_wp2
          go_roundw
          case rel => exact ⟨k + 1, by omega, by go_num, fun j hjk => by
            by_cases e : j = k
            · subst e; rw [List.getElem?_eq_getElem hlt, List.getElem?_eq_getElem hlt2, HE.out]
            · exact hj j (by omega), hd.trans (Drw.mk _ _)⟩
          case measure => simp [intOf]; omega
        · have hez : (xs[k] != ys[k]) = true := by simp [he]
          have HE := Lib.hid he
          clear he
          go_wp2
          go_quiet (fail)
          go_wp2
          go_ret
          exact ⟨ret_bool (lists_ne hlt hlt2 HE.out), hd.trans (Drw.mk _ _)⟩
      · go_wp2
        go_ret
        obtain rfl : k = xs.length := by omega
        exact ⟨ret_bool (lists_eq H.out hj), hd⟩
  · have hlz : ((xs.length : Int) != (ys.length : Int)) = true := by simp; omega
    go_enter Tryd.func35, Tryd.ntmps35
    go_wp2
    go_ret
    exact ⟨ret_bool (lists_len hl), Drw.refl _⟩

/-! ### markIntS, heldIntS -/
set_option maxHeartbeats 400000 in
theorem markIntS_any (T lo hi : Nat) (v : Value) (vs : List Value) (k : Int) (w : World) (h : OwnV T lo hi w v vs) (hn : vs.length ≤ 4194304) (h0 : 0 ≤ k) (hk : k ≤ 1099511627776) :
    Calls Tryd.prog 36 #[v, .int .i64 k] w fun e w' => e = .returned (.int .i64 (k + vs.length)) ∧ OwnV T lo hi w' v (ints (marks k vs.length)) ∧ w.grownBy w' v.ownBlock := by
  obtain ⟨a, g, cap, hv, hm, ha, hc, hf⟩ := h.shape
  rw [hv]
  go_enter Tryd.func36, Tryd.ntmps36
  go_wp2
  go_loopw [1, 5] (fun s1 s5 wr => ∃ j : Nat, j ≤ vs.length ∧ s5 = .int .i64 j ∧ s1 = .int .i64 (k + j) ∧ ∃ vs' : List Value, vs'.length = vs.length ∧ OwnV T lo hi wr v vs' ∧ (∀ i, i < j → vs'[i]? = some (.int .i64 (k + i))) ∧ w.grownBy wr v.ownBlock) (fun _ s5 _ => vs.length - (intOf s5).toNat)
  case atStart => exact ⟨0, by omega, rfl, by simp, vs, rfl, h, fun i hi => by omega, grown_refl _ _⟩
  case round =>
    obtain ⟨j, hj, rfl, rfl, vs', hl, how, hmk, hgr⟩ := hrel
    by_cases hlt : j < vs.length
    · obtain ⟨rfl, _, _, _⟩ := ha (by omega)
      have hob : v.ownBlock = some g := by rw [hv]; rfl
      obtain ⟨a', g', cap', hv', _, ha', hc', hf'⟩ := how.shape
      obtain ⟨rfl, _, _, _⟩ := ha' (by omega)
      have hgg : g = g' := by have := hv.symm.trans hv'; simp at this; exact this.1
      subst hgg
      obtain ⟨u0, hu0⟩ : ∃ u0, vs'[j]? = some u0 := ⟨_, List.getElem?_eq_getElem (by omega)⟩
      have h1 : wr.cell? ⟨g, j, none⟩ = some u0 := hc' j _ hu0
      clear hu0
      have h2 : wr.frozen? ⟨g, j, none⟩ = false := hf' (by omega) j
      have hset := how.set hob (show j < vs'.length by omega) (.int .i64 (k + j))
      have hgr2 := grown_trans hgr (by rw [hob]; exact grown_setCell wr g j (.int .i64 (k + j)))
      have HL := Lib.hid hl
      have HV := Lib.hid hv
      have HO := Lib.hid hob
      clear hl hv hv' hob hc hf hc' hf' ha ha' h
      go_wp2
      go_roundw
      case rel => exact ⟨j + 1, by omega, by go_num, by go_num, _, by rw [List.length_set]; exact HL.out, hset, fun i hi => by
        rw [List.getElem?_set]
        by_cases e : j = i
        · subst e; rw [if_pos rfl, if_pos (by rw [HL.out]; exact hlt)]
        · rw [if_neg e]; exact hmk i (by omega), hgr2⟩
      case measure => simp [intOf]; omega
    · have HV := Lib.hid hv
      clear hv
      go_wp2
      go_ret
      obtain rfl : j = vs.length := by omega
      refine ⟨rfl, ?_, by rw [← HV.out]; exact hgr⟩
      have : vs' = ints (marks k vs.length) := by
        apply List.ext_getElem?
        intro i
        by_cases hi : i < vs.length
        · rw [hmk i hi]; simp [ints, marks_get _ _ _ hi]
        · rw [List.getElem?_eq_none (by omega), List.getElem?_eq_none (by simp; omega)]
      rw [← this, ← HV.out]
      exact how

set_option maxHeartbeats 400000 in
/-- heldIntS over what markIntS laid. -/
theorem heldIntS_any (v : Value) (n : Nat) (k : Int) (w : World) (h : RdI w v (marks k n)) (hn : n ≤ 4194304) (h0 : 0 ≤ k) (hk : k ≤ 1099511627776) :
    Calls Tryd.prog 37 #[v, .int .i64 k] w fun e w' => e = .returned (.int .i64 (k + n)) ∧ w = w' := by
  obtain ⟨a, b, off, cap, hv, hm, ha, hc⟩ := h
  rw [marks_length] at hv hm ha
  subst hv
  go_enter Tryd.func37, Tryd.ntmps37
  go_wp2
  go_loop [1, 5] (fun s1 s5 => ∃ j : Nat, j ≤ n ∧ s5 = .int .i64 j ∧ s1 = .int .i64 (k + j)) (fun _ s5 => n - (intOf s5).toNat)
  case atStart => exact ⟨0, by omega, rfl, by simp⟩
  case round =>
    obtain ⟨j, hj, rfl, rfl⟩ := hrel
    by_cases hlt : j < n
    · obtain rfl := ha (by omega)
      have h1 := hc j _ (marks_get k n j hlt)
      have h2 : ((k + (j : Int)) != (k + (j : Int))) = false := by simp
      clear hc
      go_wp2
      go_round
      case rel => exact ⟨j + 1, by omega, by go_num, by go_num⟩
      case measure => simp [intOf]; omega
    · go_wp2
      go_ret
      obtain rfl : j = n := by omega
      exact ⟨rfl, rfl⟩
end Go.Proofs.YtcifpfdlkpddeaaDoor
