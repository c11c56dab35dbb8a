/- Contracts of the laws' own helpers over one slice of ints: copy, compare, mark, ask. -/
import Derived.Test.YtadnjljpceeolaaLoab
import Derived.Test.YtadnjljpceeolaaChecked
import Derived.Deep.QuietTactic
import Derived.BigQuiet
import Derived.StillTailTactics
set_option linter.unusedSimpArgs false
set_option linter.unusedVariables false
namespace Go.Proofs.Ytadnjljpceeolaa
open Go.RowKit

theorem Try.infoInt : (Try.prog.info? 3).map (fun i => (i.zero, i.size, i.bytes)) = some (some (.int .i64 0), 1, 8) := by kernel_rfl

theorem l1In_any (n lo hi : Int) (w : World) :
    Calls Try.prog 139 #[.int .i64 n, .int .i64 lo, .int .i64 hi] w fun e w' => e = .returned (.bool (inB n lo hi)) ∧ w = w' := by
  unfold inB
  by_cases h1 : lo ≤ n <;> by_cases h2 : n ≤ hi <;>
  (go_enter Try.func139, Try.ntmps139
   go_wp2
   go_ret
   exact ⟨by simp [h1, h2], rfl⟩)
theorem within_any (n lo hi : Int) (w : World) :
    Calls Try.prog 125 #[.int .i64 n, .int .i64 lo, .int .i64 hi] w fun e w' => e = .returned (.bool (inB n lo hi)) ∧ w = w' := by
  unfold inB
  by_cases h1 : lo ≤ n <;> by_cases h2 : n ≤ hi <;>
  (go_enter Try.func125, Try.ntmps125
   go_wp2
   go_ret
   exact ⟨by simp [h1, h2], rfl⟩)

/-- A row that is known whole is the call's own. -/
theorem ownV_of_rowIs {T lo : Nat} {w : World} {g : Nat} {vs : List Value} {f : Nat → Value} (h : w.rowIs g T vs.length f) (hlo : lo ≤ g) (hf : ∀ j u, vs[j]? = some u → f j = u) (hm : vs.length ≤ maxLen) :
    OwnV T lo (g + 1) w (.slice (some ⟨g, 0, none⟩) vs.length vs.length) vs := by
  obtain ⟨c, hh, hs, hc⟩ := h
  refine ⟨⟨by omega, Or.inr ⟨g, vs.length, c, rfl, hlo, hh, Nat.le_refl _, hm, by omega, ?_⟩⟩, fun g' hg => by simp [Value.ownBlock] at hg; omega⟩
  apply List.ext_getElem?
  intro j
  rw [List.getElem?_take]
  by_cases hj : j < vs.length
  · rw [if_pos (by omega)]
    have h1 := hc j (by omega)
    rw [hf j _ (List.getElem?_eq_getElem hj)] at h1
    rw [List.getElem?_eq_getElem hj]
    simpa using h1
  · rw [if_neg (by omega), List.getElem?_eq_none (by omega)]

/-! ### toIntS -/
structure ToI (w wr : World) (n k : Nat) (f : Nat → Int) : Prop where
  below : Below w.heap.size w wr
  size : wr.heap.size = w.heap.size + 1
  row : wr.rowIs w.heap.size 3 n (fun i => if i < k then .int .i64 (f i) else .int .i64 0)
theorem ToI.start (w : World) (n : Nat) (f : Nat → Int) : ToI w (w.alloc (.cells (madeCells #[.int .i64 0] n) 3)) n 0 f :=
  ⟨(Below.refl _ _).alloc (Nat.le_refl _) _, by simp, (World.rowIs_made w _ n 3).congr (fun j _ => by simp)⟩
theorem ToI.step {w wr : World} {n k : Nat} {f : Nat → Int} (h : ToI w wr n k f) : ToI w (wr.setCell ⟨w.heap.size, k, none⟩ (.int .i64 (f k))) n (k + 1) f := by
  refine ⟨h.below.setCell (Nat.le_refl _) _, by simp [h.size], (h.row.set k _).congr (fun j _ => ?_)⟩
  by_cases e : j = k
  · subst e; simp
  · rw [if_neg e]
    by_cases hlt : j < k
    · rw [if_pos hlt, if_pos (by omega)]
    · rw [if_neg hlt, if_neg (by omega)]

set_option maxHeartbeats 400000 in
theorem toIntS_cells (a : Option Addr) (b off n cap : Nat) (f : Nat → Int) (w : World) (ha : 0 < n → a = some ⟨b, off, none⟩)
   (hc : ∀ j, j < n → w.cell? ⟨b, off + j, none⟩ = some (.int .i64 (f j))) (hn : 8 * n ≤ 281474976710656) :
    Calls Try.prog 17 #[.slice a n cap] w fun e w' => e = .returned (.slice (some ⟨w.heap.size, 0, none⟩) n n) ∧ ToI w w' n n f := by
  have hmk := run_make_row' (P := Try.prog) 22 3 (.int .i64 0) 8 Try.underlying22 Try.infoInt rfl .i64 .i64 n hn (by omega)
  go_enter Try.func17, Try.ntmps17
  go_wp2
  clear hmk
  go_loopw [4] (fun i wr => ∃ k : Nat, k ≤ n ∧ i = .int .i64 k ∧ ToI w wr n k f) (fun i _ => n - (intOf i).toNat)
  case atStart => exact ⟨0, by omega, rfl, ToI.start w n f⟩
  case round =>
    obtain ⟨k, hk, rfl, hT⟩ := hrel
    by_cases hlt : k < n
    · obtain rfl := ha (by omega)
      have h1 : wr.cell? ⟨b, off + k, none⟩ = some (.int .i64 (f k)) := by
        rw [hT.below.cell (p := ⟨b, off + k, none⟩) (World.block_lt_of_cell? _ _ (hc k hlt))]; exact hc k hlt
      have h2 : wr.cell? ⟨w.heap.size, k, none⟩ = some (.int .i64 0) := by
        have := hT.row.cell hlt; simpa using this
      have h3 := hT.row.frozen k
      go_wp2
      go_roundw
      case rel => exact ⟨k + 1, by omega, by go_num, hT.step⟩
      case measure => simp [intOf]; omega
    · go_wp2
      go_ret
      exact ⟨rfl, (by obtain rfl : k = n := by omega
                      exact hT)⟩

/-- toIntS: a copy of its own. -/
theorem toIntS_any (v : Value) (xs : List Int) (w : World) (h : RdI w v xs) (hn : xs.length ≤ 1048576) :
    Calls Try.prog 17 #[v] w fun e w' => ∃ a c, e = .returned (.slice a xs.length c) ∧ OwnV 3 w.heap.size w'.heap.size w' (.slice a xs.length c) (ints xs) ∧ Below w.heap.size w w' := by
  obtain ⟨a, b, off, cap, rfl, hm, ha, hc⟩ := h
  refine (toIntS_cells a b off xs.length cap (fun j => xs.getD j 0) w ha (fun j hj => hc j _ ?_) (by omega)).mono ?_
  · rw [List.getD_eq_getElem?_getD, List.getElem?_eq_getElem hj]; rfl
  rintro e w' ⟨rfl, hT⟩
  refine ⟨_, _, rfl, ?_, hT.below⟩
  have hr : w'.rowIs w.heap.size 3 (ints xs).length (fun j => .int .i64 (xs.getD j 0)) := by
    rw [ints_length]
    exact hT.row.congr fun j hj => by rw [if_pos hj]
  have := ownV_of_rowIs (lo := w.heap.size) hr (Nat.le_refl _) (fun j u hu => by
    simp only [ints, List.getElem?_map, Option.map_eq_some_iff] at hu
    obtain ⟨x, hx, rfl⟩ := hu
    simp [List.getD_eq_getElem?_getD, hx]) (by rw [ints_length]; exact hm)
  rw [ints_length] at this
  rw [hT.size]
  exact this

/-! ### eqIntS -/
set_option maxHeartbeats 400000 in
theorem eqIntS_any (v1 v2 : Value) (xs ys : List Int) (w : World) (h1 : RdI w v1 xs) (h2 : RdI w v2 ys) :
    Calls Try.prog 19 #[v1, v2] w fun e w' => e = .returned (.bool (decide (xs = ys))) ∧ Drw w w' := by
  obtain ⟨a1, b1, o1, c1, rfl, m1, e1, k1⟩ := h1
  obtain ⟨a2, b2, o2, c2, rfl, m2, e2, k2⟩ := h2
  unfold maxLen at m1 m2
  by_cases hl : xs.length = ys.length
  · have hlz : ((xs.length : Int) != (ys.length : Int)) = false := by rw [hl]; simp
    have H := Lib.hid hl
    clear hl
    go_enter Try.func19, Try.ntmps19
    go_wp2
    go_loopw [5] (fun i wr => ∃ k : Nat, k ≤ xs.length ∧ i = .int .i64 k ∧ (∀ j, j < k → xs[j]? = ys[j]?) ∧ Drw w wr) (fun i _ => xs.length - (intOf i).toNat)
    case atStart => exact ⟨0, by omega, rfl, fun j hj => by omega, Drw.refl _⟩
    case round =>
      obtain ⟨k, hk, rfl, hj, hd⟩ := hrel
      by_cases hlt : k < xs.length
      · have hlt2 : k < ys.length := by rw [← H.out]; exact hlt
        obtain rfl := e1 (by omega)
        obtain rfl := e2 (by omega)
        have hx := k1 k _ (List.getElem?_eq_getElem hlt)
        rw [← hd.cell] at hx
        have hy := k2 k _ (List.getElem?_eq_getElem hlt2)
        rw [← hd.cell] at hy
        clear k1 k2
        by_cases he : xs[k] = ys[k]
        · have hez : (xs[k] != ys[k]) = false := by simp [he]
          have HE := Lib.hid he
          clear he
          go_wp2
          go_quiet (fail)
          go_wp2
          go_roundw
          case rel => exact ⟨k + 1, by omega, by go_num, fun j hjk => by
            by_cases e : j = k
            · subst e; rw [List.getElem?_eq_getElem hlt, List.getElem?_eq_getElem hlt2, HE.out]
            · exact hj j (by omega), hd.trans (Drw.mk _ _)⟩
          case measure => simp [intOf]; omega
        · have hez : (xs[k] != ys[k]) = true := by simp [he]
          have HE := Lib.hid he
          clear he
          go_wp2
          go_quiet (fail)
          go_wp2
          go_ret
          exact ⟨ret_bool (lists_ne hlt hlt2 HE.out), hd.trans (Drw.mk _ _)⟩
      · go_wp2
        go_ret
        obtain rfl : k = xs.length := by omega
        exact ⟨ret_bool (lists_eq H.out hj), hd⟩
  · have hlz : ((xs.length : Int) != (ys.length : Int)) = true := by simp; omega
    go_enter Try.func19, Try.ntmps19
    go_wp2
    go_ret
    exact ⟨ret_bool (lists_len hl), Drw.refl _⟩

/-! ### markIntS, heldIntS -/
set_option maxHeartbeats 400000 in
theorem markIntS_any (T lo hi : Nat) (v : Value) (vs : List Value) (k : Int) (w : World) (h : OwnV T lo hi w v vs) (hn : vs.length ≤ 4194304) (h0 : 0 ≤ k) (hk : k ≤ 1099511627776) :
    Calls Try.prog 20 #[v, .int .i64 k] w fun e w' => e = .returned (.int .i64 (k + vs.length)) ∧ OwnV T lo hi w' v (ints (marks k vs.length)) ∧ w.grownBy w' v.ownBlock := by
  obtain ⟨a, g, cap, hv, hm, ha, hc, hf⟩ := h.shape
  rw [hv]
  go_enter Try.func20, Try.ntmps20
  go_wp2
  go_loopw [1, 5] (fun s1 s5 wr => ∃ j : Nat, j ≤ vs.length ∧ s5 = .int .i64 j ∧ s1 = .int .i64 (k + j) ∧ ∃ vs' : List Value, vs'.length = vs.length ∧ OwnV T lo hi wr v vs' ∧ (∀ i, i < j → vs'[i]? = some (.int .i64 (k + i))) ∧ w.grownBy wr v.ownBlock) (fun _ s5 _ => vs.length - (intOf s5).toNat)
  case atStart => exact ⟨0, by omega, rfl, by simp, vs, rfl, h, fun i hi => by omega, grown_refl _ _⟩
  case round =>
    obtain ⟨j, hj, rfl, rfl, vs', hl, how, hmk, hgr⟩ := hrel
    by_cases hlt : j < vs.length
    · obtain ⟨rfl, _, _, _⟩ := ha (by omega)
      have hob : v.ownBlock = some g := by rw [hv]; rfl
      obtain ⟨a', g', cap', hv', _, ha', hc', hf'⟩ := how.shape
      obtain ⟨rfl, _, _, _⟩ := ha' (by omega)
      have hgg : g = g' := by have := hv.symm.trans hv'; simp at this; exact this.1
      subst hgg
      obtain ⟨u0, hu0⟩ : ∃ u0, vs'[j]? = some u0 := ⟨_, List.getElem?_eq_getElem (by omega)⟩
      have h1 : wr.cell? ⟨g, j, none⟩ = some u0 := hc' j _ hu0
      clear hu0
      have h2 : wr.frozen? ⟨g, j, none⟩ = false := hf' (by omega) j
      have hset := how.set hob (show j < vs'.length by omega) (.int .i64 (k + j))
      have hgr2 := grown_trans hgr (by rw [hob]; exact grown_setCell wr g j (.int .i64 (k + j)))
      have HL := Lib.hid hl
      have HV := Lib.hid hv
      have HO := Lib.hid hob
      clear hl hv hv' hob hc hf hc' hf' ha ha' h
      go_wp2
      go_roundw
      case rel => exact ⟨j + 1, by omega, by go_num, by go_num, _, by rw [List.length_set]; exact HL.out, hset, fun i hi => by
        rw [List.getElem?_set]
        by_cases e : j = i
        · subst e; rw [if_pos rfl, if_pos (by rw [HL.out]; exact hlt)]
        · rw [if_neg e]; exact hmk i (by omega), hgr2⟩
      case measure => simp [intOf]; omega
    · have HV := Lib.hid hv
      clear hv
      go_wp2
      go_ret
      obtain rfl : j = vs.length := by omega
      refine ⟨rfl, ?_, by rw [← HV.out]; exact hgr⟩
      have : vs' = ints (marks k vs.length) := by
        apply List.ext_getElem?
        intro i
        by_cases hi : i < vs.length
        · rw [hmk i hi]; simp [ints, marks_get _ _ _ hi]
        · rw [List.getElem?_eq_none (by omega), List.getElem?_eq_none (by simp; omega)]
      rw [← this, ← HV.out]
      exact how

set_option maxHeartbeats 400000 in
/-- heldIntS over what markIntS laid. -/
theorem heldIntS_any (v : Value) (n : Nat) (k : Int) (w : World) (h : RdI w v (marks k n)) (hn : n ≤ 4194304) (h0 : 0 ≤ k) (hk : k ≤ 1099511627776) :
    Calls Try.prog 87 #[v, .int .i64 k] w fun e w' => e = .returned (.int .i64 (k + n)) ∧ w = w' := by
  obtain ⟨a, b, off, cap, hv, hm, ha, hc⟩ := h
  rw [marks_length] at hv hm ha
  subst hv
  go_enter Try.func87, Try.ntmps87
  go_wp2
  go_loop [1, 5] (fun s1 s5 => ∃ j : Nat, j ≤ n ∧ s5 = .int .i64 j ∧ s1 = .int .i64 (k + j)) (fun _ s5 => n - (intOf s5).toNat)
  case atStart => exact ⟨0, by omega, rfl, by simp⟩
  case round =>
    obtain ⟨j, hj, rfl, rfl⟩ := hrel
    by_cases hlt : j < n
    · obtain rfl := ha (by omega)
      have h1 := hc j _ (marks_get k n j hlt)
      have h2 : ((k + (j : Int)) != (k + (j : Int))) = false := by simp
      clear hc
      go_wp2
      go_round
      case rel => exact ⟨j + 1, by omega, by go_num, by go_num⟩
      case measure => simp [intOf]; omega
    · go_wp2
      go_ret
      obtain rfl : j = n := by omega
      exact ⟨rfl, rfl⟩
end Go.Proofs.Ytadnjljpceeolaa
