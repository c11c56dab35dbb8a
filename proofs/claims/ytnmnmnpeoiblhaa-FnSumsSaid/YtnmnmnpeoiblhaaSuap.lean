/- The law's cut of its bytes: a suffix and one byte more. What a law's variables hold while it goes on: pairs. The first greatest sum: when there is one. No program in sight. -/
import Derived.Test.YtnmnmnpeoiblhaaSuah
import Derived.Test.YtnmnmnpeoiblhaaSuac
import Derived.Test.YtnmnmnpeoiblhaaSuad
import Derived.Test.YtnmnmnpeoiblhaaSuao
import Derived.Test.YtnmnmnpeoiblhaaSuam
import Derived.Laws.StructEq
import Derived.ChangeKeysEq
set_option linter.unusedSimpArgs false
set_option linter.unusedVariables false
namespace Go.Proofs.Ytnmnmnpeoiblhaa
open Go.RowKit Go.WideShapes

theorem Try.infoU8 : (Try.prog.info? 5).map (fun i => (i.zero, i.size, i.bytes)) = some (some (.int .u8 0), 1, 1) := by kernel_rfl
section
variable {P : Program} {ops : Array Oper} {rest : List Oper} {o : Oper} {a : Act} {Q : Exit → Act → World → Prop}
/-- append(s, xs...): a whole slice whose cells are us. -/
theorem appendAny_own (hgd : o.guard = none) (s x : Operand) (t e : TypeId)
    (ho : o.op = .call { callee := .builtin .append, args := #[s, x], argTypes := #[t, t] })
    {z : Value} {bytes : Nat} (ht : P.underlying t = some (.slice e)) (hinfo : (P.info? e).map (fun i => (i.zero, i.size, i.bytes)) = some (some z, 1, bytes)) (hz : z.cells.size = 1)
    {lo hi : Nat} {W : World} {v : Value} {vs us : List Value} {ax : Option Addr} {b off cap : Nat} (hown : OwnV e lo hi W v vs) (hs : a.eval s = v)
    (hx : a.eval x = .slice ax us.length cap) (ha : 0 < us.length → ax = some ⟨b, off, none⟩) (hc : ∀ (j : Nat) (u : Value), us[j]? = some u → W.cell? ⟨b, off + j, none⟩ = some u) (h1 : ∀ u ∈ us, u.oneCell' = true)
    (hlen : vs.length + us.length ≤ 4194304) (hby : bytes ≤ 1024) (hlo : lo ≤ W.heap.size) (hcapn : ax = none → cap = 0)
    (h : ∀ (a' : Option Addr) (c : Nat) (w' : World), OwnV e lo w'.heap.size w' (.slice a' (vs.length + us.length) c) (vs ++ us) → W.grownBy w' v.ownBlock →
      wpList P ops Q rest (a.put o.dst (.slice a' (vs.length + us.length) c)) w') :
    wpList P ops Q (o :: rest) a W := by
  obtain ⟨i, hi0, hi1, hi2, hi3⟩ := info_parts hinfo
  have key : ∀ ad : Addr, ax = some ad → (0 < us.length → ad = ⟨b, off, none⟩) → wpList P ops Q (o :: rest) a W := by
    intro ad hax had
    refine wpList_append_own _ hgd s x t ho lo e i z 1 bytes ht hi0 hi1 hi2 hi3 hz (by omega) v vs.length vs hs hown.1 ad us.length cap us (by rw [hx, hax]) (by simp) ?_ h1 ?_ ?_ hlo ?_
    · intro j u hj
      have hjl := (List.getElem?_eq_some_iff.1 hj).1
      rw [had (by omega), Go.WideShapes.add_plain]
      exact hc j u hj
    · unfold maxLen; omega
    · have : (vs.length + us.length) * bytes ≤ 4194304 * 1024 := Nat.mul_le_mul (by omega) hby
      omega
    · intro v' w' hown' hg _
      obtain ⟨a', c, rfl⟩ := ownsRow_shape hown'
      have hl : (vs ++ us).length = vs.length + us.length := by simp
      exact h a' c w' ⟨by rw [hl]; exact hown', fun g hg' => (hown'.lt g hg').2⟩ hg
  cases ax with
  | some ad => exact key ad rfl (fun hp => by have := ha hp; simpa using this)
  | none =>
    have h0 : us.length = 0 := by
      cases hp : us.length with
      | zero => rfl
      | succ n => have := ha (by omega); cases this
    have hnil : us = [] := List.eq_nil_of_length_eq_zero h0
    subst hnil
    obtain rfl : cap = 0 := hcapn rfl
    refine wpList_append_own_none hgd s x t ho lo e i 1 ht hi0 v vs.length vs hs hown.1 (by rw [hx]; rfl) ?_
    obtain ⟨a', c, hv⟩ := ownsRow_shape hown.1
    subst hv
    have hq : OwnV e lo W.heap.size W (.slice a' vs.length c) vs := ⟨hown.1, fun g hg => (hown.1.lt g hg).2⟩
    have := h a' c W (by simpa using hq) (grown_refl _ _)
    simpa using this
end
/-- Bytes as cells. -/
def BytesV (us : List Value) : Prop := ∀ u ∈ us, ∃ x : Nat, x ≤ 255 ∧ u = .int .u8 x
theorem OwnV.rdB {T lo hi : Nat} {w : World} {v : Value} {us : List Value} (h : OwnV T lo hi w v us) (hb : BytesV us) (hn : us.length ≤ 65536) : RdB w v us.length := by
  obtain ⟨a, g, cap, hv, _, ha, hc, _⟩ := h.shape
  refine ⟨a, g, 0, cap, hv, hn, fun hp => (ha hp).1, fun j hj => ?_⟩
  have hg := List.getElem?_eq_getElem hj
  obtain ⟨x, hx, hu⟩ := hb _ (List.getElem_mem hj)
  refine ⟨x, hx, ?_⟩
  rw [Nat.zero_add, ← hu]
  exact hc j _ hg
/-- The law's bytes: where they lie, and that the slice has room for its length. -/
structure Code (w : World) (a : Option Addr) (n cap : Nat) : Prop where
  rd : RdB w (.slice a n cap) n
  room : n ≤ cap
  nil : a = none → cap = 0
theorem Code.stay {w w' : World} {a : Option Addr} {n cap : Nat} (h : Code w a n cap) (hb : Below w.heap.size w w') : Code w' a n cap := ⟨h.rd.kept hb, h.room, h.nil⟩
theorem RdB.cellsOf {w : World} {a : Option Addr} {n cap : Nat} (h : RdB w (.slice a n cap) n) : ∃ (b off : Nat) (us : List Value), us.length = n ∧ (0 < n → a = some ⟨b, off, none⟩) ∧ BytesV us ∧ ∀ (j : Nat) (u : Value), us[j]? = some u → w.cell? ⟨b, off + j, none⟩ = some u := by
  obtain ⟨a', b, off, cap', hv, hn, ha, hc⟩ := h
  injection hv with q1 q2 q3
  subst q1
  refine ⟨b, off, (List.range n).map (fun j => (w.cell? ⟨b, off + j, none⟩).getD (.int .u8 0)), by simp, ha, fun u hu => ?_, fun j u hu => ?_⟩
  · obtain ⟨j, hj, rfl⟩ := List.mem_map.1 hu
    obtain ⟨x, hx, he⟩ := hc j (List.mem_range.1 hj)
    exact ⟨x, hx, by rw [he]; rfl⟩
  · have hj : j < n := by
      have := (List.getElem?_eq_some_iff.1 hu).1
      simpa using this
    obtain ⟨x, hx, he⟩ := hc j hj
    simp [hj, he] at hu
    rw [he, ← hu]
set_option maxHeartbeats 1600000 in
theorem vCut_any (a : Option Addr) (n cap : Nat) (w : World) (h : Code w a n cap) :
    Calls Try.prog 37 #[.slice a n cap, .int .i64 1] w fun e w' => ∃ (a' : Option Addr) (k c' : Nat), e = .returned (.slice a' k c') ∧ RdB w' (.slice a' k c') k ∧ Below w.heap.size w w' := by
  obtain ⟨b, off, us, hl, ha, hb, hc⟩ := h.rd.cellsOf
  have hn6 : n ≤ 65536 := by obtain ⟨_, _, _, _, _, hn6, _⟩ := h.rd; exact hn6
  have hroom := h.room
  have hnil := h.nil
  have hE := OwnV.empty 5 w
  have hB0 := (Below.refl w.heap.size w).alloc (Nat.le_refl _) (.cells #[] 5)
  have h1c : ∀ vs : List Value, BytesV vs → ∀ u ∈ vs, u.oneCell' = true := fun vs hv u hu => by obtain ⟨x, _, rfl⟩ := hv u hu; rfl
  clear h
  cases us with
  | nil =>
    obtain rfl : 0 = n := hl
    have HB : BytesV [] := fun u hu => by simp at hu
    have HA : 0 < ([] : List Value).length → a = some ⟨b, off, none⟩ := fun h => by simp at h
    have HC : ∀ (j : Nat) (u : Value), ([] : List Value)[j]? = some u → (w.alloc (.cells #[] 5)).cell? ⟨b, off + j, none⟩ = some u := fun j u h => by simp at h
    clear ha hc hb
    cases a with
    | none =>
      obtain rfl : cap = 0 := hnil rfl
      clear hnil
      go_enter Try.func37, Try.ntmps37
      go_wp2_with (at_builtin; refine appendAny_own rfl _ _ 22 5 rfl Try.underlying22 Try.infoU8 rfl (us := ([] : List Value)) (b := b) (off := off) hE rfl rfl HA HC (h1c _ HB) (by simp <;> omega) (by decide) (by simp) (by simp) ?_)
      intro a2 c2 w2 hO2 hg2
      have hB2 : Below w.heap.size w w2 := hB0.grown hg2 (by simp) (fun g hg => (hE.lt g hg).1)
      have hz2 := hB2.size
      have hl2 : ([] : List Value).length ≤ 4194304 := by first | omega | simp
      have hO2 : OwnV 5 w.heap.size w2.heap.size w2 (.slice a2 ([] : List Value).length c2) ([] : List Value) := by simpa using hO2
      clear hE hB0
      go_wp2_with (at_builtin; refine append1_own rfl _ _ 22 5 rfl Try.underlying22 Try.infoU8 rfl hO2 rfl rfl rfl hl2 (by decide) (by omega) ?_)
      intro a3 c3 w3 hO3 hg3
      have hB3 : Below w.heap.size w w3 := hB2.grown hg3 hz2 (fun g hg => (hO2.lt g hg).1)
      have hBy : BytesV (([] : List Value) ++ [Value.int .u8 0]) := fun u hu => by
        rcases @List.mem_append _ u ([] : List Value) [Value.int .u8 0] |>.1 hu with hu | hu
        · exact HB u hu
        · obtain rfl := List.mem_singleton.1 hu
          exact ⟨_, by decide, rfl⟩
      have hRB := hO3.rdB hBy (by simp <;> omega)
      try rw [@List.length_append _ ([] : List Value) [Value.int .u8 0]] at hRB
      clear hO2 hO3 hg2 hg3
      go_wp2
      go_ret
      exact ⟨a3, _, c3, rfl, hRB, hB3⟩
    | some ad =>
      have HA : 0 < ([] : List Value).length → some ad = some ⟨b, off, none⟩ := fun h => by simp at h
      clear hnil
      go_enter Try.func37, Try.ntmps37
      go_wp2_with (at_builtin; refine appendAny_own rfl _ _ 22 5 rfl Try.underlying22 Try.infoU8 rfl (us := ([] : List Value)) (b := b) (off := off) hE rfl rfl (fun h => by simp at h) HC (h1c _ HB) (by simp <;> omega) (by decide) (by simp) (by simp) ?_)
      intro a2 c2 w2 hO2 hg2
      have hB2 : Below w.heap.size w w2 := hB0.grown hg2 (by simp) (fun g hg => (hE.lt g hg).1)
      have hz2 := hB2.size
      have hl2 : ([] : List Value).length ≤ 4194304 := by first | omega | simp
      have hO2 : OwnV 5 w.heap.size w2.heap.size w2 (.slice a2 ([] : List Value).length c2) ([] : List Value) := by simpa using hO2
      clear hE hB0
      go_wp2_with (at_builtin; refine append1_own rfl _ _ 22 5 rfl Try.underlying22 Try.infoU8 rfl hO2 rfl rfl rfl hl2 (by decide) (by omega) ?_)
      intro a3 c3 w3 hO3 hg3
      have hB3 : Below w.heap.size w w3 := hB2.grown hg3 hz2 (fun g hg => (hO2.lt g hg).1)
      have hBy : BytesV (([] : List Value) ++ [Value.int .u8 0]) := fun u hu => by
        rcases @List.mem_append _ u ([] : List Value) [Value.int .u8 0] |>.1 hu with hu | hu
        · exact HB u hu
        · obtain rfl := List.mem_singleton.1 hu
          exact ⟨_, by decide, rfl⟩
      have hRB := hO3.rdB hBy (by simp <;> omega)
      try rw [@List.length_append _ ([] : List Value) [Value.int .u8 0]] at hRB
      clear hO2 hO3 hg2 hg3
      go_wp2
      go_ret
      exact ⟨a3, _, c3, rfl, hRB, hB3⟩
  | cons u0 us2 =>
    obtain rfl : us2.length + 1 = n := hl
    obtain rfl := ha (by omega)
    have HB : BytesV us2 := fun u hu => hb u (List.mem_cons_of_mem _ hu)
    have HC : ∀ (j : Nat) (u : Value), us2[j]? = some u → (w.alloc (.cells #[] 5)).cell? ⟨b, off + 1 + j, none⟩ = some u := fun j u hj => by
      have h1 := hc (j + 1) u (by simpa using hj)
      rw [show off + (j + 1) = off + 1 + j by omega] at h1
      exact (hB0.cell (p := ⟨b, off + 1 + j, none⟩) (World.block_lt_of_cell? _ _ h1)).trans h1
    clear ha hc hb hnil
    by_cases hc1 : cap = 1
    · subst hc1
      obtain rfl : us2 = [] := List.eq_nil_of_length_eq_zero (by omega)
      have HC' : ∀ (j : Nat) (u : Value), ([] : List Value)[j]? = some u → (w.alloc (.cells #[] 5)).cell? ⟨b, off + j, none⟩ = some u := fun j u h => by simp at h
      go_enter Try.func37, Try.ntmps37
      go_wp2_with (at_builtin; refine appendAny_own rfl _ _ 22 5 rfl Try.underlying22 Try.infoU8 rfl (us := ([] : List Value)) (b := b) (off := off) hE rfl rfl (fun h => by simp at h) HC' (h1c _ HB) (by simp <;> omega) (by decide) (by simp) (by simp) ?_)
      intro a2 c2 w2 hO2 hg2
      have hB2 : Below w.heap.size w w2 := hB0.grown hg2 (by simp) (fun g hg => (hE.lt g hg).1)
      have hz2 := hB2.size
      have hl2 : ([] : List Value).length ≤ 4194304 := by first | omega | simp
      have hO2 : OwnV 5 w.heap.size w2.heap.size w2 (.slice a2 ([] : List Value).length c2) ([] : List Value) := by simpa using hO2
      clear hE hB0
      go_wp2_with (at_builtin; refine append1_own rfl _ _ 22 5 rfl Try.underlying22 Try.infoU8 rfl hO2 rfl rfl rfl hl2 (by decide) (by omega) ?_)
      intro a3 c3 w3 hO3 hg3
      have hB3 : Below w.heap.size w w3 := hB2.grown hg3 hz2 (fun g hg => (hO2.lt g hg).1)
      have hBy : BytesV (([] : List Value) ++ [Value.int .u8 1]) := fun u hu => by
        rcases @List.mem_append _ u ([] : List Value) [Value.int .u8 1] |>.1 hu with hu | hu
        · exact HB u hu
        · obtain rfl := List.mem_singleton.1 hu
          exact ⟨_, by decide, rfl⟩
      have hRB := hO3.rdB hBy (by simp <;> omega)
      try rw [@List.length_append _ ([] : List Value) [Value.int .u8 1]] at hRB
      clear hO2 hO3 hg2 hg3
      go_wp2
      go_ret
      exact ⟨a3, _, c3, rfl, hRB, hB3⟩
    · have hn1 : ¬ ((us2.length : Int) + 1) < 1 := by omega
      have HA : 0 < us2.length → some (⟨b, off + 1, none⟩ : Addr) = some ⟨b, off + 1, none⟩ := fun _ => rfl
      go_enter Try.func37, Try.ntmps37
      go_wp2_with (at_builtin; refine appendAny_own rfl _ _ 22 5 rfl Try.underlying22 Try.infoU8 rfl (us := us2) (b := b) (off := (off + 1)) hE rfl rfl HA HC (h1c _ HB) (by simp <;> omega) (by decide) (by simp) (by simp) ?_)
      intro a2 c2 w2 hO2 hg2
      have hB2 : Below w.heap.size w w2 := hB0.grown hg2 (by simp) (fun g hg => (hE.lt g hg).1)
      have hz2 := hB2.size
      have hl2 : us2.length ≤ 4194304 := by first | omega | simp
      have hO2 : OwnV 5 w.heap.size w2.heap.size w2 (.slice a2 us2.length c2) us2 := by simpa using hO2
      clear hE hB0
      go_wp2_with (at_builtin; refine append1_own rfl _ _ 22 5 rfl Try.underlying22 Try.infoU8 rfl hO2 rfl rfl rfl hl2 (by decide) (by omega) ?_)
      intro a3 c3 w3 hO3 hg3
      have hB3 : Below w.heap.size w w3 := hB2.grown hg3 hz2 (fun g hg => (hO2.lt g hg).1)
      have hBy : BytesV (us2 ++ [Value.int .u8 1]) := fun u hu => by
        rcases @List.mem_append _ u us2 [Value.int .u8 1] |>.1 hu with hu | hu
        · exact HB u hu
        · obtain rfl := List.mem_singleton.1 hu
          exact ⟨_, by decide, rfl⟩
      have hRB := hO3.rdB hBy (by simp <;> omega)
      try rw [@List.length_append _ us2 [Value.int .u8 1]] at hRB
      clear hO2 hO3 hg2 hg3
      go_wp2
      go_ret
      exact ⟨a3, _, c3, rfl, hRB, hB3⟩
end Go.Proofs.Ytnmnmnpeoiblhaa
set_option linter.unusedSimpArgs false
set_option linter.unusedVariables false
namespace Go.Proofs.Ytnmnmnpeoiblhaa
open Go.RowKit

theorem PairAt.stay {w w' : World} {g : Nat} {x y : Value} (h : PairAt w g x y) (hb : Below w.heap.size w w') : PairAt w' g x y := h.kept hb
theorem size_abs (n : Int) : (if n < 0 then -n else n) = absI n := by unfold absI; split <;> split <;> omega
theorem vSize_abs (n : Int) (w : World) (hb : -1000000 ≤ n ∧ n ≤ 1000000) :
    Calls Try.prog 42 #[.int .i64 n] w fun e w' => e = .returned (.int .i64 (absI n)) ∧ Below w.heap.size w w' :=
  (vSize_any n w hb).mono fun e w' ⟨h, k⟩ => ⟨by rw [h, size_abs], by rw [k]; exact Below.refl _ _⟩
theorem run_pair_same (w : World) (a b : Int) :
    (binOp .neq 47 (.agg #[.int .i64 a, .int .i64 b]) (.agg #[.int .i64 a, .int .i64 b])).run Try.prog w = .ok (.bool false) w := by
  obtain ⟨i, hi, _⟩ := info_parts Try.infoInt
  have hu : Try.prog.underlying 47 = some (.array 2 3) := by kernel_rfl
  have hc : Try.prog.cellsOf 3 = 1 := by kernel_rfl
  simp only [binOp]
  simp [Op.equal, Op.maxDepth, run_equalIn_array (P := Try.prog) w 9999 _ _ hu hi, hc, List.range_succ, Op.eqItems, go_sem, run_equalIn_int w 9998 3 .i64 .i64 _ _ Try.underlying3]
end Go.Proofs.Ytnmnmnpeoiblhaa
set_option linter.unusedSimpArgs false
set_option linter.unusedVariables false
namespace Go.Proofs.Ytnmnmnpeoiblhaa

def firstG (b : BoxD) : Gr := if boxB b = true then great b else Gr.zero
theorem grStep_there (b : BoxD) (p q : Nat × Nat) (g : Gr) (m : Nat) : (grStep b p q g m).there = true := by
  unfold grStep
  split
  · rfl
  · rename_i h
    cases e : g.there with
    | true => rfl
    | false => exact absurd (by simp [e]) h
theorem gr4_there (b : BoxD) (p q : Nat × Nat) (g : Gr) (k : Nat) : (gr4 b p q g (k + 1)).there = true := grStep_there _ _ _ _ _
theorem grQ_there (b : BoxD) (p : Nat × Nat) (Q : List (Nat × Nat)) (g : Gr) (j : Nat) : (grQ b p Q g (j + 1)).there = true := gr4_there _ _ _ _ 3
theorem grP_there (b : BoxD) (P Q : List (Nat × Nat)) (hQ : 1 ≤ Q.length) (i : Nat) : (grP b P Q (i + 1)).there = true := by
  show (grQ b _ Q _ Q.length).there = true
  obtain ⟨j, hj⟩ : ∃ j, Q.length = j + 1 := ⟨Q.length - 1, by omega⟩
  rw [hj]
  exact grQ_there _ _ _ _ _
theorem grP_none (b : BoxD) (P : List (Nat × Nat)) : ∀ i, grP b P [] i = Gr.zero
  | 0 => rfl
  | i + 1 => by
    show grP b P [] i = Gr.zero
    exact grP_none b P i
theorem pairs_some {n : Int} (h : 2 ≤ n ∧ n ≤ 3) : 1 ≤ (pairsTo n.toNat n.toNat).length := by
  have : n.toNat = 2 ∨ n.toNat = 3 := by omega
  rcases this with e | e <;> rw [e] <;> decide
theorem pairs_none {n : Int} (h : 1 ≤ n) (h2 : n < 2) : pairsTo n.toNat n.toNat = [] := by
  have : n.toNat = 1 := by omega
  rw [this]; rfl
theorem great_there {b : BoxD} (hb : boxB b = true) (hx : 2 ≤ b.X) (hy : 2 ≤ b.Y) : (great b).there = true := by
  have hs := (boxB_iff.1 hb).1
  unfold great
  have h1 := pairs_some (n := b.X) ⟨hx, hs.1.2⟩
  have h2 := pairs_some (n := b.Y) ⟨hy, hs.2.2⟩
  obtain ⟨j, hj⟩ : ∃ j, (pairsTo b.X.toNat b.X.toNat).length = j + 1 := ⟨(pairsTo b.X.toNat b.X.toNat).length - 1, by omega⟩
  rw [hj]
  exact grP_there _ _ _ h2 _
theorem great_x {b : BoxD} (hb : boxB b = true) (hx : b.X < 2) : great b = Gr.zero := by
  have hs := (boxB_iff.1 hb).1
  unfold great
  rw [pairs_none hs.1.1 hx]
  rfl
theorem great_y {b : BoxD} (hb : boxB b = true) (hy : b.Y < 2) : great b = Gr.zero := by
  have hs := (boxB_iff.1 hb).1
  unfold great
  rw [pairs_none hs.2.1 hy]
  exact grP_none _ _ _
theorem firstG_no {b : BoxD} (h : boxB b = true → b.X < 2 ∨ b.Y < 2) : firstG b = Gr.zero := by
  unfold firstG
  split
  · rename_i hb
    rcases h hb with h | h
    · exact great_x hb h
    · exact great_y hb h
  · rfl
theorem firstG_yes {b : BoxD} (h : boxB b = true) : firstG b = great b := by unfold firstG; rw [if_pos h]
end Go.Proofs.Ytnmnmnpeoiblhaa
