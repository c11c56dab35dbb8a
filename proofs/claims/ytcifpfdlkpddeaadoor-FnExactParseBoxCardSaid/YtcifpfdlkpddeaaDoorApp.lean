/- append on a slice of the call's own, in this seat's words. -/
import Derived.Test.YtcifpfdlkpddeaaDoorBase
import Derived.Laws.AppendOwnNone
set_option linter.unusedSimpArgs false
set_option linter.unusedVariables false
namespace Go.Proofs.YtcifpfdlkpddeaaDoor
open Go.RowKit

theorem ownsRow_shape {w : World} {base : Nat} {e : TypeId} {v : Value} {n : Nat} {xs : List Value} (h : w.ownsRow base e 1 v n xs) : ∃ a c, v = .slice a n c := by
  rcases h.2 with ⟨rfl, rfl⟩ | ⟨g, cap, cur, rfl, _⟩
  · exact ⟨none, 0, rfl⟩
  · exact ⟨_, cap, rfl⟩

section
variable {P : Program} {ops : Array Oper} {rest : List Oper} {o : Oper} {a : Act} {Q : Exit → Act → World → Prop}

/-- append(s, u): the one element lies in a block that was laid just before. -/
theorem append1_own (hgd : o.guard = none) (s x : Operand) (t e : TypeId)
    (ho : o.op = .call { callee := .builtin .append, args := #[s, x], argTypes := #[t, t] })
    {z : Value} {bytes : Nat} (ht : P.underlying t = some (.slice e)) (hinfo : (P.info? e).map (fun i => (i.zero, i.size, i.bytes)) = some (some z, 1, bytes)) (hz : z.cells.size = 1)
    {lo hi : Nat} {W : World} {v u : Value} {vs : List Value} (hown : OwnV e lo hi W v vs) (hs : a.eval s = v)
    (hx : a.eval x = .slice (some ⟨W.heap.size, 0, none⟩) 1 1) (hu : u.oneCell' = true) (hlen : vs.length ≤ 4194304) (hby : bytes ≤ 1024) (hlo : lo ≤ W.heap.size)
    (h : ∀ (a' : Option Addr) (c : Nat) (w' : World), OwnV e lo w'.heap.size w' (.slice a' (vs.length + 1) c) (vs ++ [u]) → W.grownBy w' v.ownBlock →
      wpList P ops Q rest (a.put o.dst (.slice a' (vs.length + 1) c)) w') :
    wpList P ops Q (o :: rest) a (W.alloc (.cells #[u] e)) := by
  obtain ⟨i, hi0, hi1, hi2, hi3⟩ := info_parts hinfo
  refine wpList_append_own _ hgd s x t ho lo e i z 1 bytes ht hi0 hi1 hi2 hi3 hz (by omega) v vs.length vs hs (hown.1.alloc _) ⟨W.heap.size, 0, none⟩ 1 1 [u] hx rfl ?_ ?_ ?_ ?_ ?_ ?_
  · intro j u' hj
    match j, hj with
    | 0, hj => simp at hj; subst hj; simp [Addr.add]
  · intro u' hu'; simp at hu'; subst hu'; exact hu
  · unfold maxLen; omega
  · have : (vs.length + 1) * bytes ≤ 4194305 * 1024 := Nat.mul_le_mul (by omega) hby
    omega
  · simp; omega
  · intro v' w' hown' hg _
    obtain ⟨a', c, rfl⟩ := ownsRow_shape hown'
    have hl : (vs ++ [u]).length = vs.length + 1 := by simp
    exact h a' c w' ⟨by rw [hl]; exact hown', fun g hg' => (hown'.lt g hg').2⟩ (grown_trans (World.grownBy_alloc W _ _) hg)

/-- append(s, xs...): a whole slice that reads as xs. -/
theorem appendAll_own (hgd : o.guard = none) (s x : Operand) (t e : TypeId)
    (ho : o.op = .call { callee := .builtin .append, args := #[s, x], argTypes := #[t, t] })
    {bytes : Nat} (ht : P.underlying t = some (.slice e)) (hinfo : (P.info? e).map (fun i => (i.zero, i.size, i.bytes)) = some (some (.int .i64 0), 1, bytes))
    {lo hi : Nat} {W : World} {v vx : Value} {vs : List Value} {xs : List Int} (hown : OwnV e lo hi W v vs) (hs : a.eval s = v)
    (hx : a.eval x = vx) (hr : RdI W vx xs) (hlen : vs.length + xs.length ≤ 4194304) (hby : bytes ≤ 1024) (hlo : lo ≤ W.heap.size) (hcapn : ∀ c : Nat, vx = .slice none 0 c → c = 0)
    (h : ∀ (a' : Option Addr) (c : Nat) (w' : World), OwnV e lo w'.heap.size w' (.slice a' (vs.length + xs.length) c) (vs ++ ints xs) → W.grownBy w' v.ownBlock →
      wpList P ops Q rest (a.put o.dst (.slice a' (vs.length + xs.length) c)) w') :
    wpList P ops Q (o :: rest) a W := by
  obtain ⟨i, hi0, hi1, hi2, hi3⟩ := info_parts hinfo
  obtain ⟨ax, b, off, cap, rfl, hm, ha, hc⟩ := hr
  have key : ∀ ad : Addr, ax = some ad → (0 < xs.length → ad = ⟨b, off, none⟩) → wpList P ops Q (o :: rest) a W := by
    intro ad hax had
    refine wpList_append_own _ hgd s x t ho lo e i (.int .i64 0) 1 bytes ht hi0 hi1 hi2 hi3 rfl (by omega) v vs.length vs hs hown.1 ad xs.length cap (ints xs) (by rw [hx, hax]) (by simp) ?_ ?_ ?_ ?_ hlo ?_
    · intro j u hj
      simp only [ints, List.getElem?_map, Option.map_eq_some_iff] at hj
      obtain ⟨y, hy, rfl⟩ := hj
      have hjl := (List.getElem?_eq_some_iff.1 hy).1
      rw [had (by omega), Go.WideShapes.add_plain]
      exact hc j y hy
    · intro u hu
      simp only [ints, List.mem_map] at hu
      obtain ⟨y, _, rfl⟩ := hu
      rfl
    · unfold maxLen; omega
    · have : (vs.length + xs.length) * bytes ≤ 4194304 * 1024 := Nat.mul_le_mul (by omega) hby
      omega
    · intro v' w' hown' hg _
      obtain ⟨a', c, rfl⟩ := ownsRow_shape hown'
      have hl : (vs ++ ints xs).length = vs.length + xs.length := by simp
      exact h a' c w' ⟨by rw [hl]; exact hown', fun g hg' => (hown'.lt g hg').2⟩ hg
  cases ax with
  | some ad => exact key ad rfl (fun hp => by have := ha hp; simpa using this)
  | none =>
    have h0 : xs.length = 0 := by
      cases hp : xs.length with
      | zero => rfl
      | succ n => have := ha (by omega); cases this
    have hnil : xs = [] := List.eq_nil_of_length_eq_zero h0
    subst hnil
    obtain rfl : cap = 0 := hcapn cap rfl
    refine wpList_append_own_none hgd s x t ho lo e i 1 ht hi0 v vs.length vs hs hown.1 (by rw [hx]; rfl) ?_
    obtain ⟨a', c, hv⟩ := ownsRow_shape hown.1
    subst hv
    have hq : OwnV e lo W.heap.size W (.slice a' vs.length c) vs := ⟨hown.1, fun g hg => (hown.1.lt g hg).2⟩
    have := h a' c W (by simpa [ints] using hq) (grown_refl _ _)
    simpa using this
end

theorem OwnV.capn {T lo hi : Nat} {w : World} {v : Value} {vs : List Value} (h : OwnV T lo hi w v vs) : ∀ c : Nat, v = .slice none 0 c → c = 0 := by
  intro c hv
  rcases h.1.2 with ⟨rfl, _⟩ | ⟨g', cap, cur, rfl, _⟩
  · simp at hv; exact hv.symm
  · simp at hv

/-- What '[]T{}' lays. -/
theorem OwnV.empty (T : Nat) (w : World) : OwnV T w.heap.size (w.heap.size + 1) (w.alloc (.cells #[] T)) (.slice (some ⟨w.heap.size, 0, none⟩) 0 0) [] :=
  ⟨World.ownsRow_made w #[] 0 (Nat.le_refl _) (Nat.zero_le _) rfl, fun g hg => by simp [Value.ownBlock] at hg; omega⟩
theorem OwnII.empty (T2 T1 : Nat) (w : World) : OwnII T2 T1 w.heap.size (w.heap.size + 1) (w.alloc (.cells #[] T2)) (.slice (some ⟨w.heap.size, 0, none⟩) 0 0) [] [] :=
  ⟨rfl, OwnV.empty T2 w, fun i v' rs h => by simp at h, fun i j a b g h => by simp at h, fun i a g h => by simp at h⟩

theorem OwnV.block {T lo hi : Nat} {w : World} {v : Value} {vs : List Value} (h : OwnV T lo hi w v vs) {g : Nat} (hg : v.ownBlock = some g) : ∃ cur, w.heap[g]? = some (.cells cur T (0, 0)) := by
  rcases h.1.2 with ⟨rfl, _⟩ | ⟨g', cap, cur, rfl, _, hh, _⟩
  · simp [Value.ownBlock] at hg
  · simp only [Value.ownBlock, Option.some.injEq] at hg
    subst hg
    exact ⟨cur, hh⟩
theorem OwnV.ne {T T' lo hi lo' hi' : Nat} {w : World} {v v' : Value} {vs vs' : List Value} (h : OwnV T lo hi w v vs) (h' : OwnV T' lo' hi' w v' vs') (hT : T ≠ T') {g : Nat} (hg : v.ownBlock = some g) : v'.ownBlock ≠ some g := by
  intro hg'
  obtain ⟨c, hc⟩ := h.block hg
  obtain ⟨c', hc'⟩ := h'.block hg'
  rw [hc] at hc'
  simp only [Option.some.injEq, Obj.cells.injEq] at hc'
  exact hT hc'.2.1

/-- A fresh row goes behind the rows of rows. -/
theorem OwnII.snoc {T2 T1 lo hi m hi' : Nat} {w w' : World} {v v' u : Value} {rss : List (List Int)} {vs : List Value} {rs : List Int}
    (h : OwnII T2 T1 lo hi w v rss vs) (hu : OwnV T1 m hi' w u (ints rs)) (hm : hi ≤ m) (hlo : lo ≤ m) (hh : hi ≤ hi')
    (ht : OwnV T2 lo w'.heap.size w' v' (vs ++ [u])) (hg : w.grownBy w' v.ownBlock) (hi'w : hi' ≤ w'.heap.size)
    (hT : T2 ≠ T1) : OwnII T2 T1 lo w'.heap.size w' v' (rss ++ [rs]) (vs ++ [u]) := by
  have hrowk : ∀ i u' rs', vs[i]? = some u' → rss[i]? = some rs' → OwnV T1 lo hi w u' (ints rs') := h.row
  have hrd : ∀ i u', vs[i]? = some u' → ∃ rs', rss[i]? = some rs' := fun i u' hv => by
    have : i < vs.length := (List.getElem?_eq_some_iff.1 hv).1
    rw [h.len] at this
    exact ⟨_, List.getElem?_eq_getElem this⟩
  have hub : ∀ g, u.ownBlock = some g → v.ownBlock ≠ some g := fun g hg' hv => by
    have h1 := h.top.lt g hv
    have h2 := hu.lt g hg'
    omega
  have split : ∀ {i : Nat} {x : Value}, (vs ++ [u])[i]? = some x → (i < vs.length ∧ vs[i]? = some x) ∨ (i = vs.length ∧ x = u) := by
    intro i x hx
    rw [List.getElem?_append] at hx
    split at hx
    · rename_i hlt; exact Or.inl ⟨hlt, hx⟩
    · rename_i hge
      have h0 : i - vs.length = 0 := by
        have := (List.getElem?_eq_some_iff.1 hx).1
        simp at this; omega
      rw [h0] at hx
      simp at hx
      exact Or.inr ⟨by omega, hx.symm⟩
  have hrows : ∀ (i : Nat) (u' : Value) (rs' : List Int), (vs ++ [u])[i]? = some u' → (rss ++ [rs])[i]? = some rs' → OwnV T1 lo w'.heap.size w' u' (ints rs') := by
    intro i u' rs' hv hr
    rcases split hv with ⟨hlt, hv⟩ | ⟨rfl, rfl⟩
    · rw [List.getElem?_append_left (by rw [← h.len]; exact hlt)] at hr
      have h1 := hrowk i u' rs' hv hr
      exact (h1.of_block fun g hg' => hg.block g (h1.lt g hg').2.2 (fun e => h.off i u' g hv hg' e.symm)).weaken (Nat.le_refl _) (by omega)
    · rw [h.len, List.getElem?_append_right (Nat.le_refl _)] at hr
      simp at hr
      subst hr
      exact (hu.of_block fun g hg' => hg.block g (hu.lt g hg').2.2 (fun e => hub g hg' e.symm)).weaken hlo hi'w
  have hlen : (vs ++ [u]).length = (rss ++ [rs]).length := by simp [h.len]
  refine ⟨hlen, ht, hrows, ?_, ?_⟩
  · intro i j x y g hx hy hgx hgy
    rcases split hx with ⟨hlt, hx'⟩ | ⟨hi0, hx'⟩ <;> rcases split hy with ⟨hlt', hy'⟩ | ⟨hj0, hy'⟩
    · exact h.apart i j x y g hx' hy' hgx hgy
    · subst hy'
      obtain ⟨rs', hr⟩ := hrd i x hx'
      have h1 := (hrowk i x rs' hx' hr).lt g hgx
      have h2 := hu.lt g hgy
      omega
    · subst hx'
      obtain ⟨rs', hr⟩ := hrd j y hy'
      have h1 := (hrowk j y rs' hy' hr).lt g hgy
      have h2 := hu.lt g hgx
      omega
    · omega
  · intro i x g hx hgx
    have hil : i < (rss ++ [rs]).length := by rw [← hlen]; exact (List.getElem?_eq_some_iff.1 hx).1
    exact (hrows i x _ hx (List.getElem?_eq_getElem hil)).ne ht (fun e => hT e.symm) hgx

end Go.Proofs.YtcifpfdlkpddeaaDoor
