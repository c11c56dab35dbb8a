/- PlayWorth: contracts of the program's and the reference's functions. A region that draws its order, whose last operation waits for all others: the last one may be cut off. -/
import Derived.Test.YtcifpfdlkpddeaaGreatDoorQxaz
import Derived.OrdersHeld
import Derived.Tactics
import Derived.Deep.RegionHeld3
set_option linter.unusedSimpArgs false
set_option linter.unusedVariables false
namespace Go.Proofs.YtcifpfdlkpddeaaGreatDoor
open Go.RowKit

theorem drwAt {w w' : World} {a : Addr} {v : Value} (h : Drw w w') (hc : w.cell? a = some v) : w'.cell? a = some v := by rw [h.cell]; exact hc
def playWorthOk (x y : Int) (f : List (List Int)) (ps : List Int) : Bool := funcB x y f && bitsB ps (x + y)
def playWorthD (x y : Int) (f : List (List Int)) (ps : List Int) : Int := if playWorthOk x y f ps then playW x y f ps else 0
theorem playWorth_val {x y : Int} {f : List (List Int)} {ps : List Int} {t : Bool} (h : playWorthOk x y f ps = t) : playWorthD x y f ps = if t then playW x y f ps else 0 := by unfold playWorthD; rw [h]
theorem playRows_box {x y : Int} {ps : List Int} (hs : sizesB x y = true) (hp : bitsB ps (x + y) = true) : boxB (boxOf x y 1 (playN x ps 1)) = true := by
  obtain ⟨⟨hx0, hx1⟩, hy0, hy1⟩ := sizesB_iff.1 hs
  obtain ⟨X, rfl⟩ := Int.eq_ofNat_of_zero_le (show 0 ≤ x by omega)
  obtain ⟨Y, rfl⟩ := Int.eq_ofNat_of_zero_le (show 0 ≤ y by omega)
  rw [boxOf_boxB _ _ _ _ hs]
  · decide
  · intro i j hi hj
    obtain ⟨p, hp1, p2⟩ := bits_get hp (j := i) (by omega)
    obtain ⟨q, hq1, q2⟩ := bits_get hp (j := X + j) (by omega)
    unfold FourN playN
    simp only [Int.toNat_natCast, List.getD_eq_getElem?_getD, hp1, hq1, Option.getD_some]
    have hp' : p = 0 ∨ p = 1 := by omega
    have hq' : q = 0 ∨ q = 1 := by omega
    rcases hp' with rfl | rfl <;> rcases hq' with rfl | rfl <;> simp
/-- The worth of a functional for a play's box, as the reference asks for it. -/
theorem playW_box (x y : Int) (f : List (List Int)) (ps : List Int) : worthR f (boxOf x y 1 (playN x ps 1)).Rows = playW x y f ps := rfl
end Go.Proofs.YtcifpfdlkpddeaaGreatDoor
set_option linter.unusedSimpArgs false
set_option linter.unusedVariables false
namespace Go.Proofs.YtcifpfdlkpddeaaGreatDoor

section
variable {P : Program} {Q : Exit → Act → World → Prop} {md : Region.Mode}

/-- What the operations ahead of the last one must leave. -/
def CutPost (P : Program) (full : Array Oper) (Q : Exit → Act → World → Prop) (st : Oper) : Exit → Act → World → Prop
  | .normal, a, w => wpList P full Q [st] a w
  | _, _, _ => False

theorem cut_oper {full : Array Oper} {st o : Oper} {a : Act} {w : World} {K K' : Act → World → Prop} (h : o.wp P a w K (CutPost P full Q st)) (hK : ∀ a w, K a w → K' a w) : o.wp P a w K' Q := by
  unfold Oper.wp at *
  generalize (execOp a.eval o).run P w = r at *
  cases r with
  | ok n w' =>
    cases n <;> simp only [Oper.upon] at h ⊢
    case value => exact hK _ _ h
    case skip => exact hK _ _ h
    case defer => exact hK _ _ h
    case enter f args =>
      refine Calls.mono h (fun e w'' he => ?_)
      cases e <;> first | exact hK _ _ he | exact False.elim he | (obtain ⟨_, _, hf⟩ := he; exact False.elim hf)
    case row => exact Rows.mono h (fun _ _ he => hK _ _ he)
  | halt x w' => cases x <;> simp only [Oper.upon] at h ⊢ <;> first | exact False.elim h | exact h

/-- All guards are open, all edges lead back, each operation but the last has one behind it that waits for it. -/
def cutB (md : Region.Mode) (l : List Oper) (n : Nat) : Bool :=
  decide (n + 1 = l.length) &&
  (l.all (fun o => o.guard.isNone) &&
  ((List.range l.length).all (fun k => ((l[k]?).map fun o => o.after.all fun e => decide (e.on < k)).getD true) &&
  (List.range n).all (fun j => (List.range l.length).any fun k => decide (j < k) && ((l[k]?).map fun o => o.after.any fun e => Region.binds md e && e.on == j).getD false)))

structure CutOk (md : Region.Mode) (l : List Oper) (n : Nat) : Prop where
  len : n + 1 = l.length
  guard : ∀ (k : Nat) o, l[k]? = some o → o.guard = none
  back : ∀ (k : Nat) o, l[k]? = some o → ∀ e ∈ o.after, e.on < k
  next : ∀ j, j < n → ∃ (k : Nat) (o : Oper), j < k ∧ l[k]? = some o ∧ ∃ e ∈ o.after, Region.binds md e = true ∧ e.on = j

theorem cutB_ok {l : List Oper} {n : Nat} (h : cutB md l n = true) : CutOk md l n := by
  unfold cutB at h
  simp only [Bool.and_eq_true, decide_eq_true_eq, List.all_eq_true, List.any_eq_true, List.mem_range] at h
  obtain ⟨h1, h2, h3, h4⟩ := h
  refine ⟨h1, fun k o ho => ?_, fun k o ho e he => ?_, fun j hj => ?_⟩
  · have := h2 o (List.mem_of_getElem? ho)
    simpa using this
  · have hk : k < l.length := (List.getElem?_eq_some_iff.1 ho).1
    have := h3 k hk
    rw [ho, Option.map_some, Option.getD_some] at this
    rw [Array.all_eq_true_iff_forall_mem] at this
    simpa using this e he
  · obtain ⟨k, hk, hjk, hx⟩ := h4 j hj
    cases ho : l[k]? with
    | none => rw [ho] at hx; simp at hx
    | some o =>
      rw [ho, Option.map_some, Option.getD_some, Array.any_eq_true'] at hx
      obtain ⟨e, he, hb⟩ := hx
      simp only [Bool.and_eq_true, beq_iff_eq] at hb
      exact ⟨k, o, hjk, ho, e, he, hb.1, hb.2⟩

/-- What has been listed is closed under waiting. -/
def Closed (md : Region.Mode) (l : List Oper) (L : Array Bool) : Prop :=
  ∀ (k : Nat) o, l[k]? = some o → L.getD k false = true → ∀ e ∈ o.after, Region.binds md e = true → L.getD e.on false = true

theorem getD_false_true {L : Array Bool} {j : Nat} (hj : j < L.size) (b : Bool) : L.getD j b = L.getD j (!b) := by
  simp [Array.getD, hj]

theorem closed_set {l : List Oper} {L : Array Bool} {i : Nat} (hc : Closed md l L) (hr : i ∈ Region.ready md l.toArray L) : Closed md l (L.setIfInBounds i true) := by
  intro k o ho hk e he hb
  obtain ⟨h0, oi, hoi, hall⟩ := mem_ready.1 hr
  by_cases hki : k = i
  · subst hki
    have : oi = o := by simpa [ho] using hoi.symm
    subst this
    exact getD_set_true (hall e he hb)
  · rw [getD_set_ne false (Ne.symm hki)] at hk
    exact getD_set_true (hc k o ho hk e he hb)

/-- When the last one may come up, all others have. -/
theorem cut_all {l : List Oper} {n : Nat} (ok : CutOk md l n) {L : Array Bool} (hc : Closed md l L) (hs : L.size = l.length) (hr : n ∈ Region.ready md l.toArray L) : ∀ j, j < n → L.getD j false = true := by
  obtain ⟨_, on, hon, hall⟩ := mem_ready.1 hr
  have key : ∀ d j, j + d = n → j < n → L.getD j false = true := by
    intro d
    induction d using Nat.strongRecOn with
    | _ d ih =>
      intro j hd hj
      obtain ⟨k, o, hjk, ho, e, he, hb, rfl⟩ := ok.next j hj
      have hk : k < l.length := (List.getElem?_eq_some_iff.1 ho).1
      by_cases hkn : k = n
      · subst hkn
        have : on = o := by simpa [ho] using hon.symm
        subst this
        exact hall e he hb
      · have hl := ok.len
        exact hc k o ho (ih (n - k) (by omega) k (by omega) (by omega)) e he hb
  exact fun j hj => key (n - j) j (by omega) hj

/-- While one has not come up, something may. -/
theorem cut_some {l : List Oper} {n : Nat} (ok : CutOk md l n) {L : Array Bool} (hs : L.size = l.length) {j : Nat} (hj : j < l.length) (hu : L.getD j false = false) : ∃ i, i ≤ j ∧ i ∈ Region.ready md l.toArray L := by
  induction j using Nat.strongRecOn with
  | _ j ih =>
    by_cases hx : ∃ e ∈ (l[j]).after, Region.binds md e = true ∧ L.getD e.on false = false
    · obtain ⟨e, he, hb, hf⟩ := hx
      have hlt := ok.back j _ (List.getElem?_eq_getElem hj) e he
      obtain ⟨i, hi, hr⟩ := ih e.on hlt (by omega) hf
      exact ⟨i, by omega, hr⟩
    · refine ⟨j, Nat.le_refl _, mem_ready.2 ⟨by rw [getD_false_true (by omega)]; exact hu, l[j], by simp [hj], fun e he hb => ?_⟩⟩
      cases hv : L.getD e.on false with
      | true => rfl
      | false => exact absurd ⟨e, he, hb, hv⟩ hx

theorem ready_head {l : List Oper} {n : Nat} (ok : CutOk md l n) {L M : Array Bool} (hs : L.size = l.length) (hm : M.size = n) (he : ∀ j, j < n → M.getD j false = L.getD j false) {i : Nat} (hi : i < n) :
    i ∈ Region.ready md l.toArray L ↔ i ∈ Region.ready md (l.take n).toArray M := by
  have hl := ok.len
  have e0 : (l.take n).toArray[i]? = l.toArray[i]? := by simp [List.getElem?_take, hi]
  rw [mem_ready, mem_ready, e0, getD_false_true (show i < L.size by omega), getD_false_true (show i < M.size by omega)]
  have h1 := he i hi
  simp only [Bool.not_true] at *
  rw [h1]
  refine and_congr_right fun _ => ⟨?_, ?_⟩
  · rintro ⟨o, ho, hall⟩
    refine ⟨o, ho, fun e hee hb => ?_⟩
    have hlt := ok.back i o (by simpa using ho) e hee
    rw [he _ (by omega)]; exact hall e hee hb
  · rintro ⟨o, ho, hall⟩
    refine ⟨o, ho, fun e hee hb => ?_⟩
    have hlt := ok.back i o (by simpa using ho) e hee
    rw [← he _ (by omega)]; exact hall e hee hb

theorem cut_any {l : List Oper} {n : Nat} {st : Oper} (ok : CutOk md l n) (hst : l[n]? = some st) : ∀ (fuel : Nat) (L M : Array Bool) (a : Act) (w : World), L.size = l.length → M.size = n →
    (∀ j, j < n → M.getD j false = L.getD j false) → L.getD n false = false → Closed md l L →
    wpAny P md (l.take n).toArray (CutPost P l.toArray Q st) fuel M a w → wpAny P md l.toArray Q (fuel + 1) L a w := by
  intro fuel
  induction fuel with
  | zero =>
    intro L M a w hs hm he hn hc h
    have hl := ok.len
    refine ⟨fun h0 => ?_, fun i hi => ?_⟩
    · obtain ⟨i, _, hr⟩ := cut_some ok hs (show n < l.length by omega) hn
      rw [h0] at hr; cases hr
    · have hil : i < l.length := by have := (mem_ready.1 hi).2; obtain ⟨o, ho, _⟩ := this; simpa using (Array.getElem?_eq_some_iff.1 ho).1
      by_cases hin : i = n
      · subst hin
        have hall := cut_all ok hc hs hi
        have hp : wpList P l.toArray Q [st] a w := h.2
        have hop : wpOp P l.toArray Q i (wpList P l.toArray Q []) a w := by unfold wpOp; simp only [List.getElem?_toArray, hst]; exact hp
        refine wpOp_mono (fun a' w' hq => ⟨?_, hq⟩) hop
        apply List.eq_nil_iff_forall_not_mem.2
        intro j hj
        obtain ⟨h0, o, ho, _⟩ := mem_ready.1 hj
        have hjl : j < l.length := by simpa using (Array.getElem?_eq_some_iff.1 ho).1
        by_cases hji : j = i
        · subst hji
          simp [Array.getD, hs, hjl] at h0
        · rw [getD_set_ne true (Ne.symm hji), getD_false_true (by omega)] at h0
          rw [show (!true) = false from rfl, hall j (by omega)] at h0
          cases h0
      · have := (ready_head ok hs hm he (show i < n by omega)).1 hi
        rw [h.1] at this; cases this
  | succ fuel ih =>
    intro L M a w hs hm he hn hc h
    have hl := ok.len
    refine ⟨fun h0 => ?_, fun i hi => ?_⟩
    · obtain ⟨i, _, hr⟩ := cut_some ok hs (show n < l.length by omega) hn
      rw [h0] at hr; cases hr
    · have hil : i < l.length := by have := (mem_ready.1 hi).2; obtain ⟨o, ho, _⟩ := this; simpa using (Array.getElem?_eq_some_iff.1 ho).1
      by_cases hin : i = n
      · subst hin
        have hall := cut_all ok hc hs hi
        have hnil : Region.ready md (l.take i).toArray M = [] := by
          apply List.eq_nil_iff_forall_not_mem.2
          intro j hj
          obtain ⟨h0, o, ho, _⟩ := mem_ready.1 hj
          have hjl : j < i := by
            have := (Array.getElem?_eq_some_iff.1 ho).1
            simp at this; omega
          rw [getD_false_true (by omega), show (!true) = false from rfl, he j hjl, hall j hjl] at h0
          cases h0
        have hp : wpList P l.toArray Q [st] a w := h.1 hnil
        have hop : wpOp P l.toArray Q i (wpList P l.toArray Q []) a w := by unfold wpOp; simp only [List.getElem?_toArray, hst]; exact hp
        refine wpOp_mono (fun a' w' hq => ?_) hop
        refine wpAny_done ?_ hq _
        apply List.eq_nil_iff_forall_not_mem.2
        intro j hj
        obtain ⟨h0, o, ho, _⟩ := mem_ready.1 hj
        have hjl : j < l.length := by simpa using (Array.getElem?_eq_some_iff.1 ho).1
        by_cases hji : j = i
        · subst hji
          simp [Array.getD, hs, hjl] at h0
        · rw [getD_set_ne true (Ne.symm hji), getD_false_true (by omega)] at h0
          rw [show (!true) = false from rfl, hall j (by omega)] at h0
          cases h0
      · have hin' : i < n := by omega
        have hri := (ready_head ok hs hm he hin').1 hi
        have h1 := h.2 i hri
        have e0 : (l.take n).toArray[i]? = l.toArray[i]? := by simp [List.getElem?_take, hin']
        obtain ⟨_, o, ho, _⟩ := mem_ready.1 hi
        have hg := ok.guard i o (by simpa using ho)
        unfold wpOp at h1 ⊢
        rw [e0] at h1
        simp only [ho] at h1 ⊢
        have hw1 : Region.wanted o (yielded (l.take n).toArray a.tmps) = true := by simp [Region.wanted, hg]
        have hw2 : Region.wanted o (yielded l.toArray a.tmps) = true := by simp [Region.wanted, hg]
        rw [if_pos hw1] at h1
        rw [if_pos hw2]
        rcases h1 with h1 | ⟨_, _, _, hf⟩
        · refine Or.inl (cut_oper h1 fun a' w' hk => ?_)
          refine ih (L.setIfInBounds i true) (M.setIfInBounds i true) a' w' (by simpa using hs) (by simpa using hm) (fun j hj => ?_) (by rw [getD_set_ne false hin]; exact hn) (closed_set hc hi) hk
          by_cases hji : j = i
          · subst hji
            simp [Array.getD, hs, hm, hil, hj]
          · rw [getD_set_ne false (Ne.symm hji), getD_set_ne false (Ne.symm hji)]; exact he j hj
        · exact False.elim hf

/-- The region's last operation cut off: the others are walked under S. -/
theorem wp_region_cut_held {S : World → Prop} {id : Nat} {l : List Oper} (n : Nat) (st : Oper) (hst : l[n]? = some st) {a : Act} {w : World} (hm : P.follows .mixedOrders = true) (hB : cutB .any l n = true) (hS : S w.drew)
    (h : S w.drew → wpAnyH P .any (l.take n).toArray (CutPost P l.toArray Q st) S n (Array.replicate n false) a w.drew) : (Code.region id l.toArray true).wp P Q a w := by
  have ok := cutB_ok hB
  have hl := ok.len
  refine wp_region_any hm ?_
  have hz : l.toArray.size = n + 1 := by simp; omega
  rw [hz]
  refine cut_any ok hst n _ (Array.replicate n false) a _ (by simp; omega) (by simp) (fun j hj => ?_) ?_ ?_ (wpAny_of_held _ _ _ _ (h hS))
  · simp [Array.getD, hj, show j < n + 1 by omega]
  · simp [Array.getD]
  · intro k o ho hk
    simp [Array.getD] at hk
end
end Go.Proofs.YtcifpfdlkpddeaaGreatDoor
