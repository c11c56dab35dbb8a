/- Plain lemmas that this seat's proofs share: what a law's row asks behind the call, readings of slices, and small facts on worlds. -/
import Derived.WalkKit
import Derived.WalkSpells
import Derived.WalkLawsBesides
import Derived.ProofKit
import Derived.OpenShut
import Derived.Deep.OwnRows
import Derived.Lib.SmallJoins
import Derived.Lib.Hide
set_option linter.unusedSimpArgs false
set_option linter.unusedVariables false
namespace Go.Proofs.YtcifpfdlkpddeaaGreatDoor
open Go.ChangeShapes Go.WideShapes Go.ChangeAt Go.RowKit

/-- All argument types can be read as data. -/
def typesOk (P : Program) (ts : List TypeId) : Bool := ts.all fun t => P.readableRec t && decide (t < P.types.size)

theorem trodAll_stays {H : Type} {enc : TypeId × Value → H} {P : Program} (hl : laidOutB P = true) {W W' : World} (hb : Below W.heap.size W W') :
    ∀ (ts : List TypeId) (vs : List Value) (ds : List (DataW H)) (ps : List MemPlace), typesOk P ts = true → (∀ x ∈ ps, x.block < W.heap.size) →
      DataW.TrodAll enc P W 0 (fun _ => true) true ts vs ds ps → DataW.TrodAll enc P W' 0 (fun b => decide (b < W.heap.size)) true ts vs ds ps
  | [], [], [], _, _, _, h => h
  | [], [], _ :: _, _, _, _, h => h.elim
  | [], _ :: _, _, _, _, _, h => h.elim
  | _ :: _, [], _, _, _, _, h => h.elim
  | _ :: _, _ :: _, [], _, _, _, h => h.elim
  | t :: ts, v :: vs, d :: ds, ps, ht, hlt, h => by
    obtain ⟨p, q, h1, h2, rfl⟩ := h
    simp only [typesOk, List.all_cons, Bool.and_eq_true, decide_eq_true_eq] at ht
    exact ⟨p, q, Below.trod hl ht.1.1 ht.1.2 h1 hb (fun x hx => hlt x (List.mem_append.2 (Or.inl hx))),
      trodAll_stays hl hb ts vs ds q ht.2 (fun x hx => hlt x (List.mem_append.2 (Or.inr hx))) h2, rfl⟩

/-- A law's row behind the call: it returned true, and nothing that was there has turned. -/
theorem law_post {H : Type} {enc : TypeId × Value → H} {P : Program} {f : Func} {s : ChangeSpec} {W W' : World} {args : Array Value} {ds gs : List (DataW H)} {before : List MemPlace} {tb : TypeId}
    (hl : laidOutB P = true) (hts : typesOk P f.params.toList = true) (hrt : f.resultTypes = #[tb]) (htb : P.underlying tb = some .bool) (hsv : s.vars = [])
    (hs : ∀ ds : List (DataW H), ds.length = f.params.size → s.fn H ds = { results := [.lit (.bool true)], args := ds })
    (hW : DataW.Whole enc P f.params.toList s.vars false W args.toList ds gs before) (hb : Below W.heap.size W W') :
    s.post enc P f false true false false W args (.bool true) W' := by
  have hW' := hW
  obtain ⟨p, q, hA, hV, rfl, hfz, hnd⟩ := hW
  rw [hsv] at hV
  obtain ⟨rfl, rfl⟩ := trodVars_none hV
  have hlen : ∀ (ts : List TypeId) (vs : List Value) (ds : List (DataW H)) (p : List MemPlace), DataW.TrodAll enc P W 0 (fun _ => true) true ts vs ds p → ds.length = ts.length := by
    intro ts
    induction ts with
    | nil => intro vs ds p h; cases vs <;> cases ds <;> first | rfl | exact h.elim
    | cons t ts ih =>
      intro vs ds p h
      cases vs with
      | nil => exact h.elim
      | cons v vs =>
        cases ds with
        | nil => exact h.elim
        | cons d ds => obtain ⟨p, q, _, h2, _⟩ := h; simp [ih vs ds q h2]
  have hd : ds.length = f.params.size := by have := hlen _ _ _ _ hA; simpa using this
  have hlt := hW'.lt
  refine ⟨ds, [], p ++ [], [], p, [], hW', ?_, ?_, ?_, hb.frame _, fun h => by cases h⟩
  · rw [List.append_nil, hs ds hd, hrt]
    exact trodAll_mk1 (shut_bool htb _)
  · rw [List.append_nil, hs ds hd]
    exact trodAll_stays hl hb _ _ _ _ hts (fun x hx => hlt x (by simpa using hx)) hA
  · rw [List.append_nil, hs ds hd, hsv]
    exact rfl


/-! ### Readings -/

/-- A slice of ints that reads as xs, wherever it lies. -/
def RdI (w : World) (v : Value) (xs : List Int) : Prop :=
  ∃ (a : Option Addr) (b off cap : Nat), v = .slice a xs.length cap ∧ xs.length ≤ maxLen ∧ (0 < xs.length → a = some ⟨b, off, none⟩) ∧ ∀ j x, xs[j]? = some x → w.cell? ⟨b, off + j, none⟩ = some (.int .i64 x)

/-- A slice of slices of ints that reads as rss. -/
def RdII (w : World) (v : Value) (rss : List (List Int)) : Prop :=
  ∃ (a : Option Addr) (b off cap : Nat), v = .slice a rss.length cap ∧ rss.length ≤ maxLen ∧ (0 < rss.length → a = some ⟨b, off, none⟩) ∧
    ∀ j rs, rss[j]? = some rs → ∃ v', w.cell? ⟨b, off + j, none⟩ = some v' ∧ RdI w v' rs

theorem RdI.kept {w w' : World} {v : Value} {xs : List Int} (h : RdI w v xs) {B : Nat} (hB : w.heap.size ≤ B) (hb : Below B w w') : RdI w' v xs := by
  obtain ⟨a, b, off, cap, hv, hm, ha, hc⟩ := h
  refine ⟨a, b, off, cap, hv, hm, ha, fun j x hx => ?_⟩
  have h1 := hc j x hx
  have h2 := World.block_lt_of_cell? _ _ h1
  rw [hb.cell (p := ⟨b, off + j, none⟩) (Nat.lt_of_lt_of_le h2 hB)]
  exact h1

theorem RdII.kept {w w' : World} {v : Value} {rss : List (List Int)} (h : RdII w v rss) {B : Nat} (hB : w.heap.size ≤ B) (hb : Below B w w') : RdII w' v rss := by
  obtain ⟨a, b, off, cap, hv, hm, ha, hc⟩ := h
  refine ⟨a, b, off, cap, hv, hm, ha, fun j rs hx => ?_⟩
  obtain ⟨v', h1, h2⟩ := hc j rs hx
  have h3 := World.block_lt_of_cell? _ _ h1
  refine ⟨v', ?_, h2.kept hB hb⟩
  rw [hb.cell (p := ⟨b, off + j, none⟩) (Nat.lt_of_lt_of_le h3 hB)]
  exact h1

/-- Nothing but draws. -/
def Drw (w w' : World) : Prop := ∃ n, w' = w.drewN n
theorem Drw.refl (w : World) : Drw w w := ⟨0, rfl⟩
theorem Drw.mk (w : World) (n : Nat) : Drw w (w.drewN n) := ⟨n, rfl⟩
theorem Drw.trans {a b c : World} (h : Drw a b) (k : Drw b c) : Drw a c := by
  obtain ⟨n, rfl⟩ := h
  obtain ⟨m, rfl⟩ := k
  exact ⟨_, World.drewN_drewN _ _ _⟩
theorem Drw.below {w w' : World} (h : Drw w w') (B : Nat) : Below B w w' := by
  obtain ⟨n, rfl⟩ := h
  exact below_drewN (Below.refl _ _) n
theorem Drw.cell {w w' : World} (h : Drw w w') (a : Addr) : w'.cell? a = w.cell? a := by
  obtain ⟨n, rfl⟩ := h
  rfl
theorem Drw.heap {w w' : World} (h : Drw w w') : w'.heap = w.heap := by
  obtain ⟨n, rfl⟩ := h
  rfl
theorem RdI.drw {w w' : World} {v : Value} {xs : List Int} (h : RdI w v xs) (d : Drw w w') : RdI w' v xs := h.kept (Nat.le_refl _) (d.below _)
theorem RdII.drw {w w' : World} {v : Value} {rss : List (List Int)} (h : RdII w v rss) (d : Drw w w') : RdII w' v rss := h.kept (Nat.le_refl _) (d.below _)
theorem quietDrw {P : Program} {f : FuncId} {args : Array Value} {w : World} {n : Nat} {v : Value}
    (h : Calls P f args (w.drewN n) fun e w' => e = .returned v ∧ Drw (w.drewN n) w') : Calls P f args (w.drewN n) fun e w'' => e = .returned v ∧ ∃ m, w'' = w.drewN m :=
  h.mono fun _ _ ⟨he, m, hm⟩ => ⟨he, n + m, by rw [hm, World.drewN_drewN]⟩
theorem quietSame {P : Program} {f : FuncId} {args : Array Value} {w : World} {n : Nat} {v : Value}
    (h : Calls P f args (w.drewN n) fun e w' => e = .returned v ∧ w.drewN n = w') : Calls P f args (w.drewN n) fun e w'' => e = .returned v ∧ ∃ m, w'' = w.drewN m :=
  h.mono fun _ _ ⟨he, hm⟩ => ⟨he, n, hm.symm⟩

/-! ### Memory of the call's own, its blocks from lo on and below hi -/

def OwnV (T lo hi : Nat) (w : World) (v : Value) (vs : List Value) : Prop :=
  w.ownsRow lo T 1 v vs.length vs ∧ ∀ g, v.ownBlock = some g → g < hi

def ints (xs : List Int) : List Value := xs.map (Value.int .i64)
@[simp] theorem ints_length (xs : List Int) : (ints xs).length = xs.length := by simp [ints]

structure OwnII (T2 T1 lo hi : Nat) (w : World) (v : Value) (rss : List (List Int)) (vs : List Value) : Prop where
  len : vs.length = rss.length
  top : OwnV T2 lo hi w v vs
  row : ∀ (i : Nat) (v' : Value) (rs : List Int), vs[i]? = some v' → rss[i]? = some rs → OwnV T1 lo hi w v' (ints rs)
  apart : ∀ (i j : Nat) (a b : Value) (g : Nat), vs[i]? = some a → vs[j]? = some b → a.ownBlock = some g → b.ownBlock = some g → i = j
  off : ∀ (i : Nat) (a : Value) (g : Nat), vs[i]? = some a → a.ownBlock = some g → v.ownBlock ≠ some g

theorem OwnV.lt {T lo hi : Nat} {w : World} {v : Value} {vs : List Value} (h : OwnV T lo hi w v vs) : ∀ g, v.ownBlock = some g → lo ≤ g ∧ g < hi ∧ g < w.heap.size :=
  fun g hg => ⟨(h.1.lt g hg).1, h.2 g hg, (h.1.lt g hg).2⟩

theorem OwnV.of_block {T lo hi : Nat} {w w' : World} {v : Value} {vs : List Value} (h : OwnV T lo hi w v vs)
    (hs : ∀ g, v.ownBlock = some g → w'.heap[g]? = w.heap[g]?) : OwnV T lo hi w' v vs := by
  obtain ⟨⟨h1, h2⟩, h3⟩ := h
  refine ⟨⟨h1, ?_⟩, h3⟩
  rcases h2 with h2 | ⟨g, cap, cur, rfl, hb, hh, r⟩
  · exact Or.inl h2
  · exact Or.inr ⟨g, cap, cur, rfl, hb, by rw [hs g rfl]; exact hh, r⟩

theorem OwnV.kept {T lo hi B : Nat} {w w' : World} {v : Value} {vs : List Value} (h : OwnV T lo hi w v vs) (hb : Below B w w') (hB : hi ≤ B) : OwnV T lo hi w' v vs :=
  h.of_block fun g hg => hb.block g (Nat.lt_of_lt_of_le (h.2 g hg) hB)

theorem OwnV.weaken {T lo hi lo' hi' : Nat} {w : World} {v : Value} {vs : List Value} (h : OwnV T lo hi w v vs) (h1 : lo' ≤ lo) (h2 : hi ≤ hi') : OwnV T lo' hi' w v vs := by
  obtain ⟨⟨h3, h4⟩, h5⟩ := h
  refine ⟨⟨h3, ?_⟩, fun g hg => Nat.lt_of_lt_of_le (h5 g hg) h2⟩
  rcases h4 with h4 | ⟨g, cap, cur, hv, hb, r⟩
  · exact Or.inl h4
  · exact Or.inr ⟨g, cap, cur, hv, Nat.le_trans h1 hb, r⟩

theorem OwnV.nil (T lo hi : Nat) (w : World) : OwnV T lo hi w (.slice none 0 0) [] :=
  ⟨World.ownsRow_nil _ _ _ _, fun g hg => by simp [Value.ownBlock] at hg⟩

/-- Its shape: an address in a block, its cells. -/
theorem OwnV.shape {T lo hi : Nat} {w : World} {v : Value} {vs : List Value} (h : OwnV T lo hi w v vs) :
    ∃ (a : Option Addr) (g cap : Nat), v = .slice a vs.length cap ∧ vs.length ≤ maxLen ∧ (0 < vs.length → a = some ⟨g, 0, none⟩ ∧ lo ≤ g ∧ g < hi ∧ g < w.heap.size) ∧
      (∀ j u, vs[j]? = some u → w.cell? ⟨g, j, none⟩ = some u) ∧ (0 < vs.length → ∀ j, w.frozen? ⟨g, j, none⟩ = false) := by
  have hlt := h.lt
  obtain ⟨⟨h1, h2⟩, h3⟩ := h
  rcases h2 with ⟨rfl, hn⟩ | ⟨g, cap, cur, rfl, hb, hh, hnc, hcm, hcs, htk⟩
  · refine ⟨none, 0, 0, by rw [hn], by rw [hn]; exact Nat.zero_le _, fun hp => by omega, fun j u hu => ?_, fun hp => by omega⟩
    have : vs = [] := List.eq_nil_of_length_eq_zero hn
    subst this
    simp at hu
  · refine ⟨some ⟨g, 0, none⟩, g, cap, rfl, Nat.le_trans hnc hcm, fun _ => ⟨rfl, hlt g rfl⟩, fun j u hu => ?_, fun _ j => by simp [World.frozen?, hh]⟩
    rw [Nat.mul_one] at htk
    rw [← htk, List.getElem?_take] at hu
    split at hu
    · rw [cell_of_row w g j cur T (0, 0) hh]; simpa using hu
    · cases hu

theorem OwnV.rdI {T lo hi : Nat} {w : World} {v : Value} {xs : List Int} (h : OwnV T lo hi w v (ints xs)) : RdI w v xs := by
  obtain ⟨a, g, cap, hv, hm, ha, hc, _⟩ := h.shape
  rw [ints_length] at hv hm ha
  exact ⟨a, g, 0, cap, hv, hm, fun hp => (ha hp).1, fun j x hx => by rw [Nat.zero_add]; exact hc j _ (by simp [ints, hx])⟩

theorem OwnII.rdII {T2 T1 lo hi : Nat} {w : World} {v : Value} {rss : List (List Int)} {vs : List Value} (h : OwnII T2 T1 lo hi w v rss vs) : RdII w v rss := by
  obtain ⟨a, g, cap, hv, hm, ha, hc, _⟩ := h.top.shape
  rw [h.len] at hv hm ha
  refine ⟨a, g, 0, cap, hv, hm, fun hp => (ha hp).1, fun j rs hx => ?_⟩
  have hj : j < vs.length := by rw [h.len]; exact (List.getElem?_eq_some_iff.1 hx).1
  have hvj : vs[j]? = some vs[j] := List.getElem?_eq_getElem hj
  exact ⟨vs[j], by rw [Nat.zero_add]; exact hc j _ hvj, (h.row j _ _ hvj hx).rdI⟩

theorem OwnII.of_block {T2 T1 lo hi : Nat} {w w' : World} {v : Value} {rss : List (List Int)} {vs : List Value} (h : OwnII T2 T1 lo hi w v rss vs)
    (hs : ∀ g, lo ≤ g → g < hi → w'.heap[g]? = w.heap[g]?) : OwnII T2 T1 lo hi w' v rss vs :=
  ⟨h.len, h.top.of_block fun g hg => hs g (h.top.lt g hg).1 (h.top.lt g hg).2.1,
   fun i v' rs hv hr => (h.row i v' rs hv hr).of_block fun g hg => hs g ((h.row i v' rs hv hr).lt g hg).1 ((h.row i v' rs hv hr).lt g hg).2.1, h.apart, h.off⟩

theorem OwnII.kept {T2 T1 lo hi B : Nat} {w w' : World} {v : Value} {rss : List (List Int)} {vs : List Value} (h : OwnII T2 T1 lo hi w v rss vs) (hb : Below B w w') (hB : hi ≤ B) : OwnII T2 T1 lo hi w' v rss vs :=
  h.of_block fun g _ hg => hb.block g (Nat.lt_of_lt_of_le hg hB)

theorem OwnII.weaken {T2 T1 lo hi lo' hi' : Nat} {w : World} {v : Value} {rss : List (List Int)} {vs : List Value} (h : OwnII T2 T1 lo hi w v rss vs) (h1 : lo' ≤ lo) (h2 : hi ≤ hi') : OwnII T2 T1 lo' hi' w v rss vs :=
  ⟨h.len, h.top.weaken h1 h2, fun i v' rs hv hr => (h.row i v' rs hv hr).weaken h1 h2, h.apart, h.off⟩

theorem OwnII.nil (T2 T1 lo hi : Nat) (w : World) : OwnII T2 T1 lo hi w (.slice none 0 0) [] [] :=
  ⟨rfl, OwnV.nil _ _ _ _, fun i v' rs h => by simp at h, fun i j a b g h => by simp at h, fun i a g h => by simp at h⟩

/-- What a write within [lo, hi) leaves. -/
structure Mid (lo hi : Nat) (w w' : World) : Prop where
  os : w'.os = w.os
  tape : w'.tape = w.tape
  output : w'.output = w.output
  size : w.heap.size ≤ w'.heap.size
  block : ∀ k, k < w.heap.size → (k < lo ∨ hi ≤ k) → w'.heap[k]? = w.heap[k]?

theorem Mid.refl (lo hi : Nat) (w : World) : Mid lo hi w w := ⟨rfl, rfl, rfl, Nat.le_refl _, fun _ _ _ => rfl⟩
theorem Mid.trans {lo hi : Nat} {a b c : World} (h : Mid lo hi a b) (k : Mid lo hi b c) : Mid lo hi a c :=
  ⟨k.os.trans h.os, k.tape.trans h.tape, k.output.trans h.output, Nat.le_trans h.size k.size,
    fun i h1 h2 => (k.block i (Nat.lt_of_lt_of_le h1 h.size) h2).trans (h.block i h1 h2)⟩
theorem Mid.below {lo hi B : Nat} {w w' : World} (h : Mid lo hi w w') (h1 : B ≤ lo) (h2 : B ≤ w.heap.size) : Below B w w' :=
  ⟨h.os, h.tape, h.output, h.size, fun k hk => h.block k (by omega) (Or.inl (by omega))⟩
theorem Mid.of_grown {lo hi : Nat} {w w' : World} {row : Option Nat} (h : w.grownBy w' row) (hr : ∀ g, row = some g → lo ≤ g ∧ g < hi) : Mid lo hi w w' :=
  ⟨h.os, h.tape, h.output, h.size, fun k hk hx => h.block k hk fun e => by have := hr k e.symm; omega⟩
theorem Mid.of_below {lo hi B : Nat} {w w' : World} (h : Below B w w') (hB : w.heap.size ≤ B) : Mid lo hi w w' :=
  ⟨h.os, h.tape, h.output, h.size, fun k hk _ => h.block k (by omega)⟩
theorem Mid.mono {lo hi lo' hi' : Nat} {w w' : World} (h : Mid lo hi w w') (h1 : lo' ≤ lo) (h2 : hi ≤ hi') : Mid lo' hi' w w' :=
  ⟨h.os, h.tape, h.output, h.size, fun k hk hx => h.block k hk (by omega)⟩

theorem OwnV.mid {T lo hi lo' hi' : Nat} {w w' : World} {v : Value} {vs : List Value} (h : OwnV T lo hi w v vs) (hm : Mid lo' hi' w w') (hd : hi ≤ lo' ∨ hi' ≤ lo) : OwnV T lo hi w' v vs :=
  h.of_block fun g hg => hm.block g (h.lt g hg).2.2 (by have := h.lt g hg; omega)

theorem OwnII.mid {T2 T1 lo hi lo' hi' : Nat} {w w' : World} {v : Value} {rss : List (List Int)} {vs : List Value} (h : OwnII T2 T1 lo hi w v rss vs) (hm : Mid lo' hi' w w') (hd : hi ≤ lo' ∨ hi' ≤ lo) : OwnII T2 T1 lo hi w' v rss vs :=
  ⟨h.len, h.top.mid hm hd, fun i v' rs hv hr => (h.row i v' rs hv hr).mid hm hd, h.apart, h.off⟩


theorem OwnV.set {T lo hi : Nat} {w : World} {v : Value} {vs : List Value} (h : OwnV T lo hi w v vs) {g j : Nat} (hg : v.ownBlock = some g) (_ : j < vs.length) (u : Value) :
    OwnV T lo hi (w.setCell ⟨g, j, none⟩ u) v (vs.set j u) := by
  obtain ⟨⟨h1, h2⟩, h3⟩ := h
  refine ⟨⟨by simp, ?_⟩, h3⟩
  rcases h2 with ⟨rfl, hn⟩ | ⟨g', cap, cur, rfl, hb, hh, hnc, hcm, hcs, htk⟩
  · simp [Value.ownBlock] at hg
  · simp only [Value.ownBlock, Option.some.injEq] at hg
    subst hg
    refine Or.inr ⟨g', cap, cur.setIfInBounds j u, by rw [List.length_set], hb, ?_, by rw [List.length_set]; exact hnc, hcm, by simpa using hcs, ?_⟩
    · simp [World.setCell, Array.getElem?_modify, hh]
    · rw [List.length_set, Nat.mul_one]
      rw [Nat.mul_one] at htk
      rw [Array.toList_setIfInBounds, List.take_set, htk]

theorem grown_setCell (w : World) (g j : Nat) (u : Value) : w.grownBy (w.setCell ⟨g, j, none⟩ u) (some g) :=
  ⟨rfl, rfl, rfl, by simp [World.setCell], fun k _ hne => Below.heap_setCell _ _ _ _ (fun e => hne (by rw [e]))⟩
theorem grown_refl (w : World) (r : Option Nat) : w.grownBy w r := ⟨rfl, rfl, rfl, Nat.le_refl _, fun _ _ _ => rfl⟩
theorem grown_trans {a b c : World} {r : Option Nat} (h : a.grownBy b r) (k : b.grownBy c r) : a.grownBy c r :=
  ⟨k.os.trans h.os, k.tape.trans h.tape, k.output.trans h.output, Nat.le_trans h.size k.size, fun i hi hr => (k.block i (Nat.lt_of_lt_of_le hi h.size) hr).trans (h.block i hi hr)⟩

theorem ret_bool {a b : Bool} (h : a = b) : Ending.returned (.bool a) = .returned (.bool b) := by rw [h]
theorem ret_int {k : IntKind} {a b : Int} (h : a = b) : Ending.returned (.int k a) = .returned (.int k b) := by rw [h]
theorem ret_val {a b : Value} (h : a = b) : Ending.returned a = .returned b := by rw [h]

theorem lists_ne {α : Type} [DecidableEq α] {xs ys : List α} {k : Nat} (h1 : k < xs.length) (h2 : k < ys.length) (h : ¬ xs[k] = ys[k]) : false = decide (xs = ys) := by
  symm
  apply decide_eq_false
  intro e
  subst e
  exact h rfl
theorem lists_len {α : Type} [DecidableEq α] {xs ys : List α} (h : ¬ xs.length = ys.length) : false = decide (xs = ys) := by
  symm
  apply decide_eq_false
  intro e
  subst e
  exact h rfl
theorem lists_eq {α : Type} [DecidableEq α] {xs ys : List α} (hl : xs.length = ys.length) (h : ∀ j, j < xs.length → xs[j]? = ys[j]?) : true = decide (xs = ys) := by
  symm
  apply decide_eq_true
  apply List.ext_getElem?
  intro j
  by_cases hj : j < xs.length
  · exact h j hj
  · rw [List.getElem?_eq_none (by omega), List.getElem?_eq_none (by omega)]

/-- Consecutive numbers. -/
def marks (k : Int) (n : Nat) : List Int := List.map (fun j : Nat => k + (j : Int)) (List.range n)
@[simp] theorem marks_length (k : Int) (n : Nat) : (marks k n).length = n := by simp [marks]
theorem marks_get (k : Int) (n j : Nat) (h : j < n) : (marks k n)[j]? = some (k + (j : Int)) := by simp [marks, h]


def sumLen (rss : List (List Int)) : Nat := (rss.map List.length).sum
theorem sumLen_take (rss : List (List Int)) (k : Nat) (rs : List Int) (h : rss[k]? = some rs) : sumLen (rss.take (k + 1)) = sumLen (rss.take k) + rs.length := by
  simp [sumLen, List.take_add_one, h]
theorem sumLen_take_le (rss : List (List Int)) (k : Nat) : sumLen (rss.take k) ≤ sumLen rss := by
  have h : sumLen rss = sumLen (rss.take k) + sumLen (rss.drop k) := by
    have : rss = rss.take k ++ rss.drop k := (List.take_append_drop k rss).symm
    unfold sumLen
    rw [← List.sum_append, ← List.map_append, ← this]
  omega
theorem sumLen_row (rss : List (List Int)) (k : Nat) (rs : List Int) (h : rss[k]? = some rs) : sumLen (rss.take k) + rs.length ≤ sumLen rss := by
  rw [← sumLen_take rss k rs h]
  exact sumLen_take_le rss (k + 1)
theorem getD_some {α : Type} (l : List α) (j : Nat) (d x : α) (h : l[j]? = some x) : l.getD j d = x := by
  rw [List.getD_eq_getElem?_getD, h]; rfl

def markRows (k : Int) (rss : List (List Int)) : List (List Int) := List.map (fun j : Nat => marks (k + (sumLen (rss.take j) : Int)) (rss.getD j []).length) (List.range rss.length)
@[simp] theorem markRows_length (k : Int) (rss : List (List Int)) : (markRows k rss).length = rss.length := by simp [markRows]
theorem markRows_get (k : Int) (rss : List (List Int)) (j : Nat) (rs : List Int) (h : rss[j]? = some rs) : (markRows k rss)[j]? = some (marks (k + (sumLen (rss.take j) : Int)) rs.length) := by
  obtain ⟨hj, rfl⟩ := List.getElem?_eq_some_iff.1 h
  simp [markRows, hj]
theorem eq_of_get {α : Type} {xs ys : List α} (hl : xs.length = ys.length) (h : ∀ j, j < xs.length → xs[j]? = ys[j]?) : xs = ys := by
  apply List.ext_getElem?
  intro j
  by_cases hj : j < xs.length
  · exact h j hj
  · rw [List.getElem?_eq_none (by omega), List.getElem?_eq_none (by omega)]

/-! ### Rows of rows: a store of a new row -/

theorem OwnII.rowChanged {T2 T1 lo hi : Nat} {w w' : World} {v : Value} {rss : List (List Int)} {vs : List Value} (h : OwnII T2 T1 lo hi w v rss vs) {j : Nat} {v' : Value} {rs : List Int}
    (hv : vs[j]? = some v') (hg : w.grownBy w' v'.ownBlock) (hn : OwnV T1 lo hi w' v' (ints rs)) : OwnII T2 T1 lo hi w' v (rss.set j rs) vs := by
  refine ⟨by rw [List.length_set]; exact h.len, h.top.of_block fun g hgv => hg.block g (h.top.lt g hgv).2.2 (fun e => h.off j v' g hv e.symm hgv), ?_, h.apart, h.off⟩
  intro i u rs' hu hr
  rw [List.getElem?_set] at hr
  by_cases e : j = i
  · subst e
    have hjl : j < rss.length := by rw [← h.len]; exact (List.getElem?_eq_some_iff.1 hv).1
    rw [if_pos rfl, if_pos hjl] at hr
    rw [hv] at hu
    cases hu; cases hr
    exact hn
  · rw [if_neg e] at hr
    have h1 := h.row i u rs' hu hr
    exact h1.of_block fun g hgu => hg.block g (h1.lt g hgu).2.2 (fun e' => e (h.apart j i v' u g hv hu e'.symm hgu))


theorem OwnII.setRow {T2 T1 lo hi hi' m : Nat} {w : World} {v : Value} {rss : List (List Int)} {vs : List Value} (h : OwnII T2 T1 lo hi w v rss vs) {g k : Nat} (hg : v.ownBlock = some g) (hk : k < vs.length)
    {v' : Value} {rs : List Int} (hv' : OwnV T1 m hi' w v' (ints rs)) (hm : hi ≤ m) (hlo : lo ≤ m) (hh : hi ≤ hi') :
    OwnII T2 T1 lo hi' (w.setCell ⟨g, k, none⟩ v') v (rss.set k rs) (vs.set k v') := by
  have hgl := h.top.lt g hg
  have hother : ∀ g', g' ≠ g → (w.setCell ⟨g, k, none⟩ v').heap[g']? = w.heap[g']? := fun g' hne => Below.heap_setCell _ _ _ _ hne
  refine ⟨by simp [h.len], (h.top.set hg hk v').weaken (Nat.le_refl _) hh, ?_, ?_, ?_⟩
  · intro i u rs' hu hr
    rw [List.getElem?_set] at hu hr
    by_cases e : k = i
    · subst e
      rw [if_pos rfl, if_pos hk] at hu
      rw [if_pos rfl, if_pos (by rw [← h.len]; exact hk)] at hr
      cases hu; cases hr
      exact (hv'.of_block fun g' hg' => hother g' (by have := hv'.lt g' hg'; omega)).weaken hlo (Nat.le_refl _)
    · rw [if_neg e] at hu hr
      have h1 := h.row i u rs' hu hr
      exact (h1.of_block fun g' hg' => hother g' (fun e' => h.off i u g' hu hg' (by rw [hg, e']))).weaken (Nat.le_refl _) hh
  · intro i j a b g' ha hb hga hgb
    rw [List.getElem?_set] at ha hb
    by_cases e1 : k = i <;> by_cases e2 : k = j
    · omega
    · rw [if_pos e1, if_pos hk] at ha
      rw [if_neg e2] at hb
      cases ha
      have hr : (rss[j]?).isSome := by
        have : j < vs.length := (List.getElem?_eq_some_iff.1 hb).1
        rw [h.len] at this
        simp [this]
      obtain ⟨rs', hr⟩ := Option.isSome_iff_exists.1 hr
      have h1 := (h.row j b rs' hb hr).lt g' hgb
      have h2 := hv'.lt g' hga
      omega
    · rw [if_pos e2, if_pos hk] at hb
      rw [if_neg e1] at ha
      cases hb
      have hr : (rss[i]?).isSome := by
        have : i < vs.length := (List.getElem?_eq_some_iff.1 ha).1
        rw [h.len] at this
        simp [this]
      obtain ⟨rs', hr⟩ := Option.isSome_iff_exists.1 hr
      have h1 := (h.row i a rs' ha hr).lt g' hga
      have h2 := hv'.lt g' hgb
      omega
    · rw [if_neg e1] at ha
      rw [if_neg e2] at hb
      exact h.apart i j a b g' ha hb hga hgb
  · intro i a g' ha hga
    rw [List.getElem?_set] at ha
    by_cases e : k = i
    · rw [if_pos e, if_pos hk] at ha
      cases ha
      intro hx
      have h1 := h.top.lt g' hx
      have h2 := hv'.lt g' hga
      omega
    · rw [if_neg e] at ha
      exact h.off i a g' ha hga

/-- What make([][]int, n) lays. -/
theorem OwnII.made (T2 T1 n : Nat) (w : World) (hn : n ≤ maxLen) :
    OwnII T2 T1 w.heap.size (w.heap.size + 1) (w.alloc (.cells (madeCells #[.slice none 0 0] n) T2)) (.slice (some ⟨w.heap.size, 0, none⟩) n n) (List.replicate n []) (List.replicate n (.slice none 0 0)) := by
  refine ⟨by simp, ⟨⟨by simp, Or.inr ⟨w.heap.size, n, madeCells #[.slice none 0 0] n, by simp, Nat.le_refl _, heap_alloc_new w _, by simp, hn, by simp [size_madeCells], ?_⟩⟩, fun g hg => by simp [Value.ownBlock] at hg; omega⟩, ?_, ?_, ?_⟩
  · apply List.ext_getElem?
    intro j
    rw [List.getElem?_take, List.length_replicate, Nat.mul_one]
    by_cases hj : j < n
    · rw [if_pos hj]
      simp [madeCells, hj, Nat.mod_one]
    · rw [if_neg hj]
      simp [hj]
  · intro i v' rs hv hr
    have h1 := List.eq_of_mem_replicate (List.mem_of_getElem? hv)
    have h2 := List.eq_of_mem_replicate (List.mem_of_getElem? hr)
    subst h1 h2
    exact OwnV.nil _ _ _ _
  · intro i j a b g ha _ hga _
    have h1 := List.eq_of_mem_replicate (List.mem_of_getElem? ha)
    subst h1
    simp [Value.ownBlock] at hga
  · intro i a g ha hga
    have h1 := List.eq_of_mem_replicate (List.mem_of_getElem? ha)
    subst h1
    simp [Value.ownBlock] at hga


/-! ### Boxes -/
structure BoxD where
  X : Int
  Y : Int
  Whole : Int
  Rows : List (List Int)
  deriving DecidableEq

theorem bcell {B : Nat} {w w1 : World} (hb : Below B w w1) : (∀ b o, b < B → w1.cell? ⟨b, o, none⟩ = w.cell? ⟨b, o, none⟩) ∧ (∀ b o, b < B → w1.frozen? ⟨b, o, none⟩ = w.frozen? ⟨b, o, none⟩) :=
  ⟨fun b o h => hb.cell (p := ⟨b, o, none⟩) h, fun b o h => hb.frozen (p := ⟨b, o, none⟩) h⟩

theorem OwnII.setCell_off {T2 T1 lo hi : Nat} {w : World} {v : Value} {rss : List (List Int)} {vs : List Value} (h : OwnII T2 T1 lo hi w v rss vs) {p : Addr} (hp : p.block < lo ∨ hi ≤ p.block) (u : Value) : OwnII T2 T1 lo hi (w.setCell p u) v rss vs :=
  h.of_block fun g h1 h2 => Below.heap_setCell _ _ _ _ (by omega)
theorem OwnV.setCell_off {T lo hi : Nat} {w : World} {v : Value} {vs : List Value} (h : OwnV T lo hi w v vs) {p : Addr} (hp : p.block < lo ∨ hi ≤ p.block) (u : Value) : OwnV T lo hi (w.setCell p u) v vs :=
  h.of_block fun g hg => Below.heap_setCell _ _ _ _ (by have := h.lt g hg; omega)


theorem BoxD.ne_X {a b : BoxD} (h : ¬ a.X = b.X) : false = decide (a = b) := by
  symm; apply decide_eq_false; intro e; exact h (by rw [e])
theorem BoxD.ne_Y {a b : BoxD} (h : ¬ a.Y = b.Y) : false = decide (a = b) := by
  symm; apply decide_eq_false; intro e; exact h (by rw [e])
theorem BoxD.ne_W {a b : BoxD} (h : ¬ a.Whole = b.Whole) : false = decide (a = b) := by
  symm; apply decide_eq_false; intro e; exact h (by rw [e])
theorem BoxD.eq_of {a b : BoxD} (h1 : a.X = b.X) (h2 : a.Y = b.Y) (h3 : a.Whole = b.Whole) : decide (a.Rows = b.Rows) = decide (a = b) := by
  cases a; cases b; simp only at h1 h2 h3; subst h1 h2 h3; simp

end Go.Proofs.YtcifpfdlkpddeaaGreatDoor
