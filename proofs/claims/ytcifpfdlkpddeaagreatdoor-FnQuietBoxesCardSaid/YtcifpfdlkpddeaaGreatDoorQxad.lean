/- newBox: the contract of the program's maker of boxes, for any numbers that a function hands back. What holds while a box is filled row by row. -/
import Derived.Test.YtcifpfdlkpddeaaGreatDoorQxab
import Derived.Test.YtcifpfdlkpddeaaGreatDoorQxac
set_option linter.unusedSimpArgs false
set_option linter.unusedVariables false
namespace Go.Proofs.YtcifpfdlkpddeaaGreatDoor
open Go.RowKit

/-- What holds while newBox fills the box: n rows are made. -/
structure NewRel (w wr : World) (x y whole : Int) (rss : List (List Int)) (a : Option Addr) (c : Nat) (vs : List Value) : Prop where
  below : Below w.heap.size w wr
  size : w.heap.size + 2 ≤ wr.heap.size
  ret : wr.heap[w.heap.size]? = some (.cells #[.int .i64 0, .int .i64 0, .int .i64 0, .slice none 0 0] 26 (0, 0))
  box : wr.heap[w.heap.size + 1]? = some (.cells #[.int .i64 x, .int .i64 y, .int .i64 whole, .slice a rss.length c] 26 (0, 0))
  rows : OwnII 33 3 (w.heap.size + 2) wr.heap.size wr (.slice a rss.length c) rss vs

theorem NewRel.later {w wr wr' : World} {x y whole : Int} {rss : List (List Int)} {a : Option Addr} {c : Nat} {vs : List Value} (h : NewRel w wr x y whole rss a c vs) (hb : Below wr.heap.size wr wr') : NewRel w wr' x y whole rss a c vs := by
  have := h.size
  exact ⟨h.below.trans (hb.mono (by omega)), by have := hb.size; omega, by rw [hb.block _ (by omega)]; exact h.ret, by rw [hb.block _ (by omega)]; exact h.box, (h.rows.kept hb (Nat.le_refl _)).weaken (Nat.le_refl _) hb.size⟩

/-- The cells of the box under construction, as the walk asks for them. -/
theorem NewRel.cells {w wr : World} {x y whole : Int} {rss : List (List Int)} {a : Option Addr} {c : Nat} {vs : List Value} (h : NewRel w wr x y whole rss a c vs) :
    (wr.cell? ⟨w.heap.size + 1, 0, none⟩ = some (.int .i64 x) ∧ wr.cell? ⟨w.heap.size + 1, 1, none⟩ = some (.int .i64 y) ∧ wr.cell? ⟨w.heap.size + 1, 2, none⟩ = some (.int .i64 whole) ∧ wr.cell? ⟨w.heap.size + 1, 3, none⟩ = some (.slice a rss.length c)) ∧
    (∀ o, wr.frozen? ⟨w.heap.size + 1, o, none⟩ = false) ∧
    (wr.cell? ⟨w.heap.size, 0, none⟩ = some (.int .i64 0) ∧ wr.cell? ⟨w.heap.size, 1, none⟩ = some (.int .i64 0) ∧ wr.cell? ⟨w.heap.size, 2, none⟩ = some (.int .i64 0) ∧ wr.cell? ⟨w.heap.size, 3, none⟩ = some (.slice none 0 0)) ∧
    (∀ o, wr.frozen? ⟨w.heap.size, o, none⟩ = false) := by
  refine ⟨⟨?_, ?_, ?_, ?_⟩, fun o => ?_, ⟨?_, ?_, ?_, ?_⟩, fun o => ?_⟩ <;> simp [World.cell?, World.frozen?, h.box, h.ret]

theorem NewRel.start (w : World) (x y whole : Int) : NewRel w ((w.alloc (.cells #[.int .i64 0, .int .i64 0, .int .i64 0, .slice none 0 0] 26)).alloc (.cells #[.int .i64 x, .int .i64 y, .int .i64 whole, .slice none 0 0] 26)) x y whole [] none 0 [] := by
  refine ⟨(by repeat' (first | with_reducible exact Below.refl _ _ | with_reducible assumption | with_reducible apply Below.alloc | with_reducible apply Below.setCell | with_reducible apply Below.drew | exact Nat.le_refl _ | omega | (simp only [World.size_alloc, World.size_setCell]; omega))), by simp, ?_, ?_, OwnII.nil _ _ _ _ _⟩
  · show ((w.heap.push _).push _)[w.heap.size]? = _
    simp [Array.getElem?_push]
  · show ((w.heap.push _).push _)[w.heap.size + 1]? = _
    rw [Array.getElem?_push, if_pos (by simp)]
    rfl

theorem NewRel.push {w wo wr w2 : World} {x y whole : Int} {rss : List (List Int)} {a a2 ar : Option Addr} {c c2 n nr cr : Nat} {vs : List Value} {rs : List Int}
    (h : NewRel w wo x y whole rss a c vs) (hB : Below wo.heap.size wo wr) (hrow : OwnV 3 wo.heap.size wr.heap.size wr (.slice ar nr cr) (ints rs))
    (ht : OwnV 33 (w.heap.size + 2) w2.heap.size w2 (.slice a2 n c2) (vs ++ [.slice ar nr cr])) (hg : wr.grownBy w2 (Value.slice a rss.length c).ownBlock) (hn : n = (rss ++ [rs]).length) :
    NewRel w (w2.setCell ⟨w.heap.size + 1, 3, none⟩ (.slice a2 n c2)) x y whole (rss ++ [rs]) a2 c2 (vs ++ [.slice ar nr cr]) := by
  subst hn
  have h1 := h.later hB
  have hs := h.size
  have hs1 := h1.size
  have hsz := hB.size
  have hob : ∀ g, (Value.slice a rss.length c).ownBlock = some g → w.heap.size + 2 ≤ g := fun g hg' => (h.rows.top.lt g hg').1
  have old : ∀ g, g < w.heap.size + 2 → w2.heap[g]? = wr.heap[g]? := fun g hlt => hg.block g (by omega) (fun e => by have := hob g e.symm; omega)
  have hrows : OwnII 33 3 (w.heap.size + 2) w2.heap.size w2 (.slice a2 (rss ++ [rs]).length c2) (rss ++ [rs]) (vs ++ [.slice ar nr cr]) :=
    (h.rows.kept hB (Nat.le_refl _)).snoc hrow (Nat.le_refl _) hs hsz ht hg hg.size (by decide)
  have hb2 : Below w.heap.size w w2 := ⟨hg.os.trans h1.below.os, hg.tape.trans h1.below.tape, hg.output.trans h1.below.output, Nat.le_trans h1.below.size hg.size, fun k hk => (old k (by omega)).trans (h1.below.block k hk)⟩
  have hsz2 := hg.size
  refine ⟨hb2.setCell (by show w.heap.size ≤ w.heap.size + 1; omega) _, by simp only [World.size_setCell]; omega, ?_, ?_, ?_⟩
  · rw [Below.heap_setCell _ _ _ _ (by show w.heap.size ≠ w.heap.size + 1; omega), old _ (by omega)]
    exact h1.ret
  · have e := (old (w.heap.size + 1) (by omega)).trans h1.box
    simp [World.setCell, Array.getElem?_modify, e]
  · rw [World.size_setCell]
    exact hrows.setCell_off (Or.inl (by show w.heap.size + 1 < w.heap.size + 2; omega)) _

set_option maxHeartbeats 1600000 in
theorem newBox_any (X Y : Nat) (hX : 1 ≤ X ∧ X ≤ 3) (hY : 1 ≤ Y ∧ Y ≤ 3) (whole : Int) (k : Nat) (caps : Array Value) (num : Num) (w : World)
    (hk : ∀ (args : Array Value) (w : World), (callFunc k args).run Tryz.prog w = .ok (.enter k args) w)
    (hcall : ∀ wr : World, Below w.heap.size w wr → ∀ i j a c : Int, 0 ≤ i → i < X → 0 ≤ j → j < Y → 0 ≤ a → a < 2 → 0 ≤ c → c < 2 →
      Calls Tryz.prog k (#[.int .i64 i, .int .i64 j, .int .i64 a, .int .i64 c] ++ caps) wr fun e w' => e = .returned (.int .i64 (num i j a c)) ∧ Below wr.heap.size wr w') :
    Calls Tryz.prog 68 #[.int .i64 X, .int .i64 Y, .int .i64 whole, .func (.func k) #[] caps] w fun e w' => ∃ a c vs, e = .returned (.agg #[.int .i64 X, .int .i64 Y, .int .i64 whole, .slice a (rowsTo num Y (X * Y)).length c]) ∧
      OwnII 33 3 w.heap.size w'.heap.size w' (.slice a (rowsTo num Y (X * Y)).length c) (rowsTo num Y (X * Y)) vs ∧ Below w.heap.size w w' := by
  obtain ⟨hX1, hX3⟩ := hX
  obtain ⟨hY1, hY3⟩ := hY
  have HC := Lib.hid hcall
  clear hcall
  go_enter Tryz.func68, Tryz.ntmps68
  go_wp2
  go_loopw [19] (fun s wr => ∃ i : Nat, i ≤ X ∧ s = .int .i64 i ∧ ∃ a c vs, NewRel w wr X Y whole (rowsTo num Y (i * Y)) a c vs) (fun s _ => X - (intOf s).toNat)
  case atStart => exact ⟨0, by omega, rfl, none, 0, [], by simpa [rowsTo] using NewRel.start w X Y whole⟩
  case round =>
    obtain ⟨i, hi, rfl, a, c, vs, hR⟩ := hrel
    by_cases hlt : i < X
    · go_wp2
      go_loopw [23] (fun s wq => ∃ j : Nat, j ≤ Y ∧ s = .int .i64 j ∧ ∃ a c vs, NewRel w wq X Y whole (rowsTo num Y (i * Y + j)) a c vs) (fun s _ => Y - (intOf s).toNat)
      case atStart => exact ⟨0, by omega, rfl, a, c, vs, hR⟩
      case round =>
        clear hR
        obtain ⟨j, hj, rfl, a, c, vs, hR⟩ := hrel
        by_cases hjt : j < Y
        · have hR0 := hR.later ((Below.refl _ _).alloc (Nat.le_refl _) (.cells #[] 3))
          have hE := OwnV.empty 3 wr
          go_wp2
          obtain ⟨wo, rfl⟩ : ∃ wo : World, wo = wr := ⟨_, rfl⟩
          clear hR0
          go_loopw [27, 12] (fun s27 s12 wz => ∃ q : Nat, q ≤ 4 ∧ s27 = .int .i64 q ∧ ∃ ar cr, s12 = .slice ar q cr ∧ OwnV 3 wo.heap.size wz.heap.size wz (.slice ar q cr) (ints (rowTo num i j q)) ∧ Below wo.heap.size wo wz) (fun s27 _ _ => 4 - (intOf s27).toNat)
          case atStart => exact ⟨0, by omega, rfl, _, _, rfl, by simpa [rowTo, ints] using hE, (Below.refl _ _).alloc (Nat.le_refl _) _⟩
          case round =>
            clear hE
            obtain ⟨q, hq, rfl, ar, cr, rfl, hO, hB⟩ := hrel
            by_cases hqt : q < 4
            · go_wp2_with fail
              refine (HC.out _ (hR.below.trans (hB.mono hR.below.size)) (i : Int) (j : Int) ((q : Int) / 2) ((q : Int) % 2) (by omega) (by omega) (by omega) (by omega) (by omega) (by omega) (by omega) (by omega)).mono ?_
              rintro e w1 ⟨rfl, b1⟩
              have hOw := hO.kept b1 (Nat.le_refl _)
              have hBw := hB.trans (b1.mono hB.size)
              have hlen : (ints (rowTo num i j q)).length = q := by simp
              have hz := hBw.size
              go_wp2_with (at_builtin; refine append1_own rfl _ _ 33 3 rfl Tryz.underlying33 Tryz.infoInt rfl hOw rfl rfl rfl (by rw [hlen]; omega) (by omega) hz ?_)
              intro a2 c2 w2 hO2 hg2
              have hx : ints (rowTo num i j q) ++ [Value.int .i64 (num i j ((q : Int) / 2) ((q : Int) % 2))] = ints (rowTo num i j (q + 1)) := by rw [rowTo_succ]; simp [ints]
              rw [hx] at hO2
              have hB2 : Below wo.heap.size wo w2 := hBw.grown hg2 hz (fun g hg => (hOw.lt g hg).1)
              clear hOw hO hx
              go_wp2
              go_roundw
              case rel => exact ⟨q + 1, by omega, by go_num, a2, c2, rfl, hO2, hB2⟩
              case measure => simp [intOf]; omega
            · obtain rfl : q = 4 := by omega
              have hR1 := hR.later hB
              obtain ⟨⟨g0, g1, g2, g3⟩, gf, _, _⟩ := hR1.cells
              have hrow := hO
              rw [rowTo_four] at hrow
              have ht := hR1.rows.top
              have hlen2 : vs.length = i * Y + j := by have := hR1.rows.len; rw [rowsTo_length] at this; exact this
              have hn : vs.length ≤ 9 := by
                have : i * Y ≤ 2 * Y := Nat.mul_le_mul_right Y (by omega)
                omega
              have hsz := hR1.size
              have hlo : ∀ g, (Value.slice a (rowsTo num Y (i * Y + j)).length c).ownBlock = some g → w.heap.size + 2 ≤ g := fun g hg => (ht.lt g hg).1
              rw [rowsTo_length] at ht
              have HL := Lib.hid hlen2
              clear hlen2
              go_wp2_with (at_builtin; refine append1_own rfl _ _ 24 33 rfl Tryz.underlying24 Tryz.infoInts rfl ht rfl rfl rfl (by omega) (by omega) hsz ?_)
              intro a2 c2 w2 hT2 hg2
              rw [← rowsTo_length num Y (i * Y + j)] at hg2
              have hp := hR.push hB hrow hT2 hg2 (by rw [HL.out]; simp)
              have old : w2.heap[w.heap.size + 1]? = wr.heap[w.heap.size + 1]? := hg2.block _ (by omega) (fun e => by have := hlo _ e.symm; omega)
              have f1 : w2.cell? ⟨w.heap.size + 1, 3, none⟩ = some (.slice a (rowsTo num Y (i * Y + j)).length c) := by rw [World.cell?_of_block (w := wr) old]; exact g3
              have f2 : w2.frozen? ⟨w.heap.size + 1, 3, none⟩ = false := by rw [World.frozen?_of_block (w := wr) old]; exact gf 3
              rw [← rowsTo_succ num Y i j hjt] at hp
              clear g0 g1 g2 g3 gf hR1 hR ht hT2 hlo
              go_wp2
              go_roundw
              case rel => exact ⟨j + 1, by omega, by go_num, a2, c2, _, by rw [HL.out] at hp ⊢; simpa [rowsTo_length, Nat.add_assoc] using hp⟩
              case measure => simp [intOf]; omega
        · obtain rfl : j = Y := by omega
          go_wp2
          go_roundw
          case rel => exact ⟨i + 1, by omega, by go_num, a, c, vs, by rw [Nat.succ_mul]; exact hR⟩
          case measure => simp [intOf]; omega
    · obtain rfl : i = X := by omega
      obtain ⟨⟨g0, g1, g2, g3⟩, gf, ⟨e0, e1, e2, e3⟩, ef⟩ := hR.cells
      have hs := hR.size
      have hrows := hR.rows
      rw [rowsTo_length] at hrows g3
      have hend := (((((hrows.setCell_off (p := ⟨w.heap.size, 0, none⟩) (Or.inl (by simp only []; omega)) (.int .i64 i)).setCell_off (p := ⟨w.heap.size, 1, none⟩) (Or.inl (by simp only []; omega)) (.int .i64 Y)).setCell_off (p := ⟨w.heap.size, 2, none⟩) (Or.inl (by simp only []; omega)) (.int .i64 whole)).setCell_off (p := ⟨w.heap.size, 3, none⟩) (Or.inl (by simp only []; omega)) (.slice a (i * Y) c))).weaken (lo' := w.heap.size) (by omega) (Nat.le_refl _)
      have hB2 : Below w.heap.size w ((((wr.setCell ⟨w.heap.size, 0, none⟩ (.int .i64 i)).setCell ⟨w.heap.size, 1, none⟩ (.int .i64 Y)).setCell ⟨w.heap.size, 2, none⟩ (.int .i64 whole)).setCell ⟨w.heap.size, 3, none⟩ (.slice a (i * Y) c)) :=
        (((hR.below.setCell (Nat.le_refl _) _).setCell (Nat.le_refl _) _).setCell (Nat.le_refl _) _).setCell (Nat.le_refl _) _
      clear hrows hR
      go_wp2
      refine bodyPost_ret (v := .agg #[.int .i64 i, .int .i64 Y, .int .i64 whole, .slice a (i * Y) c]) ?_ rfl ?_
      · simp [results, Tryz.results68, go_sem, e0, e1, e2, e3]
      · exact ⟨a, c, vs, by rw [rowsTo_length], by rw [rowsTo_length]; simpa only [World.size_setCell] using hend, hB2⟩
end Go.Proofs.YtcifpfdlkpddeaaGreatDoor
set_option linter.unusedSimpArgs false
set_option linter.unusedVariables false
namespace Go.Proofs.YtcifpfdlkpddeaaGreatDoor
open Go.RowKit

/-- A literal row. -/
theorem OwnV.lit (T : Nat) (w : World) (vs : List Value) (hm : vs.length ≤ maxLen) : OwnV T w.heap.size (w.heap.size + 1) (w.alloc (.cells vs.toArray T)) (.slice (some ⟨w.heap.size, 0, none⟩) vs.length vs.length) vs := by
  refine ⟨⟨by omega, Or.inr ⟨w.heap.size, vs.length, vs.toArray, rfl, Nat.le_refl _, heap_alloc_new w _, Nat.le_refl _, hm, by simp, by simp⟩⟩, fun g hg => by simp [Value.ownBlock] at hg; omega⟩

theorem OwnV.ne_tag {T lo hi : Nat} {w : World} {v : Value} {vs : List Value} (h : OwnV T lo hi w v vs) {g : Nat} {cur : Array Value} {T' : Nat} {fr : Nat × Nat} (hg : w.heap[g]? = some (.cells cur T' fr)) (hT : T' ≠ T) : v.ownBlock ≠ some g := by
  intro e
  obtain ⟨c, hc⟩ := h.block e
  rw [hc] at hg
  simp only [Option.some.injEq, Obj.cells.injEq] at hg
  exact hT hg.2.1.symm

theorem OwnII.tag {T2 T1 lo hi : Nat} {w w' : World} {v : Value} {rss : List (List Int)} {vs : List Value} (h : OwnII T2 T1 lo hi w v rss vs) {g : Nat} {cur : Array Value} {T' : Nat} {fr : Nat × Nat}
    (hg : w.heap[g]? = some (.cells cur T' fr)) (h2 : T' ≠ T2) (h1 : T' ≠ T1) (hs : ∀ k, k ≠ g → w'.heap[k]? = w.heap[k]?) : OwnII T2 T1 lo hi w' v rss vs :=
  ⟨h.len, h.top.of_block fun k hk => hs k (fun e => h.top.ne_tag hg h2 (by rw [hk, e])),
   fun i v' rs hv hr => (h.row i v' rs hv hr).of_block fun k hk => hs k (fun e => (h.row i v' rs hv hr).ne_tag hg h1 (by rw [hk, e])), h.apart, h.off⟩

/-- append1_own, the new block's number spelt otherwise. -/
theorem append1_at {P : Program} {ops : Array Oper} {rest : List Oper} {o : Oper} {a : Act} {Q : Exit → Act → World → Prop} (hgd : o.guard = none) (s x : Operand) (t e : TypeId)
    (ho : o.op = .call { callee := .builtin .append, args := #[s, x], argTypes := #[t, t] })
    {z : Value} {bytes : Nat} (ht : P.underlying t = some (.slice e)) (hinfo : (P.info? e).map (fun i => (i.zero, i.size, i.bytes)) = some (some z, 1, bytes)) (hz : z.cells.size = 1)
    {lo hi m : Nat} {W : World} {v u : Value} {vs : List Value} (hown : OwnV e lo hi W v vs) (hm : W.heap.size = m) (hs : a.eval s = v)
    (hx : a.eval x = .slice (some ⟨m, 0, none⟩) 1 1) (hu : u.oneCell' = true) (hlen : vs.length ≤ 4194304) (hby : bytes ≤ 1024) (hlo : lo ≤ W.heap.size)
    (h : ∀ (a' : Option Addr) (c : Nat) (w' : World), OwnV e lo w'.heap.size w' (.slice a' (vs.length + 1) c) (vs ++ [u]) → W.grownBy w' v.ownBlock →
      wpList P ops Q rest (a.put o.dst (.slice a' (vs.length + 1) c)) w') :
    wpList P ops Q (o :: rest) a (W.alloc (.cells #[u] e)) := by
  subst hm
  exact append1_own hgd s x t e ho ht hinfo hz hown hs hx hu hlen hby hlo h

/-- A box variable at block gb whose rows are the call's own; everything below B is as it was in w0. -/
structure BoxRel (w0 : World) (B gb lo : Nat) (wr : World) (x y whole : Int) (rss : List (List Int)) (a : Option Addr) (c : Nat) (vs : List Value) : Prop where
  below : Below B w0 wr
  b1 : B ≤ gb
  b2 : B ≤ lo
  b3 : B ≤ w0.heap.size
  b4 : lo ≤ wr.heap.size
  box : wr.heap[gb]? = some (.cells #[.int .i64 x, .int .i64 y, .int .i64 whole, .slice a rss.length c] 26 (0, 0))
  rows : OwnII 33 3 lo wr.heap.size wr (.slice a rss.length c) rss vs

section
variable {w0 wr wr' w2 : World} {B gb lo : Nat} {x y whole : Int} {rss : List (List Int)} {a : Option Addr} {c : Nat} {vs : List Value}

theorem BoxRel.lt (h : BoxRel w0 B gb lo wr x y whole rss a c vs) : gb < wr.heap.size := (Array.getElem?_eq_some_iff.1 h.box).1

theorem BoxRel.later (h : BoxRel w0 B gb lo wr x y whole rss a c vs) (hb : Below wr.heap.size wr wr') : BoxRel w0 B gb lo wr' x y whole rss a c vs :=
  ⟨h.below.trans (hb.mono (Nat.le_trans h.b3 h.below.size)), h.b1, h.b2, h.b3, Nat.le_trans h.b4 hb.size, by rw [hb.block _ h.lt]; exact h.box, (h.rows.kept hb (Nat.le_refl _)).weaken (Nat.le_refl _) hb.size⟩

theorem BoxRel.cells (h : BoxRel w0 B gb lo wr x y whole rss a c vs) :
    (wr.cell? ⟨gb, 0, none⟩ = some (.int .i64 x) ∧ wr.cell? ⟨gb, 1, none⟩ = some (.int .i64 y) ∧ wr.cell? ⟨gb, 2, none⟩ = some (.int .i64 whole) ∧ wr.cell? ⟨gb, 3, none⟩ = some (.slice a rss.length c)) ∧
    (∀ o, wr.frozen? ⟨gb, o, none⟩ = false) := by
  refine ⟨⟨?_, ?_, ?_, ?_⟩, fun o => ?_⟩ <;> simp [World.cell?, World.frozen?, h.box]

/-- Behind the append of a fresh row. -/
theorem BoxRel.push {wo : World} {a2 ar : Option Addr} {c2 n nr cr : Nat} {rs : List Int}
    (h : BoxRel w0 B gb lo wo x y whole rss a c vs) (hB : Below wo.heap.size wo wr) (hrow : OwnV 3 wo.heap.size wr.heap.size wr (.slice ar nr cr) (ints rs))
    (ht : OwnV 33 lo w2.heap.size w2 (.slice a2 n c2) (vs ++ [.slice ar nr cr])) (hg : wr.grownBy w2 (Value.slice a rss.length c).ownBlock) (hn : n = (rss ++ [rs]).length) :
    BoxRel w0 B gb lo (w2.setCell ⟨gb, 3, none⟩ (.slice a2 n c2)) x y whole (rss ++ [rs]) a2 c2 (vs ++ [.slice ar nr cr]) ∧
      w2.cell? ⟨gb, 3, none⟩ = some (.slice a rss.length c) ∧ w2.frozen? ⟨gb, 3, none⟩ = false := by
  subst hn
  have h1 := h.later hB
  have hlo := h.b4
  have hrows : OwnII 33 3 lo w2.heap.size w2 (.slice a2 (rss ++ [rs]).length c2) (rss ++ [rs]) (vs ++ [.slice ar nr cr]) :=
    (h.rows.kept hB (Nat.le_refl _)).snoc hrow (Nat.le_refl _) hlo hB.size ht hg hg.size (by decide)
  have hne : (Value.slice a rss.length c).ownBlock ≠ some gb := h1.rows.top.ne_tag h1.box (by decide)
  have e : w2.heap[gb]? = some (.cells #[.int .i64 x, .int .i64 y, .int .i64 whole, .slice a rss.length c] 26 (0, 0)) := by
    rw [hg.block gb h1.lt (fun e => hne e.symm)]; exact h1.box
  have hb2 : Below B w0 w2 := h1.below.grown hg (Nat.le_trans h.b2 h1.b4) (fun k hk => Nat.le_trans h.b2 (h1.rows.top.lt k hk).1)
  refine ⟨⟨hb2.setCell (by show B ≤ gb; exact h.b1) _, h.b1, h.b2, h.b3, ?_, ?_, ?_⟩, ?_, ?_⟩
  · rw [World.size_setCell]; exact Nat.le_trans h1.b4 hg.size
  · simp [World.setCell, Array.getElem?_modify, e]
  · rw [World.size_setCell]
    exact hrows.tag e (by decide) (by decide) fun k hk => Below.heap_setCell _ _ _ _ hk
  · simp [World.cell?, e]
  · simp [World.frozen?, e]
end

/-- The zero box that a function's result variable holds at first. -/
structure RetAt (w : World) (g : Nat) : Prop where
  e0 : w.cell? ⟨g, 0, none⟩ = some (.int .i64 0)
  e1 : w.cell? ⟨g, 1, none⟩ = some (.int .i64 0)
  e2 : w.cell? ⟨g, 2, none⟩ = some (.int .i64 0)
  e3 : w.cell? ⟨g, 3, none⟩ = some (.slice none 0 0)
  ef : ∀ o, w.frozen? ⟨g, o, none⟩ = false
theorem RetAt.kept {w w' : World} {g B : Nat} (h : RetAt w g) (hb : Below B w w') (hB : g < B) : RetAt w' g := by
  obtain ⟨hc, hf⟩ := bcell hb
  exact ⟨by rw [hc _ _ hB]; exact h.e0, by rw [hc _ _ hB]; exact h.e1, by rw [hc _ _ hB]; exact h.e2, by rw [hc _ _ hB]; exact h.e3, fun o => by rw [hf _ _ hB]; exact h.ef o⟩

theorem RetAt.made (w : World) : RetAt (w.alloc (.cells #[.int .i64 0, .int .i64 0, .int .i64 0, .slice none 0 0] 26)) w.heap.size := by
  constructor <;> simp

/-- A function that begins with its result variable, an empty list of rows and the box under construction. -/
theorem BoxRel.start (w W3 : World) (x y whole : Int)
    (hW : W3 = (((w.alloc (.cells #[.int .i64 0, .int .i64 0, .int .i64 0, .slice none 0 0] 26)).alloc (.cells #[] 33)).alloc (.cells #[.int .i64 x, .int .i64 y, .int .i64 whole, .slice (some ⟨w.heap.size + 1, 0, none⟩) 0 0] 26))) :
    BoxRel W3 (w.heap.size + 1) (w.heap.size + 1 + 1) (w.heap.size + 1) W3 x y whole [] (some ⟨w.heap.size + 1, 0, none⟩) 0 [] ∧ RetAt W3 w.heap.size ∧ Below w.heap.size w W3 ∧ W3.heap.size = w.heap.size + 1 + 1 + 1 := by
  subst hW
  have hE := OwnII.empty 33 3 (w.alloc (.cells #[.int .i64 0, .int .i64 0, .int .i64 0, .slice none 0 0] 26))
  rw [World.size_alloc] at hE
  have hE2 := (hE.kept (B := w.heap.size + 1 + 1) (w' := (((w.alloc (.cells #[.int .i64 0, .int .i64 0, .int .i64 0, .slice none 0 0] 26)).alloc (.cells #[] 33)).alloc (.cells #[.int .i64 x, .int .i64 y, .int .i64 whole, .slice (some ⟨w.heap.size + 1, 0, none⟩) 0 0] 26))) (by repeat' (first | with_reducible exact Below.refl _ _ | with_reducible assumption | with_reducible apply Below.alloc | with_reducible apply Below.setCell | with_reducible apply Below.drew | exact Nat.le_refl _ | omega | (simp only [World.size_alloc, World.size_setCell]; omega))) (Nat.le_refl _)).weaken (hi' := w.heap.size + 1 + 1 + 1) (Nat.le_refl _) (by omega)
  refine ⟨⟨Below.refl _ _, by omega, Nat.le_refl _, by simp only [World.size_alloc]; omega, by simp only [World.size_alloc]; omega, ?_, by simpa only [World.size_alloc, List.length_nil] using hE2⟩, (RetAt.made w).kept (B := w.heap.size + 1) (by repeat' (first | with_reducible exact Below.refl _ _ | with_reducible assumption | with_reducible apply Below.alloc | with_reducible apply Below.setCell | with_reducible apply Below.drew | exact Nat.le_refl _ | omega | (simp only [World.size_alloc, World.size_setCell]; omega))) (by omega), (by repeat' (first | with_reducible exact Below.refl _ _ | with_reducible assumption | with_reducible apply Below.alloc | with_reducible apply Below.setCell | with_reducible apply Below.drew | exact Nat.le_refl _ | omega | (simp only [World.size_alloc, World.size_setCell]; omega))), by simp only [World.size_alloc]⟩
  show (((w.heap.push _).push _).push _)[w.heap.size + 1 + 1]? = _
  rw [Array.getElem?_push, if_pos (by simp)]
  rfl

end Go.Proofs.YtcifpfdlkpddeaaGreatDoor
