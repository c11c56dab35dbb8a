/- What the reference draws: a box made no longer valid, seldom. -/
import Derived.Test.YtcifpfdlkpddeaaGreatDoorQxbf
import Derived.Test.YtcifpfdlkpddeaaGreatDoorQxba
set_option linter.unusedSimpArgs false
set_option linter.unusedVariables false
namespace Go.Proofs.YtcifpfdlkpddeaaGreatDoor
open Go.RowKit Go.WideShapes

/-- A box variable, the result's variable, and the rows, all of the caller's own. -/
structure SpSt (w0 : World) (gb r : Nat) (wr : World) (x y wh : Int) (rss : List (List Int)) (a : Option Addr) (c : Nat) (vs : List Value) : Prop where
  box : wr.heap[gb]? = some (.cells #[.int .i64 x, .int .i64 y, .int .i64 wh, .slice a rss.length c] 26 (0, 0))
  ret : wr.heap[r]? = some (.cells #[.int .i64 0, .int .i64 0, .int .i64 0, .slice none 0 0] 26 (0, 0))
  rows : OwnII 33 3 w0.heap.size wr.heap.size wr (.slice a rss.length c) rss vs
  ne : gb ≠ r
  b1 : w0.heap.size ≤ gb
  r1 : w0.heap.size ≤ r
  z1 : w0.heap.size ≤ wr.heap.size
section
variable {w0 wr wz w2 : World} {g gb r : Nat} {x y wh : Int} {rss : List (List Int)} {a : Option Addr} {c : Nat} {vs : List Value}
theorem SpSt.lt (h : SpSt w0 gb r wr x y wh rss a c vs) : gb < wr.heap.size ∧ r < wr.heap.size := ⟨(Array.getElem?_eq_some_iff.1 h.box).1, (Array.getElem?_eq_some_iff.1 h.ret).1⟩
theorem SpSt.cur (h : SpSt w0 gb r wr x y wh rss a c vs) (hm : Mid g (g + 1) wr wz) (hg : g < w0.heap.size) : SpSt w0 gb r wz x y wh rss a c vs :=
  ⟨by rw [hm.block gb h.lt.1 (by have := h.b1; omega)]; exact h.box, by rw [hm.block r h.lt.2 (by have := h.r1; omega)]; exact h.ret, (h.rows.mid hm (Or.inr (by omega))).weaken (Nat.le_refl _) hm.size, h.ne, h.b1, h.r1, Nat.le_trans h.z1 hm.size⟩
theorem SpSt.cells (h : SpSt w0 gb r wr x y wh rss a c vs) :
    (wr.cell? ⟨gb, 0, none⟩ = some (.int .i64 x) ∧ wr.cell? ⟨gb, 1, none⟩ = some (.int .i64 y) ∧ wr.cell? ⟨gb, 2, none⟩ = some (.int .i64 wh) ∧ wr.cell? ⟨gb, 3, none⟩ = some (.slice a rss.length c)) ∧ (∀ o, wr.frozen? ⟨gb, o, none⟩ = false) := by
  refine ⟨⟨?_, ?_, ?_, ?_⟩, fun o => ?_⟩ <;> simp [World.cell?, World.frozen?, h.box]
theorem SpSt.retAt (h : SpSt w0 gb r wr x y wh rss a c vs) : RetAt wr r := by
  refine ⟨?_, ?_, ?_, ?_, fun o => ?_⟩ <;> simp [World.cell?, World.frozen?, h.ret]
theorem SpSt.whole (h : SpSt w0 gb r wr x y wh rss a c vs) (wh' : Int) : SpSt w0 gb r (wr.setCell ⟨gb, 2, none⟩ (.int .i64 wh')) x y wh' rss a c vs := by
  refine ⟨?_, ?_, ?_, h.ne, h.b1, h.r1, by rw [World.size_setCell]; exact h.z1⟩
  · simp [World.setCell, Array.getElem?_modify, h.box]
  · rw [Below.heap_setCell _ _ _ _ (fun e => h.ne (by simpa using e.symm))]; exact h.ret
  · rw [World.size_setCell]
    exact h.rows.tag h.box (by decide) (by decide) fun k hk => Below.heap_setCell _ _ _ _ hk
/-- The rows' block is none of the two variables'. -/
theorem SpSt.off (h : SpSt w0 gb r wr x y wh rss a c vs) : (Value.slice a rss.length c).ownBlock ≠ some gb ∧ (Value.slice a rss.length c).ownBlock ≠ some r :=
  ⟨h.rows.top.ne_tag h.box (by decide), h.rows.top.ne_tag h.ret (by decide)⟩
/-- A new row in the place of the first one. -/
theorem SpSt.row0 {gt : Nat} {rs : List Int} (h : SpSt w0 gb r wr x y wh rss a c vs) (ha : a = some ⟨gt, 0, none⟩) (hp : 0 < rss.length) (hm : rs.length ≤ maxLen) {cs : Array Value} (hcs : cs = (ints rs).toArray) :
    SpSt w0 gb r ((wr.alloc (.cells cs 3)).setCell ⟨gt, 0, none⟩ (.slice (some ⟨wr.heap.size, 0, none⟩) rs.length rs.length)) x y wh (rss.set 0 rs) a c (vs.set 0 (.slice (some ⟨wr.heap.size, 0, none⟩) rs.length rs.length)) := by
  subst hcs ha
  have hl := OwnV.lit 3 wr (ints rs) (by rw [ints_length]; exact hm)
  rw [ints_length] at hl
  have hB : Below wr.heap.size wr (wr.alloc (.cells (ints rs).toArray 3)) := (Below.refl _ _).alloc (Nat.le_refl _) _
  have hoff := h.off
  have h1 : gt ≠ gb := fun e => hoff.1 (by rw [e]; rfl)
  have h2 : gt ≠ r := fun e => hoff.2 (by rw [e]; rfl)
  have hset := (h.rows.kept hB (Nat.le_refl _)).setRow (g := gt) (k := 0) rfl (by rw [h.rows.len]; exact hp) hl (Nat.le_refl _) h.z1 (by omega)
  refine ⟨?_, ?_, ?_, h.ne, h.b1, h.r1, by rw [World.size_setCell, World.size_alloc]; have := h.z1; omega⟩
  · rw [Below.heap_setCell _ _ _ _ (fun e => h1 (by simpa using e.symm)), hB.block gb h.lt.1, List.length_set]; exact h.box
  · rw [Below.heap_setCell _ _ _ _ (fun e => h2 (by simpa using e.symm)), hB.block r h.lt.2]; exact h.ret
  · rw [World.size_setCell, World.size_alloc, List.length_set]; exact hset
/-- Behind the append of a literal row. -/
theorem SpSt.app {a2 : Option Addr} {c2 n : Nat} {rs : List Int} (h : SpSt w0 gb r wr x y wh rss a c vs) (hm : rs.length ≤ maxLen) {cs : Array Value} (hcs : cs = (ints rs).toArray)
    (ht : OwnV 33 w0.heap.size w2.heap.size w2 (.slice a2 n c2) (vs ++ [.slice (some ⟨wr.heap.size, 0, none⟩) rs.length rs.length]))
    (hg : (wr.alloc (.cells cs 3)).grownBy w2 (Value.slice a rss.length c).ownBlock) (hn : n = (rss ++ [rs]).length) :
    SpSt w0 gb r (w2.setCell ⟨gb, 3, none⟩ (.slice a2 n c2)) x y wh (rss ++ [rs]) a2 c2 (vs ++ [.slice (some ⟨wr.heap.size, 0, none⟩) rs.length rs.length]) ∧
      Below w0.heap.size wr (w2.setCell ⟨gb, 3, none⟩ (.slice a2 n c2)) ∧ w2.cell? ⟨gb, 3, none⟩ = some (.slice a rss.length c) ∧ w2.frozen? ⟨gb, 3, none⟩ = false := by
  subst hcs hn
  have hl := OwnV.lit 3 wr (ints rs) (by rw [ints_length]; exact hm)
  rw [ints_length] at hl
  have hB : Below wr.heap.size wr (wr.alloc (.cells (ints rs).toArray 3)) := (Below.refl _ _).alloc (Nat.le_refl _) _
  have hrows := (h.rows.kept hB (Nat.le_refl _)).snoc (hi' := (wr.alloc (.cells (ints rs).toArray 3)).heap.size) (by rw [World.size_alloc]; exact hl) (Nat.le_refl _) h.z1 hB.size ht hg hg.size (by decide)
  have hoff := h.off
  have e : w2.heap[gb]? = some (.cells #[.int .i64 x, .int .i64 y, .int .i64 wh, .slice a rss.length c] 26 (0, 0)) := by
    rw [hg.block gb (Nat.lt_of_lt_of_le h.lt.1 hB.size) (fun e => hoff.1 e.symm), hB.block gb h.lt.1]; exact h.box
  have e2 : w2.heap[r]? = some (.cells #[.int .i64 0, .int .i64 0, .int .i64 0, .slice none 0 0] 26 (0, 0)) := by
    rw [hg.block r (Nat.lt_of_lt_of_le h.lt.2 hB.size) (fun e => hoff.2 e.symm), hB.block r h.lt.2]; exact h.ret
  have hb2 : Below w0.heap.size wr w2 := Below.grown (hB.mono h.z1) hg (Nat.le_trans h.z1 hB.size) (fun k hk => (h.rows.top.lt k hk).1)
  refine ⟨⟨?_, ?_, ?_, h.ne, h.b1, h.r1, ?_⟩, hb2.setCell (by show w0.heap.size ≤ gb; exact h.b1) _, ?_, ?_⟩
  · simp [World.setCell, Array.getElem?_modify, e]
  · rw [Below.heap_setCell _ _ _ _ (fun e => h.ne (by simpa using e.symm))]; exact e2
  · rw [World.size_setCell]
    exact hrows.tag e (by decide) (by decide) fun k hk => Below.heap_setCell _ _ _ _ hk
  · rw [World.size_setCell]; exact Nat.le_trans h.z1 hb2.size
  · simp [World.cell?, e]
  · simp [World.frozen?, e]
/-- The end: the box is laid into the result's variable. -/
theorem SpSt.out (h : SpSt w0 gb r wr x y wh rss a c vs) : OwnII 33 3 w0.heap.size (set4W wr r (.int .i64 x) (.int .i64 y) (.int .i64 wh) (.slice a rss.length c)).heap.size (set4W wr r (.int .i64 x) (.int .i64 y) (.int .i64 wh) (.slice a rss.length c)) (.slice a rss.length c) rss vs ∧
    Below w0.heap.size wr (set4W wr r (.int .i64 x) (.int .i64 y) (.int .i64 wh) (.slice a rss.length c)) := by
  refine ⟨?_, set4W_below h.r1 _ _ _ _⟩
  have := h.rows.tag (w' := set4W wr r (.int .i64 x) (.int .i64 y) (.int .i64 wh) (.slice a rss.length c)) h.ret (by decide) (by decide) (fun k hk => by
    rw [Below.heap_setCell _ _ _ _ hk, Below.heap_setCell _ _ _ _ hk, Below.heap_setCell _ _ _ _ hk, Below.heap_setCell _ _ _ _ hk])
  simpa only [set4W, World.size_setCell] using this
theorem SpSt.start {b : BoxD} (o : OwnII 33 3 w0.heap.size wr.heap.size wr (.slice a b.Rows.length c) b.Rows vs) (hz : w0.heap.size ≤ wr.heap.size) :
    SpSt w0 wr.heap.size (wr.heap.size + 1) ((wr.alloc (.cells #[.int .i64 b.X, .int .i64 b.Y, .int .i64 b.Whole, .slice a b.Rows.length c] 26)).alloc (.cells #[.int .i64 0, .int .i64 0, .int .i64 0, .slice none 0 0] 26)) b.X b.Y b.Whole b.Rows a c vs := by
  refine ⟨?_, ?_, (o.kept (B := wr.heap.size) (((Below.refl _ _).alloc (Nat.le_refl _) _).alloc (by rw [World.size_alloc]; omega) _) (Nat.le_refl _)).weaken (Nat.le_refl _) (by rw [World.size_alloc, World.size_alloc]; omega), by omega, hz, by omega, by rw [World.size_alloc, World.size_alloc]; omega⟩
  · show ((wr.heap.push _).push _)[wr.heap.size]? = _
    rw [Array.getElem?_push, if_neg (by simp), Array.getElem?_push, if_pos rfl]
  · show ((wr.heap.push _).push _)[wr.heap.size + 1]? = _
    rw [Array.getElem?_push, if_pos (by simp)]
/-- The first row, in its place. -/
theorem SpSt.path (h : SpSt w0 gb r wr x y wh rss a c vs) {rs : List Int} (hr : rss[0]? = some rs) (h4 : rs.length = 4) : ∃ gt g1 c1 n0 n1 n2 n3, a = some ⟨gt, 0, none⟩ ∧ rs = [n0, n1, n2, n3] ∧ gt < wr.heap.size ∧ wr.frozen? ⟨gt, 0, none⟩ = false ∧
    wr.cell? ⟨gt, 0, none⟩ = some (.slice (some ⟨g1, 0, none⟩) 4 c1) ∧ wr.cell? ⟨g1, 0, none⟩ = some (.int .i64 n0) ∧ wr.cell? ⟨g1, 1, none⟩ = some (.int .i64 n1) ∧ wr.cell? ⟨g1, 2, none⟩ = some (.int .i64 n2) ∧ wr.cell? ⟨g1, 3, none⟩ = some (.int .i64 n3) := by
  obtain ⟨n0, n1, n2, n3, rfl⟩ : ∃ n0 n1 n2 n3, rs = [n0, n1, n2, n3] := by
    match rs, h4 with
    | [n0, n1, n2, n3], _ => exact ⟨n0, n1, n2, n3, rfl⟩
  have hlen : 0 < rss.length := (List.getElem?_eq_some_iff.1 hr).1
  obtain ⟨aa, gt, cap, hv, hm, ha, hc, hf⟩ := h.rows.top.shape
  rw [h.rows.len] at hv ha hf
  injection hv with e1 e2 e3
  subst e1 e3
  obtain ⟨rfl, _, _, hlt⟩ := ha hlen
  have hvl : 0 < vs.length := by rw [h.rows.len]; exact hlen
  have hv0 : vs[0]? = some vs[0] := List.getElem?_eq_getElem hvl
  have hrow := h.rows.row 0 _ _ hv0 hr
  obtain ⟨a1, g1, c1, hv1, _, ha1, hc1, _⟩ := hrow.shape
  obtain ⟨rfl, _⟩ := ha1 (by simp [ints])
  have hcell := hc 0 _ hv0
  rw [hv1] at hcell
  exact ⟨gt, g1, c1, n0, n1, n2, n3, rfl, rfl, hlt, hf hlen 0, hcell, hc1 0 _ rfl, hc1 1 _ rfl, hc1 2 _ rfl, hc1 3 _ rfl⟩
theorem SpSt.drew (h : SpSt w0 gb r wr x y wh rss a c vs) : SpSt w0 gb r wr.drew x y wh rss a c vs := ⟨h.box, h.ret, h.rows.sameHeap rfl, h.ne, h.b1, h.r1, h.z1⟩
end
/-- A box that a draw hands on: of the caller's own since w0, beside the cursor. -/
structure Dr (w0 : World) (g : Nat) (v : Value) (n A : Nat) (w : World) (b : BoxD) (a : Option Addr) (c : Nat) (vs : List Value) : Prop where
  own : OwnII 33 3 w0.heap.size w.heap.size w (.slice a b.Rows.length c) b.Rows vs
  cur : CurB g v n A w
  mid : Mid g (g + 1) w0 w
def DrawnBox (w0 : World) (g : Nat) (v : Value) (n A : Nat) (e : Ending) (w' : World) : Prop := ∃ (b : BoxD) (a : Option Addr) (c : Nat) (vs : List Value), e = .returned (.agg #[.int .i64 b.X, .int .i64 b.Y, .int .i64 b.Whole, .slice a b.Rows.length c]) ∧ Dr w0 g v n A w' b a c vs
set_option maxRecDepth 20000 in
set_option maxHeartbeats 6400000 in
theorem spoil_any (g : Nat) (v : Value) (n A : Nat) (w0 : World) (b : BoxD) (a : Option Addr) (c : Nat) (vs : List Value) (w : World) (hg0 : g < w0.heap.size) (hr0 : RdC g w0 v n) (hsm : SmB b) (hd : Dr w0 g v n A w b a c vs) (hA : A ≤ 900000) :
    Calls Tryz.prog 85 #[.pointer (some ⟨g, 0, none⟩), .agg #[.int .i64 b.X, .int .i64 b.Y, .int .i64 b.Whole, .slice a b.Rows.length c]] w (DrawnBox w0 g v n (A + 10)) := by
  have HRD := Lib.hid hr0
  obtain ⟨o, hcr, hm⟩ := hd
  have hz := hm.size
  have S0 := SpSt.start o hz
  have hB0 : Below w.heap.size w ((w.alloc (.cells #[.int .i64 b.X, .int .i64 b.Y, .int .i64 b.Whole, .slice a b.Rows.length c] 26)).alloc (.cells #[.int .i64 0, .int .i64 0, .int .i64 0, .slice none 0 0] 26)) := ((Below.refl _ _).alloc (Nat.le_refl _) _).alloc (by rw [World.size_alloc]; omega) _
  have hc0 := hcr.kept (Nat.le_refl _) hB0
  have hm0 := hm.trans (Mid.of_below hB0 (Nat.le_refl _))
  have C0 := pick_any g v n A 50 _ hc0.cur hc0.rd (by omega) (by decide) (by decide)
  obtain ⟨gb, hgb⟩ : ∃ gb, gb = w.heap.size := ⟨_, rfl⟩
  have HSM := Lib.hid hsm
  have hwh := hsm.whole
  go_enter Tryz.func85, Tryz.ntmps85
  go_wp2_with fail
  refine C0.mono ?_
  rintro e w1 ⟨q, rfl, hq, hc1, hm1⟩
  have hs := S0.cur hm1 hg0
  have hcq := hc0.step hc1 hm1
  have hmq := hm0.trans hm1
  rw [← hgb] at hs ⊢
  clear S0 hB0 hc0 hm0 C0 hc1 hm1 o hcr hm hsm hgb hz
  by_cases q0 : q = 0
  · subst q0
    rw [show ((0 : Nat) : Int) = (0 : Int) from rfl]
    have hw1 := wrap_in (b.Whole + 1) (by omega) (by omega)
    obtain ⟨⟨g0, g1, g2, g3⟩, gf⟩ := hs.cells
    have D := among_made g v n (A + 2) [0, -1, 1001, b.Whole + 1] w1 hcq.cur hcq.rd (by omega) (by simp) (by simp)
    go_wp2_with fail
    refine D.mono ?_
    rintro e w2 ⟨u, hu, rfl, hc2, hm2⟩
    have hs1 := hs.cur hm2 hg0
    have hcq1 := hcq.step hc2 hm2
    have hmq1 := hmq.trans hm2
    have B2 : Below w0.heap.size w2 (w2.setCell ⟨gb, 2, none⟩ (.int .i64 u)) := (Below.refl _ _).setCell (by show w0.heap.size ≤ gb; exact hs1.b1) _
    obtain ⟨⟨k0, k1, k2, k3⟩, kf⟩ := hs1.cells
    have hcqN := hcq1.far HRD.out hg0 (Nat.le_refl _) hmq1 B2
    have hmqN := hmq1.low B2
    have hsN := hs1.whole u
    obtain ⟨d0, d1, d2, d3, df⟩ := hs1.retAt
    have hne := hs1.ne
    clear hs hcq hmq D hu hc2 hm2 hs1 hcq1 hmq1 B2 g0 g1 g2 g3 gf
    obtain ⟨⟨g0, g1, g2, g3⟩, gf⟩ := hsN.cells
    obtain ⟨e0, e1, e2, e3, ef⟩ := hsN.retAt
    have hend := hsN.out
    have hcE := hcqN.far HRD.out hg0 (Nat.le_refl _) hmqN hend.2
    have hmE := hmqN.low hend.2
    clear hsN hcqN hmqN
    try simp only [List.length_set] at hend hcE hmE g3
    go_wp2
    refine bodyPost_ret (v := .agg #[.int .i64 b.X, .int .i64 b.Y, .int .i64 u, .slice a b.Rows.length c]) ?_ rfl ?_
    · simp [results, Tryz.results85, go_sem, e0, e1, e2, e3]
    · exact ⟨⟨b.X, b.Y, u, b.Rows⟩, a, c, _, by first | rfl | simp only [List.length_set], ⟨by first | exact hend.1 | (simp only [List.length_set]; exact hend.1), hcE.up (by omega), hmE⟩⟩
  by_cases q1 : q = 1
  · subst q1
    rw [show ((1 : Nat) : Int) = (1 : Int) from rfl]
    by_cases hp : 0 < b.Rows.length
    · have hpi : (0 : Int) < (b.Rows.length : Int) := by omega
      obtain ⟨rs, hrs⟩ : ∃ rs, b.Rows[0]? = some rs := ⟨_, List.getElem?_eq_getElem hp⟩
      obtain ⟨h4, hbd⟩ := HSM.out.row 0 rs hrs
      obtain ⟨gt, gr, cr, n0, n1, n2, n3, rfl, rfl, ltt, ft, ct, c0, c1, c2, c3⟩ := hs.path hrs h4
      have b0 := hbd 0 n0 rfl
      have b1 := hbd 1 n1 rfl
      have hw0 := wrap_in (n0 + 1) (by omega) (by omega)
      have hw1 := wrap_in (n1 - 1) (by omega) (by omega)
      obtain ⟨⟨g0, g1, g2, g3⟩, gf⟩ := hs.cells
      have hs2 : SpSt w0 gb (gb + 1) ((w1.setCell ⟨gt, 0, none⟩ (.slice (some ⟨w1.heap.size, 0, none⟩) 4 4)).alloc (.cells #[.int .i64 (n0 + 1), .int .i64 (n1 - 1), .int .i64 n2, .int .i64 n3] 3)) b.X b.Y b.Whole (b.Rows.set 0 [n0 + 1, n1 - 1, n2, n3]) (some ⟨gt, 0, none⟩) c (vs.set 0 (.slice (some ⟨w1.heap.size, 0, none⟩) 4 4)) := by
        have h := hs.row0 (gt := gt) (rs := [n0 + 1, n1 - 1, n2, n3]) rfl hp (by simp [maxLen]) (cs := #[.int .i64 (n0 + 1), .int .i64 (n1 - 1), .int .i64 n2, .int .i64 n3]) rfl
        rw [World.setCell_alloc_past _ _ _ _ ltt] at h
        exact h
      have B2 : Below w0.heap.size w1 ((w1.setCell ⟨gt, 0, none⟩ (.slice (some ⟨w1.heap.size, 0, none⟩) 4 4)).alloc (.cells #[.int .i64 (n0 + 1), .int .i64 (n1 - 1), .int .i64 n2, .int .i64 n3] 3)) :=
        ((Below.refl _ _).setCell (by show w0.heap.size ≤ gt; exact (hs.rows.top.lt gt rfl).1) _).alloc (by rw [World.size_setCell]; exact hs.z1) _
      obtain ⟨⟨k0, k1, k2, k3⟩, kf⟩ := hs2.cells
      simp only [List.length_set] at k3
      obtain ⟨e0, e1, e2, e3, ef⟩ := hs2.retAt
      have hend := hs2.out
      have hE2 := (B2.trans hend.2).drew
      have hcE := hcq.far HRD.out hg0 (Nat.le_refl _) hmq hE2
      have hmE := hmq.low hE2
      simp only [List.length_set] at hend hcE hmE
      have HS := Lib.hid (fun (W : World) (hW : Below w1.heap.size w1 W) => And.intro (keepCell hW g3) (And.intro (keepCell hW ct) (And.intro (keepCell hW c0) (And.intro (keepCell hW c1) (And.intro (keepCell hW c2) (keepCell hW c3))))))
      clear hrs h4 hbd hp
      go_wp2
      refine wp_region_cut_held (S := fun W => W.cell? ⟨gb, 3, none⟩ = some (.slice (some ⟨gt, 0, none⟩) b.Rows.length c) ∧ W.cell? ⟨gt, 0, none⟩ = some (.slice (some ⟨gr, 0, none⟩) 4 cr) ∧ W.cell? ⟨gr, 0, none⟩ = some (.int .i64 n0) ∧ W.cell? ⟨gr, 1, none⟩ = some (.int .i64 n1) ∧ W.cell? ⟨gr, 2, none⟩ = some (.int .i64 n2) ∧ W.cell? ⟨gr, 3, none⟩ = some (.int .i64 n3)) 30 _ rfl (by kernel_rfl) (by kernel_rfl) ⟨g3, ct, c0, c1, c2, c3⟩ (fun hHeld => ?_)
      simp only [List.take_succ_cons, List.take_zero]
      refine wpAnyH_take (i := 0) (v := ?_) rfl (by kernel_rfl) (by kernel_rfl) (by kernel_rfl) (fun _ _ _ h => h) (Or.inl ⟨by rfl, ?_⟩) (by assumption) ?_
      rotate_left
      · (intro w hSw; (try dsimp only at hSw); go_simp; try with_reducible rfl)
      try simp only [Act.put, List.getElem_toArray, List.getElem_cons_zero, List.getElem_cons_succ, List.setIfInBounds_toArray, List.set_cons_zero, List.set_cons_succ]
      refine wpAnyH_take (i := 1) (v := ?_) rfl (by kernel_rfl) (by kernel_rfl) (by kernel_rfl) (fun _ _ _ h => h) (Or.inl ⟨by rfl, ?_⟩) (by assumption) ?_
      rotate_left
      · (intro w hSw; (try dsimp only at hSw); go_simp; try with_reducible rfl)
      try simp only [Act.put, List.getElem_toArray, List.getElem_cons_zero, List.getElem_cons_succ, List.setIfInBounds_toArray, List.set_cons_zero, List.set_cons_succ]
      refine wpAnyH_take (i := 2) (v := ?_) rfl (by kernel_rfl) (by kernel_rfl) (by kernel_rfl) (fun _ _ _ h => h) (Or.inl ⟨by rfl, ?_⟩) (by assumption) ?_
      rotate_left
      · (intro w hSw; (try dsimp only at hSw); go_simp; try with_reducible rfl)
      try simp only [Act.put, List.getElem_toArray, List.getElem_cons_zero, List.getElem_cons_succ, List.setIfInBounds_toArray, List.set_cons_zero, List.set_cons_succ]
      refine wpAnyH_take (i := 3) (v := ?_) rfl (by kernel_rfl) (by kernel_rfl) (by kernel_rfl) (fun _ _ _ h => h) (Or.inl ⟨by rfl, ?_⟩) (by assumption) ?_
      rotate_left
      · (intro w hSw; (try dsimp only at hSw); go_simp; try with_reducible rfl)
      try simp only [Act.put, List.getElem_toArray, List.getElem_cons_zero, List.getElem_cons_succ, List.setIfInBounds_toArray, List.set_cons_zero, List.set_cons_succ]
      refine wpAnyH_take (i := 4) (v := ?_) rfl (by kernel_rfl) (by kernel_rfl) (by kernel_rfl) (fun _ _ _ h => h) (Or.inl ⟨by rfl, ?_⟩) (by assumption) ?_
      rotate_left
      · (intro w hSw; (try dsimp only at hSw); go_simp; try with_reducible rfl)
      try simp only [Act.put, List.getElem_toArray, List.getElem_cons_zero, List.getElem_cons_succ, List.setIfInBounds_toArray, List.set_cons_zero, List.set_cons_succ]
      refine wpAnyH_take (i := 5) (v := ?_) rfl (by kernel_rfl) (by kernel_rfl) (by kernel_rfl) (fun _ _ _ h => h) (Or.inl ⟨by rfl, ?_⟩) (by assumption) ?_
      rotate_left
      · (intro w hSw; (try dsimp only at hSw); go_simp; try with_reducible rfl)
      try simp only [Act.put, List.getElem_toArray, List.getElem_cons_zero, List.getElem_cons_succ, List.setIfInBounds_toArray, List.set_cons_zero, List.set_cons_succ]
      refine wpAnyH_take (i := 6) (v := ?_) rfl (by kernel_rfl) (by kernel_rfl) (by kernel_rfl) (fun _ _ _ h => h) (Or.inl ⟨by rfl, ?_⟩) (by assumption) ?_
      rotate_left
      · (intro w hSw; (try dsimp only at hSw); go_simp; try with_reducible rfl)
      try simp only [Act.put, List.getElem_toArray, List.getElem_cons_zero, List.getElem_cons_succ, List.setIfInBounds_toArray, List.set_cons_zero, List.set_cons_succ]
      refine wpAnyH_take (i := 7) (v := ?_) rfl (by kernel_rfl) (by kernel_rfl) (by kernel_rfl) (fun _ _ _ h => h) (Or.inl ⟨by rfl, ?_⟩) (by assumption) ?_
      rotate_left
      · (intro w hSw; (try dsimp only at hSw); go_simp; try with_reducible rfl)
      try simp only [Act.put, List.getElem_toArray, List.getElem_cons_zero, List.getElem_cons_succ, List.setIfInBounds_toArray, List.set_cons_zero, List.set_cons_succ]
      refine wpAnyH_take (i := 8) (v := ?_) rfl (by kernel_rfl) (by kernel_rfl) (by kernel_rfl) (fun _ _ _ h => h) (Or.inl ⟨by rfl, ?_⟩) (by assumption) ?_
      rotate_left
      · (intro w hSw; (try dsimp only at hSw); go_simp; try with_reducible rfl)
      try simp only [Act.put, List.getElem_toArray, List.getElem_cons_zero, List.getElem_cons_succ, List.setIfInBounds_toArray, List.set_cons_zero, List.set_cons_succ]
      refine wpAnyH_take (i := 9) (v := ?_) rfl (by kernel_rfl) (by kernel_rfl) (by kernel_rfl) (fun _ _ _ h => h) (Or.inl ⟨by rfl, ?_⟩) (by assumption) ?_
      rotate_left
      · (intro w hSw; (try dsimp only at hSw); go_simp; try with_reducible rfl)
      try simp only [Act.put, List.getElem_toArray, List.getElem_cons_zero, List.getElem_cons_succ, List.setIfInBounds_toArray, List.set_cons_zero, List.set_cons_succ]
      refine wpAnyH_take (i := 10) (v := ?_) rfl (by kernel_rfl) (by kernel_rfl) (by kernel_rfl) (fun _ _ _ h => h) (Or.inl ⟨by rfl, ?_⟩) (by assumption) ?_
      rotate_left
      · (intro w hSw; (try dsimp only at hSw); go_simp; try with_reducible rfl)
      try simp only [Act.put, List.getElem_toArray, List.getElem_cons_zero, List.getElem_cons_succ, List.setIfInBounds_toArray, List.set_cons_zero, List.set_cons_succ]
      refine wpAnyH_take (i := 11) (v := ?_) rfl (by kernel_rfl) (by kernel_rfl) (by kernel_rfl) (fun _ _ _ h => h) (Or.inl ⟨by rfl, ?_⟩) (by assumption) ?_
      rotate_left
      · (intro w hSw; (try dsimp only at hSw); go_simp; try with_reducible rfl)
      try simp only [Act.put, List.getElem_toArray, List.getElem_cons_zero, List.getElem_cons_succ, List.setIfInBounds_toArray, List.set_cons_zero, List.set_cons_succ]
      refine wpAnyH_take (i := 12) (v := ?_) rfl (by kernel_rfl) (by kernel_rfl) (by kernel_rfl) (fun _ _ _ h => h) (Or.inl ⟨by rfl, ?_⟩) (by assumption) ?_
      rotate_left
      · (intro w hSw; (try dsimp only at hSw); go_simp; try with_reducible rfl)
      try simp only [Act.put, List.getElem_toArray, List.getElem_cons_zero, List.getElem_cons_succ, List.setIfInBounds_toArray, List.set_cons_zero, List.set_cons_succ]
      refine wpAnyH_take (i := 13) (v := ?_) rfl (by kernel_rfl) (by kernel_rfl) (by kernel_rfl) (fun _ _ _ h => h) (Or.inl ⟨by rfl, ?_⟩) (by assumption) ?_
      rotate_left
      · (intro w hSw; (try dsimp only at hSw); go_simp; try with_reducible rfl)
      try simp only [Act.put, List.getElem_toArray, List.getElem_cons_zero, List.getElem_cons_succ, List.setIfInBounds_toArray, List.set_cons_zero, List.set_cons_succ]
      refine wpAnyH_take (i := 14) (v := ?_) rfl (by kernel_rfl) (by kernel_rfl) (by kernel_rfl) (fun _ _ _ h => h) (Or.inl ⟨by rfl, ?_⟩) (by assumption) ?_
      rotate_left
      · (intro w hSw; (try dsimp only at hSw); go_simp; try with_reducible rfl)
      try simp only [Act.put, List.getElem_toArray, List.getElem_cons_zero, List.getElem_cons_succ, List.setIfInBounds_toArray, List.set_cons_zero, List.set_cons_succ]
      refine wpAnyH_take (i := 15) (v := ?_) rfl (by kernel_rfl) (by kernel_rfl) (by kernel_rfl) (fun _ _ _ h => h) (Or.inl ⟨by rfl, ?_⟩) (by assumption) ?_
      rotate_left
      · (intro w hSw; (try dsimp only at hSw); go_simp; try with_reducible rfl)
      try simp only [Act.put, List.getElem_toArray, List.getElem_cons_zero, List.getElem_cons_succ, List.setIfInBounds_toArray, List.set_cons_zero, List.set_cons_succ]
      refine wpAnyH_take (i := 16) (v := ?_) rfl (by kernel_rfl) (by kernel_rfl) (by kernel_rfl) (fun _ _ _ h => h) (Or.inl ⟨by rfl, ?_⟩) (by assumption) ?_
      rotate_left
      · (intro w hSw; (try dsimp only at hSw); go_simp; try with_reducible rfl)
      try simp only [Act.put, List.getElem_toArray, List.getElem_cons_zero, List.getElem_cons_succ, List.setIfInBounds_toArray, List.set_cons_zero, List.set_cons_succ]
      refine wpAnyH_take (i := 17) (v := ?_) rfl (by kernel_rfl) (by kernel_rfl) (by kernel_rfl) (fun _ _ _ h => h) (Or.inl ⟨by rfl, ?_⟩) (by assumption) ?_
      rotate_left
      · (intro w hSw; (try dsimp only at hSw); go_simp; try with_reducible rfl)
      try simp only [Act.put, List.getElem_toArray, List.getElem_cons_zero, List.getElem_cons_succ, List.setIfInBounds_toArray, List.set_cons_zero, List.set_cons_succ]
      refine wpAnyH_take (i := 18) (v := ?_) rfl (by kernel_rfl) (by kernel_rfl) (by kernel_rfl) (fun _ _ _ h => h) (Or.inl ⟨by rfl, ?_⟩) (by assumption) ?_
      rotate_left
      · (intro w hSw; (try dsimp only at hSw); go_simp; try with_reducible rfl)
      try simp only [Act.put, List.getElem_toArray, List.getElem_cons_zero, List.getElem_cons_succ, List.setIfInBounds_toArray, List.set_cons_zero, List.set_cons_succ]
      refine wpAnyH_take (i := 19) (v := ?_) rfl (by kernel_rfl) (by kernel_rfl) (by kernel_rfl) (fun _ _ _ h => h) (Or.inl ⟨by rfl, ?_⟩) (by assumption) ?_
      rotate_left
      · (intro w hSw; (try dsimp only at hSw); go_simp; try with_reducible rfl)
      try simp only [Act.put, List.getElem_toArray, List.getElem_cons_zero, List.getElem_cons_succ, List.setIfInBounds_toArray, List.set_cons_zero, List.set_cons_succ]
      refine wpAnyH_take (i := 20) (v := ?_) rfl (by kernel_rfl) (by kernel_rfl) (by kernel_rfl) (fun _ _ _ h => h) (Or.inl ⟨by rfl, ?_⟩) (by assumption) ?_
      rotate_left
      · (intro w hSw; (try dsimp only at hSw); go_simp; try with_reducible rfl)
      try simp only [Act.put, List.getElem_toArray, List.getElem_cons_zero, List.getElem_cons_succ, List.setIfInBounds_toArray, List.set_cons_zero, List.set_cons_succ]
      refine wpAnyH_take (i := 21) (v := ?_) rfl (by kernel_rfl) (by kernel_rfl) (by kernel_rfl) (fun _ _ _ h => h) (Or.inl ⟨by rfl, ?_⟩) (by assumption) ?_
      rotate_left
      · (intro w hSw; (try dsimp only at hSw); go_simp; try with_reducible rfl)
      try simp only [Act.put, List.getElem_toArray, List.getElem_cons_zero, List.getElem_cons_succ, List.setIfInBounds_toArray, List.set_cons_zero, List.set_cons_succ]
      refine wpAnyH_take (i := 22) (v := ?_) rfl (by kernel_rfl) (by kernel_rfl) (by kernel_rfl) (fun _ _ _ h => h) (Or.inl ⟨by rfl, ?_⟩) (by assumption) ?_
      rotate_left
      · (intro w hSw; (try dsimp only at hSw); go_simp; try with_reducible rfl)
      try simp only [Act.put, List.getElem_toArray, List.getElem_cons_zero, List.getElem_cons_succ, List.setIfInBounds_toArray, List.set_cons_zero, List.set_cons_succ]
      refine wpAnyH_take (i := 23) (v := ?_) rfl (by kernel_rfl) (by kernel_rfl) (by kernel_rfl) (fun _ _ _ h => h) (Or.inl ⟨by rfl, ?_⟩) (by assumption) ?_
      rotate_left
      · (intro w hSw; (try dsimp only at hSw); go_simp; try with_reducible rfl)
      try simp only [Act.put, List.getElem_toArray, List.getElem_cons_zero, List.getElem_cons_succ, List.setIfInBounds_toArray, List.set_cons_zero, List.set_cons_succ]
      refine wpAnyH_take (i := 24) (v := ?_) rfl (by kernel_rfl) (by kernel_rfl) (by kernel_rfl) (fun _ _ _ h => h) (Or.inl ⟨by rfl, ?_⟩) (by assumption) ?_
      rotate_left
      · (intro w hSw; (try dsimp only at hSw); go_simp; try with_reducible rfl)
      try simp only [Act.put, List.getElem_toArray, List.getElem_cons_zero, List.getElem_cons_succ, List.setIfInBounds_toArray, List.set_cons_zero, List.set_cons_succ]
      refine wpAnyH_take (i := 25) (v := ?_) rfl (by kernel_rfl) (by kernel_rfl) (by kernel_rfl) (fun _ _ _ h => h) (Or.inl ⟨by rfl, ?_⟩) (by assumption) ?_
      rotate_left
      · (intro w hSw; (try dsimp only at hSw); go_simp; try with_reducible rfl)
      try simp only [Act.put, List.getElem_toArray, List.getElem_cons_zero, List.getElem_cons_succ, List.setIfInBounds_toArray, List.set_cons_zero, List.set_cons_succ]
      refine wpAnyH_take (i := 26) (v := ?_) rfl (by kernel_rfl) (by kernel_rfl) (by kernel_rfl) (fun _ _ _ h => h) (Or.inl ⟨by rfl, ?_⟩) (by assumption) ?_
      rotate_left
      · (intro w hSw; (try dsimp only at hSw); go_simp; try with_reducible rfl)
      try simp only [Act.put, List.getElem_toArray, List.getElem_cons_zero, List.getElem_cons_succ, List.setIfInBounds_toArray, List.set_cons_zero, List.set_cons_succ]
      refine wpAnyH_take (i := 27) (v := ?_) rfl (by kernel_rfl) (by kernel_rfl) (by kernel_rfl) (fun _ _ _ h => h) (Or.inl ⟨by rfl, ?_⟩) (by assumption) ?_
      rotate_left
      · (intro w hSw; (try dsimp only at hSw); go_simp; try with_reducible rfl)
      try simp only [Act.put, List.getElem_toArray, List.getElem_cons_zero, List.getElem_cons_succ, List.setIfInBounds_toArray, List.set_cons_zero, List.set_cons_succ]
      refine wpAnyH_ready (rs := [28]) (by kernel_rfl) (by simp) ?_
      refine AllReadyH.cons rfl (fun K hK => ?_) AllReadyH.nil
      go_simp
      refine hK.out _ _ ?_ (fun hHeld => ?_)
      · exact HS.out _ (by repeat' (first | with_reducible exact Below.refl _ _ | with_reducible assumption | with_reducible apply Below.alloc | with_reducible apply Below.setCell | with_reducible apply Below.drew | exact Nat.le_refl _ | omega | (simp only [World.size_alloc, World.size_setCell]; omega)))
      clear hK K
      try simp only [Act.put, List.setIfInBounds_toArray, List.set_cons_zero, List.set_cons_succ]
      refine wpAnyH_take (i := 29) (v := ?_) rfl (by kernel_rfl) (by kernel_rfl) (by kernel_rfl) (fun _ _ _ h => h) (Or.inl ⟨by rfl, ?_⟩) (by assumption) ?_
      rotate_left
      · (intro w hSw; (try dsimp only at hSw); go_simp; try with_reducible rfl)
      try simp only [Act.put, List.getElem_toArray, List.getElem_cons_zero, List.getElem_cons_succ, List.setIfInBounds_toArray, List.set_cons_zero, List.set_cons_succ]
      refine wpAnyH_done (by kernel_rfl) ?_ _
      show wpList _ _ _ _ _ _
      clear hHeld hs hcq hmq hs2 B2 hE2
      go_wp2
      refine bodyPost_ret (v := .agg #[.int .i64 b.X, .int .i64 b.Y, .int .i64 b.Whole, .slice (some ⟨gt, 0, none⟩) b.Rows.length c]) ?_ rfl ?_
      · simp [results, Tryz.results85, go_sem, e0, e1, e2, e3]
      · exact ⟨⟨b.X, b.Y, b.Whole, b.Rows.set 0 [n0 + 1, n1 - 1, n2, n3]⟩, some ⟨gt, 0, none⟩, c, _, by simp only [List.length_set], ⟨by simp only [List.length_set]; exact hend.1.sameHeap rfl, hcE.up (by omega), hmE⟩⟩
    · have hpi : ¬ (0 : Int) < (b.Rows.length : Int) := by omega
      clear hp
      obtain ⟨⟨g0, g1, g2, g3⟩, gf⟩ := hs.cells
      obtain ⟨⟨g0, g1, g2, g3⟩, gf⟩ := hs.cells
      obtain ⟨e0, e1, e2, e3, ef⟩ := hs.retAt
      have hend := hs.out
      have hcE := hcq.far HRD.out hg0 (Nat.le_refl _) hmq hend.2
      have hmE := hmq.low hend.2
      clear hs hcq hmq
      try simp only [List.length_set] at hend hcE hmE g3
      go_wp2
      refine bodyPost_ret (v := .agg #[.int .i64 b.X, .int .i64 b.Y, .int .i64 b.Whole, .slice a b.Rows.length c]) ?_ rfl ?_
      · simp [results, Tryz.results85, go_sem, e0, e1, e2, e3]
      · exact ⟨⟨b.X, b.Y, b.Whole, b.Rows⟩, a, c, _, by first | rfl | simp only [List.length_set], ⟨by first | exact hend.1 | (simp only [List.length_set]; exact hend.1), hcE.up (by omega), hmE⟩⟩
  by_cases q2 : q = 2
  · subst q2
    rw [show ((2 : Nat) : Int) = (2 : Int) from rfl]
    obtain ⟨⟨g0, g1, g2, g3⟩, gf⟩ := hs.cells
    have hl16 := HSM.out.len
    have hvl : vs.length = b.Rows.length := hs.rows.len
    have hn9 : vs.length ≤ 4194304 := by omega
    have HVL := Lib.hid hvl
    have hz1 := hs.z1
    have htp := hs.rows.top.kept (w' := w1.alloc (.cells #[.int .i64 1, .int .i64 0, .int .i64 0, .int .i64 0] 3)) ((Below.refl _ _).alloc (Nat.le_refl _) _) (Nat.le_refl _)
    clear hvl hl16
    go_wp2_with (at_builtin; refine append1_at (m := w1.heap.size + 1) rfl _ _ 24 33 rfl Tryz.underlying24 Tryz.infoInts rfl htp (by simp) rfl rfl rfl hn9 (by omega) (by rw [World.size_alloc]; omega) ?_)
    intro a2 c2 w2 hT2 hg2
    obtain ⟨hsN, B2, f1, f2⟩ := hs.app (rs := [1, 0, 0, 0]) (by simp [maxLen]) (cs := #[.int .i64 1, .int .i64 0, .int .i64 0, .int .i64 0]) rfl hT2 hg2 (by rw [HVL.out]; simp)
    have hcqN := hcq.far HRD.out hg0 (Nat.le_refl _) hmq B2
    have hmqN := hmq.low B2
    obtain ⟨⟨k0, k1, k2, k3⟩, kf⟩ := hsN.cells
    have hln : (b.Rows ++ [[1, 0, 0, 0]]).length = vs.length + 1 := by rw [HVL.out]; simp
    rw [hln] at k3
    have HLN := Lib.hid hln
    clear hs hcq hmq B2 htp hT2 hg2 g0 g1 g2 g3 gf hln
    obtain ⟨⟨g0, g1, g2, g3⟩, gf⟩ := hsN.cells
    obtain ⟨e0, e1, e2, e3, ef⟩ := hsN.retAt
    have hend := hsN.out
    have hcE := hcqN.far HRD.out hg0 (Nat.le_refl _) hmqN hend.2
    have hmE := hmqN.low hend.2
    clear hsN hcqN hmqN
    try simp only [HLN.out] at hend hcE hmE g3
    go_wp2
    refine bodyPost_ret (v := .agg #[.int .i64 b.X, .int .i64 b.Y, .int .i64 b.Whole, .slice a2 (vs.length + 1) c2]) ?_ rfl ?_
    · simp [results, Tryz.results85, go_sem, e0, e1, e2, e3]
    · exact ⟨⟨b.X, b.Y, b.Whole, b.Rows ++ [[1, 0, 0, 0]]⟩, a2, c2, _, by first | rfl | simp only [HLN.out], ⟨by first | exact hend.1 | (simp only [HLN.out]; exact hend.1), hcE.up (by omega), hmE⟩⟩
  by_cases q3 : q = 3
  · subst q3
    rw [show ((3 : Nat) : Int) = (3 : Int) from rfl]
    by_cases hp : 0 < b.Rows.length
    · have hpi : (0 : Int) < (b.Rows.length : Int) := by omega
      obtain ⟨rs, hrs⟩ : ∃ rs, b.Rows[0]? = some rs := ⟨_, List.getElem?_eq_getElem hp⟩
      obtain ⟨h4, hbd⟩ := HSM.out.row 0 rs hrs
      obtain ⟨gt, gr, cr, n0, n1, n2, n3, rfl, rfl, ltt, ft, ct, c0, c1, c2, c3⟩ := hs.path hrs h4
      obtain ⟨⟨g0, g1, g2, g3⟩, gf⟩ := hs.cells
      have hsN : SpSt w0 gb (gb + 1) ((w1.setCell ⟨gt, 0, none⟩ (.slice (some ⟨w1.heap.size, 0, none⟩) 3 3)).alloc (.cells #[.int .i64 b.Whole, .int .i64 0, .int .i64 0] 3)) b.X b.Y b.Whole (b.Rows.set 0 [b.Whole, 0, 0]) (some ⟨gt, 0, none⟩) c (vs.set 0 (.slice (some ⟨w1.heap.size, 0, none⟩) 3 3)) := by
        have h := hs.row0 (gt := gt) (rs := [b.Whole, 0, 0]) rfl hp (by simp [maxLen]) (cs := #[.int .i64 b.Whole, .int .i64 0, .int .i64 0]) rfl
        rw [World.setCell_alloc_past _ _ _ _ ltt] at h
        exact h
      have B2 : Below w0.heap.size w1 ((w1.setCell ⟨gt, 0, none⟩ (.slice (some ⟨w1.heap.size, 0, none⟩) 3 3)).alloc (.cells #[.int .i64 b.Whole, .int .i64 0, .int .i64 0] 3)) :=
        ((Below.refl _ _).setCell (by show w0.heap.size ≤ gt; exact (hs.rows.top.lt gt rfl).1) _).alloc (by rw [World.size_setCell]; exact hs.z1) _
      have hcqN := hcq.far HRD.out hg0 (Nat.le_refl _) hmq B2
      have hmqN := hmq.low B2
      obtain ⟨⟨k0, k1, k2, k3⟩, kf⟩ := hsN.cells
      simp only [List.length_set] at k3
      clear hrs h4 hbd hp hs hcq hmq B2
      obtain ⟨⟨g0, g1, g2, g3⟩, gf⟩ := hsN.cells
      obtain ⟨e0, e1, e2, e3, ef⟩ := hsN.retAt
      have hend := hsN.out
      have hcE := hcqN.far HRD.out hg0 (Nat.le_refl _) hmqN hend.2
      have hmE := hmqN.low hend.2
      clear hsN hcqN hmqN
      try simp only [List.length_set] at hend hcE hmE g3
      go_wp2
      refine bodyPost_ret (v := .agg #[.int .i64 b.X, .int .i64 b.Y, .int .i64 b.Whole, .slice (some ⟨gt, 0, none⟩) b.Rows.length c]) ?_ rfl ?_
      · simp [results, Tryz.results85, go_sem, e0, e1, e2, e3]
      · exact ⟨⟨b.X, b.Y, b.Whole, b.Rows.set 0 [b.Whole, 0, 0]⟩, (some ⟨gt, 0, none⟩), c, _, by first | rfl | simp only [List.length_set], ⟨by first | exact hend.1 | (simp only [List.length_set]; exact hend.1), hcE.up (by omega), hmE⟩⟩
    · have hpi : ¬ (0 : Int) < (b.Rows.length : Int) := by omega
      clear hp
      obtain ⟨⟨g0, g1, g2, g3⟩, gf⟩ := hs.cells
      obtain ⟨⟨g0, g1, g2, g3⟩, gf⟩ := hs.cells
      obtain ⟨e0, e1, e2, e3, ef⟩ := hs.retAt
      have hend := hs.out
      have hcE := hcq.far HRD.out hg0 (Nat.le_refl _) hmq hend.2
      have hmE := hmq.low hend.2
      clear hs hcq hmq
      try simp only [List.length_set] at hend hcE hmE g3
      go_wp2
      refine bodyPost_ret (v := .agg #[.int .i64 b.X, .int .i64 b.Y, .int .i64 b.Whole, .slice a b.Rows.length c]) ?_ rfl ?_
      · simp [results, Tryz.results85, go_sem, e0, e1, e2, e3]
      · exact ⟨⟨b.X, b.Y, b.Whole, b.Rows⟩, a, c, _, by first | rfl | simp only [List.length_set], ⟨by first | exact hend.1 | (simp only [List.length_set]; exact hend.1), hcE.up (by omega), hmE⟩⟩
  by_cases q4 : q = 4
  · subst q4
    rw [show ((4 : Nat) : Int) = (4 : Int) from rfl]
    obtain ⟨e0, e1, e2, e3, ef⟩ := hs.retAt
    have hend := set4W_below (w := w1) hs.r1 (.int .i64 0) (.int .i64 0) (.int .i64 0) (.slice none 0 0)
    have hcE := hcq.far HRD.out hg0 (Nat.le_refl _) hmq hend
    have hmE := hmq.low hend
    clear hs hcq hmq
    go_wp2
    refine bodyPost_ret (v := .agg #[.int .i64 0, .int .i64 0, .int .i64 0, .slice none 0 0]) ?_ rfl ?_
    · simp [results, Tryz.results85, go_sem, e0, e1, e2, e3]
    · exact ⟨⟨0, 0, 0, []⟩, none, 0, [], rfl, ⟨OwnII.nil _ _ _ _ _, hcE.up (by omega), hmE⟩⟩
  · have z0 : ((q : Int) == 0) = false := by simp; omega
    have z1 : ((q : Int) == 1) = false := by simp; omega
    have z2 : ((q : Int) == 2) = false := by simp; omega
    have z3 : ((q : Int) == 3) = false := by simp; omega
    have z4 : ((q : Int) == 4) = false := by simp; omega
    clear q0 q1 q2 q3 q4
    obtain ⟨⟨g0, g1, g2, g3⟩, gf⟩ := hs.cells
    obtain ⟨e0, e1, e2, e3, ef⟩ := hs.retAt
    have hend := hs.out
    have hcE := hcq.far HRD.out hg0 (Nat.le_refl _) hmq hend.2
    have hmE := hmq.low hend.2
    clear hs hcq hmq
    try simp only [List.length_set] at hend hcE hmE g3
    go_wp2
    refine bodyPost_ret (v := .agg #[.int .i64 b.X, .int .i64 b.Y, .int .i64 b.Whole, .slice a b.Rows.length c]) ?_ rfl ?_
    · simp [results, Tryz.results85, go_sem, e0, e1, e2, e3]
    · exact ⟨⟨b.X, b.Y, b.Whole, b.Rows⟩, a, c, _, by first | rfl | simp only [List.length_set], ⟨by first | exact hend.1 | (simp only [List.length_set]; exact hend.1), hcE.up (by omega), hmE⟩⟩
end Go.Proofs.YtcifpfdlkpddeaaGreatDoor
