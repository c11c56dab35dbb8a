/- What the reference draws: a box that is hardly ever quiet. -/
import Derived.Test.YtcifpfdlkpddeaaGreatDoorQxbe
set_option linter.unusedSimpArgs false
set_option linter.unusedVariables false
namespace Go.Proofs.YtcifpfdlkpddeaaGreatDoor
open Go.RowKit Go.WideShapes

/-- A box variable in the world at hand. -/
abbrev BxV (B gb : Nat) (wr : World) (x y wh : Int) (rss : List (List Int)) (a : Option Addr) (c : Nat) (vs : List Value) : Prop := BoxRel wr B gb B wr x y wh rss a c vs
section
variable {g B gb : Nat} {wo wz w2 : World} {x y wh : Int} {rss : List (List Int)} {a : Option Addr} {c : Nat} {vs : List Value}
theorem BxV.cur (h : BxV B gb wo x y wh rss a c vs) (hm : Mid g (g + 1) wo wz) (hg : g < B) : BxV B gb wz x y wh rss a c vs :=
  ⟨Below.refl _ _, h.b1, h.b2, Nat.le_trans h.b3 hm.size, Nat.le_trans h.b4 hm.size, by rw [hm.block gb h.lt (by have := h.b1; omega)]; exact h.box, (h.rows.mid hm (Or.inr (by omega))).weaken (Nat.le_refl _) hm.size⟩
theorem BxV.root {w0 : World} (h : BoxRel w0 B gb B wo x y wh rss a c vs) : BxV B gb wo x y wh rss a c vs :=
  ⟨Below.refl _ _, h.b1, h.b2, h.b4, h.b4, h.box, h.rows⟩
theorem BxV.push {a2 ar : Option Addr} {c2 n nr cr : Nat} {rs : List Int}
    (h : BxV B gb wo x y wh rss a c vs) (hm : Mid g (g + 1) wo wz) (hgB : g < B) (hrow : OwnV 3 wo.heap.size wz.heap.size wz (.slice ar nr cr) (ints rs))
    (ht : OwnV 33 B w2.heap.size w2 (.slice a2 n c2) (vs ++ [.slice ar nr cr])) (hg : wz.grownBy w2 (Value.slice a rss.length c).ownBlock) (hn : n = (rss ++ [rs]).length) :
    BoxRel wz B gb B (w2.setCell ⟨gb, 3, none⟩ (.slice a2 n c2)) x y wh (rss ++ [rs]) a2 c2 (vs ++ [.slice ar nr cr]) ∧
      w2.cell? ⟨gb, 3, none⟩ = some (.slice a rss.length c) ∧ w2.frozen? ⟨gb, 3, none⟩ = false := by
  subst hn
  have h1 := h.cur hm hgB
  have hrows : OwnII 33 3 B w2.heap.size w2 (.slice a2 (rss ++ [rs]).length c2) (rss ++ [rs]) (vs ++ [.slice ar nr cr]) :=
    (h.rows.mid hm (Or.inr (by omega))).snoc hrow (Nat.le_refl _) h.b4 hm.size ht hg hg.size (by decide)
  have hne : (Value.slice a rss.length c).ownBlock ≠ some gb := h1.rows.top.ne_tag h1.box (by decide)
  have e : w2.heap[gb]? = some (.cells #[.int .i64 x, .int .i64 y, .int .i64 wh, .slice a rss.length c] 26 (0, 0)) := by
    rw [hg.block gb h1.lt (fun e => hne e.symm)]; exact h1.box
  have hb2 : Below B wz w2 := (Below.refl _ _).grown hg h1.b4 (fun k hk => (h1.rows.top.lt k hk).1)
  refine ⟨⟨hb2.setCell (by show B ≤ gb; exact h.b1) _, h.b1, h.b2, h1.b4, ?_, ?_, ?_⟩, ?_, ?_⟩
  · rw [World.size_setCell]; exact Nat.le_trans h1.b4 hg.size
  · simp [World.setCell, Array.getElem?_modify, e]
  · rw [World.size_setCell]
    exact hrows.tag e (by decide) (by decide) fun k hk => Below.heap_setCell _ _ _ _ hk
  · simp [World.cell?, e]
  · simp [World.frozen?, e]
end
theorem RetAt.midc {w w' : World} {r g : Nat} (h : RetAt w r) (hm : Mid g (g + 1) w w') (hg : g < r) : RetAt w' r := by
  have hl := h.lt
  have hb := hm.block r hl (by omega)
  have hc : ∀ j, w'.cell? ⟨r, j, none⟩ = w.cell? ⟨r, j, none⟩ := fun j => World.cell?_of_block (w := w) (a := ⟨r, j, none⟩) hb
  have hf : ∀ j, w'.frozen? ⟨r, j, none⟩ = w.frozen? ⟨r, j, none⟩ := fun j => by unfold World.frozen?; simp only [hb]
  exact ⟨by rw [hc]; exact h.e0, by rw [hc]; exact h.e1, by rw [hc]; exact h.e2, by rw [hc]; exact h.e3, fun o => by rw [hf]; exact h.ef o⟩
/-- Four stores into a result variable. -/
abbrev set4W (w : World) (r : Nat) (x y z u : Value) : World := (((w.setCell ⟨r, 0, none⟩ x).setCell ⟨r, 1, none⟩ y).setCell ⟨r, 2, none⟩ z).setCell ⟨r, 3, none⟩ u
theorem set4W_below {w : World} {r B : Nat} (h : B ≤ r) (x y z u : Value) : Below B w (set4W w r x y z u) :=
  ((((Below.refl B w).setCell (by show B ≤ r; exact h) _).setCell (by show B ≤ r; exact h) _).setCell (by show B ≤ r; exact h) _).setCell (by show B ≤ r; exact h) _

/-- Small numbers in four places a row. -/
structure SmB (b : BoxD) : Prop where
  len : b.Rows.length ≤ 16
  row : ∀ (i : Nat) (rs : List Int), b.Rows[i]? = some rs → rs.length = 4 ∧ ∀ (j : Nat) (n : Int), rs[j]? = some n → 0 ≤ n ∧ n ≤ 1000
  whole : 0 ≤ b.Whole ∧ b.Whole ≤ 1000
/-- A row to be filled: what is left of the sum. -/
structure RowL (rs : List Int) (left : Nat) : Prop where
  len : rs.length = 4
  bd : ∀ (j : Nat) (n : Int), rs[j]? = some n → 0 ≤ n ∧ n + left ≤ 12
theorem RowL.start (k : Nat) (h : k ≤ 12) : RowL (List.replicate 4 0) k := ⟨rfl, fun j n hj => by
  have := List.eq_of_mem_replicate (List.mem_of_getElem? hj)
  omega⟩
theorem RowL.step {rs : List Int} {left k p : Nat} {n : Int} (h : RowL rs left) (hn : rs[k]? = some n) (hp : p ≤ left) : RowL (rs.set k (n + p)) (left - p) :=
  ⟨by rw [List.length_set]; exact h.len, fun j x hx => by
    rw [List.getElem?_set] at hx
    by_cases e : k = j
    · subst e
      have := h.bd k n hn
      rw [if_pos rfl] at hx
      split at hx
      · cases hx; omega
      · cases hx
    · rw [if_neg e] at hx
      have := h.bd j x hx
      omega⟩
theorem rowsL_snoc {rss : List (List Int)} {rs : List Int} (h : ∀ (j : Nat) (r : List Int), rss[j]? = some r → RowL r 0) (hr : RowL rs 0) : ∀ (j : Nat) (r : List Int), (rss ++ [rs])[j]? = some r → RowL r 0 := by
  intro j r hj
  rw [List.getElem?_append] at hj
  split at hj
  · exact h j r hj
  · have : r ∈ [rs] := List.mem_of_getElem? hj
    simp at this
    rw [this]; exact hr
/-- A box of the call's own beside the cursor. -/
def BoxDrawn (w : World) (p : BoxD → Prop) (e : Ending) (w' : World) : Prop := ∃ (b : BoxD) (a : Option Addr) (c : Nat) (vs : List Value), e = .returned (.agg #[.int .i64 b.X, .int .i64 b.Y, .int .i64 b.Whole, .slice a b.Rows.length c]) ∧ p b ∧
  OwnII 33 3 w.heap.size w'.heap.size w' (.slice a b.Rows.length c) b.Rows vs

set_option maxRecDepth 20000 in
set_option maxHeartbeats 6400000 in
theorem someBox_any (g : Nat) (v : Value) (n A : Nat) (x y : Int) (w : World) (hc : CurB g v n A w) (hA : A ≤ 900000) :
    Calls Tryz.prog 86 #[.pointer (some ⟨g, 0, none⟩), .int .i64 x, .int .i64 y] w fun e w' => BoxDrawn w (fun b => SmB b ∧ b.X = x ∧ b.Y = y) e w' ∧ CurB g v n (A + 1000) w' ∧ Mid g (g + 1) w w' := by
  have hg := hc.lt
  have HRD := Lib.hid hc.rd
  have NX := Lib.hid (fun W => l2Near_any x W)
  have NY := Lib.hid (fun W => l2Near_any y W)
  have nx := near_le x
  have ny := near_le y
  generalize near x = kx at *
  generalize near y = ky at *
  obtain ⟨m, hm⟩ : ∃ m, m = kx * ky := ⟨_, rfl⟩
  have hm16 : m ≤ 16 := by rw [hm]; exact Nat.mul_le_mul nx ny
  have hmi : (kx : Int) * (ky : Int) = (m : Int) := by rw [hm]; simp
  have R0 : RetAt (w.alloc (.cells #[.int .i64 0, .int .i64 0, .int .i64 0, .slice none 0 0] 26)) w.heap.size := RetAt.made w
  have hc0 : CurB g v n A (w.alloc (.cells #[.int .i64 0, .int .i64 0, .int .i64 0, .slice none 0 0] 26)) := hc.kept (Nat.le_refl _) ((Below.refl _ _).alloc (Nat.le_refl _) _)
  have hm0 : Mid g (g + 1) w (w.alloc (.cells #[.int .i64 0, .int .i64 0, .int .i64 0, .slice none 0 0] 26)) := mid_alloc g w _
  have C0 := among_made g v n A [4, 2, 6, 1, 8, 12] _ hc0.cur hc0.rd (by omega) (by decide) (by decide)
  rw [World.size_alloc] at C0
  go_enter Tryz.func86, Tryz.ntmps86
  go_wp2_with fail
  refine C0.mono ?_
  rintro e w2 ⟨wh, hwh, rfl, hc2, hm2⟩
  have hwb : 1 ≤ wh ∧ wh ≤ 12 := by simp at hwh; omega
  obtain ⟨wn, rfl⟩ := Int.eq_ofNat_of_zero_le (show 0 ≤ wh by omega)
  have R2 := R0.midc hm2 hg
  have h2 := hc0.step hc2 hm2
  have m2 := hm0.trans hm2
  have z2 := hm2.size
  rw [World.size_alloc] at z2
  clear R0 hc0 hm0 C0 hwh hc2 hm2 hm
  obtain ⟨w3, hw3⟩ : ∃ w3, w3 = w2.alloc (.cells #[.int .i64 x, .int .i64 y, .int .i64 wn, .slice none 0 0] 26) := ⟨_, rfl⟩
  have B23 : Below w2.heap.size w2 w3 := by rw [hw3]; exact (Below.refl _ _).alloc (Nat.le_refl _) _
  have X3 : BxV (w.heap.size + 1) w2.heap.size w3 x y wn [] none 0 [] :=
    ⟨Below.refl _ _, z2, Nat.le_refl _, by rw [hw3, World.size_alloc]; omega, by rw [hw3, World.size_alloc]; omega, by rw [hw3]; exact heap_alloc_new w2 _, OwnII.nil _ _ _ _ _⟩
  have R3 := R2.kept B23 R2.lt
  have h3 := h2.kept (Nat.le_refl _) B23
  have m3 := m2.trans (Mid.of_below B23 (Nat.le_refl _))
  obtain ⟨gb, hgb⟩ : ∃ gb, gb = w2.heap.size := ⟨_, rfl⟩
  rw [← hgb] at X3
  clear R2 h2 m2 B23
  go_wp2
  rw [← hw3, ← hgb]
  clear hw3 hgb
  go_loopw [8] (fun s8 wr => ∃ (i : Nat) (rss : List (List Int)) (a : Option Addr) (c : Nat) (vs : List Value), i ≤ m ∧ s8 = .int .i64 i ∧ rss.length = i ∧ (∀ (j : Nat) (rs : List Int), rss[j]? = some rs → RowL rs 0) ∧ BxV (w.heap.size + 1) gb wr x y wn rss a c vs ∧ RetAt wr w.heap.size ∧ CurB g v n (A + 2 + 60 * i) wr ∧ Mid g (g + 1) w wr) (fun s8 _ => m - (intOf s8).toNat)
  case atStart => exact ⟨0, [], none, 0, [], by omega, rfl, rfl, fun j rs h => by simp at h, X3, R3, h3, m3⟩
  case round =>
    clear X3 R3 h3 m3
    obtain ⟨i, rss, a, c, vs, hi, rfl, hl, hrs, hX, hR, hcr, hm⟩ := hrel
    have HL := Lib.hid hl
    have HS := Lib.hid hrs
    have hz := hm.size
    have hlv : vs.length = rss.length := hX.rows.len
    have hn9 : vs.length ≤ 4194304 := by omega
    have HLV := Lib.hid hlv
    clear hl hrs hlv
    go_wp2_with fail
    refine (NX.out _).mono ?_
    rintro e w1 ⟨rfl, rfl⟩
    go_wp2_with fail
    refine (NY.out _).mono ?_
    rintro e w1 ⟨rfl, rfl⟩
    by_cases hlt : i < m
    · have hlti : (i : Int) < (m : Int) := by omega
      obtain ⟨⟨g0, g1, g2, g3⟩, gf⟩ := hX.cells
      have lgb := hX.lt
      have hwf := wrap_in ((kx : Int) * (ky : Int)) (by omega) (by omega)
      rw [hmi] at hwf
      have hmk := mk4_run
      obtain ⟨wo, rfl⟩ : ∃ wo : World, wo = wr := ⟨_, rfl⟩
      have hO0 : OwnV 3 wo.heap.size (wo.heap.size + 1) (wo.alloc (.cells zero4 3)).drew (.slice (some ⟨wo.heap.size, 0, none⟩) 4 4) (ints (List.replicate 4 0)) := zero4_own wo
      have hB0 : Below wo.heap.size wo (wo.alloc (.cells zero4 3)).drew := ((Below.refl _ _).alloc (Nat.le_refl _) _).drew
      have hc0 := hcr.kept (Nat.le_refl _) hB0
      have hm0 : Mid g (g + 1) wo (wo.alloc (.cells zero4 3)).drew := Mid.of_below hB0 (Nat.le_refl _)
      have hcd := hcr.rd
      have HRO := Lib.hid hcd
      have hgo := hcr.lt
      go_wp2
      refine wp_region_held_drew (S := fun W => W.cell? ⟨gb, 2, none⟩ = some (.int .i64 wn)) (by first | rfl | kernel_rfl) g2 (fun hHeld => ?_)
      refine wpAnyH_take (i := 1) (v := ?_) rfl (by kernel_rfl) (by kernel_rfl) (by kernel_rfl) (fun _ _ _ h => h) (Or.inl ⟨by rfl, ?_⟩) (by assumption) ?_
      rotate_left
      · (intro w hSw; (try dsimp only at hSw); go_simp; try with_reducible rfl)
      try simp only [Act.put, List.getElem_toArray, List.getElem_cons_zero, List.getElem_cons_succ, List.setIfInBounds_toArray, List.set_cons_zero, List.set_cons_succ]
      refine wpAnyH_take (i := 2) (v := ?_) rfl (by kernel_rfl) (by kernel_rfl) (by kernel_rfl) (fun _ _ _ h => h) (Or.inl ⟨by rfl, ?_⟩) (by assumption) ?_
      rotate_left
      · (intro w hSw; (try dsimp only at hSw); go_simp; try with_reducible rfl)
      try simp only [Act.put, List.getElem_toArray, List.getElem_cons_zero, List.getElem_cons_succ, List.setIfInBounds_toArray, List.set_cons_zero, List.set_cons_succ]
      refine wpAnyH_ready (rs := [0]) (by kernel_rfl) (by simp) ?_
      refine AllReadyH.cons rfl (fun K hK => ?_) AllReadyH.nil
      go_simp
      refine hK.out _ _ ?_ (fun hHeld => ?_)
      · exact cell_under (by exact lgb) (cell_drew g2)
      clear hK K
      try simp only [Act.put, List.setIfInBounds_toArray, List.set_cons_zero, List.set_cons_succ]
      refine wpAnyH_take (i := 3) (v := ?_) rfl (by kernel_rfl) (by kernel_rfl) (by kernel_rfl) (fun _ _ _ h => h) (Or.inl ⟨by rfl, ?_⟩) (by assumption) ?_
      rotate_left
      · (intro w hSw; (try dsimp only at hSw); go_simp; try with_reducible rfl)
      try simp only [Act.put, List.getElem_toArray, List.getElem_cons_zero, List.getElem_cons_succ, List.setIfInBounds_toArray, List.set_cons_zero, List.set_cons_succ]
      refine wpAnyH_take (i := 4) (v := ?_) rfl (by kernel_rfl) (by kernel_rfl) (by kernel_rfl) (fun _ _ _ h => h) (Or.inl ⟨by rfl, ?_⟩) (by assumption) ?_
      rotate_left
      · (intro w hSw; (try dsimp only at hSw); go_simp; try with_reducible rfl)
      try simp only [Act.put, List.getElem_toArray, List.getElem_cons_zero, List.getElem_cons_succ, List.setIfInBounds_toArray, List.set_cons_zero, List.set_cons_succ]
      refine wpAnyH_done (by kernel_rfl) ?_ _
      clear hmk hHeld g0 g1 gf hcr hcd
      go_wp2
      go_loopw [10] (fun s10 wz => ∃ (left : Nat) (rs : List Int), left ≤ 12 ∧ s10 = .int .i64 left ∧ RowL rs left ∧ OwnV 3 wo.heap.size wz.heap.size wz (.slice (some ⟨wo.heap.size, 0, none⟩) 4 4) (ints rs) ∧ CurB g v n (A + 2 + 60 * i + 4 * (12 - left)) wz ∧ Mid g (g + 1) wo wz) (fun s10 _ => (intOf s10).toNat)
      case atStart => exact ⟨wn, _, by omega, rfl, RowL.start wn (by omega), by show OwnV _ _ (wo.alloc _).heap.size _ _ _; rw [World.size_alloc]; exact hO0, hc0.up (by omega), hm0⟩
      case round =>
        clear hO0 hB0 hc0 hm0
        obtain ⟨left, rs, hlf, rfl, hrl, hO, hcr, hmz⟩ := hrel
        by_cases hlp : 0 < left
        · have hlpi : (0 : Int) < (left : Int) := by omega
          have C1 := pick_any g v n (A + 2 + 60 * i + 4 * (12 - left)) left wr hcr.cur hcr.rd (by omega) hlp (by omega)
          go_wp2_with fail
          refine C1.mono ?_
          rintro e w4 ⟨p, rfl, hp, hc4, hm4⟩
          have h4 := hcr.step hc4 hm4
          have C2 := pick_any g v n (A + 2 + 60 * i + 4 * (12 - left) + 2) 4 w4 h4.cur h4.rd (by omega) (by decide) (by decide)
          clear C1
          go_wp2_with fail
          refine C2.mono ?_
          rintro e w5 ⟨k, rfl, hk, hc5, hm5⟩
          have h5 := h4.step hc5 hm5
          have hmm := (hmz.trans hm4).trans hm5
          have hO5 := ((hO.mid hm4 (Or.inr (by omega))).mid hm5 (Or.inr (by omega))).weaken (hi' := w5.heap.size) (Nat.le_refl _) (Nat.le_trans hm4.size hm5.size)
          obtain ⟨r, hr⟩ : ∃ r, rs[k]? = some r := ⟨_, List.getElem?_eq_getElem (by rw [hrl.len]; exact hk)⟩
          have hrb := hrl.bd k r hr
          obtain ⟨hat, hfz, _, _, hlt5⟩ := hO5.at
          have ck := hat k (.int .i64 r) (by simp [ints, hr])
          have fk := hfz k
          have hstp := hrl.step hr (p := 1 + p) (by omega)
          have hkl : k < (ints rs).length := by rw [ints_length, hrl.len]; exact hk
          have hO6 := (hO5.set (g := wo.heap.size) (j := k) rfl hkl (.int .i64 (r + (1 + (p : Int))))).weaken (hi' := (w5.setCell ⟨wo.heap.size, k, none⟩ (.int .i64 (r + (1 + (p : Int))))).heap.size) (Nat.le_refl _) (by rw [World.size_setCell]; exact Nat.le_refl _)
          have hls : (ints rs).set k (.int .i64 (r + (1 + (p : Int)))) = ints (rs.set k (r + ((1 + p : Nat) : Int))) := by simp [ints, List.map_set]
          rw [hls] at hO6
          have hB6 : Below wo.heap.size w5 (w5.setCell ⟨wo.heap.size, k, none⟩ (.int .i64 (r + (1 + (p : Int))))) := (Below.refl _ _).setCell (by show wo.heap.size ≤ wo.heap.size; exact Nat.le_refl _) _
          have h6 := h5.far HRO.out hgo (Nat.le_refl _) hmm hB6
          have hm6 := hmm.low hB6
          have k0 : (0 : Int) ≤ (k : Int) := by omega
          have k1 : (k : Int) < 4 := by omega
          have hw1 := wrap_in (1 + (p : Int)) (by omega) (by omega)
          have hw2 := wrap_in (r + (1 + (p : Int))) (by omega) (by omega)
          have hw3 := wrap_in ((left : Int) - (1 + (p : Int))) (by omega) (by omega)
          have HST := Lib.hid hstp
          clear hat hfz hr hrb hstp hkl hls hB6 hO hO5 C2 hrl hcr hmz h4 h5 hmm hc4 hc5 hm4 hm5
          go_wp2
          go_roundw
          case rel => exact ⟨left - (1 + p), _, by omega, by congr 1; omega, HST.out, hO6, h6.up (by omega), hm6⟩
          case measure => simp [intOf]; omega
        · obtain rfl : left = 0 := by omega
          have hXz := hX.cur hmz (by omega)
          have htp := hXz.rows.top
          have hRz := hR.midc hmz hg
          have hmw := hm.trans hmz
          have hzz := hmz.size
          have hlo : w.heap.size + 1 ≤ wr.heap.size := hXz.b4
          obtain ⟨⟨q0, q1, q2, q3⟩, qf⟩ := hXz.cells
          go_wp2_with (at_builtin; refine append1_own rfl _ _ 24 33 rfl Tryz.underlying24 Tryz.infoInts rfl htp rfl rfl rfl hn9 (by omega) hlo ?_)
          intro a2 c2 w6 hT6 hg6
          obtain ⟨hp1, f1, f2⟩ := hX.push hmz (by omega) hO hT6 hg6 (by rw [HLV.out]; simp)
          have hr6 := BxV.root hp1
          have B6 := hp1.below
          have hR6 := hRz.kept B6 (by omega)
          have h6 := hcr.far HRD.out (show g < w.heap.size + 1 by omega) (by omega) hmw B6
          have hm6 := hmw.low (B6.mono (by omega))
          have HRS := Lib.hid (rowsL_snoc HS.out hrl)
          clear hp1 B6 htp hXz hRz hX hR hO hT6 hg6 hcr hmz hmw hm q0 q1 q2 q3 qf g2 g3 hrl
          go_wp2
          go_roundw
          case rel => exact ⟨i + 1, rss ++ [rs], a2, c2, _, by omega, by go_num, by rw [List.length_append, HL.out]; rfl, HRS.out, hr6, hR6, h6.up (by omega), hm6⟩
          case measure => simp [intOf]; omega
    · have hlti : ¬ (i : Int) < (m : Int) := by omega
      have hwf := wrap_in ((kx : Int) * (ky : Int)) (by omega) (by omega)
      rw [hmi] at hwf
      have hrows := hX.rows
      have hgb1 := hX.b1
      obtain ⟨⟨g0, g1, g2, g3⟩, gf⟩ := hX.cells
      obtain ⟨e0, e1, e2, e3, ef⟩ := hR
      have hend := (hrows.set4 (g := w.heap.size) (by omega) (.int .i64 x) (.int .i64 y) (.int .i64 wn) (.slice a rss.length c)).weaken (lo' := w.heap.size) (by omega) (Nat.le_refl _)
      have hb4 := set4W_below (w := wr) (r := w.heap.size) (B := w.heap.size) (Nat.le_refl _) (.int .i64 x) (.int .i64 y) (.int .i64 wn) (.slice a rss.length c)
      have hc4 := hcr.far HRD.out hg (Nat.le_refl _) hm hb4
      have hm4 := hm.low hb4
      have HSM : SmB ⟨x, y, wn, rss⟩ := ⟨by show rss.length ≤ 16; have := HL.out; omega, fun j rs hj => ⟨(HS.out j rs hj).len, fun k n hk => by have := (HS.out j rs hj).bd k n hk; omega⟩, by show 0 ≤ (wn : Int) ∧ (wn : Int) ≤ 1000; omega⟩
      have HSS := Lib.hid HSM
      clear HSM hrows hX hcr hm hb4
      go_wp2
      refine bodyPost_ret (v := .agg #[.int .i64 x, .int .i64 y, .int .i64 wn, .slice a rss.length c]) ?_ rfl ?_
      · simp [results, Tryz.results86, go_sem, e0, e1, e2, e3]
      · exact ⟨⟨⟨x, y, wn, rss⟩, a, c, vs, rfl, ⟨HSS.out, rfl, rfl⟩, by simp only [World.size_setCell]; exact hend⟩, hc4.up (by omega), hm4⟩
end Go.Proofs.YtcifpfdlkpddeaaGreatDoor
