/- What the reference draws for AskAgain. -/
import Derived.Test.YtnmnmnpeoiblhaaNbbn
set_option linter.unusedSimpArgs false
set_option linter.unusedVariables false
namespace Go.Proofs.Ytnmnmnpeoiblhaa
open Go.RowKit Go.WideShapes

/-- Two lists drawn, beside a box. -/
structure AskSt (w w1 : World) (g : Nat) (v : Value) (n A : Nat) (lo : Nat) (b : BoxD) (va : Value) (zs : List Value) (wr : World) (lss : List (List Int)) (a : Option Addr) (c : Nat) (vs : List Value) : Prop where
  own : OwnII 27 3 lo wr.heap.size wr (.slice a lss.length c) lss vs
  box : wr.heap[lo + 1]? = some (.cells #[.int .i64 b.X, .int .i64 b.Y, .int .i64 b.Whole, va] 26 (0, 0))
  rows : OwnII 27 3 (w.heap.size + 2) lo wr va b.Rows zs
  cur : CurB g v n A wr
  mid : Mid g (g + 1) w1 wr
  ret : ZB wr w.heap.size
  lo : lo + 2 ≤ wr.heap.size
def AskOf (w : World) (e : Ending) (w' : World) : Prop := ∃ (b : BoxD) (xs ys : List Int) (a a1 a2 : Option Addr) (c c1 c2 : Nat) (vs : List Value), e = .returned (.tuple #[.agg #[.int .i64 b.X, .int .i64 b.Y, .int .i64 b.Whole, .slice a b.Rows.length c], .slice a1 xs.length c1, .slice a2 ys.length c2]) ∧ xs.length ≤ 4 ∧ ys.length ≤ 4 ∧
  OwnII 27 3 w.heap.size w'.heap.size w' (.slice a b.Rows.length c) b.Rows vs ∧ OwnV 3 w.heap.size w'.heap.size w' (.slice a1 xs.length c1) (ints xs) ∧ OwnV 3 w.heap.size w'.heap.size w' (.slice a2 ys.length c2) (ints ys) ∧ Below w.heap.size w w'
theorem boxAt_heap {w : World} {g : Nat} {x y z : Int} {v : Value} (h : w.heap[g]? = some (.cells #[.int .i64 x, .int .i64 y, .int .i64 z, v] 26 (0, 0))) : BoxAt w g x y z v := by
  refine ⟨?_, ?_, ?_, ?_⟩ <;> simp [World.cell?, h]
set_option maxRecDepth 20000 in
set_option maxHeartbeats 6400000 in
theorem drawAskAgain_any (v : Value) (n : Nat) (w : World) (h : RdB w v n) : Calls Try.prog 13 #[v] w (AskOf w) := by
  obtain ⟨va, vcap, rfl⟩ : ∃ a c, v = .slice a n c := by obtain ⟨a, _, _, c, hv, _⟩ := h; exact ⟨a, c, hv⟩
  have Z0 := ZB.made w
  obtain ⟨w0, hw0⟩ : ∃ w0, w0 = w.alloc (.cells #[.int .i64 0, .int .i64 0, .int .i64 0, .slice none 0 0] 26) := ⟨_, rfl⟩
  rw [← hw0] at Z0
  have z0 : w0.heap.size = w.heap.size + 1 := by rw [hw0]; exact World.size_alloc _ _
  have B0 : Below w.heap.size w w0 := by rw [hw0]; exact (Below.refl _ _).alloc (Nat.le_refl _) _
  have hR0 := h.kept B0
  obtain ⟨w1, hw1⟩ : ∃ w1, w1 = w0.alloc (.cells #[.slice va n vcap, .int .i64 0, .int .u64 0] 67) := ⟨_, rfl⟩
  have hc1 : CurB w0.heap.size (.slice va n vcap) n 0 w1 := by rw [hw1]; exact ⟨Cur.start w0 (.slice va n vcap), hR0.cur _⟩
  have B1 : Below w0.heap.size w0 w1 := by rw [hw1]; exact (Below.refl _ _).alloc (Nat.le_refl _) _
  have z1 : w1.heap.size = w.heap.size + 2 := by rw [hw1, World.size_alloc, z0]
  have Z1 := Z0.kept B1 Z0.lt
  rw [z0] at B1 hc1
  have C1 := box_any (w.heap.size + 1) (.slice va n vcap) n 0 w1 hc1 (by decide)
  have HR1 := Lib.hid hc1.rd
  rw [hw1, hw0] at C1
  have BW : Below w.heap.size w w1 := B0.trans (B1.mono (by omega))
  go_enter Try.func13, Try.ntmps13
  go_wp2_with fail
  refine C1.mono ?_
  rintro e w5 ⟨b, ba, bc, bs, rfl, hd⟩
  rw [← hw0, ← hw1] at hd
  clear C1 hw0 hw1
  obtain ⟨ob, hcb, hmb⟩ := hd
  have z5 := hmb.size
  obtain ⟨w6, hw6⟩ : ∃ w6, w6 = (w5.alloc (.cells #[] 27)).alloc (.cells #[.int .i64 b.X, .int .i64 b.Y, .int .i64 b.Whole, .slice ba b.Rows.length bc] 26) := ⟨_, rfl⟩
  have B6 : Below w5.heap.size w5 w6 := by rw [hw6]; exact ((Below.refl _ _).alloc (Nat.le_refl _) _).alloc (by rw [World.size_alloc]; omega) _
  have z6 : w6.heap.size = w5.heap.size + 2 := by rw [hw6, World.size_alloc, World.size_alloc]
  have hE : OwnII 27 3 w5.heap.size w6.heap.size w6 (.slice (some ⟨w5.heap.size, 0, none⟩) 0 0) [] [] := by
    have h1 := OwnII.empty 27 3 w5
    have h2 := h1.kept (B := w5.heap.size + 1) (w' := w6) (by rw [hw6]; exact (Below.refl _ _).alloc (by rw [World.size_alloc]; omega) _) (Nat.le_refl _)
    exact h2.weaken (Nat.le_refl _) (by omega)
  have V6 : w6.heap[w5.heap.size + 1]? = some (.cells #[.int .i64 b.X, .int .i64 b.Y, .int .i64 b.Whole, .slice ba b.Rows.length bc] 26 (0, 0)) := by
    have h := heap_alloc_new (w5.alloc (.cells #[] 27)) (.cells #[.int .i64 b.X, .int .i64 b.Y, .int .i64 b.Whole, .slice ba b.Rows.length bc] 26)
    rw [World.size_alloc] at h
    rw [hw6]
    exact h
  have A6 : AskSt w w1 (w.heap.size + 1) (.slice va n vcap) n 3000 w5.heap.size b (.slice ba b.Rows.length bc) bs w6 [] (some ⟨w5.heap.size, 0, none⟩) 0 [] :=
    ⟨hE, V6, (ob.kept B6 (Nat.le_refl _)).weaken (by omega) (Nat.le_refl _), (hcb.kept (Nat.le_refl _) B6).up (by omega), hmb.trans (Mid.of_below B6 (Nat.le_refl _)), ZB.kept (w := w5) ((hmb.block w.heap.size Z1.lt (by omega)).trans Z1) B6 (by omega), by omega⟩
  obtain ⟨lo, hlo⟩ : ∃ lo, lo = w5.heap.size := ⟨_, rfl⟩
  clear hE V6 ob hcb hmb B6
  go_wp2
  rw [← hw6]
  clear hw6
  go_loopw [8, 7] (fun s8 s7 wr => ∃ (k : Nat) (lss : List (List Int)) (a : Option Addr) (c : Nat) (vs : List Value), k ≤ 2 ∧ s8 = .int .i64 k ∧ lss.length = k ∧ s7 = .slice a lss.length c ∧ (∀ (j : Nat) (l : List Int), lss[j]? = some l → l.length ≤ 4) ∧ AskSt w w1 (w.heap.size + 1) (.slice va n vcap) n (3000 + 60 * k) w5.heap.size b (.slice ba b.Rows.length bc) bs wr lss a c vs) (fun s8 _ _ => 2 - (intOf s8).toNat)
  case atStart => exact ⟨0, [], _, _, _, by omega, rfl, rfl, rfl, fun j l h => by simp at h, A6⟩
  case round =>
    clear A6
    obtain ⟨k, lss, a, c, vs, hk, rfl, hl, rfl, hl4, hA⟩ := hrel
    have HL := Lib.hid (And.intro hl hl4)
    obtain ⟨own, box, rows, hcr, hmr, zr, hlo2⟩ := hA
    have zr1 := hmr.size
    by_cases hlt : k < 2
    · have hlti : (k : Int) < 2 := by omega
      have hBE : Below wr.heap.size wr (wr.alloc (.cells #[] 3)) := (Below.refl _ _).alloc (Nat.le_refl _) _
      have c0 := keepCell hBE (boxAt_heap box).e0
      have c1 := keepCell hBE (boxAt_heap box).e1
      have hc6 := hcr.kept (Nat.le_refl _) hBE
      have hsz6 : (wr.alloc (.cells #[] 3)).heap.size = wr.heap.size + 1 := World.size_alloc _ _
      have hE := OwnV.empty 3 wr
      have hk01 : k = 0 ∨ k = 1 := by omega
      clear hl hl4 hBE
      rcases hk01 with rfl | rfl
      · rw [show ((0 : Nat) : Int) = 0 from rfl] at *
        go_wp2_with fail
        refine (l2Near_any b.X _).mono ?_
        rintro e wa ⟨rfl, rfl⟩
        have hnn := near_le b.X
        generalize near b.X = nn at *
        have Dm := among_made (w.heap.size + 1) (.slice va n vcap) n (3000 + 60 * 0) [2, 1, 3, 2, 0, 4] (wr.alloc (.cells #[] 3)) hc6.cur hc6.rd (by omega) (by decide) (by decide)
        rw [hsz6] at Dm
        go_wp2_with fail
        refine Dm.mono ?_
        rintro e w7 ⟨mi, hmi, rfl, hc7, hm7⟩
        have hmb : 0 ≤ mi ∧ mi ≤ 4 := by simp at hmi; omega
        obtain ⟨m, rfl⟩ := Int.eq_ofNat_of_zero_le hmb.1
        have h7 := hc6.step hc7 hm7
        have hO7 := hE.mid hm7 (Or.inr (by omega))
        have m7 : Mid (w.heap.size + 1) (w.heap.size + 1 + 1) wr w7 := (mid_alloc _ wr _).trans hm7
        have z7 := hm7.size
        rw [hsz6] at z7
        obtain ⟨wo, rfl⟩ : ∃ wo : World, wo = wr := ⟨_, rfl⟩
        have HMM : ∃ mm : Nat, (if (1 : Int) < (nn : Int) then (nn : Int) else 1) = (mm : Int) ∧ 1 ≤ mm ∧ mm ≤ 4 := by
          by_cases hn1 : (1 : Int) < (nn : Int)
          · exact ⟨nn, by rw [if_pos hn1], by omega, hnn⟩
          · exact ⟨1, by rw [if_neg hn1]; rfl, by omega, by omega⟩
        obtain ⟨mm, hmm, hmm1, hmm4⟩ := HMM
        have CM := Lib.hid (fun W => l1Most_int nn 1 W)
        rw [hmm] at CM
        clear hmm hmi hc7 hc6 hE c0 c1 Dm hm7
        go_wp2
        go_loopw [11, 9] (fun s11 s9 wz => ∃ (m : Nat) (l : List Int) (a9 : Option Addr) (c9 : Nat), m ≤ 4 ∧ s11 = .int .i64 m ∧ s9 = .slice a9 l.length c9 ∧ l.length + m ≤ 4 ∧ OwnV 3 wo.heap.size wz.heap.size wz (.slice a9 l.length c9) (ints l) ∧ CurB (w.heap.size + 1) (.slice va n vcap) n (3000 + 60 * 0 + 2 + 10 * (4 - m)) wz ∧ Mid (w.heap.size + 1) (w.heap.size + 1 + 1) wo wz) (fun s11 _ _ => (intOf s11).toNat)
        case atStart => exact ⟨m, [], _, _, by omega, rfl, rfl, by simp; omega, hO7.weaken (Nat.le_refl _) (by omega), h7.up (by omega), m7⟩
        case round =>
          clear hO7 h7 m7 z7 hmb
          obtain ⟨m, l, a9, c9, hm4, rfl, rfl, hlm, hO, hcz, hmz⟩ := hrel
          have hzz := hmz.size
          by_cases hmp : 0 < m
          · have hmi : (0 : Int) < (m : Int) := by omega
            have hdl : (ints l).length ≤ 4194304 := by rw [ints_length]; omega
            go_wp2_with fail
            refine (CM.out _).mono ?_
            rintro e wa ⟨rfl, rfl⟩
            have C2 := pick_any (w.heap.size + 1) (.slice va n vcap) n (3000 + 60 * 0 + 2 + 10 * (4 - m)) mm wr hcz.cur hcz.rd (by omega) hmm1 (by omega)
            go_wp2_with fail
            refine C2.mono ?_
            rintro e w8 ⟨p, rfl, hp, hc8, hm8⟩
            have h8 := hcz.step hc8 hm8
            have C3 := pick_any (w.heap.size + 1) (.slice va n vcap) n (3000 + 60 * 0 + 2 + 10 * (4 - m) + 2) 24 w8 h8.cur h8.rd (by omega) (by decide) (by decide)
            clear C2 hc8
            go_wp2_with fail
            refine C3.mono ?_
            rintro e w9 ⟨q, rfl, hq, hc9, hm9⟩
            have h9 := h8.step hc9 hm9
            have hO9 := ((hO.mid hm8 (Or.inr (by omega))).mid hm9 (Or.inr (by omega))).weaken (hi' := w9.heap.size) (Nat.le_refl _) (Nat.le_trans hm8.size hm9.size)
            have m9 := (hmz.trans hm8).trans hm9
            have zz9 := m9.size
            obtain ⟨z, hz, hz1⟩ : ∃ z : Nat, ((q : Int).tdiv 23) = (z : Int) ∧ z ≤ 1 := ⟨q / 23, by rw [Int.tdiv_eq_ediv_of_nonneg (by omega)]; omega, by omega⟩
            have hwz := wrap_in (z : Int) (by omega) (by omega)
            have hwp := wrap_in ((p : Int) + (z : Int)) (by omega) (by omega)
            clear C3 hc9 hm8 hm9 h8 hO
            go_wp2_with (at_builtin; refine append1_own rfl _ _ 27 3 rfl Try.underlying27 Try.infoInt rfl hO9 rfl rfl rfl hdl (by omega) (by omega) ?_)
            intro a2 c2 w10 hO10 hg10
            have hB10 : Below wo.heap.size w9 w10 := (Below.refl _ _).grown hg10 zz9 (fun g' hg' => (hO9.lt g' hg').1)
            have h10 := h9.far hcr.rd hcr.lt (Nat.le_refl _) m9 hB10
            have m10 := m9.low hB10
            clear hO9 h9 m9 hB10 hg10
            go_wp2
            go_roundw
            case rel => exact ⟨m - 1, l ++ [(p : Int) + (z : Int)], a2, c2, by omega, by congr 1; omega, by simp, by simp; omega, by simpa [ints] using hO10, h10.up (by omega), m10⟩
            case measure => simp [intOf]; omega
          · obtain rfl : m = 0 := by omega
            have ownz := own.mid hmz (Or.inr (by omega))
            have htp := ownz.top
            have hvl : vs.length = lss.length := own.len
            have hn9 : vs.length ≤ 4194304 := by have := HL.out.1; omega
            have HVL := Lib.hid hvl
            clear hvl
            go_wp2_with (at_builtin; refine append1_own rfl _ _ 24 27 rfl Try.underlying24 Try.infoInts rfl htp rfl rfl rfl hn9 (by omega) (by omega) ?_)
            intro a2 c2 w10 hT2 hg10
            have hsn := ownz.snoc hO (Nat.le_refl _) (by omega) hzz hT2 hg10 hg10.size (by decide)
            have bxz : wr.heap[w5.heap.size + 1]? = _ := (hmz.block (w5.heap.size + 1) (by omega) (by omega)).trans box
            have bx10 : w10.heap[w5.heap.size + 1]? = _ := (hg10.block (w5.heap.size + 1) (by omega) (fun e => htp.ne_tag bxz (by decide) e.symm)).trans bxz
            have hB10 : Below w5.heap.size wr w10 := (Below.refl _ _).grown hg10 (by omega) (fun g' hg' => (htp.lt g' hg').1)
            have mz := hmr.trans hmz
            have rows10 := (rows.mid hmz (Or.inr (by omega))).kept hB10 (Nat.le_refl _)
            have ret10 : ZB w10 w.heap.size := (hB10.block w.heap.size (by omega)).trans ((hmz.block w.heap.size (by omega) (by omega)).trans zr)
            have hc10 := hcz.far HR1.out (by omega) (by omega) mz hB10
            have m10 := mz.low (hB10.mono (by omega))
            have z10 := hB10.size
            have hNew : AskSt w w1 (w.heap.size + 1) (.slice va n vcap) n (3000 + 60 * (0 + 1)) w5.heap.size b (.slice ba b.Rows.length bc) bs w10 (lss ++ [l]) a2 c2 (vs ++ [.slice a9 l.length c9]) :=
              ⟨by rw [show vs.length + 1 = (lss ++ [l]).length by rw [HVL.out]; simp] at hsn; exact hsn, bx10, rows10, hc10.up (by omega), m10, ret10, by omega⟩
            have hl4n : ∀ (j : Nat) (r : List Int), (lss ++ [l])[j]? = some r → r.length ≤ 4 := by
              intro j r hj
              rw [List.getElem?_append] at hj
              split at hj
              · exact HL.out.2 j r hj
              · have : r ∈ [l] := List.mem_of_getElem? hj
                simp at this
                rw [this]; omega
            have HN4 := Lib.hid hl4n
            clear hl4n hsn bxz bx10 hB10 mz rows10 ret10 hc10 m10 ownz htp own rows hcr hmr hcz hmz hO hT2 hg10 box zr
            go_wp2
            go_roundw
            case rel => exact ⟨0 + 1, lss ++ [l], a2, c2, _, by omega, by simp, by rw [List.length_append, HL.out.1]; rfl, by rw [HVL.out]; simp, HN4.out, hNew⟩
            case measure => simp [intOf]
      · rw [show ((1 : Nat) : Int) = 1 from rfl] at *
        go_wp2_with fail
        refine (l2Near_any b.X _).mono ?_
        rintro e wa ⟨rfl, rfl⟩
        go_wp2_with fail
        refine (l2Near_any b.Y _).mono ?_
        rintro e wa ⟨rfl, rfl⟩
        have hnn := near_le b.Y
        generalize near b.Y = nn at *
        have Dm := among_made (w.heap.size + 1) (.slice va n vcap) n (3000 + 60 * 1) [2, 1, 3, 2, 0, 4] (wr.alloc (.cells #[] 3)) hc6.cur hc6.rd (by omega) (by decide) (by decide)
        rw [hsz6] at Dm
        go_wp2_with fail
        refine Dm.mono ?_
        rintro e w7 ⟨mi, hmi, rfl, hc7, hm7⟩
        have hmb : 0 ≤ mi ∧ mi ≤ 4 := by simp at hmi; omega
        obtain ⟨m, rfl⟩ := Int.eq_ofNat_of_zero_le hmb.1
        have h7 := hc6.step hc7 hm7
        have hO7 := hE.mid hm7 (Or.inr (by omega))
        have m7 : Mid (w.heap.size + 1) (w.heap.size + 1 + 1) wr w7 := (mid_alloc _ wr _).trans hm7
        have z7 := hm7.size
        rw [hsz6] at z7
        obtain ⟨wo, rfl⟩ : ∃ wo : World, wo = wr := ⟨_, rfl⟩
        have HMM : ∃ mm : Nat, (if (1 : Int) < (nn : Int) then (nn : Int) else 1) = (mm : Int) ∧ 1 ≤ mm ∧ mm ≤ 4 := by
          by_cases hn1 : (1 : Int) < (nn : Int)
          · exact ⟨nn, by rw [if_pos hn1], by omega, hnn⟩
          · exact ⟨1, by rw [if_neg hn1]; rfl, by omega, by omega⟩
        obtain ⟨mm, hmm, hmm1, hmm4⟩ := HMM
        have CM := Lib.hid (fun W => l1Most_int nn 1 W)
        rw [hmm] at CM
        clear hmm hmi hc7 hc6 hE c0 c1 Dm hm7
        go_wp2
        go_loopw [11, 9] (fun s11 s9 wz => ∃ (m : Nat) (l : List Int) (a9 : Option Addr) (c9 : Nat), m ≤ 4 ∧ s11 = .int .i64 m ∧ s9 = .slice a9 l.length c9 ∧ l.length + m ≤ 4 ∧ OwnV 3 wo.heap.size wz.heap.size wz (.slice a9 l.length c9) (ints l) ∧ CurB (w.heap.size + 1) (.slice va n vcap) n (3000 + 60 * 1 + 2 + 10 * (4 - m)) wz ∧ Mid (w.heap.size + 1) (w.heap.size + 1 + 1) wo wz) (fun s11 _ _ => (intOf s11).toNat)
        case atStart => exact ⟨m, [], _, _, by omega, rfl, rfl, by simp; omega, hO7.weaken (Nat.le_refl _) (by omega), h7.up (by omega), m7⟩
        case round =>
          clear hO7 h7 m7 z7 hmb
          obtain ⟨m, l, a9, c9, hm4, rfl, rfl, hlm, hO, hcz, hmz⟩ := hrel
          have hzz := hmz.size
          by_cases hmp : 0 < m
          · have hmi : (0 : Int) < (m : Int) := by omega
            have hdl : (ints l).length ≤ 4194304 := by rw [ints_length]; omega
            go_wp2_with fail
            refine (CM.out _).mono ?_
            rintro e wa ⟨rfl, rfl⟩
            have C2 := pick_any (w.heap.size + 1) (.slice va n vcap) n (3000 + 60 * 1 + 2 + 10 * (4 - m)) mm wr hcz.cur hcz.rd (by omega) hmm1 (by omega)
            go_wp2_with fail
            refine C2.mono ?_
            rintro e w8 ⟨p, rfl, hp, hc8, hm8⟩
            have h8 := hcz.step hc8 hm8
            have C3 := pick_any (w.heap.size + 1) (.slice va n vcap) n (3000 + 60 * 1 + 2 + 10 * (4 - m) + 2) 24 w8 h8.cur h8.rd (by omega) (by decide) (by decide)
            clear C2 hc8
            go_wp2_with fail
            refine C3.mono ?_
            rintro e w9 ⟨q, rfl, hq, hc9, hm9⟩
            have h9 := h8.step hc9 hm9
            have hO9 := ((hO.mid hm8 (Or.inr (by omega))).mid hm9 (Or.inr (by omega))).weaken (hi' := w9.heap.size) (Nat.le_refl _) (Nat.le_trans hm8.size hm9.size)
            have m9 := (hmz.trans hm8).trans hm9
            have zz9 := m9.size
            obtain ⟨z, hz, hz1⟩ : ∃ z : Nat, ((q : Int).tdiv 23) = (z : Int) ∧ z ≤ 1 := ⟨q / 23, by rw [Int.tdiv_eq_ediv_of_nonneg (by omega)]; omega, by omega⟩
            have hwz := wrap_in (z : Int) (by omega) (by omega)
            have hwp := wrap_in ((p : Int) + (z : Int)) (by omega) (by omega)
            clear C3 hc9 hm8 hm9 h8 hO
            go_wp2_with (at_builtin; refine append1_own rfl _ _ 27 3 rfl Try.underlying27 Try.infoInt rfl hO9 rfl rfl rfl hdl (by omega) (by omega) ?_)
            intro a2 c2 w10 hO10 hg10
            have hB10 : Below wo.heap.size w9 w10 := (Below.refl _ _).grown hg10 zz9 (fun g' hg' => (hO9.lt g' hg').1)
            have h10 := h9.far hcr.rd hcr.lt (Nat.le_refl _) m9 hB10
            have m10 := m9.low hB10
            clear hO9 h9 m9 hB10 hg10
            go_wp2
            go_roundw
            case rel => exact ⟨m - 1, l ++ [(p : Int) + (z : Int)], a2, c2, by omega, by congr 1; omega, by simp, by simp; omega, by simpa [ints] using hO10, h10.up (by omega), m10⟩
            case measure => simp [intOf]; omega
          · obtain rfl : m = 0 := by omega
            have ownz := own.mid hmz (Or.inr (by omega))
            have htp := ownz.top
            have hvl : vs.length = lss.length := own.len
            have hn9 : vs.length ≤ 4194304 := by have := HL.out.1; omega
            have HVL := Lib.hid hvl
            clear hvl
            go_wp2_with (at_builtin; refine append1_own rfl _ _ 24 27 rfl Try.underlying24 Try.infoInts rfl htp rfl rfl rfl hn9 (by omega) (by omega) ?_)
            intro a2 c2 w10 hT2 hg10
            have hsn := ownz.snoc hO (Nat.le_refl _) (by omega) hzz hT2 hg10 hg10.size (by decide)
            have bxz : wr.heap[w5.heap.size + 1]? = _ := (hmz.block (w5.heap.size + 1) (by omega) (by omega)).trans box
            have bx10 : w10.heap[w5.heap.size + 1]? = _ := (hg10.block (w5.heap.size + 1) (by omega) (fun e => htp.ne_tag bxz (by decide) e.symm)).trans bxz
            have hB10 : Below w5.heap.size wr w10 := (Below.refl _ _).grown hg10 (by omega) (fun g' hg' => (htp.lt g' hg').1)
            have mz := hmr.trans hmz
            have rows10 := (rows.mid hmz (Or.inr (by omega))).kept hB10 (Nat.le_refl _)
            have ret10 : ZB w10 w.heap.size := (hB10.block w.heap.size (by omega)).trans ((hmz.block w.heap.size (by omega) (by omega)).trans zr)
            have hc10 := hcz.far HR1.out (by omega) (by omega) mz hB10
            have m10 := mz.low (hB10.mono (by omega))
            have z10 := hB10.size
            have hNew : AskSt w w1 (w.heap.size + 1) (.slice va n vcap) n (3000 + 60 * (1 + 1)) w5.heap.size b (.slice ba b.Rows.length bc) bs w10 (lss ++ [l]) a2 c2 (vs ++ [.slice a9 l.length c9]) :=
              ⟨by rw [show vs.length + 1 = (lss ++ [l]).length by rw [HVL.out]; simp] at hsn; exact hsn, bx10, rows10, hc10.up (by omega), m10, ret10, by omega⟩
            have hl4n : ∀ (j : Nat) (r : List Int), (lss ++ [l])[j]? = some r → r.length ≤ 4 := by
              intro j r hj
              rw [List.getElem?_append] at hj
              split at hj
              · exact HL.out.2 j r hj
              · have : r ∈ [l] := List.mem_of_getElem? hj
                simp at this
                rw [this]; omega
            have HN4 := Lib.hid hl4n
            clear hl4n hsn bxz bx10 hB10 mz rows10 ret10 hc10 m10 ownz htp own rows hcr hmr hcz hmz hO hT2 hg10 box zr
            go_wp2
            go_roundw
            case rel => exact ⟨1 + 1, lss ++ [l], a2, c2, _, by omega, by simp, by rw [List.length_append, HL.out.1]; rfl, by rw [HVL.out]; simp, HN4.out, hNew⟩
            case measure => simp [intOf]
    · obtain rfl : k = 2 := by omega
      obtain ⟨xs, ys, rfl⟩ : ∃ xs ys, lss = [xs, ys] := by
        match lss, hl with
        | [xs, ys], _ => exact ⟨xs, ys, rfl⟩
      have hx4 := hl4 0 xs rfl
      have hy4 := hl4 1 ys rfl
      obtain ⟨u1, u2, rfl⟩ : ∃ u1 u2, vs = [u1, u2] := by
        have := own.len
        match vs, this with
        | [u1, u2], _ => exact ⟨u1, u2, rfl⟩
      have o1 := own.row 0 u1 xs rfl rfl
      have o2 := own.row 1 u2 ys rfl rfl
      obtain ⟨a1, g1, c1, rfl, _⟩ := id o1.shape
      obtain ⟨a2, g2, c2, rfl, _⟩ := id o2.shape
      rw [ints_length] at o1 o2 own
      obtain ⟨aa, gl, cl, hv, _, ha, hcl, _⟩ := own.top.shape
      injection hv with q1 q2 q3
      subst q1 q3
      obtain ⟨rfl, _, _, _⟩ := ha (by simp)
      have d0 := hcl 0 _ rfl
      have d1 := hcl 1 _ rfl
      simp only [ints_length] at d0 d1
      obtain ⟨e0, e1, e2, e3, ef⟩ := zr.retAt
      have V := boxAt_heap box
      have hb4 := set4W_below (w := wr) (r := w.heap.size) (B := w.heap.size) (Nat.le_refl _) (.int .i64 b.X) (.int .i64 b.Y) (.int .i64 b.Whole) (.slice ba b.Rows.length bc)
      have hend := (rows.set4 (g := w.heap.size) (by omega) (.int .i64 b.X) (.int .i64 b.Y) (.int .i64 b.Whole) (.slice ba b.Rows.length bc)).weaken (lo' := w.heap.size) (hi' := (set4W wr w.heap.size (.int .i64 b.X) (.int .i64 b.Y) (.int .i64 b.Whole) (.slice ba b.Rows.length bc)).heap.size) (by omega) (by rw [set4W_size]; omega)
      have ox := (o1.of_block (w' := set4W wr w.heap.size (.int .i64 b.X) (.int .i64 b.Y) (.int .i64 b.Whole) (.slice ba b.Rows.length bc)) fun k hk => set4W_other (by have := (o1.lt k hk).1; omega) _ _ _ _).weaken (lo' := w.heap.size) (hi' := (set4W wr w.heap.size (.int .i64 b.X) (.int .i64 b.Y) (.int .i64 b.Whole) (.slice ba b.Rows.length bc)).heap.size) (by omega) (by rw [set4W_size]; exact Nat.le_refl _)
      have oy := (o2.of_block (w' := set4W wr w.heap.size (.int .i64 b.X) (.int .i64 b.Y) (.int .i64 b.Whole) (.slice ba b.Rows.length bc)) fun k hk => set4W_other (by have := (o2.lt k hk).1; omega) _ _ _ _).weaken (lo' := w.heap.size) (hi' := (set4W wr w.heap.size (.int .i64 b.X) (.int .i64 b.Y) (.int .i64 b.Whole) (.slice ba b.Rows.length bc)).heap.size) (by omega) (by rw [set4W_size]; exact Nat.le_refl _)
      have BE : Below w.heap.size w (set4W wr w.heap.size (.int .i64 b.X) (.int .i64 b.Y) (.int .i64 b.Whole) (.slice ba b.Rows.length bc)) := (BW.trans (hmr.below (by omega) (by omega))).trans hb4
      clear hl hl4 own o1 o2 ha hcl hb4 rows hcr hmr q2
      have hgl : gl ≠ w.heap.size := fun e => by
        have h1 := zr.retAt.e0
        rw [← e, d0] at h1
        cases h1
      have hcc : ∀ (bk o : Nat), bk ≠ w.heap.size → (set4W wr w.heap.size (.int .i64 b.X) (.int .i64 b.Y) (.int .i64 b.Whole) (.slice ba b.Rows.length bc)).cell? ⟨bk, o, none⟩ = wr.cell? ⟨bk, o, none⟩ := fun bk o hne => World.cell?_of_block (w := wr) (a := ⟨bk, o, none⟩) (set4W_other hne _ _ _ _)
      have HV8 := Lib.hid (show (set4W wr w.heap.size (.int .i64 b.X) (.int .i64 b.Y) (.int .i64 b.Whole) (.slice ba b.Rows.length bc)).cell? ⟨w5.heap.size + 1, 0, none⟩ = some (.int .i64 b.X) ∧ (set4W wr w.heap.size (.int .i64 b.X) (.int .i64 b.Y) (.int .i64 b.Whole) (.slice ba b.Rows.length bc)).cell? ⟨w5.heap.size + 1, 1, none⟩ = some (.int .i64 b.Y) ∧ (set4W wr w.heap.size (.int .i64 b.X) (.int .i64 b.Y) (.int .i64 b.Whole) (.slice ba b.Rows.length bc)).cell? ⟨w5.heap.size + 1, 2, none⟩ = some (.int .i64 b.Whole) ∧ (set4W wr w.heap.size (.int .i64 b.X) (.int .i64 b.Y) (.int .i64 b.Whole) (.slice ba b.Rows.length bc)).cell? ⟨w5.heap.size + 1, 3, none⟩ = some (.slice ba b.Rows.length bc) ∧ (set4W wr w.heap.size (.int .i64 b.X) (.int .i64 b.Y) (.int .i64 b.Whole) (.slice ba b.Rows.length bc)).cell? ⟨gl, 0, none⟩ = some (.slice a1 xs.length c1) ∧ (set4W wr w.heap.size (.int .i64 b.X) (.int .i64 b.Y) (.int .i64 b.Whole) (.slice ba b.Rows.length bc)).cell? ⟨gl, 1, none⟩ = some (.slice a2 ys.length c2) from
        ⟨by rw [hcc _ _ (by omega)]; exact V.e0, by rw [hcc _ _ (by omega)]; exact V.e1, by rw [hcc _ _ (by omega)]; exact V.e2, by rw [hcc _ _ (by omega)]; exact V.e3, by rw [hcc _ _ hgl]; exact d0, by rw [hcc _ _ hgl]; exact d1⟩)
      clear hcc
      go_wp2
      refine wp_region_held_drew (S := fun W => W.cell? ⟨w5.heap.size + 1, 0, none⟩ = some (.int .i64 b.X) ∧ W.cell? ⟨w5.heap.size + 1, 1, none⟩ = some (.int .i64 b.Y) ∧ W.cell? ⟨w5.heap.size + 1, 2, none⟩ = some (.int .i64 b.Whole) ∧ W.cell? ⟨w5.heap.size + 1, 3, none⟩ = some (.slice ba b.Rows.length bc) ∧ W.cell? ⟨gl, 0, none⟩ = some (.slice a1 xs.length c1) ∧ W.cell? ⟨gl, 1, none⟩ = some (.slice a2 ys.length c2)) (by first | rfl | kernel_rfl) ⟨V.e0, V.e1, V.e2, V.e3, d0, d1⟩ (fun hHeld => ?_)
      refine wpAnyH_take (i := 0) (v := ?_) rfl (by kernel_rfl) (by kernel_rfl) (by kernel_rfl) (fun _ _ _ h => h) (Or.inl ⟨by rfl, ?_⟩) (by assumption) ?_
      rotate_left
      · (intro w hSw; (try dsimp only at hSw); go_simp; try with_reducible rfl)
      try simp only [Act.put, List.getElem_toArray, List.getElem_cons_zero, List.getElem_cons_succ, List.setIfInBounds_toArray, List.set_cons_zero, List.set_cons_succ]
      refine wpAnyH_take (i := 1) (v := ?_) rfl (by kernel_rfl) (by kernel_rfl) (by kernel_rfl) (fun _ _ _ h => h) (Or.inl ⟨by rfl, ?_⟩) (by assumption) ?_
      rotate_left
      · (intro w hSw; (try dsimp only at hSw); go_simp; try with_reducible rfl)
      try simp only [Act.put, List.getElem_toArray, List.getElem_cons_zero, List.getElem_cons_succ, List.setIfInBounds_toArray, List.set_cons_zero, List.set_cons_succ]
      refine wpAnyH_take (i := 2) (v := ?_) rfl (by kernel_rfl) (by kernel_rfl) (by kernel_rfl) (fun _ _ _ h => h) (Or.inl ⟨by rfl, ?_⟩) (by assumption) ?_
      rotate_left
      · (intro w hSw; (try dsimp only at hSw); go_simp; try with_reducible rfl)
      try simp only [Act.put, List.getElem_toArray, List.getElem_cons_zero, List.getElem_cons_succ, List.setIfInBounds_toArray, List.set_cons_zero, List.set_cons_succ]
      refine wpAnyH_take (i := 3) (v := ?_) rfl (by kernel_rfl) (by kernel_rfl) (by kernel_rfl) (fun _ _ _ h => h) (Or.inl ⟨by rfl, ?_⟩) (by assumption) ?_
      rotate_left
      · (intro w hSw; (try dsimp only at hSw); go_simp; try with_reducible rfl)
      try simp only [Act.put, List.getElem_toArray, List.getElem_cons_zero, List.getElem_cons_succ, List.setIfInBounds_toArray, List.set_cons_zero, List.set_cons_succ]
      refine wpAnyH_take (i := 4) (v := ?_) rfl (by kernel_rfl) (by kernel_rfl) (by kernel_rfl) (fun _ _ _ h => h) (Or.inl ⟨by rfl, ?_⟩) (by assumption) ?_
      rotate_left
      · (intro w hSw; (try dsimp only at hSw); go_simp; try with_reducible rfl)
      try simp only [Act.put, List.getElem_toArray, List.getElem_cons_zero, List.getElem_cons_succ, List.setIfInBounds_toArray, List.set_cons_zero, List.set_cons_succ]
      refine wpAnyH_take (i := 5) (v := ?_) rfl (by kernel_rfl) (by kernel_rfl) (by kernel_rfl) (fun _ _ _ h => h) (Or.inl ⟨by rfl, ?_⟩) (by assumption) ?_
      rotate_left
      · (intro w hSw; (try dsimp only at hSw); go_simp; try with_reducible rfl)
      try simp only [Act.put, List.getElem_toArray, List.getElem_cons_zero, List.getElem_cons_succ, List.setIfInBounds_toArray, List.set_cons_zero, List.set_cons_succ]
      refine wpAnyH_take (i := 6) (v := ?_) rfl (by kernel_rfl) (by kernel_rfl) (by kernel_rfl) (fun _ _ _ h => h) (Or.inl ⟨by rfl, ?_⟩) (by assumption) ?_
      rotate_left
      · (intro w hSw; (try dsimp only at hSw); go_simp; try with_reducible rfl)
      try simp only [Act.put, List.getElem_toArray, List.getElem_cons_zero, List.getElem_cons_succ, List.setIfInBounds_toArray, List.set_cons_zero, List.set_cons_succ]
      refine wpAnyH_ready (rs := [7]) (by kernel_rfl) (by simp) ?_
      refine AllReadyH.cons rfl (fun K hK => ?_) AllReadyH.nil
      go_simp
      refine hK.out _ _ ?_ (fun hHeld => ?_)
      · exact HV8.out
      clear hK K
      try simp only [Act.put, List.setIfInBounds_toArray, List.set_cons_zero, List.set_cons_succ]
      refine wpAnyH_take (i := 8) (v := ?_) rfl (by kernel_rfl) (by kernel_rfl) (by kernel_rfl) (fun _ _ _ h => h) (Or.inl ⟨by rfl, ?_⟩) (by assumption) ?_
      rotate_left
      · (intro w hSw; (try dsimp only at hSw); go_simp; try with_reducible rfl)
      try simp only [Act.put, List.getElem_toArray, List.getElem_cons_zero, List.getElem_cons_succ, List.setIfInBounds_toArray, List.set_cons_zero, List.set_cons_succ]
      refine wpAnyH_take (i := 9) (v := ?_) rfl (by kernel_rfl) (by kernel_rfl) (by kernel_rfl) (fun _ _ _ h => h) (Or.inl ⟨by rfl, ?_⟩) (by assumption) ?_
      rotate_left
      · (intro w hSw; (try dsimp only at hSw); go_simp; try with_reducible rfl)
      try simp only [Act.put, List.getElem_toArray, List.getElem_cons_zero, List.getElem_cons_succ, List.setIfInBounds_toArray, List.set_cons_zero, List.set_cons_succ]
      refine wpAnyH_done (by kernel_rfl) ?_ _
      clear hHeld
      go_wp2
      refine bodyPost_ret (v := .tuple #[.agg #[.int .i64 b.X, .int .i64 b.Y, .int .i64 b.Whole, .slice ba b.Rows.length bc], .slice a1 xs.length c1, .slice a2 ys.length c2]) ?_ rfl ?_
      · simp [results, Try.results13, go_sem, e0, e1, e2, e3]
      · exact ⟨b, xs, ys, ba, a1, a2, bc, c1, c2, bs, rfl, hx4, hy4, hend.sameHeap rfl, ox.of_block (fun _ _ => rfl), oy.of_block (fun _ _ => rfl), BE.drew⟩
end Go.Proofs.Ytnmnmnpeoiblhaa
