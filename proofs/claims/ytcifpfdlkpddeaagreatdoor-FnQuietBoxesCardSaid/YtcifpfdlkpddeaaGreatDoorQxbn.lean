/- What the reference draws for ProductBox. What the reference draws for ParseBox: a box's text, spoilt now and then. -/
import Derived.Test.YtcifpfdlkpddeaaGreatDoorQxbe
import Derived.Test.YtcifpfdlkpddeaaGreatDoorQxaj
import Derived.Test.YtcifpfdlkpddeaaGreatDoorQxbm
import Derived.Test.YtcifpfdlkpddeaaGreatDoorQxan
set_option linter.unusedSimpArgs false
set_option linter.unusedVariables false
namespace Go.Proofs.YtcifpfdlkpddeaaGreatDoor
open Go.RowKit Go.WideShapes

def ProductDrawn (w : World) (e : Ending) (w' : World) : Prop := ∃ (xs ys : List Int) (m : Int) (a1 a2 : Option Addr) (c1 c2 : Nat), e = .returned (.tuple #[.slice a1 xs.length c1, .slice a2 ys.length c2, .int .i64 m]) ∧ RdI w' (.slice a1 xs.length c1) xs ∧ RdI w' (.slice a2 ys.length c2) ys ∧ Below w.heap.size w w'
theorem OwnII.growTop {T2 T1 lo hi : Nat} {w w' : World} {v : Value} {rss : List (List Int)} {vs : List Value} (h : OwnII T2 T1 lo hi w v rss vs) {T' lo2 hi2 : Nat} {v' : Value} {vs' : List Value} (o : OwnV T' lo2 hi2 w v' vs') (hd : hi ≤ lo2) (hg : w.grownBy w' v'.ownBlock) : OwnII T2 T1 lo hi w' v rss vs :=
  have key : ∀ g, g < hi → v'.ownBlock ≠ some g := fun g hlt e => by have := (o.lt g e).1; omega
  ⟨h.len, h.top.of_block fun g hv => hg.block g (h.top.lt g hv).2.2 (fun e => key g (h.top.lt g hv).2.1 e.symm),
   fun i u rs hu hr => (h.row i u rs hu hr).of_block fun g hv => hg.block g ((h.row i u rs hu hr).lt g hv).2.2 (fun e => key g ((h.row i u rs hu hr).lt g hv).2.1 e.symm), h.apart, h.off⟩
set_option maxRecDepth 20000 in
set_option maxHeartbeats 3200000 in
theorem drawProductBox_any (v : Value) (n : Nat) (w : World) (h : RdB w v n) : Calls Tryz.prog 23 #[v] w (ProductDrawn w) := by
  obtain ⟨va, vcap, rfl⟩ : ∃ a c, v = .slice a n c := by obtain ⟨a, _, _, c, hv, _⟩ := h; exact ⟨a, c, hv⟩
  have hc1 : CurB w.heap.size (.slice va n vcap) n 0 (w.alloc (.cells #[.slice va n vcap, .int .i64 0, .int .u64 0] 75)) := ⟨Cur.start w (.slice va n vcap), h.cur _⟩
  have C1 := among_made w.heap.size (.slice va n vcap) n 0 [2, 3, 4, 1, 10, 31, 32, 0] _ hc1.cur hc1.rd (by decide) (by decide) (by decide)
  rw [World.size_alloc] at C1
  have HRD := Lib.hid h
  obtain ⟨w1, hw1⟩ : ∃ w1, w1 = w.alloc (.cells #[.slice va n vcap, .int .i64 0, .int .u64 0] 75) := ⟨_, rfl⟩
  rw [← hw1] at hc1
  have HC1 := Lib.hid hc1.rd
  have z1 : w1.heap.size = w.heap.size + 1 := by rw [hw1]; simp
  have b1 : Below w.heap.size w w1 := by rw [hw1]; exact below_alloc _ _
  go_enter Tryz.func23, Tryz.ntmps23
  go_wp2_with fail
  refine C1.mono ?_
  rintro e w2 ⟨m, hm, rfl, hc2, hm2⟩
  rw [← hw1] at hm2
  clear hw1
  obtain ⟨M, rfl⟩ : ∃ M : Nat, m = (M : Int) := ⟨m.toNat, by simp at hm; omega⟩
  have hM : M ≤ 32 := by simp at hm; omega
  obtain ⟨M1, hM1⟩ : ∃ M1 : Nat, M1 = M + 1 := ⟨_, rfl⟩
  have hMi : (M : Int) + 1 = (M1 : Int) := by omega
  have hM1a : 1 ≤ M1 ∧ M1 ≤ 33 := by omega
  clear hM1 hM
  have h2 := hc1.step hc2 hm2
  have hE := OwnII.empty 33 3 w2
  have h3 := h2.kept (Nat.le_refl _) (below_alloc w2 (.cells #[] 33))
  have m3 := hm2.low ((below_alloc w2 (.cells #[] 33)).mono hm2.size)
  have z2 := hm2.size
  clear C1 hm hc2 hm2 h2 hc1
  go_wp2
  go_loopw [7, 8] (fun s7 s8 wr => ∃ (k : Nat) (rss : List (List Int)) (a : Option Addr) (c : Nat) (vs : List Value), k ≤ 2 ∧ s8 = .int .i64 k ∧ rss.length = k ∧ s7 = .slice a rss.length c ∧ OwnII 33 3 (w.heap.size + 1) wr.heap.size wr (.slice a rss.length c) rss vs ∧ CurB w.heap.size (.slice va n vcap) n (2 + 60 * k) wr ∧ Mid w.heap.size (w.heap.size + 1) w1 wr) (fun _ s8 _ => 2 - (intOf s8).toNat)
  case atStart => exact ⟨0, [], _, _, [], by omega, rfl, rfl, rfl, by rw [World.size_alloc]; exact (hE.weaken (by omega) (Nat.le_refl _)), h3.up (by omega), m3⟩
  case round =>
    clear hE h3 m3
    obtain ⟨k, rss, a, c, vs, hk, rfl, hl, rfl, hO, hcr, hmr⟩ := hrel
    have HL := Lib.hid hl
    have zr := hmr.size
    by_cases hlt : k < 2
    · have hki : (k : Int) < 2 := by omega
      have hEr := OwnV.empty 3 wr
      have hcE := hcr.kept (Nat.le_refl _) (below_alloc wr (.cells #[] 3))
      have hmE := hmr.low ((below_alloc wr (.cells #[] 3)).mono zr)
      have hOE := hO.kept (below_alloc wr (.cells #[] 3)) (Nat.le_refl _)
      have C2 := among_made w.heap.size (.slice va n vcap) n (2 + 60 * k) [2, 2, 1, 3, 0, 4] (wr.alloc (.cells #[] 3)) hcE.cur hcE.rd (by omega) (by decide) (by decide)
      rw [World.size_alloc] at C2
      clear hl
      go_wp2_with fail
      refine C2.mono ?_
      rintro e w4 ⟨q, hq, rfl, hc4, hm4⟩
      obtain ⟨Q, rfl⟩ : ∃ Q : Nat, q = (Q : Int) := ⟨q.toNat, by simp at hq; omega⟩
      have hQ : Q ≤ 4 := by simp at hq; omega
      have h4 := hcE.step hc4 hm4
      have m4 := hmE.trans hm4
      have z4 := hm4.size
      rw [World.size_alloc] at z4
      have z4' : wr.heap.size ≤ w4.heap.size := by omega
      have hO4 := hOE.mid hm4 (Or.inr (Nat.le_refl _))
      have hR4 := (hEr.mid hm4 (Or.inr (by omega))).weaken (hi' := w4.heap.size) (Nat.le_refl _) z4
      clear C2 hq hc4 hm4 hcE hmE hOE hEr hO hcr hmr
      obtain ⟨wo, rfl⟩ : ∃ wo : World, wo = wr := ⟨_, rfl⟩
      go_wp2
      go_loopw [9, 10] (fun s9 s10 wz => ∃ (j : Nat) (xs : List Int) (ar : Option Addr) (cr : Nat), j ≤ Q ∧ s10 = .int .i64 ((Q - j : Nat) : Int) ∧ xs.length = j ∧ s9 = .slice ar xs.length cr ∧ OwnV 3 wo.heap.size wz.heap.size wz (.slice ar xs.length cr) (ints xs) ∧ OwnII 33 3 (w.heap.size + 1) wo.heap.size wz (.slice a rss.length c) rss vs ∧ wo.heap.size ≤ wz.heap.size ∧ CurB w.heap.size (.slice va n vcap) n (2 + 60 * k + 2 + 4 * j) wz ∧ Mid w.heap.size (w.heap.size + 1) w1 wz) (fun _ s10 _ => (intOf s10).toNat)
      case atStart => exact ⟨0, [], _, _, by omega, by simp, rfl, rfl, by simpa [ints] using hR4, hO4, z4', h4.up (by omega), m4⟩
      case round =>
        clear hR4 hO4 h4 m4
        obtain ⟨j, xs, ar, cr, hj, rfl, hxl, rfl, hR, hOz, zo, hcz, hmz⟩ := hrel
        have HXL := Lib.hid hxl
        have hdl : (ints xs).length ≤ 4194304 := by rw [ints_length]; omega
        have zz := hmz.size
        clear hxl
        by_cases hjt : j < Q
        · have hji : (0 : Int) < ((Q - j : Nat) : Int) := by omega
          have C3 := pick_any w.heap.size (.slice va n vcap) n (2 + 60 * k + 2 + 4 * j) M1 wr hcz.cur hcz.rd (by omega) (by omega) (by omega)
          go_wp2_with fail
          refine C3.mono ?_
          rintro e w5 ⟨x, rfl, hx, hc5, hm5⟩
          have h5 := hcz.step hc5 hm5
          have C4 := pick_any w.heap.size (.slice va n vcap) n (2 + 60 * k + 2 + 4 * j + 2) 24 w5 h5.cur h5.rd (by omega) (by decide) (by decide)
          clear C3 hc5 hcz
          go_wp2_with fail
          refine C4.mono ?_
          rintro e w6 ⟨y, rfl, hy, hc6, hm6⟩
          have h6 := h5.step hc6 hm6
          have m6 := hmz.trans (hm5.trans hm6)
          have z5 := hm5.size
          have z6 := hm6.size
          have hR6 := ((hR.mid hm5 (Or.inr (by omega))).mid hm6 (Or.inr (by omega))).weaken (hi' := w6.heap.size) (Nat.le_refl _) (by omega)
          have hO6 := (hOz.mid hm5 (Or.inr (Nat.le_refl _))).mid hm6 (Or.inr (Nat.le_refl _))
          obtain ⟨t, ht⟩ : ∃ t : Nat, t = y / 23 := ⟨_, rfl⟩
          have ht1 : t ≤ 1 := by omega
          have e1 : (y : Int).tdiv 23 = (t : Int) := by
            rw [Int.tdiv_eq_ediv_of_nonneg (by omega), ht]
            rfl
          have e2 : IntKind.i64.wrap (t : Int) = (t : Int) := wrapC64 _ (by omega) (by omega)
          have e3 : IntKind.i64.wrap ((x : Int) - (t : Int)) = (x : Int) - (t : Int) := wrapC64 _ (by omega) (by omega)
          clear C4 hc6 h5 hR hOz hmz ht hm5 hm6
          go_wp2_with (at_builtin; refine append1_own rfl _ _ 33 3 rfl Tryz.underlying33 Tryz.infoInt rfl hR6 rfl rfl rfl hdl (by omega) (by omega) ?_)
          intro a2 c2 w7 hR7 hg7
          have hB7 : Below wo.heap.size w6 w7 := (Below.refl _ _).grown hg7 (by omega) (fun g' hg' => (hR6.lt g' hg').1)
          have z7 := hB7.size
          have h7 : CurB w.heap.size (.slice va n vcap) n (2 + 60 * k + 2 + 4 * j + 2 + 2) w7 := h6.far HC1.out (by omega) zr m6 hB7
          have m7 := m6.low (hB7.mono zr)
          have hO7 := hO6.growTop hR6 (Nat.le_refl _) hg7
          clear hR6 hO6 h6 m6 hg7 hB7
          go_wp2
          go_roundw
          case rel => exact ⟨j + 1, xs ++ [(x : Int) - (t : Int)], a2, c2, by omega, by first | go_num | (congr 1; omega), by rw [List.length_append, HXL.out]; rfl, by simp, by simpa [ints] using hR7, hO7, by omega, h7.up (by omega), m7⟩
          case measure => simp [intOf]; omega
        · obtain rfl : j = Q := by omega
          have hji : ¬ (0 : Int) < ((j - j : Nat) : Int) := by omega
          have ht := hOz.top
          have hvl := hOz.len
          have HVL := Lib.hid hvl
          have hvl4 : vs.length ≤ 4194304 := by rw [hvl, HL.out]; omega
          clear hvl
          go_wp2_with (at_builtin; refine append1_own rfl _ _ 24 33 rfl Tryz.underlying24 Tryz.infoInts rfl ht rfl rfl rfl hvl4 (by omega) (by omega) ?_)
          intro a8 c8 w8 hT8 hg8
          have hB8 : Below (w.heap.size + 1) wr w8 := (Below.refl _ _).grown hg8 (by omega) (fun g' hg' => (hOz.top.lt g' hg').1)
          have z8 := hB8.size
          have hO8 := hOz.snoc hR (Nat.le_refl _) (by omega) zo hT8 hg8 z8 (by decide)
          have h8 : CurB w.heap.size (.slice va n vcap) n (2 + 60 * k + 2 + 4 * j) w8 := hcz.far HC1.out (by omega) (by omega) hmz hB8
          have m8 := hmz.low (hB8.mono (by omega))
          have hl8 : (rss ++ [xs]).length = vs.length + 1 := by rw [List.length_append, HVL.out]; rfl
          rw [← hl8] at hO8
          clear ht hT8 hg8 hOz hR hcz hmz hB8
          go_wp2
          go_roundw
          case rel => exact ⟨k + 1, rss ++ [xs], a8, c8, _, by omega, by go_num, by rw [List.length_append, HL.out]; rfl, by rw [hl8], hO8, h8.up (by omega), m8⟩
          case measure => simp [intOf]; omega
    · obtain rfl : k = 2 := by omega
      obtain ⟨xs, ys, rfl⟩ : ∃ xs ys, rss = [xs, ys] := by
        match rss, hl with
        | [xs, ys], _ => exact ⟨xs, ys, rfl⟩
      obtain ⟨a', b', off', cap', hv, _, ha, hcc⟩ := hO.rdII
      injection hv with q1 q2 q3
      obtain rfl := q1.trans (ha (by simp))
      obtain ⟨v0, hv0, r0⟩ := hcc 0 xs rfl
      obtain ⟨v1, hv1, r1⟩ := hcc 1 ys rfl
      rw [Nat.add_zero] at hv0
      obtain ⟨ax, cx, rfl⟩ : ∃ a c, v0 = .slice a xs.length c := by obtain ⟨a, _, _, c, hv, _⟩ := r0; exact ⟨a, c, hv⟩
      obtain ⟨ay, cy, rfl⟩ : ∃ a c, v1 = .slice a ys.length c := by obtain ⟨a, _, _, c, hv, _⟩ := r1; exact ⟨a, c, hv⟩
      have hBE : Below w.heap.size w wr := b1.trans (hmr.below (Nat.le_refl _) (by omega))
      clear hO hcr hmr hl hcc ha q1 q2 q3
      go_wp2
      go_quiet (fail)
      go_wp2
      refine bodyPost_ret (v := .tuple #[.slice ax xs.length cx, .slice ay ys.length cy, .int .i64 M]) (by simp [results, Tryz.results23, go_sem]) rfl ⟨xs, ys, M, ax, ay, cx, cy, rfl, r0.stay ((Drw.mk _ _).below _), r1.stay ((Drw.mk _ _).below _), hBE.trans ((Drw.mk _ _).below _)⟩
end Go.Proofs.YtcifpfdlkpddeaaGreatDoor
set_option linter.unusedSimpArgs false
set_option linter.unusedVariables false
namespace Go.Proofs.YtcifpfdlkpddeaaGreatDoor
open Go.RowKit Go.WideShapes

set_option maxRecDepth 20000 in
set_option maxHeartbeats 3200000 in
theorem spoilt_any (g : Nat) (v : Value) (n A : Nat) (t wd : ByteArray) (w : World) (hc : CurB g v n A w) (hA : A ≤ 900000) (h0 : 1 ≤ t.size) (ht : t.size ≤ 60000) (h1 : 1 ≤ wd.size) (h2 : wd.size ≤ 100) :
    Calls Tryz.prog 54 #[.pointer (some ⟨g, 0, none⟩), .string t, .string wd] w fun e w' => ∃ s : ByteArray, e = .returned (.string s) ∧ s.size ≤ t.size + 1 ∧ CurB g v n (A + 6) w' ∧ Mid g (g + 1) w w' := by
  have C1 := pick_any g v n A t.size w hc.cur hc.rd (by omega) h0 (by omega)
  have hne : t.toList.isEmpty = false := by
    rw [ByteArray.toList_eq]
    cases h : t.data.toList with
    | nil =>
      exfalso
      have h3 : t.data.toList.length = t.data.size := Array.length_toList
      rw [h] at h3
      have h4 : t.data.size = t.size := rfl
      rw [h4] at h3
      have h6 : ([] : List UInt8).length = 0 := rfl
      omega
    | cons b l => rfl
  go_enter Tryz.func54, Tryz.ntmps54
  go_wp2_with fail
  refine C1.mono ?_
  rintro e w2 ⟨i, rfl, hi, hc2, hm2⟩
  have h3 := hc.step hc2 hm2
  have C2 := pick_any g v n (A + 2) wd.size w2 h3.cur h3.rd (by omega) h1 (by omega)
  clear C1 hc2
  go_wp2_with fail
  refine C2.mono ?_
  rintro e w3 ⟨k, rfl, hk, hc3, hm3⟩
  have h4 := h3.step hc3 hm3
  have m3 := hm2.trans hm3
  have C3 := pick_any g v n (A + 2 + 2) 3 w3 h4.cur h4.rd (by omega) (by decide) (by decide)
  clear C2 hc3 hm2 hm3 h3
  have ks1 : k ≤ wd.size := by omega
  go_wp2_with fail
  refine C3.mono ?_
  rintro e w4 ⟨q, rfl, hq, hc4, hm4⟩
  have h5 := h4.step hc4 hm4
  have m4 := m3.trans hm4
  clear C3 hc4 hm4 h4 m3
  have hch : ((wd.extract k wd.size).extract 0 1).size ≤ 1 := by rw [ByteArray.size_extract]; omega
  generalize (wd.extract k wd.size).extract 0 1 = ch at *
  have il : (i : Int) ≤ (t.size : Int) := by omega
  have il0 : (0 : Int) ≤ (i : Int) := by omega
  have iw : IntKind.i64.wrap ((i : Int) + 1) = (i : Int) + 1 := wrapC64 _ (by omega) (by omega)
  have il1 : (i : Int) + 1 ≤ (t.size : Int) := by omega
  have sL : (t.extract 0 i).size = i := by rw [ByteArray.size_extract]; omega
  have sR : (t.extract i t.size).size = t.size - i := by rw [ByteArray.size_extract]; omega
  have sQ : (t.extract (i + 1) t.size).size = t.size - (i + 1) := by rw [ByteArray.size_extract]; omega
  have gd1 : ¬ (9223372036854775807 < i + ch.size) := by omega
  have gd2 : ¬ (9223372036854775807 < i + ch.size + (t.size - i)) := by omega
  have gd3 : ¬ (9223372036854775807 < i + ch.size + (t.size - (i + 1))) := by omega
  have gd4 : ¬ (9223372036854775807 < i + (t.size - (i + 1))) := by omega
  by_cases q0 : q = 0
  · subst q0
    clear hq ks1 hk
    go_wp2
    go_quiet (fail)
    go_wp2
    go_ret
    refine ⟨_, rfl, ?_, (h5.kept (Nat.le_refl _) ?_).up (by omega), m4.trans (Mid.of_below (lo := g) (hi := g + 1) (B := w4.heap.size) ?_ (Nat.le_refl _))⟩
    · simp only [ByteArray.size_append, sL, sR, sQ]
      omega
    · exact (Drw.mk _ _).below _
    · exact (Drw.mk _ _).below _
  · have q0' : ¬ (q : Int) = 0 := by omega
    by_cases q1 : q = 1
    · subst q1
      clear hq ks1 hk
      go_wp2
      go_quiet (fail)
      go_wp2
      go_ret
      refine ⟨_, rfl, ?_, (h5.kept (Nat.le_refl _) ?_).up (by omega), m4.trans (Mid.of_below (lo := g) (hi := g + 1) (B := w4.heap.size) ?_ (Nat.le_refl _))⟩
      · simp only [ByteArray.size_append, sL, sR, sQ]
        omega
      · exact (Drw.mk _ _).below _
      · exact (Drw.mk _ _).below _
    · have q1' : ¬ (q : Int) = 1 := by omega
      clear hq ks1 hk
      go_wp2
      go_quiet (fail)
      go_wp2
      go_ret
      refine ⟨_, rfl, ?_, (h5.kept (Nat.le_refl _) ?_).up (by omega), m4.trans (Mid.of_below (lo := g) (hi := g + 1) (B := w4.heap.size) ?_ (Nat.le_refl _))⟩
      · simp only [ByteArray.size_append, sL, sR, sQ]
        omega
      · exact (Drw.mk _ _).below _
      · exact (Drw.mk _ _).below _
theorem txtB_pos (b : BoxD) : 1 ≤ (txtB b).size := by
  have h : (boxW b).length = b.Rows.length + 2 := boxW_length b
  have h1 := joinB_all 32 (ss := boxW b) (by omega)
  have h2 : (txtB b).size = (joinB 32 (boxW b)).size := rfl
  omega
theorem txtB_le {b : BoxD} (hb : boxB b = true) : (txtB b).size ≤ 979 := by
  have h := boxW_join hb (boxW b).length
  rw [List.take_length] at h
  exact h
set_option maxRecDepth 20000 in
set_option maxHeartbeats 3200000 in
theorem drawParseBox_any (v : Value) (n : Nat) (w : World) (h : RdB w v n) : Calls Tryz.prog 18 #[v] w fun e w' => ∃ s : ByteArray, e = .returned (.string s) ∧ s.size ≤ 1048576 ∧ Below w.heap.size w w' := by
  obtain ⟨va, vcap, rfl⟩ : ∃ a c, v = .slice a n c := by obtain ⟨a, _, _, c, hv, _⟩ := h; exact ⟨a, c, hv⟩
  have hc1 : CurB w.heap.size (.slice va n vcap) n 0 (w.alloc (.cells #[.slice va n vcap, .int .i64 0, .int .u64 0] 75)) := ⟨Cur.start w (.slice va n vcap), h.cur _⟩
  have C1 := box_any w.heap.size (.slice va n vcap) n 0 _ hc1 (by decide)
  go_enter Tryz.func18, Tryz.ntmps18
  go_wp2_with fail
  refine C1.mono ?_
  rintro e w5 ⟨b2, a2, c2, s2, rfl, hd2⟩
  have z5 := hd2.mid.size
  rw [World.size_alloc] at z5
  have HC5 := hd2.cur
  have R5 := hd2.own.rdII
  have M5 := hd2.mid
  clear C1 hd2 hc1
  have B6 := (Below.refl w5.heap.size w5).alloc (Nat.le_refl _) (.cells #[.int .i64 b2.X, .int .i64 b2.Y, .int .i64 b2.Whole, .slice a2 b2.Rows.length c2] 26)
  have CL := l2Box_any _ b2 _ (R5.kept (Nat.le_refl _) B6)
  have CT := fun W (hW : RdII W (.slice a2 b2.Rows.length c2) b2.Rows) (hb : boxB b2 = true) => l2Text_any _ b2 W hW hb
  go_wp2_with fail
  refine CL.mono ?_
  rintro e w6 ⟨rfl, b6⟩
  rw [World.size_alloc] at b6
  obtain ⟨q0, q1, q2, q3⟩ : BoxAt w6 w5.heap.size b2.X b2.Y b2.Whole (.slice a2 b2.Rows.length c2) := by
    obtain ⟨hc, _⟩ := bcell b6
    refine ⟨?_, ?_, ?_, ?_⟩ <;> (rw [hc _ _ (by omega)]; simp)
  have R6 := (R5.kept (Nat.le_refl _) B6).kept (by rw [World.size_alloc]; exact Nat.le_refl _) b6
  have B6' := B6.trans (b6.mono (Nat.le_succ _))
  have HC6 := HC5.kept (Nat.le_refl _) B6'
  have M6 := M5.trans (Mid.of_below (lo := w.heap.size) (hi := w.heap.size + 1) B6' (Nat.le_refl _))
  clear CL B6 B6' b6 HC5 M5 R5
  cases hb : boxB b2 with
  | false =>
    clear CT R6 q0 q1 q2 q3 hb
    have HC := HC6
    have HM := M6
    clear HC6 M6
    have C3 := one_any w.heap.size (.slice va n vcap) n (0 + 3000) 3 w6 HC.cur HC.rd (by decide) (by decide) (by decide)
    go_wp2_with fail
    refine C3.mono ?_
    rintro e w8 ⟨b8, rfl, hc8, hm8⟩
    have h8 := HC.step hc8 hm8
    have m8 := HM.trans hm8
    clear C3 hc8 hm8 HC HM
    cases b8 with
    | false =>
      have hB := mid_below m8
      clear h8 m8
      go_wp2
      go_ret
      exact ⟨_, rfl, by decide, hB⟩
    | true =>
      have C4 := spoilt_any w.heap.size (.slice va n vcap) n _ ⟨#[49, 32, 49, 32, 49, 44, 48, 44, 48, 44, 49]⟩ ⟨#[48, 49, 50, 51, 44, 32]⟩ w8 h8 (by decide) (by decide) (by decide) (by decide) (by decide)
      clear h8
      go_wp2_with fail
      refine C4.mono ?_
      rintro e w9 ⟨s, rfl, hs, hc9, hm9⟩
      have hB := mid_below (m8.trans hm9)
      clear C4 hc9 hm9 m8
      go_wp2
      go_ret
      exact ⟨_, rfl, by (have : (⟨#[49, 32, 49, 32, 49, 44, 48, 44, 48, 44, 49]⟩ : ByteArray).size = 11 := rfl; omega), hB⟩
  | true =>
    have CU := CT w6 R6 hb
    have t1 := txtB_pos b2
    have t2 := txtB_le hb
    clear CT R6 hb
    generalize txtB b2 = tx at *
    go_wp2_with fail
    refine CU.mono ?_
    rintro e w7 ⟨rfl, b7⟩
    have HC := HC6.kept (Nat.le_refl _) b7
    have HM := M6.trans (Mid.of_below (lo := w.heap.size) (hi := w.heap.size + 1) b7 (Nat.le_refl _))
    clear CU HC6 M6 b7 q0 q1 q2 q3
    have C3 := one_any w.heap.size (.slice va n vcap) n (0 + 3000) 3 w7 HC.cur HC.rd (by decide) (by decide) (by decide)
    go_wp2_with fail
    refine C3.mono ?_
    rintro e w8 ⟨b8, rfl, hc8, hm8⟩
    have h8 := HC.step hc8 hm8
    have m8 := HM.trans hm8
    clear C3 hc8 hm8 HC HM
    cases b8 with
    | false =>
      have hB := mid_below m8
      clear h8 m8
      go_wp2
      go_ret
      exact ⟨_, rfl, by omega, hB⟩
    | true =>
      have C4 := spoilt_any w.heap.size (.slice va n vcap) n _ tx ⟨#[48, 49, 50, 51, 44, 32]⟩ w8 h8 (by decide) (by omega) (by omega) (by decide) (by decide)
      clear h8
      go_wp2_with fail
      refine C4.mono ?_
      rintro e w9 ⟨s, rfl, hs, hc9, hm9⟩
      have hB := mid_below (m8.trans hm9)
      clear C4 hc9 hm9 m8
      go_wp2
      go_ret
      exact ⟨_, rfl, by omega, hB⟩
end Go.Proofs.YtcifpfdlkpddeaaGreatDoor
