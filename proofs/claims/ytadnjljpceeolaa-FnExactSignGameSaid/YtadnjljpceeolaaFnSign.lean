/- SignGame: contracts of the program's and the reference's function. -/
import Derived.Test.YtadnjljpceeolaaFnGame
import Derived.Test.YtadnjljpceeolaaGameRel
import Derived.Test.YtadnjljpceeolaaBoxOut
import Derived.Test.YtadnjljpceeolaaFnFlip
import Derived.Test.YtadnjljpceeolaaFnOwn
import Derived.Test.YtadnjljpceeolaaSame
import Derived.Test.YtadnjljpceeolaaCut
set_option linter.unusedSimpArgs false
set_option linter.unusedVariables false
namespace Go.Proofs.Ytadnjljpceeolaa
open Go.RowKit

def oddRow (n : Int) : List Int := [1 - n, n, n, 1 - n]
def oddRows (xs : List Int) : List (List Int) := xs.map oddRow
theorem oddRows_length (xs : List Int) : (oddRows xs).length = xs.length := by simp [oddRows]
theorem oddRows_take {xs : List Int} {i : Nat} (h : i ≤ xs.length) : (oddRows (xs.take i)).length = i := by rw [oddRows_length, List.length_take]; omega
theorem oddRows_next {xs : List Int} {i : Nat} {n : Int} (h : xs[i]? = some n) : oddRows (xs.take i) ++ [oddRow n] = oddRows (xs.take (i + 1)) := by
  have hi : i < xs.length := (List.getElem?_eq_some_iff.1 h).1
  have hx : xs[i] = n := (List.getElem?_eq_some_iff.1 h).2
  unfold oddRows
  rw [List.take_succ_eq_append_getElem hi, hx]
  simp
def oddG (x y : Int) (ss os : List Int) : GameD := ⟨x, y, ss, oddRows os⟩
def signOk (x y : Int) (ss os : List Int) : Bool := (sizesB x y && bitsB os (x * y)) && gameB (oddG x y ss os)
def signD (x y : Int) (ss os : List Int) : GameD := if signOk x y ss os then oddG x y ss os else zeroG
theorem sumLen_le {rss : List (List Int)} {k : Nat} (h : ∀ l, l ∈ rss → l.length ≤ k) : sumLen rss ≤ rss.length * k := by
  induction rss with
  | nil => simp [sumLen]
  | cons l ls ih =>
    have h1 := h l (by simp)
    have h2 := ih fun l' hl => h l' (by simp [hl])
    unfold sumLen at h2 ⊢
    simp only [List.map_cons, List.sum_cons, List.length_cons, Nat.succ_mul]
    omega
theorem gameB_size {g : GameD} (h : gameB g = true) : g.Weights.length ≤ 9 ∧ g.Wins.length ≤ 9 ∧ sumLen g.Wins ≤ 36 := by
  obtain ⟨h1, h2, h3, _, h5, _⟩ := gameB_iff.1 h
  have hm := sizes_mul h1
  have hs : sumLen g.Wins ≤ g.Wins.length * 4 := sumLen_le fun l hl => by
    have := (bits_iff.1 (List.all_eq_true.1 h5 l hl)).2
    omega
  omega
theorem signD_size (x y : Int) (ss os : List Int) : (signD x y ss os).Weights.length ≤ 1048576 ∧ (signD x y ss os).Wins.length + sumLen (signD x y ss os).Wins ≤ 4194304 := by
  unfold signD
  split
  · rename_i h
    unfold signOk at h
    rw [Bool.and_eq_true] at h
    have := gameB_size h.2
    omega
  · simp [zeroG, sumLen]
theorem GameRel.start3 (w1 W3 : World) (m : Nat) (x y : Int) (u : Value) (hm : w1.heap.size = m)
    (hW : W3 = ((w1.alloc (.cells #[] 22)).alloc (.cells #[.int .i64 x, .int .i64 y, u, .slice (some ⟨m, 0, none⟩) 0 0] 29))) :
    GameRel W3 m (m + 1) m W3 x y u [] (some ⟨m, 0, none⟩) 0 [] ∧ Below w1.heap.size w1 W3 ∧ W3.heap.size = m + 1 + 1 := by
  subst hm
  subst hW
  have hE := OwnII.empty 22 3 w1
  have hE2 := (hE.kept (B := w1.heap.size + 1) (w' := ((w1.alloc (.cells #[] 22)).alloc (.cells #[.int .i64 x, .int .i64 y, u, .slice (some ⟨w1.heap.size, 0, none⟩) 0 0] 29))) (by repeat' (first | with_reducible exact Below.refl _ _ | with_reducible assumption | with_reducible apply Below.alloc | with_reducible apply Below.setCell | with_reducible apply Below.drew | exact Nat.le_refl _ | omega | (simp only [World.size_alloc, World.size_setCell]; omega))) (Nat.le_refl _)).weaken (hi' := w1.heap.size + 1 + 1) (Nat.le_refl _) (by omega)
  refine ⟨⟨Below.refl _ _, by omega, Nat.le_refl _, by simp only [World.size_alloc]; omega, by simp only [World.size_alloc]; omega, ?_, by simpa only [World.size_alloc, List.length_nil] using hE2⟩, (by repeat' (first | with_reducible exact Below.refl _ _ | with_reducible assumption | with_reducible apply Below.alloc | with_reducible apply Below.setCell | with_reducible apply Below.drew | exact Nat.le_refl _ | omega | (simp only [World.size_alloc, World.size_setCell]; omega))), by simp only [World.size_alloc]⟩
  show ((w1.heap.push _).push _)[w1.heap.size + 1]? = _
  rw [Array.getElem?_push, if_pos (by simp)]
  rfl
theorem GameRel.startN (w1 W3 : World) (m : Nat) (x y : Int) (u : Value) (hm : w1.heap.size = m)
    (hW : W3 = (w1.alloc (.cells #[.int .i64 x, .int .i64 y, u, .slice none 0 0] 29))) :
    GameRel W3 m m m W3 x y u [] none 0 [] ∧ Below w1.heap.size w1 W3 ∧ W3.heap.size = m + 1 := by
  subst hm
  subst hW
  refine ⟨⟨Below.refl _ _, Nat.le_refl _, Nat.le_refl _, by simp only [World.size_alloc]; omega, by simp only [World.size_alloc]; omega, heap_alloc_new w1 _, OwnII.nil _ _ _ _ _⟩, (by repeat' (first | with_reducible exact Below.refl _ _ | with_reducible assumption | with_reducible apply Below.alloc | with_reducible apply Below.setCell | with_reducible apply Below.drew | exact Nat.le_refl _ | omega | (simp only [World.size_alloc, World.size_setCell]; omega))), by simp only [World.size_alloc]⟩
/-- The result variable of a function that hands a game back is filled. -/
theorem game_out {w w1 : World} {g lo m : Nat} {u v : Value} {xs : List Int} {rss : List (List Int)} {vs : List Value} (B1 : Below w.heap.size w w1) (hg : w.heap.size ≤ g) (hgl : g < lo) (hlm : lo ≤ m)
    (p : OwnV 3 lo m w1 u (ints xs)) (o : OwnII 22 3 m w1.heap.size w1 v rss vs) (x y z t : Value) :
    OwnV 3 w.heap.size m ((((w1.setCell ⟨g, 0, none⟩ x).setCell ⟨g, 1, none⟩ y).setCell ⟨g, 2, none⟩ z).setCell ⟨g, 3, none⟩ t) u (ints xs) ∧
    OwnII 22 3 m ((((w1.setCell ⟨g, 0, none⟩ x).setCell ⟨g, 1, none⟩ y).setCell ⟨g, 2, none⟩ z).setCell ⟨g, 3, none⟩ t).heap.size ((((w1.setCell ⟨g, 0, none⟩ x).setCell ⟨g, 1, none⟩ y).setCell ⟨g, 2, none⟩ z).setCell ⟨g, 3, none⟩ t) v rss vs ∧
      Below w.heap.size w ((((w1.setCell ⟨g, 0, none⟩ x).setCell ⟨g, 1, none⟩ y).setCell ⟨g, 2, none⟩ z).setCell ⟨g, 3, none⟩ t) := by
  refine ⟨?_, ?_, (((B1.setCell (by show w.heap.size ≤ g; exact hg) _).setCell (by show w.heap.size ≤ g; exact hg) _).setCell (by show w.heap.size ≤ g; exact hg) _).setCell (by show w.heap.size ≤ g; exact hg) _⟩
  · exact ((((p.setCell_off (p := ⟨g, 0, none⟩) (Or.inl hgl) x).setCell_off (p := ⟨g, 1, none⟩) (Or.inl hgl) y).setCell_off (p := ⟨g, 2, none⟩) (Or.inl hgl) z).setCell_off (p := ⟨g, 3, none⟩) (Or.inl hgl) t).weaken (by omega) (Nat.le_refl _)
  · have := o.set4 (g := g) (by omega) x y z t
    simpa only [World.size_setCell] using this
theorem GetAt.top {W : World} {m : Nat} (hm : W.heap.size = m) : GetAt (W.alloc (.cells #[.int .i64 0, .int .i64 0, .slice none 0 0, .slice none 0 0] 29)) m := by subst hm; exact GetAt.made W
theorem GetAt.call {w w' : World} {g : Nat} (hb : Below w.heap.size w w') (h : GetAt w g) : GetAt w' g := h.kept hb h.lt
set_option maxHeartbeats 3200000 in
theorem implSignGame_any (x y : Int) (vs : Value) (ss : List Int) (vo : Value) (os : List Int) (w : World) (hs : RdI w vs ss) (ho : RdI w vo os) (hcap : ∀ c : Nat, vs = .slice none 0 c → c = 0) (hn : ss.length ≤ 1048576) :
    Calls Try.prog 18 #[.int .i64 x, .int .i64 y, vs, vo] w (GameRes w (signD x y ss os) (signOk x y ss os)) := by
  have ho' := ho
  obtain ⟨ao, bo, oo, co, rfl, mo, eo, hdo⟩ := ho
  unfold maxLen at mo
  have DO := Lib.hid hdo
  have HS := Lib.hid hs
  have HO := Lib.hid ho'
  have HCAP := Lib.hid hcap
  clear hdo hs ho' hcap
  have G0 : GetAt (w.alloc (.cells #[.int .i64 0, .int .i64 0, .slice none 0 0, .slice none 0 0] 29)) w.heap.size := GetAt.top rfl
  rcases Bool.eq_false_or_eq_true (sizesB x y) with h1 | h1
  · obtain ⟨hm0, hm9⟩ := sizes_mul h1
    by_cases h2 : (os.length : Int) = x * y
    · have h2z : ((os.length : Int) != x * y) = false := by simp [h2]
      rcases Bool.eq_false_or_eq_true (allIn os 0 1) with h3 | h3
      · have H1 := Lib.hid h1
        have HB := Lib.hid (bits_iff.2 ⟨h3, h2⟩)
        have HA := Lib.hid h3
        have hol : os.length ≤ 9 := by omega
        have hxy : 1 ≤ x * y := by obtain ⟨⟨a, _⟩, b, _⟩ := sizesB_iff.1 h1; exact Int.le_trans (by decide) (Int.mul_le_mul a b (by decide) (by omega))
        have ho1 : 1 ≤ os.length := by omega
        obtain rfl := eo (by omega)
        clear h2 eo
        go_enter Try.func18, Try.ntmps18
        go_wp2_with (first | (go_at_call 84; refine (areQuestions_any _ _ _).mono ?_; rintro e w' ⟨rfl, rfl⟩) | (go_at_call 85; refine (allWithin_any _ os _ _ _ (HO.out.kept (Nat.le_refl _) (by repeat' (first | with_reducible exact Below.refl _ _ | with_reducible assumption | with_reducible apply Below.alloc | with_reducible apply Below.setCell | with_reducible apply Below.drew | exact Nat.le_refl _ | omega | (simp only [World.size_alloc, World.size_setCell]; omega))))).mono ?_; rintro e w' ⟨rfl, rfl⟩))
        refine (copied_any vs ss _ (HS.out.kept (Nat.le_refl _) (by repeat' (first | with_reducible exact Below.refl _ _ | with_reducible assumption | with_reducible apply Below.alloc | with_reducible apply Below.setCell | with_reducible apply Below.drew | exact Nat.le_refl _ | omega | (simp only [World.size_alloc, World.size_setCell]; omega)))) HCAP.out hn).mono ?_
        rintro e w1 ⟨ac, cc, rfl, oc, bc⟩
        have B1 : Below w.heap.size w w1 := Below.trans (by repeat' (first | with_reducible exact Below.refl _ _ | with_reducible assumption | with_reducible apply Below.alloc | with_reducible apply Below.setCell | with_reducible apply Below.drew | exact Nat.le_refl _ | omega | (simp only [World.size_alloc, World.size_setCell]; omega))) (bc.mono (by first | exact Nat.le_refl _ | omega | (simp only [World.size_alloc, World.size_setCell]; omega)))
        have G1 := G0.call bc
        have hz1 := bc.size
        simp only [World.size_alloc] at hz1 oc
        clear bc G0
        go_wp2
        obtain ⟨W3, hW3⟩ : ∃ W3, W3 = w1.alloc (.cells #[.int .i64 x, .int .i64 y, .slice ac ss.length cc, .slice none 0 0] 29) := ⟨_, rfl⟩
        obtain ⟨hst, hB3, hs3⟩ := GameRel.startN w1 W3 w1.heap.size x y _ rfl hW3
        have HW := Lib.hid hW3
        have BW : Below w.heap.size w W3 := B1.trans (hB3.mono B1.size)
        have G3 := G1.call hB3
        have B3 : w.heap.size ≤ w1.heap.size := B1.size
        clear hW3 G1
        go_loopw [38] (fun s wr => ∃ i : Nat, i ≤ os.length ∧ s = .int .i64 i ∧ ∃ a c vs, GameRel W3 w1.heap.size w1.heap.size w1.heap.size wr x y (.slice ac ss.length cc) (oddRows (os.take i)) a c vs) (fun s _ => os.length - (intOf s).toNat)
        case atStart => exact ⟨0, by omega, rfl, _, _, _, by rw [← HW.out]; simpa [oddRows] using hst⟩
        case round =>
          clear hst
          obtain ⟨i, hi, rfl, a, c, vs, hR⟩ := hrel
          by_cases hlt : i < os.length
          · obtain ⟨n, hx⟩ : ∃ n, os[i]? = some n := ⟨_, List.getElem?_eq_getElem hlt⟩
            obtain ⟨n0, n1⟩ := allIn_get HA.out hx
            have hcx := DO.out i n hx
            have lx := World.block_lt_of_cell? _ _ hcx
            simp only [] at lx
            have hcx' := keepAt (BW.trans (hR.below.mono B3)) lx hcx
            have hnx := oddRows_next hx
            have HNX := Lib.hid hnx
            obtain ⟨⟨g0, g1, g2, g3⟩, gf⟩ := hR.cells
            rw [oddRows_take hi] at g3
            have hrow := OwnV.lit 3 wr (ints [1 - n, n, n, 1 - n]) (by simp [maxLen])
            have hb1 : Below wr.heap.size wr (wr.alloc (.cells (ints [1 - n, n, n, 1 - n]).toArray 3)) := (by repeat' (first | with_reducible exact Below.refl _ _ | with_reducible assumption | with_reducible apply Below.alloc | with_reducible apply Below.setCell | with_reducible apply Below.drew | exact Nat.le_refl _ | omega | (simp only [World.size_alloc, World.size_setCell]; omega)))
            have ht := hR.rows.top.kept hb1 (Nat.le_refl _)
            have hlen := hR.rows.len
            rw [oddRows_take hi] at hlen ht
            have hn9 : vs.length ≤ 9 := by omega
            have HL := Lib.hid hlen
            have hlo : w1.heap.size ≤ (wr.alloc (.cells (ints [1 - n, n, n, 1 - n]).toArray 3)).heap.size := by rw [World.size_alloc]; have := hR.b4; omega
            clear hlen hx hcx hnx
            simp only [ints, List.map_cons, List.map_nil] at ht hlo
            go_wp2_with (at_builtin; refine append1_at rfl _ _ 23 22 rfl Try.underlying23 Try.infoInts rfl ht (World.size_alloc _ _) rfl rfl rfl (by omega) (by omega) hlo ?_)
            intro a2 c2 w2 hT2 hg2
            have hp := hR.push hb1 (rs := [1 - n, n, n, 1 - n]) (by simpa [ints] using hrow) hT2 (by rw [oddRows_take hi]; exact hg2) (by rw [List.length_append, oddRows_take hi, HL.out]; rfl)
            obtain ⟨hp1, f1, f2⟩ := hp
            rw [show oddRows (os.take i) ++ [[1 - n, n, n, 1 - n]] = oddRows (os.take (i + 1)) from HNX.out] at hp1
            rw [oddRows_take hi] at f1
            clear g0 g1 g2 g3 gf hR ht hT2 hrow
            go_wp2
            go_roundw
            case rel => exact ⟨i + 1, by omega, by go_num, a2, c2, _, hp1⟩
            case measure => simp [intOf]; omega
          · obtain rfl : i = os.length := by omega
            obtain ⟨⟨k0, k1, k2, k3⟩, kf⟩ := hR.cells
            have hrows := hR.rows
            rw [oddRows_length, List.take_length] at k3
            rw [oddRows_length, List.take_length] at hrows
            have hbr := hR.below
            have hB := BW.trans (hbr.mono B3)
            have hzr := hbr.size
            have hu := oc.kept (hB3.trans (hbr.mono (Nat.le_refl _))) (Nat.le_refl _)
            have GR := G3.kept hbr (by omega)
            have CG := implIsGame_any (.slice ac ss.length cc) (.slice a os.length c) (oddG x y ss os) wr hu.rdI (show RdII wr (.slice a os.length c) (oddG x y ss os).Wins from hrows.rdII)
            clear hR hbr
            go_wp2_with fail
            refine CG.mono ?_
            rintro e w5 ⟨rfl, b5⟩
            have hz5 := b5.size
            replace hB := hB.trans (b5.mono hB.size)
            replace hu := hu.kept b5 (by omega)
            replace hrows := (hrows.kept b5 (Nat.le_refl _)).weaken (Nat.le_refl _) b5.size
            replace GR := GR.call b5
            replace k0 := keepCell b5 k0
            replace k1 := keepCell b5 k1
            replace k2 := keepCell b5 k2
            replace k3 := keepCell b5 k3
            clear CG b5 kf
            rcases Bool.eq_false_or_eq_true (gameB (oddG x y ss os)) with hgm | hgm
            · have HM := Lib.hid (show signOk x y ss os = true by unfold signOk; rw [H1.out, HB.out, hgm]; rfl)
              have HD := Lib.hid (show signD x y ss os = oddG x y ss os by unfold signD; rw [HM.out]; rfl)
              have hend := game_out (g := w.heap.size) (lo := w.heap.size + 1) (m := w1.heap.size) hB (Nat.le_refl _) (by omega) (by omega) (hu.weaken (by omega) (Nat.le_refl _)) hrows (.int .i64 x) (.int .i64 y) (.slice ac ss.length cc) (.slice a os.length c)
              have HEND := Lib.hid hend
              rw [hgm]
              clear hgm hend hrows hu
              obtain ⟨g0, g1, g2, g3, gf⟩ := GR
              go_wp2
              refine bodyPost_ret (v := .tuple #[.agg #[.int .i64 x, .int .i64 y, .slice ac ss.length cc, .slice a os.length c], .bool true]) ?_ rfl ?_
              · simp [results, Try.results18, go_sem, g0, g1, g2, g3]
              · rw [HD.out, HM.out]
                have hl : (oddG x y ss os).Wins.length = os.length := oddRows_length os
                exact ⟨ac, cc, a, c, vs, w1.heap.size, by rw [hl]; rfl, ⟨by omega, by simp only [World.size_setCell]; omega⟩, HEND.out.1, by rw [hl]; exact HEND.out.2.1, HEND.out.2.2⟩
            · have HM := Lib.hid (show signOk x y ss os = false by unfold signOk; rw [H1.out, HB.out, hgm]; rfl)
              have HD := Lib.hid (show signD x y ss os = zeroG by unfold signD; rw [HM.out]; rfl)
              rw [hgm]
              clear hgm hrows hu
              obtain ⟨g0, g1, g2, g3, gf⟩ := GR
              go_wp2
              refine bodyPost_ret (v := .tuple #[.agg #[.int .i64 0, .int .i64 0, .slice none 0 0, .slice none 0 0], .bool false]) ?_ rfl ?_
              · simp [results, Try.results18, go_sem, g0, g1, g2, g3]
              · rw [HD.out, HM.out]; exact GameRes.zero (by repeat' (first | with_reducible exact Below.refl _ _ | with_reducible assumption | with_reducible apply Below.alloc | with_reducible apply Below.setCell | with_reducible apply Below.drew | exact Nat.le_refl _ | omega | (simp only [World.size_alloc, World.size_setCell]; omega)))
      · have HM := Lib.hid (show signOk x y ss os = false by unfold signOk; rw [show bitsB os (x * y) = false from Bool.eq_false_iff.2 (fun h => by rw [(bits_iff.1 h).1] at h3; cases h3)]; simp)
        have HD := Lib.hid (show signD x y ss os = zeroG by unfold signD; rw [HM.out]; rfl)
        clear h2 eo
        go_enter Try.func18, Try.ntmps18
        go_wp2_with (first | (go_at_call 84; refine (areQuestions_any _ _ _).mono ?_; rintro e w' ⟨rfl, rfl⟩) | (go_at_call 85; refine (allWithin_any _ os _ _ _ (HO.out.kept (Nat.le_refl _) (by repeat' (first | with_reducible exact Below.refl _ _ | with_reducible assumption | with_reducible apply Below.alloc | with_reducible apply Below.setCell | with_reducible apply Below.drew | exact Nat.le_refl _ | omega | (simp only [World.size_alloc, World.size_setCell]; omega))))).mono ?_; rintro e w' ⟨rfl, rfl⟩))
        obtain ⟨g0, g1, g2, g3, gf⟩ := G0
        refine bodyPost_ret (v := .tuple #[.agg #[.int .i64 0, .int .i64 0, .slice none 0 0, .slice none 0 0], .bool false]) ?_ rfl ?_
        · simp [results, Try.results18, go_sem, g0, g1, g2, g3]
        · rw [HD.out, HM.out]; exact GameRes.zero (by repeat' (first | with_reducible exact Below.refl _ _ | with_reducible assumption | with_reducible apply Below.alloc | with_reducible apply Below.setCell | with_reducible apply Below.drew | exact Nat.le_refl _ | omega | (simp only [World.size_alloc, World.size_setCell]; omega)))
    · have h2z : ((os.length : Int) != x * y) = true := by simp [h2]
      have HM := Lib.hid (show signOk x y ss os = false by unfold signOk; rw [show bitsB os (x * y) = false from Bool.eq_false_iff.2 (fun h => h2 (bits_iff.1 h).2)]; simp)
      have HD := Lib.hid (show signD x y ss os = zeroG by unfold signD; rw [HM.out]; rfl)
      clear h2 eo
      go_enter Try.func18, Try.ntmps18
      go_wp2_with (first | (go_at_call 84; refine (areQuestions_any _ _ _).mono ?_; rintro e w' ⟨rfl, rfl⟩))
      obtain ⟨g0, g1, g2, g3, gf⟩ := G0
      refine bodyPost_ret (v := .tuple #[.agg #[.int .i64 0, .int .i64 0, .slice none 0 0, .slice none 0 0], .bool false]) ?_ rfl ?_
      · simp [results, Try.results18, go_sem, g0, g1, g2, g3]
      · rw [HD.out, HM.out]; exact GameRes.zero (by repeat' (first | with_reducible exact Below.refl _ _ | with_reducible assumption | with_reducible apply Below.alloc | with_reducible apply Below.setCell | with_reducible apply Below.drew | exact Nat.le_refl _ | omega | (simp only [World.size_alloc, World.size_setCell]; omega)))
  · have HM := Lib.hid (show signOk x y ss os = false by unfold signOk; rw [h1]; simp)
    have HD := Lib.hid (show signD x y ss os = zeroG by unfold signD; rw [HM.out]; rfl)
    clear eo
    go_enter Try.func18, Try.ntmps18
    go_wp2_with (first | (go_at_call 84; refine (areQuestions_any _ _ _).mono ?_; rintro e w' ⟨rfl, rfl⟩))
    obtain ⟨g0, g1, g2, g3, gf⟩ := G0
    refine bodyPost_ret (v := .tuple #[.agg #[.int .i64 0, .int .i64 0, .slice none 0 0, .slice none 0 0], .bool false]) ?_ rfl ?_
    · simp [results, Try.results18, go_sem, g0, g1, g2, g3]
    · rw [HD.out, HM.out]; exact GameRes.zero (by repeat' (first | with_reducible exact Below.refl _ _ | with_reducible assumption | with_reducible apply Below.alloc | with_reducible apply Below.setCell | with_reducible apply Below.drew | exact Nat.le_refl _ | omega | (simp only [World.size_alloc, World.size_setCell]; omega)))
set_option maxRecDepth 100000 in
set_option maxHeartbeats 3200000 in
theorem specSignGame_any (x y : Int) (vs : Value) (ss : List Int) (vo : Value) (os : List Int) (w : World) (hs : RdI w vs ss) (ho : RdI w vo os) (hcap : ∀ c : Nat, vs = .slice none 0 c → c = 0) (hn : ss.length ≤ 1048576) :
    Calls Try.prog 16 #[.int .i64 x, .int .i64 y, vs, vo] w (GameRes w (signD x y ss os) (signOk x y ss os)) := by
  have ho' := ho
  obtain ⟨ao, bo, oo, co, rfl, mo, eo, hdo⟩ := ho
  unfold maxLen at mo
  have DO := Lib.hid hdo
  have HS := Lib.hid hs
  have HO := Lib.hid ho'
  have HCAP := Lib.hid hcap
  clear hdo hs ho' hcap
  have G0 : GetAt (w.alloc (.cells #[.int .i64 0, .int .i64 0, .slice none 0 0, .slice none 0 0] 29)) w.heap.size := GetAt.top rfl
  rcases Bool.eq_false_or_eq_true (sizesB x y) with h1 | h1
  · obtain ⟨hm0, hm9⟩ := sizes_mul h1
    rcases Bool.eq_false_or_eq_true (bitsB os (x * y)) with h3 | h3
    · obtain ⟨h3a, h2⟩ := bits_iff.1 h3
      have H1 := Lib.hid h1
      have HB := Lib.hid h3
      have HA := Lib.hid h3a
      have hol : os.length ≤ 9 := by omega
      have hxy : 1 ≤ x * y := by obtain ⟨⟨a, _⟩, b, _⟩ := sizesB_iff.1 h1; exact Int.le_trans (by decide) (Int.mul_le_mul a b (by decide) (by omega))
      have ho1 : 1 ≤ os.length := by omega
      obtain rfl := eo (by omega)
      clear h2 eo
      go_enter Try.func16, Try.ntmps16
      go_wp2_with (first | (go_at_call 81; refine (l2Sizes_any _ _ _).mono ?_; rintro e w' ⟨rfl, rfl⟩) | (go_at_call 82; refine (l2Bits_any _ os _ _ (HO.out.kept (Nat.le_refl _) (by repeat' (first | with_reducible exact Below.refl _ _ | with_reducible assumption | with_reducible apply Below.alloc | with_reducible apply Below.setCell | with_reducible apply Below.drew | exact Nat.le_refl _ | omega | (simp only [World.size_alloc, World.size_setCell]; omega))))).mono ?_; rintro e w' ⟨rfl, rfl⟩))
      refine (l1Own_any vs ss _ (HS.out.kept (Nat.le_refl _) (by repeat' (first | with_reducible exact Below.refl _ _ | with_reducible assumption | with_reducible apply Below.alloc | with_reducible apply Below.setCell | with_reducible apply Below.drew | exact Nat.le_refl _ | omega | (simp only [World.size_alloc, World.size_setCell]; omega)))) HCAP.out hn).mono ?_
      rintro e w1 ⟨ac, cc, rfl, oc, bc⟩
      have B1 : Below w.heap.size w w1 := Below.trans (by repeat' (first | with_reducible exact Below.refl _ _ | with_reducible assumption | with_reducible apply Below.alloc | with_reducible apply Below.setCell | with_reducible apply Below.drew | exact Nat.le_refl _ | omega | (simp only [World.size_alloc, World.size_setCell]; omega))) (bc.mono (by first | exact Nat.le_refl _ | omega | (simp only [World.size_alloc, World.size_setCell]; omega)))
      have G1 := G0.call bc
      have hz1 := bc.size
      simp only [World.size_alloc] at hz1 oc
      clear bc G0
      go_wp2
      obtain ⟨W3, hW3⟩ : ∃ W3, W3 = ((w1.alloc (.cells #[] 22)).alloc (.cells #[.int .i64 x, .int .i64 y, .slice ac ss.length cc, .slice (some ⟨w1.heap.size, 0, none⟩) 0 0] 29)) := ⟨_, rfl⟩
      obtain ⟨hst, hB3, hs3⟩ := GameRel.start3 w1 W3 w1.heap.size x y _ rfl hW3
      have HW := Lib.hid hW3
      have BW : Below w.heap.size w W3 := B1.trans (hB3.mono B1.size)
      have G3 := G1.call hB3
      have B3 : w.heap.size ≤ w1.heap.size := B1.size
      clear hW3 G1
      go_loopw [11] (fun s wr => ∃ i : Nat, i ≤ os.length ∧ s = .int .i64 i ∧ ∃ a c vs, GameRel W3 w1.heap.size (w1.heap.size + 1) w1.heap.size wr x y (.slice ac ss.length cc) (oddRows (os.take i)) a c vs) (fun s _ => os.length - (intOf s).toNat)
      case atStart => exact ⟨0, by omega, rfl, _, _, _, by rw [← HW.out]; simpa [oddRows] using hst⟩
      case round =>
        clear hst
        obtain ⟨i, hi, rfl, a, c, vs, hR⟩ := hrel
        by_cases hlt : i < os.length
        · obtain ⟨n, hx⟩ : ∃ n, os[i]? = some n := ⟨_, List.getElem?_eq_getElem hlt⟩
          obtain ⟨n0, n1⟩ := allIn_get HA.out hx
          have hcx := DO.out i n hx
          have lx := World.block_lt_of_cell? _ _ hcx
          simp only [] at lx
          have hcx' := keepAt (BW.trans (hR.below.mono B3)) lx hcx
          have HCX := Lib.hid hcx
          have hnx := oddRows_next hx
          have HNX := Lib.hid hnx
          obtain ⟨⟨g0, g1, g2, g3⟩, gf⟩ := hR.cells
          rw [oddRows_take hi] at g3
          have hw1n : IntKind.i64.wrap (1 - n) = 1 - n := wrap_in _ (by omega) (by omega)
          obtain ⟨A, hA⟩ : ∃ A : Obj, A = .cells #[.int .i64 (1 - n), .int .i64 n, .int .i64 n, .int .i64 (1 - n)] 3 := ⟨_, rfl⟩
          obtain ⟨C, hC⟩ : ∃ C : Obj, C = .cells #[.slice (some ⟨wr.heap.size, 0, none⟩) 4 4] 22 := ⟨_, rfl⟩
          have hb1 : Below wr.heap.size wr (wr.alloc A).drew := ((Below.refl _ _).alloc (Nat.le_refl _) _).drew
          have hb2 : Below wr.heap.size wr ((wr.alloc A).alloc C).drew := (((Below.refl _ _).alloc (Nat.le_refl _) _).alloc (by rw [World.size_alloc]; omega) _).drew
          have hb3 : Below (wr.heap.size + 1) (wr.alloc A) ((wr.alloc A).alloc C).drew := ((Below.refl _ _).alloc (by rw [World.size_alloc]; omega) _).drew
          have hsz3 : ((wr.alloc A).alloc C).drew.heap.size = wr.heap.size + 1 + 1 := by show ((wr.alloc A).alloc C).heap.size = _; simp only [World.size_alloc]
          have hrow0 : OwnV 3 wr.heap.size (wr.heap.size + 1) (wr.alloc A) (.slice (some ⟨wr.heap.size, 0, none⟩) 4 4) (ints [1 - n, n, n, 1 - n]) := by rw [hA]; exact OwnV.lit 3 wr (ints [1 - n, n, n, 1 - n]) (by simp [maxLen])
          have hrow : OwnV 3 wr.heap.size ((wr.alloc A).alloc C).drew.heap.size ((wr.alloc A).alloc C).drew (.slice (some ⟨wr.heap.size, 0, none⟩) 4 4) (ints [1 - n, n, n, 1 - n]) := (hrow0.kept hb3 (Nat.le_refl _)).weaken (Nat.le_refl _) (by rw [hsz3]; omega)
          have ht := hR.rows.top.kept hb2 (Nat.le_refl _)
          have hcm : ((wr.alloc A).alloc C).drew.cell? ⟨wr.heap.size + 1, 0, none⟩ = some (.slice (some ⟨wr.heap.size, 0, none⟩) 4 4) := by rw [hC]; exact (by repeat' (first | with_reducible assumption | (refine cell_top ?_ rfl; first | with_reducible rfl | (simp only [World.size_alloc, World.size_setCell]; done)) | (refine cell_under ?_ ?_; (first | omega | (simp only [World.size_alloc, World.size_setCell]; omega))) | refine cell_drew ?_))
          have hlen := hR.rows.len
          rw [oddRows_take hi] at hlen ht
          have hn9 : vs.length ≤ 9 := by omega
          have HL := Lib.hid hlen
          have hb4 := hR.b4
          have i0 : (0 : Int) ≤ (i : Int) := by omega
          have i1 : (i : Int) < (os.length : Int) := by omega
          have K2 := Lib.hid (fun (W : World) (h : Below wr.heap.size wr W) => And.intro (keepCell h g3) (keepCell h hcx'))
          clear hlen hx hcx hnx
          go_wp2
          refine wp_region_cut_held (S := fun W => W.cell? ⟨w1.heap.size + 1, 3, none⟩ = some (.slice a i c) ∧ W.cell? ⟨bo, oo + i, none⟩ = some (.int .i64 n)) 24 _ rfl (by kernel_rfl) (by kernel_rfl) (K2.out _ (Below.refl _ _).drew) (fun hHeld => ?_)
          simp only [List.take_succ_cons, List.take_zero]
          refine wpAnyH_take (i := 0) (v := ?_) rfl (by kernel_rfl) (by kernel_rfl) (by kernel_rfl) (fun _ _ _ h => h) (Or.inl ⟨by rfl, ?_⟩) (by assumption) ?_
          rotate_left
          · (intro w hSw; (try dsimp only at hSw); go_simp; try with_reducible rfl)
          try simp only [Act.put, List.setIfInBounds_toArray, List.set_cons_zero, List.set_cons_succ]
          refine wpAnyH_take (i := 1) (v := ?_) rfl (by kernel_rfl) (by kernel_rfl) (by kernel_rfl) (fun _ _ _ h => h) (Or.inl ⟨by rfl, ?_⟩) (by assumption) ?_
          rotate_left
          · (intro w hSw; (try dsimp only at hSw); go_simp; try with_reducible rfl)
          try simp only [Act.put, List.setIfInBounds_toArray, List.set_cons_zero, List.set_cons_succ]
          refine wpAnyH_take (i := 2) (v := ?_) rfl (by kernel_rfl) (by kernel_rfl) (by kernel_rfl) (fun _ _ _ h => h) (Or.inl ⟨by rfl, ?_⟩) (by assumption) ?_
          rotate_left
          · (intro w hSw; (try dsimp only at hSw); go_simp; try with_reducible rfl)
          try simp only [Act.put, List.setIfInBounds_toArray, List.set_cons_zero, List.set_cons_succ]
          refine wpAnyH_take (i := 3) (v := ?_) rfl (by kernel_rfl) (by kernel_rfl) (by kernel_rfl) (fun _ _ _ h => h) (Or.inl ⟨by rfl, ?_⟩) (by assumption) ?_
          rotate_left
          · (intro w hSw; (try dsimp only at hSw); go_simp; try with_reducible rfl)
          try simp only [Act.put, List.setIfInBounds_toArray, List.set_cons_zero, List.set_cons_succ]
          refine wpAnyH_take (i := 4) (v := ?_) rfl (by kernel_rfl) (by kernel_rfl) (by kernel_rfl) (fun _ _ _ h => h) (Or.inl ⟨by rfl, ?_⟩) (by assumption) ?_
          rotate_left
          · (intro w hSw; (try dsimp only at hSw); go_simp; try with_reducible rfl)
          try simp only [Act.put, List.setIfInBounds_toArray, List.set_cons_zero, List.set_cons_succ]
          refine wpAnyH_take (i := 5) (v := ?_) rfl (by kernel_rfl) (by kernel_rfl) (by kernel_rfl) (fun _ _ _ h => h) (Or.inl ⟨by rfl, ?_⟩) (by assumption) ?_
          rotate_left
          · (intro w hSw; (try dsimp only at hSw); go_simp; try with_reducible rfl)
          try simp only [Act.put, List.setIfInBounds_toArray, List.set_cons_zero, List.set_cons_succ]
          refine wpAnyH_take (i := 6) (v := ?_) rfl (by kernel_rfl) (by kernel_rfl) (by kernel_rfl) (fun _ _ _ h => h) (Or.inl ⟨by rfl, ?_⟩) (by assumption) ?_
          rotate_left
          · (intro w hSw; (try dsimp only at hSw); go_simp; try with_reducible rfl)
          try simp only [Act.put, List.setIfInBounds_toArray, List.set_cons_zero, List.set_cons_succ]
          refine wpAnyH_take (i := 7) (v := ?_) rfl (by kernel_rfl) (by kernel_rfl) (by kernel_rfl) (fun _ _ _ h => h) (Or.inl ⟨by rfl, ?_⟩) (by assumption) ?_
          rotate_left
          · (intro w hSw; (try dsimp only at hSw); go_simp; try with_reducible rfl)
          try simp only [Act.put, List.setIfInBounds_toArray, List.set_cons_zero, List.set_cons_succ]
          refine wpAnyH_take (i := 8) (v := ?_) rfl (by kernel_rfl) (by kernel_rfl) (by kernel_rfl) (fun _ _ _ h => h) (Or.inl ⟨by rfl, ?_⟩) (by assumption) ?_
          rotate_left
          · (intro w hSw; (try dsimp only at hSw); go_simp; try with_reducible rfl)
          try simp only [Act.put, List.setIfInBounds_toArray, List.set_cons_zero, List.set_cons_succ]
          refine wpAnyH_take (i := 9) (v := ?_) rfl (by kernel_rfl) (by kernel_rfl) (by kernel_rfl) (fun _ _ _ h => h) (Or.inl ⟨by rfl, ?_⟩) (by assumption) ?_
          rotate_left
          · (intro w hSw; (try dsimp only at hSw); go_simp; try with_reducible rfl)
          try simp only [Act.put, List.setIfInBounds_toArray, List.set_cons_zero, List.set_cons_succ]
          refine wpAnyH_take (i := 10) (v := ?_) rfl (by kernel_rfl) (by kernel_rfl) (by kernel_rfl) (fun _ _ _ h => h) (Or.inl ⟨by rfl, ?_⟩) (by assumption) ?_
          rotate_left
          · (intro w hSw; (try dsimp only at hSw); go_simp; try with_reducible rfl)
          try simp only [Act.put, List.setIfInBounds_toArray, List.set_cons_zero, List.set_cons_succ]
          refine wpAnyH_take (i := 11) (v := ?_) rfl (by kernel_rfl) (by kernel_rfl) (by kernel_rfl) (fun _ _ _ h => h) (Or.inl ⟨by rfl, ?_⟩) (by assumption) ?_
          rotate_left
          · (intro w hSw; (try dsimp only at hSw); go_simp; try with_reducible rfl)
          try simp only [Act.put, List.setIfInBounds_toArray, List.set_cons_zero, List.set_cons_succ]
          refine wpAnyH_take (i := 12) (v := ?_) rfl (by kernel_rfl) (by kernel_rfl) (by kernel_rfl) (fun _ _ _ h => h) (Or.inl ⟨by rfl, ?_⟩) (by assumption) ?_
          rotate_left
          · (intro w hSw; (try dsimp only at hSw); go_simp; try with_reducible rfl)
          try simp only [Act.put, List.setIfInBounds_toArray, List.set_cons_zero, List.set_cons_succ]
          refine wpAnyH_take (i := 13) (v := ?_) rfl (by kernel_rfl) (by kernel_rfl) (by kernel_rfl) (fun _ _ _ h => h) (Or.inl ⟨by rfl, ?_⟩) (by assumption) ?_
          rotate_left
          · (intro w hSw; (try dsimp only at hSw); go_simp; try with_reducible rfl)
          try simp only [Act.put, List.setIfInBounds_toArray, List.set_cons_zero, List.set_cons_succ]
          refine wpAnyH_take (i := 14) (v := ?_) rfl (by kernel_rfl) (by kernel_rfl) (by kernel_rfl) (fun _ _ _ h => h) (Or.inl ⟨by rfl, ?_⟩) (by assumption) ?_
          rotate_left
          · (intro w hSw; (try dsimp only at hSw); go_simp; try with_reducible rfl)
          try simp only [Act.put, List.setIfInBounds_toArray, List.set_cons_zero, List.set_cons_succ]
          refine wpAnyH_take (i := 15) (v := ?_) rfl (by kernel_rfl) (by kernel_rfl) (by kernel_rfl) (fun _ _ _ h => h) (Or.inl ⟨by rfl, ?_⟩) (by assumption) ?_
          rotate_left
          · (intro w hSw; (try dsimp only at hSw); go_simp; try with_reducible rfl)
          try simp only [Act.put, List.setIfInBounds_toArray, List.set_cons_zero, List.set_cons_succ]
          refine wpAnyH_take (i := 16) (v := ?_) rfl (by kernel_rfl) (by kernel_rfl) (by kernel_rfl) (fun _ _ _ h => h) (Or.inl ⟨by rfl, ?_⟩) (by assumption) ?_
          rotate_left
          · (intro w hSw; (try dsimp only at hSw); go_simp; try with_reducible rfl)
          try simp only [Act.put, List.setIfInBounds_toArray, List.set_cons_zero, List.set_cons_succ]
          refine wpAnyH_take (i := 17) (v := ?_) rfl (by kernel_rfl) (by kernel_rfl) (by kernel_rfl) (fun _ _ _ h => h) (Or.inl ⟨by rfl, ?_⟩) (by assumption) ?_
          rotate_left
          · (intro w hSw; (try dsimp only at hSw); go_simp; try with_reducible rfl)
          try simp only [Act.put, List.setIfInBounds_toArray, List.set_cons_zero, List.set_cons_succ]
          refine wpAnyH_take (i := 18) (v := ?_) rfl (by kernel_rfl) (by kernel_rfl) (by kernel_rfl) (fun _ _ _ h => h) (Or.inl ⟨by rfl, ?_⟩) (by assumption) ?_
          rotate_left
          · (intro w hSw; (try dsimp only at hSw); go_simp; try with_reducible rfl)
          try simp only [Act.put, List.setIfInBounds_toArray, List.set_cons_zero, List.set_cons_succ]
          refine wpAnyH_take (i := 19) (v := ?_) rfl (by kernel_rfl) (by kernel_rfl) (by kernel_rfl) (fun _ _ _ h => h) (Or.inl ⟨by rfl, ?_⟩) (by assumption) ?_
          rotate_left
          · (intro w hSw; (try dsimp only at hSw); go_simp; try with_reducible rfl)
          try simp only [Act.put, List.setIfInBounds_toArray, List.set_cons_zero, List.set_cons_succ]
          refine wpAnyH_ready (rs := [20]) (by kernel_rfl) (by simp) ?_
          refine AllReadyH.cons rfl (fun K hK => ?_) AllReadyH.nil
          go_simp
          refine hK.out _ _ ?_ (fun hHeld => ?_)
          · (rw [← hA]; exact K2.out _ hb1)
          clear hK K
          try simp only [Act.put, List.setIfInBounds_toArray, List.set_cons_zero, List.set_cons_succ]
          refine wpAnyH_ready (rs := [21]) (by kernel_rfl) (by simp) ?_
          refine AllReadyH.cons rfl (fun K hK => ?_) AllReadyH.nil
          go_simp
          refine hK.out _ _ ?_ (fun hHeld => ?_)
          · (rw [← hA, ← hC]; exact K2.out _ hb2)
          clear hK K
          try simp only [Act.put, List.setIfInBounds_toArray, List.set_cons_zero, List.set_cons_succ]
          refine wpAnyH_ready (rs := [22]) (by kernel_rfl) (by simp) ?_
          refine AllReadyH.cons rfl (fun K hK => ?_) AllReadyH.nil
          subst hA hC
          refine step_append1 (u := .slice (some ⟨wr.heap.size, 0, none⟩) 4 4) (m := wr.heap.size + 1) (by rfl) _ _ 23 22 (by rfl) Try.underlying23 Try.infoInts rfl ht (by rfl) (by rfl) hcm rfl (by omega) (by omega) (by rw [hsz3]; omega) ?_
          intro a2 c2 w2 hT2 hg2
          obtain ⟨hp1, f1, f2⟩ := hR.push hb2 (rs := [1 - n, n, n, 1 - n]) hrow hT2 (by rw [oddRows_take hi]; exact hg2) (by rw [List.length_append, oddRows_take hi, HL.out]; rfl)
          rw [show oddRows (os.take i) ++ [[1 - n, n, n, 1 - n]] = oddRows (os.take (i + 1)) from HNX.out] at hp1
          rw [oddRows_take hi] at f1
          have hBn : Below w1.heap.size W3 w2 := Below.grown (hR.below.trans (hb2.mono (by omega))) hg2 (by rw [hsz3]; omega) (fun g hg => (ht.lt g hg).1)
          refine hK.out _ _ ?_ (fun hHeld => ?_)
          · exact ⟨f1, keepAt (BW.trans (hBn.mono B3)) lx HCX.out⟩
          clear hK K
          try simp only [Act.put, List.setIfInBounds_toArray, List.set_cons_zero, List.set_cons_succ]
          refine wpAnyH_take (i := 23) (v := ?_) rfl (by kernel_rfl) (by kernel_rfl) (by kernel_rfl) (fun _ _ _ h => h) (Or.inl ⟨by rfl, ?_⟩) (by assumption) ?_
          rotate_left
          · (intro w hSw; (try dsimp only at hSw); go_simp; try with_reducible rfl)
          try simp only [Act.put, List.setIfInBounds_toArray, List.set_cons_zero, List.set_cons_succ]
          refine wpAnyH_done (by kernel_rfl) ?_ _
          show wpList _ _ _ _ _ _
          clear hR
          go_wp2
          go_roundw
          case rel => exact ⟨i + 1, by omega, by go_num, a2, c2, _, hp1⟩
          case measure => simp [intOf]; omega
        · obtain rfl : i = os.length := by omega
          obtain ⟨⟨k0, k1, k2, k3⟩, kf⟩ := hR.cells
          have hrows := hR.rows
          rw [oddRows_length, List.take_length] at k3
          rw [oddRows_length, List.take_length] at hrows
          have hbr := hR.below
          have hB := BW.trans (hbr.mono B3)
          have hzr := hbr.size
          have hu := oc.kept (hB3.trans (hbr.mono (Nat.le_refl _))) (Nat.le_refl _)
          have GR := G3.kept hbr (by omega)
          have CG := l4Game_any (.slice ac ss.length cc) (.slice a os.length c) (oddG x y ss os) wr hu.rdI (show RdII wr (.slice a os.length c) (oddG x y ss os).Wins from hrows.rdII)
          clear hR hbr
          go_wp2_with fail
          refine CG.mono ?_
          rintro e w5 ⟨rfl, b5⟩
          have hz5 := b5.size
          replace hB := hB.trans (b5.mono hB.size)
          replace hu := hu.kept b5 (by omega)
          replace hrows := (hrows.kept b5 (Nat.le_refl _)).weaken (Nat.le_refl _) b5.size
          replace GR := GR.call b5
          replace k0 := keepCell b5 k0
          replace k1 := keepCell b5 k1
          replace k2 := keepCell b5 k2
          replace k3 := keepCell b5 k3
          clear CG b5 kf
          rcases Bool.eq_false_or_eq_true (gameB (oddG x y ss os)) with hgm | hgm
          · have HM := Lib.hid (show signOk x y ss os = true by unfold signOk; rw [H1.out, HB.out, hgm]; rfl)
            have HD := Lib.hid (show signD x y ss os = oddG x y ss os by unfold signD; rw [HM.out]; rfl)
            have hend := game_out (g := w.heap.size) (lo := w.heap.size + 1) (m := w1.heap.size) hB (Nat.le_refl _) (by omega) (by omega) (hu.weaken (by omega) (Nat.le_refl _)) hrows (.int .i64 x) (.int .i64 y) (.slice ac ss.length cc) (.slice a os.length c)
            have HEND := Lib.hid hend
            rw [hgm]
            clear hgm hend hrows hu
            obtain ⟨g0, g1, g2, g3, gf⟩ := GR
            go_wp2
            refine bodyPost_ret (v := .tuple #[.agg #[.int .i64 x, .int .i64 y, .slice ac ss.length cc, .slice a os.length c], .bool true]) ?_ rfl ?_
            · simp [results, Try.results16, go_sem, g0, g1, g2, g3]
            · rw [HD.out, HM.out]
              have hl : (oddG x y ss os).Wins.length = os.length := oddRows_length os
              exact ⟨ac, cc, a, c, vs, w1.heap.size, by rw [hl]; rfl, ⟨by omega, by simp only [World.size_setCell]; omega⟩, HEND.out.1, by rw [hl]; exact HEND.out.2.1, HEND.out.2.2⟩
          · have HM := Lib.hid (show signOk x y ss os = false by unfold signOk; rw [H1.out, HB.out, hgm]; rfl)
            have HD := Lib.hid (show signD x y ss os = zeroG by unfold signD; rw [HM.out]; rfl)
            rw [hgm]
            clear hgm hrows hu
            obtain ⟨g0, g1, g2, g3, gf⟩ := GR
            go_wp2
            refine bodyPost_ret (v := .tuple #[.agg #[.int .i64 0, .int .i64 0, .slice none 0 0, .slice none 0 0], .bool false]) ?_ rfl ?_
            · simp [results, Try.results16, go_sem, g0, g1, g2, g3]
            · rw [HD.out, HM.out]; exact GameRes.zero (by repeat' (first | with_reducible exact Below.refl _ _ | with_reducible assumption | with_reducible apply Below.alloc | with_reducible apply Below.setCell | with_reducible apply Below.drew | exact Nat.le_refl _ | omega | (simp only [World.size_alloc, World.size_setCell]; omega)))
    · have HM := Lib.hid (show signOk x y ss os = false by unfold signOk; rw [h3]; simp)
      have HD := Lib.hid (show signD x y ss os = zeroG by unfold signD; rw [HM.out]; rfl)
      clear eo
      go_enter Try.func16, Try.ntmps16
      go_wp2_with (first | (go_at_call 81; refine (l2Sizes_any _ _ _).mono ?_; rintro e w' ⟨rfl, rfl⟩) | (go_at_call 82; refine (l2Bits_any _ os _ _ (HO.out.kept (Nat.le_refl _) (by repeat' (first | with_reducible exact Below.refl _ _ | with_reducible assumption | with_reducible apply Below.alloc | with_reducible apply Below.setCell | with_reducible apply Below.drew | exact Nat.le_refl _ | omega | (simp only [World.size_alloc, World.size_setCell]; omega))))).mono ?_; rintro e w' ⟨rfl, rfl⟩))
      obtain ⟨g0, g1, g2, g3, gf⟩ := G0
      refine bodyPost_ret (v := .tuple #[.agg #[.int .i64 0, .int .i64 0, .slice none 0 0, .slice none 0 0], .bool false]) ?_ rfl ?_
      · simp [results, Try.results16, go_sem, g0, g1, g2, g3]
      · rw [HD.out, HM.out]; exact GameRes.zero (by repeat' (first | with_reducible exact Below.refl _ _ | with_reducible assumption | with_reducible apply Below.alloc | with_reducible apply Below.setCell | with_reducible apply Below.drew | exact Nat.le_refl _ | omega | (simp only [World.size_alloc, World.size_setCell]; omega)))
  · have HM := Lib.hid (show signOk x y ss os = false by unfold signOk; rw [h1]; simp)
    have HD := Lib.hid (show signD x y ss os = zeroG by unfold signD; rw [HM.out]; rfl)
    clear eo
    go_enter Try.func16, Try.ntmps16
    go_wp2_with (first | (go_at_call 81; refine (l2Sizes_any _ _ _).mono ?_; rintro e w' ⟨rfl, rfl⟩))
    obtain ⟨g0, g1, g2, g3, gf⟩ := G0
    refine bodyPost_ret (v := .tuple #[.agg #[.int .i64 0, .int .i64 0, .slice none 0 0, .slice none 0 0], .bool false]) ?_ rfl ?_
    · simp [results, Try.results16, go_sem, g0, g1, g2, g3]
    · rw [HD.out, HM.out]; exact GameRes.zero (by repeat' (first | with_reducible exact Below.refl _ _ | with_reducible assumption | with_reducible apply Below.alloc | with_reducible apply Below.setCell | with_reducible apply Below.drew | exact Nat.le_refl _ | omega | (simp only [World.size_alloc, World.size_setCell]; omega)))
end Go.Proofs.Ytadnjljpceeolaa
