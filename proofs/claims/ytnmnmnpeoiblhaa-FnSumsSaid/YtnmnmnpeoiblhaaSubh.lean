/- SumFunctional: contracts of the program's and the reference's functions. -/
import Derived.Test.YtnmnmnpeoiblhaaSubg
import Derived.Test.YtnmnmnpeoiblhaaSuak
import Derived.Deep.DeepCutAuto
set_option linter.unusedSimpArgs false
set_option linter.unusedVariables false
namespace Go.Proofs.Ytnmnmnpeoiblhaa
open Go.RowKit

def setK (Y F0 F1 S0 S1 : Nat) (k : Nat) : Nat := (if k / 2 = 0 then F0 else F1) * Y + (if k % 2 = 0 then S0 else S1)
def signRow (m : Int) (k : Nat) : List Int := if (k : Int) = m then [-1, 1, 1, -1] else [1, -1, -1, 1]
def sumRows (N Y F0 F1 S0 S1 : Nat) (m : Int) : Nat → List (List Int)
  | 0 => List.replicate N (List.replicate 4 0)
  | k + 1 => (sumRows N Y F0 F1 S0 S1 m k).set (setK Y F0 F1 S0 S1 k) (signRow m k)
theorem sumRows_len (N Y F0 F1 S0 S1 : Nat) (m : Int) (k : Nat) : (sumRows N Y F0 F1 S0 S1 m k).length = N := by
  induction k with
  | zero => simp [sumRows]
  | succ k ih => simp [sumRows, ih]
theorem sumRows_row (N Y F0 F1 S0 S1 : Nat) (m : Int) (k : Nat) : ∀ (j : Nat) (rs : List Int), (sumRows N Y F0 F1 S0 S1 m k)[j]? = some rs → rs.length ≤ 4 := by
  induction k with
  | zero => intro j rs h; simp [sumRows, List.getElem?_replicate] at h; rw [← h.2]; simp
  | succ k ih =>
    intro j rs h
    unfold sumRows at h
    rw [List.getElem?_set] at h
    split at h
    · split at h
      · cases h; unfold signRow; split <;> simp
      · cases h
    · exact ih j rs h
def sumFOk (x y fa fb sa sb m : Int) : Bool := sum4B x y fa fb sa sb m
def sumFD (x y fa fb sa sb m : Int) : List (List Int) := if sumFOk x y fa fb sa sb m then sumRows (x.toNat * y.toNat) y.toNat fa.toNat fb.toNat sa.toNat sb.toNat m 4 else []
theorem sumFD_size (x y fa fb sa sb m : Int) : (sumFD x y fa fb sa sb m).length + sumLen (sumFD x y fa fb sa sb m) ≤ 4194304 := by
  unfold sumFD
  split
  · rename_i h
    unfold sumFOk sum4B at h
    rw [Bool.and_eq_true] at h
    obtain ⟨⟨hx0, hx1⟩, hy0, hy1⟩ := sizesB_iff.1 h.1
    have hN : x.toNat * y.toNat ≤ 9 := Nat.mul_le_mul (show x.toNat ≤ 3 by omega) (show y.toNat ≤ 3 by omega)
    have h1 := sumLen_bound _ 4 (sumRows_row (x.toNat * y.toNat) y.toNat fa.toNat fb.toNat sa.toNat sb.toNat m 4)
    rw [sumRows_len] at h1 ⊢
    omega
  · simp [sumLen]
theorem place_of {X Y F S : Nat} (hX : X ≤ 3) (hY : Y ≤ 3) (hF : F < X) (hS : S < Y) : ∃ n : Nat, F * Y + S = n ∧ (F : Int) * (Y : Int) + (S : Int) = (n : Int) ∧ (0 ≤ (F : Int) * (Y : Int) ∧ (F : Int) * (Y : Int) ≤ 6) ∧ n < X * Y ∧ n ≤ 8 := by
  have h1 : F * Y ≤ 2 * 3 := Nat.mul_le_mul (by omega) hY
  have h2 : (F + 1) * Y ≤ X * Y := Nat.mul_le_mul_right Y hF
  have h3 : (F + 1) * Y = F * Y + Y := by rw [Nat.add_mul]; omega
  have h4 : X * Y ≤ 9 := Nat.mul_le_mul hX hY
  have hc : ((F * Y : Nat) : Int) = (F : Int) * (Y : Int) := by push_cast; rfl
  exact ⟨F * Y + S, rfl, by push_cast; rfl, ⟨by omega, by omega⟩, by omega, by omega⟩
theorem rep_snoc (k : Nat) : List.replicate k (List.replicate 4 (0 : Int)) ++ [List.replicate 4 0] = List.replicate (k + 1) (List.replicate 4 0) := by
  exact (List.replicate_succ' (n := k) (a := List.replicate 4 (0 : Int))).symm

set_option maxRecDepth 100000 in
set_option maxHeartbeats 6400000 in
theorem specSumFunctional_any (x y fa fb sa sb m : Int) (w : World) :
    Calls Try.prog 39 #[.int .i64 x, .int .i64 y, .agg #[.int .i64 fa, .int .i64 fb], .agg #[.int .i64 sa, .int .i64 sb], .int .i64 m] w (RowsRes w (sumFD x y fa fb sa sb m) (sumFOk x y fa fb sa sb m)) := by
  go_enter Try.func39, Try.ntmps39
  go_wp2_with fail
  refine (l3Four_any x y fa fb sa sb m _).mono ?_
  rintro e w1 ⟨rfl, b1⟩
  have B1 : Below w.heap.size w w1 := Below.trans (by repeat' (first | with_reducible exact Below.refl _ _ | with_reducible assumption | with_reducible apply Below.alloc | with_reducible apply Below.setCell | with_reducible apply Below.drew | exact Nat.le_refl _ | omega | (simp only [World.size_alloc, World.size_setCell]; omega))) (b1.mono (by first | exact Nat.le_refl _ | omega | (simp only [World.size_alloc, World.size_setCell]; omega)))
  have c0 : w1.cell? ⟨w.heap.size, 0, none⟩ = some (.int .i64 fa) := keepCell b1 (by repeat' (first | with_reducible assumption | (refine cell_top ?_ rfl; first | with_reducible rfl | (simp only [World.size_alloc, World.size_setCell]; done)) | (refine cell_under ?_ ?_; (first | omega | (simp only [World.size_alloc, World.size_setCell]; omega))) | refine cell_drew ?_))
  have c1 : w1.cell? ⟨w.heap.size, 1, none⟩ = some (.int .i64 fb) := keepCell b1 (by repeat' (first | with_reducible assumption | (refine cell_top ?_ rfl; first | with_reducible rfl | (simp only [World.size_alloc, World.size_setCell]; done)) | (refine cell_under ?_ ?_; (first | omega | (simp only [World.size_alloc, World.size_setCell]; omega))) | refine cell_drew ?_))
  have d0 : w1.cell? ⟨w.heap.size + 1, 0, none⟩ = some (.int .i64 sa) := keepCell b1 (by repeat' (first | with_reducible assumption | (refine cell_top ?_ rfl; first | with_reducible rfl | (simp only [World.size_alloc, World.size_setCell]; done)) | (refine cell_under ?_ ?_; (first | omega | (simp only [World.size_alloc, World.size_setCell]; omega))) | refine cell_drew ?_))
  have d1 : w1.cell? ⟨w.heap.size + 1, 1, none⟩ = some (.int .i64 sb) := keepCell b1 (by repeat' (first | with_reducible assumption | (refine cell_top ?_ rfl; first | with_reducible rfl | (simp only [World.size_alloc, World.size_setCell]; done)) | (refine cell_under ?_ ?_; (first | omega | (simp only [World.size_alloc, World.size_setCell]; omega))) | refine cell_drew ?_))
  have hE := OwnII.empty 27 3 ((w.alloc (.cells #[.int .i64 fa, .int .i64 fb] 47)).alloc (.cells #[.int .i64 sa, .int .i64 sb] 47))
  have hz1 := b1.size
  simp only [World.size_alloc] at hz1
  have hO1 := (hE.kept b1 (by simp only [World.size_alloc]; omega)).weaken (lo' := w.heap.size + 1 + 1) (hi' := w1.heap.size) (by simp only [World.size_alloc]; omega) (by simp only [World.size_alloc]; omega)
  simp only [World.size_alloc] at hO1
  clear b1 hE
  rcases Bool.eq_false_or_eq_true (sum4B x y fa fb sa sb m) with hok | hok
  · have HOK := Lib.hid (show sumFOk x y fa fb sa sb m = true from hok)
    rw [hok]
    clear hok
    obtain ⟨hsz, his⟩ : sizesB x y = true ∧ isSumB x y fa fb sa sb m = true := by rw [← Bool.and_eq_true]; exact HOK.out
    obtain ⟨⟨hx0, hx1⟩, hy0, hy1⟩ := sizesB_iff.1 hsz
    obtain ⟨q0, q1, q2, q3, q4, q5, -, -⟩ := isSumB_iff.1 his
    obtain ⟨X, rfl⟩ := Int.eq_ofNat_of_zero_le (show 0 ≤ x by omega)
    obtain ⟨Y, rfl⟩ := Int.eq_ofNat_of_zero_le (show 0 ≤ y by omega)
    obtain ⟨F0, rfl⟩ := Int.eq_ofNat_of_zero_le q0
    obtain ⟨F1, rfl⟩ := Int.eq_ofNat_of_zero_le (show 0 ≤ fb by omega)
    obtain ⟨S0, rfl⟩ := Int.eq_ofNat_of_zero_le q3
    obtain ⟨S1, rfl⟩ := Int.eq_ofNat_of_zero_le (show 0 ≤ sb by omega)
    have HD := Lib.hid (show sumFD X Y F0 F1 S0 S1 m = sumRows (X * Y) Y F0 F1 S0 S1 m 4 by unfold sumFD; rw [HOK.out]; rfl)
    obtain ⟨N, hN⟩ : ∃ N, X * Y = N := ⟨_, rfl⟩
    have hNi : (X : Int) * (Y : Int) = (N : Int) := by rw [← hN]; push_cast; rfl
    have hN9 : N ≤ 9 := by rw [← hN]; exact Nat.mul_le_mul (show X ≤ 3 by omega) (show Y ≤ 3 by omega)
    have hN1 : 1 ≤ N := by rw [← hN]; exact Nat.mul_le_mul (show 1 ≤ X by omega) (show 1 ≤ Y by omega)
    rw [hN] at HD
    obtain ⟨n0, hk0, hi0, ⟨hm0, hn0⟩, hl0, hb0⟩ := place_of (X := X) (Y := Y) (F := F0) (S := S0) (by omega) (by omega) (by omega) (by omega)
    obtain ⟨n1, hk1, hi1, ⟨hm1, hn1⟩, hl1, hb1⟩ := place_of (X := X) (Y := Y) (F := F0) (S := S1) (by omega) (by omega) (by omega) (by omega)
    obtain ⟨n2, hk2, hi2, ⟨hm2, hn2⟩, hl2, hb2⟩ := place_of (X := X) (Y := Y) (F := F1) (S := S0) (by omega) (by omega) (by omega) (by omega)
    obtain ⟨n3, hk3, hi3, ⟨hm3, hn3⟩, hl3, hb3⟩ := place_of (X := X) (Y := Y) (F := F1) (S := S1) (by omega) (by omega) (by omega) (by omega)
    rw [hN] at hl0 hl1 hl2 hl3
    have HK := Lib.hid (And.intro hk0 (And.intro hk1 (And.intro hk2 hk3)))
    clear hk0 hk1 hk2 hk3 hN hsz his q0 q3
    obtain ⟨lo, hlo⟩ : ∃ lo, lo = w.heap.size + 1 + 1 := ⟨_, rfl⟩
    have hO0 : OwnII 27 3 lo w1.heap.size w1 (.slice (some ⟨w.heap.size + 1 + 1, 0, none⟩) 0 0) (List.replicate 0 (List.replicate 4 0)) [] := by rw [hlo]; exact hO1
    have hB0 : Below lo w1 w1 := Below.refl _ _
    have hl0' : w.heap.size < lo := by omega
    have hl1' : w.heap.size + 1 < lo := by omega
    have hl2' : lo ≤ w1.heap.size := by omega
    have KS := Lib.hid (fun (W : World) (h : Below lo w1 W) => And.intro (keepAt h hl0' c0) (And.intro (keepAt h hl0' c1) (And.intro (keepAt h hl1' d0) (keepAt h hl1' d1))))
    clear hO1 hlo c0 c1 d0 d1 hz1
    go_wp2
    go_loopw [13, 12] (fun s so wr => ∃ k : Nat, k ≤ N ∧ s = .int .i64 k ∧ ∃ a c vs, so = .slice a k c ∧ OwnII 27 3 lo wr.heap.size wr (.slice a k c) (List.replicate k (List.replicate 4 0)) vs ∧ Below lo w1 wr) (fun s _ _ => N - (intOf s).toNat)
    case atStart => exact ⟨0, by omega, rfl, _, _, _, rfl, hO0, hB0⟩
    case round =>
      clear hO0 hB0
      obtain ⟨k, hk, rfl, a, c, vs, rfl, hO, hB⟩ := hrel
      by_cases hlt : k < N
      · have hmk := mk4_run wr
        have hbz : Below wr.heap.size wr (wr.alloc (.cells zero4 3)) := (Below.refl _ _).alloc (Nat.le_refl _) _
        have hO1 := hO.kept hbz (Nat.le_refl _)
        have ht := hO1.top
        have hlen : vs.length = k := by have := hO1.len; simpa using this
        have HLN := Lib.hid hlen
        have hz := hB.size
        have hz0 := zero4_own wr
        clear hlen hO
        go_wp2_with (at_builtin; refine append1_at rfl _ _ 24 27 rfl Try.underlying24 Try.infoInts rfl ht (World.size_alloc _ _) rfl rfl rfl (by rw [HLN.out]; omega) (by omega) (by rw [World.size_alloc]; omega) ?_)
        intro a2 c2 w2 hO2 hg2
        have hsn := hO1.snoc hz0 (Nat.le_refl _) (by omega) (by omega) hO2 hg2 (by have := hg2.size; rw [World.size_alloc] at this; exact this) (by decide)
        have hB2 : Below lo w1 w2 := (hB.trans (hbz.mono (by omega))).grown hg2 (by rw [World.size_alloc]; omega) (fun g hg => (ht.lt g hg).1)
        rw [rep_snoc, HLN.out] at hsn
        clear hO1 ht hO2 hz0
        go_wp2
        go_roundw
        case rel => exact ⟨k + 1, by omega, by go_num, a2, c2, _, by rw [HLN.out], hsn, hB2⟩
        case measure => simp [intOf]; omega
      · obtain rfl : k = N := by omega
        obtain ⟨a', g, cap, hv, _, ha, _, _⟩ := hO.top.shape
        have hvl : vs.length = k := by have := hO.len; simpa using this
        injection hv with e1 e2 e3
        obtain ⟨ea, hg0, _, hg2⟩ := ha (by omega)
        rw [ea] at e1
        subst e1
        clear ea e2 e3 ha hvl cap a'
        go_wp2
        go_loopw [14] (fun s wz => ∃ j : Nat, j ≤ 4 ∧ s = .int .i64 j ∧ ∃ vs, OwnII 27 3 lo wz.heap.size wz (.slice (some ⟨g, 0, none⟩) k c) (sumRows k Y F0 F1 S0 S1 m j) vs ∧ Below lo w1 wz) (fun s _ => 4 - (intOf s).toNat)
        case atStart => exact ⟨0, by omega, rfl, _, hO, hB⟩
        case round =>
          clear hO hB hg2
          obtain ⟨j, hj, rfl, vs, hO, hB⟩ := hrel
          have hvl : vs.length = k := by rw [hO.len, sumRows_len]
          obtain ⟨hcl, hfz, -, -, hgl⟩ := hO.top.at
          have hz := hB.size
          have : j = 0 ∨ j = 1 ∨ j = 2 ∨ j = 3 ∨ j = 4 := by omega
          rcases this with rfl | rfl | rfl | rfl | rfl
          · rw [show ((0 : Nat) : Int) = (0 : Int) from rfl]
            have hq4 : IntKind.i64.wrap (0 : Int) = 0 := by decide
            have hq1 : IntKind.i64.wrap (Int.tdiv (0 : Int) 2) = 0 := by decide
            obtain ⟨u, hu⟩ : ∃ u, vs[n0]? = some u := ⟨_, List.getElem?_eq_getElem (by omega)⟩
            have cu := hcl n0 u hu
            have hjl : (n0 : Int) < (k : Int) := by omega
            have hj0 : (0 : Int) ≤ (n0 : Int) := by omega
            have fu := hfz n0
            have hset : setK Y F0 F1 S0 S1 0 = n0 := HK.out.1
            have HSET := Lib.hid hset
            have hwa : IntKind.i64.wrap ((F0 : Int) * (Y : Int)) = (F0 : Int) * (Y : Int) := wrap_in _ (by omega) (by omega)
            have hwb : IntKind.i64.wrap ((F0 : Int) * (Y : Int) + (S0 : Int)) = (n0 : Int) := by rw [hi0]; exact wrap_in _ (by omega) (by omega)
            have hwc : IntKind.i64.wrap (n0 : Int) = (n0 : Int) := wrap_in _ (by omega) (by omega)
            clear hset hu hcl hfz
            by_cases hkm : (0 : Int) = m
            · have hkz : ((0 : Int) == m) = true := by simp [hkm]
              have HSG := Lib.hid (show signRow m 0 = [-1, 1, 1, -1] by unfold signRow; rw [if_pos (by exact_mod_cast hkm)])
              clear hkm
              have hbw : Below wr.heap.size wr (wr.drew.alloc (.cells #[.int .i64 (-1), .int .i64 1, .int .i64 1, .int .i64 (-1)] 3)) := ((Below.refl _ _).drew).alloc (Nat.le_refl _) _
              have hrow : OwnV 3 wr.heap.size (wr.heap.size + 1) (wr.drew.alloc (.cells #[.int .i64 (-1), .int .i64 1, .int .i64 1, .int .i64 (-1)] 3)) (.slice (some ⟨wr.heap.size, 0, none⟩) 4 4) (ints [-1, 1, 1, -1]) := OwnV.lit 3 wr.drew (ints [-1, 1, 1, -1]) (by simp [maxLen])
              have hO1 := hO.kept hbw (Nat.le_refl _)
              have hst := hO1.setRow (g := g) (k := n0) rfl (by omega) hrow (Nat.le_refl _) (by omega) (by omega)
              have hBn : Below lo w1 ((wr.drew.alloc (.cells #[.int .i64 (-1), .int .i64 1, .int .i64 1, .int .i64 (-1)] 3)).setCell ⟨g, n0, none⟩ (.slice (some ⟨wr.heap.size, 0, none⟩) 4 4)) := (hB.trans (hbw.mono (by omega))).setCell hg0 _
              have hworld : (wr.drew.alloc (.cells #[.int .i64 (-1), .int .i64 1, .int .i64 1, .int .i64 (-1)] 3)).setCell ⟨g, n0, none⟩ (.slice (some ⟨wr.heap.size, 0, none⟩) 4 4) = ((wr.setCell ⟨g, n0, none⟩ (.slice (some ⟨wr.heap.size, 0, none⟩) 4 4)).alloc (.cells #[.int .i64 (-1), .int .i64 1, .int .i64 1, .int .i64 (-1)] 3)).drew := by
                rw [World.alloc_drew, World.setCell_drew, World.setCell_alloc_past]
                exact hgl
              rw [hworld] at hst hBn
              have cu' : (wr.drew.alloc (.cells #[.int .i64 (-1), .int .i64 1, .int .i64 1, .int .i64 (-1)] 3)).cell? ⟨g, n0, none⟩ = some u := keepAt hbw hgl cu
              have fu' : (wr.drew.alloc (.cells #[.int .i64 (-1), .int .i64 1, .int .i64 1, .int .i64 (-1)] 3)).frozen? ⟨g, n0, none⟩ = false := by rw [hbw.frozen (p := ⟨g, n0, none⟩) hgl]; exact fu
              have HST := Lib.hid hst
              clear hO1 hrow hst hO
              go_wp2
              refine wp_region_cut_held (S := fun W => W.cell? ⟨w.heap.size, 0, none⟩ = some (.int .i64 F0) ∧ W.cell? ⟨w.heap.size, 1, none⟩ = some (.int .i64 F1) ∧ W.cell? ⟨w.heap.size + 1, 0, none⟩ = some (.int .i64 S0) ∧ W.cell? ⟨w.heap.size + 1, 1, none⟩ = some (.int .i64 S1)) 20 _ rfl (by kernel_rfl) (by kernel_rfl) (KS.out _ hB.drew) (fun hHeld => ?_)
              simp only [List.take_succ_cons, List.take_zero]
              refine wpAnyH_take (i := 0) (v := ?_) rfl (by kernel_rfl) (by kernel_rfl) (by kernel_rfl) (fun _ _ _ h => h) (Or.inl ⟨by rfl, ?_⟩) (by assumption) ?_
              rotate_left
              · (intro w hSw; (try dsimp only at hSw); go_simp; try with_reducible rfl)
              try simp only [Act.put, List.setIfInBounds_toArray, List.set_cons_zero, List.set_cons_succ]
              refine wpAnyH_take (i := 1) (v := ?_) rfl (by kernel_rfl) (by kernel_rfl) (by kernel_rfl) (fun _ _ _ h => h) (Or.inl ⟨by rfl, ?_⟩) (by assumption) ?_
              rotate_left
              · (intro w hSw; (try dsimp only at hSw); go_simp; try with_reducible rfl)
              try simp only [Act.put, List.setIfInBounds_toArray, List.set_cons_zero, List.set_cons_succ]
              refine wpAnyH_take (i := 2) (v := ?_) rfl (by kernel_rfl) (by kernel_rfl) (by kernel_rfl) (fun _ _ _ h => h) (Or.inl ⟨by rfl, ?_⟩) (by assumption) ?_
              rotate_left
              · (intro w hSw; (try dsimp only at hSw); go_simp; try with_reducible rfl)
              try simp only [Act.put, List.setIfInBounds_toArray, List.set_cons_zero, List.set_cons_succ]
              refine wpAnyH_take (i := 3) (v := ?_) rfl (by kernel_rfl) (by kernel_rfl) (by kernel_rfl) (fun _ _ _ h => h) (Or.inl ⟨by rfl, ?_⟩) (by assumption) ?_
              rotate_left
              · (intro w hSw; (try dsimp only at hSw); go_simp; try with_reducible rfl)
              try simp only [Act.put, List.setIfInBounds_toArray, List.set_cons_zero, List.set_cons_succ]
              refine wpAnyH_take (i := 4) (v := ?_) rfl (by kernel_rfl) (by kernel_rfl) (by kernel_rfl) (fun _ _ _ h => h) (Or.inl ⟨by rfl, ?_⟩) (by assumption) ?_
              rotate_left
              · (intro w hSw; (try dsimp only at hSw); go_simp; try with_reducible rfl)
              try simp only [Act.put, List.setIfInBounds_toArray, List.set_cons_zero, List.set_cons_succ]
              refine wpAnyH_take (i := 5) (v := ?_) rfl (by kernel_rfl) (by kernel_rfl) (by kernel_rfl) (fun _ _ _ h => h) (Or.inl ⟨by rfl, ?_⟩) (by assumption) ?_
              rotate_left
              · (intro w hSw; (try dsimp only at hSw); go_simp; try with_reducible rfl)
              try simp only [Act.put, List.setIfInBounds_toArray, List.set_cons_zero, List.set_cons_succ]
              refine wpAnyH_take (i := 6) (v := ?_) rfl (by kernel_rfl) (by kernel_rfl) (by kernel_rfl) (fun _ _ _ h => h) (Or.inl ⟨by rfl, ?_⟩) (by assumption) ?_
              rotate_left
              · (intro w hSw; (try dsimp only at hSw); go_simp; try with_reducible rfl)
              try simp only [Act.put, List.setIfInBounds_toArray, List.set_cons_zero, List.set_cons_succ]
              refine wpAnyH_take (i := 7) (v := ?_) rfl (by kernel_rfl) (by kernel_rfl) (by kernel_rfl) (fun _ _ _ h => h) (Or.inl ⟨by rfl, ?_⟩) (by assumption) ?_
              rotate_left
              · (intro w hSw; (try dsimp only at hSw); go_simp; try with_reducible rfl)
              try simp only [Act.put, List.setIfInBounds_toArray, List.set_cons_zero, List.set_cons_succ]
              refine wpAnyH_take (i := 8) (v := ?_) rfl (by kernel_rfl) (by kernel_rfl) (by kernel_rfl) (fun _ _ _ h => h) (Or.inl ⟨by rfl, ?_⟩) (by assumption) ?_
              rotate_left
              · (intro w hSw; (try dsimp only at hSw); go_simp; try with_reducible rfl)
              try simp only [Act.put, List.setIfInBounds_toArray, List.set_cons_zero, List.set_cons_succ]
              refine wpAnyH_take (i := 9) (v := ?_) rfl (by kernel_rfl) (by kernel_rfl) (by kernel_rfl) (fun _ _ _ h => h) (Or.inl ⟨by rfl, ?_⟩) (by assumption) ?_
              rotate_left
              · (intro w hSw; (try dsimp only at hSw); go_simp; try with_reducible rfl)
              try simp only [Act.put, List.setIfInBounds_toArray, List.set_cons_zero, List.set_cons_succ]
              refine wpAnyH_take (i := 10) (v := ?_) rfl (by kernel_rfl) (by kernel_rfl) (by kernel_rfl) (fun _ _ _ h => h) (Or.inl ⟨by rfl, ?_⟩) (by assumption) ?_
              rotate_left
              · (intro w hSw; (try dsimp only at hSw); go_simp; try with_reducible rfl)
              try simp only [Act.put, List.setIfInBounds_toArray, List.set_cons_zero, List.set_cons_succ]
              refine wpAnyH_take (i := 11) (v := ?_) rfl (by kernel_rfl) (by kernel_rfl) (by kernel_rfl) (fun _ _ _ h => h) (Or.inl ⟨by rfl, ?_⟩) (by assumption) ?_
              rotate_left
              · (intro w hSw; (try dsimp only at hSw); go_simp; try with_reducible rfl)
              try simp only [Act.put, List.setIfInBounds_toArray, List.set_cons_zero, List.set_cons_succ]
              refine wpAnyH_take (i := 12) (v := ?_) rfl (by kernel_rfl) (by kernel_rfl) (by kernel_rfl) (fun _ _ _ h => h) (Or.inl ⟨by rfl, ?_⟩) (by assumption) ?_
              rotate_left
              · (intro w hSw; (try dsimp only at hSw); go_simp; try with_reducible rfl)
              try simp only [Act.put, List.setIfInBounds_toArray, List.set_cons_zero, List.set_cons_succ]
              refine wpAnyH_take (i := 13) (v := ?_) rfl (by kernel_rfl) (by kernel_rfl) (by kernel_rfl) (fun _ _ _ h => h) (Or.inl ⟨by rfl, ?_⟩) (by assumption) ?_
              rotate_left
              · (intro w hSw; (try dsimp only at hSw); go_simp; try with_reducible rfl)
              try simp only [Act.put, List.setIfInBounds_toArray, List.set_cons_zero, List.set_cons_succ]
              refine wpAnyH_take (i := 14) (v := ?_) rfl (by kernel_rfl) (by kernel_rfl) (by kernel_rfl) (fun _ _ _ h => h) (Or.inl ⟨by rfl, ?_⟩) (by assumption) ?_
              rotate_left
              · (intro w hSw; (try dsimp only at hSw); go_simp; try with_reducible rfl)
              try simp only [Act.put, List.setIfInBounds_toArray, List.set_cons_zero, List.set_cons_succ]
              refine wpAnyH_take (i := 15) (v := ?_) rfl (by kernel_rfl) (by kernel_rfl) (by kernel_rfl) (fun _ _ _ h => h) (Or.inl ⟨by rfl, ?_⟩) (by assumption) ?_
              rotate_left
              · (intro w hSw; (try dsimp only at hSw); go_simp; try with_reducible rfl)
              try simp only [Act.put, List.setIfInBounds_toArray, List.set_cons_zero, List.set_cons_succ]
              refine wpAnyH_take (i := 16) (v := ?_) rfl (by kernel_rfl) (by kernel_rfl) (by kernel_rfl) (fun _ _ _ h => h) (Or.inl ⟨by rfl, ?_⟩) (by assumption) ?_
              rotate_left
              · (intro w hSw; (try dsimp only at hSw); go_simp; try with_reducible rfl)
              try simp only [Act.put, List.setIfInBounds_toArray, List.set_cons_zero, List.set_cons_succ]
              refine wpAnyH_take (i := 17) (v := ?_) rfl (by kernel_rfl) (by kernel_rfl) (by kernel_rfl) (fun _ _ _ h => h) (Or.inl ⟨by rfl, ?_⟩) (by assumption) ?_
              rotate_left
              · (intro w hSw; (try dsimp only at hSw); go_simp; try with_reducible rfl)
              try simp only [Act.put, List.setIfInBounds_toArray, List.set_cons_zero, List.set_cons_succ]
              refine wpAnyH_ready (rs := [18]) (by kernel_rfl) (by simp) ?_
              refine AllReadyH.cons rfl (fun K hK => ?_) AllReadyH.nil
              go_simp
              refine hK.out _ _ ?_ (fun hHeld => ?_)
              · exact KS.out _ (hB.trans (hbw.mono (by omega)))
              clear hK K
              try simp only [Act.put, List.setIfInBounds_toArray, List.set_cons_zero, List.set_cons_succ]
              refine wpAnyH_take (i := 19) (v := ?_) rfl (by kernel_rfl) (by kernel_rfl) (by kernel_rfl) (fun _ _ _ h => h) (Or.inl ⟨by rfl, ?_⟩) (by assumption) ?_
              rotate_left
              · (intro w hSw; (try dsimp only at hSw); go_simp; try with_reducible rfl)
              try simp only [Act.put, List.setIfInBounds_toArray, List.set_cons_zero, List.set_cons_succ]
              refine wpAnyH_done (by kernel_rfl) ?_ _
              show wpList _ _ _ _ _ _
              go_wp2
              go_roundw
              case rel => exact ⟨1, by omega, rfl, _, by
                have h9 := HST.out
                unfold sumRows
                rw [HSET.out, HSG.out]
                exact h9.weaken (Nat.le_refl _) (by show wr.heap.size + 1 ≤ ((wr.setCell ⟨g, n0, none⟩ (.slice (some ⟨wr.heap.size, 0, none⟩) 4 4)).alloc (.cells #[.int .i64 (-1), .int .i64 1, .int .i64 1, .int .i64 (-1)] 3)).heap.size; rw [World.size_alloc, World.size_setCell]; omega), hBn⟩
              case measure => simp [intOf]
            · have hkz : ((0 : Int) == m) = false := by simp [hkm]
              have HSG := Lib.hid (show signRow m 0 = [1, -1, -1, 1] by unfold signRow; rw [if_neg (by exact_mod_cast hkm)])
              clear hkm
              have hbw : Below wr.heap.size wr (wr.drew.alloc (.cells #[.int .i64 1, .int .i64 (-1), .int .i64 (-1), .int .i64 1] 3)) := ((Below.refl _ _).drew).alloc (Nat.le_refl _) _
              have hrow : OwnV 3 wr.heap.size (wr.heap.size + 1) (wr.drew.alloc (.cells #[.int .i64 1, .int .i64 (-1), .int .i64 (-1), .int .i64 1] 3)) (.slice (some ⟨wr.heap.size, 0, none⟩) 4 4) (ints [1, -1, -1, 1]) := OwnV.lit 3 wr.drew (ints [1, -1, -1, 1]) (by simp [maxLen])
              have hO1 := hO.kept hbw (Nat.le_refl _)
              have hst := hO1.setRow (g := g) (k := n0) rfl (by omega) hrow (Nat.le_refl _) (by omega) (by omega)
              have hBn : Below lo w1 ((wr.drew.alloc (.cells #[.int .i64 1, .int .i64 (-1), .int .i64 (-1), .int .i64 1] 3)).setCell ⟨g, n0, none⟩ (.slice (some ⟨wr.heap.size, 0, none⟩) 4 4)) := (hB.trans (hbw.mono (by omega))).setCell hg0 _
              have hworld : (wr.drew.alloc (.cells #[.int .i64 1, .int .i64 (-1), .int .i64 (-1), .int .i64 1] 3)).setCell ⟨g, n0, none⟩ (.slice (some ⟨wr.heap.size, 0, none⟩) 4 4) = ((wr.setCell ⟨g, n0, none⟩ (.slice (some ⟨wr.heap.size, 0, none⟩) 4 4)).alloc (.cells #[.int .i64 1, .int .i64 (-1), .int .i64 (-1), .int .i64 1] 3)).drew := by
                rw [World.alloc_drew, World.setCell_drew, World.setCell_alloc_past]
                exact hgl
              rw [hworld] at hst hBn
              have cu' : (wr.drew.alloc (.cells #[.int .i64 1, .int .i64 (-1), .int .i64 (-1), .int .i64 1] 3)).cell? ⟨g, n0, none⟩ = some u := keepAt hbw hgl cu
              have fu' : (wr.drew.alloc (.cells #[.int .i64 1, .int .i64 (-1), .int .i64 (-1), .int .i64 1] 3)).frozen? ⟨g, n0, none⟩ = false := by rw [hbw.frozen (p := ⟨g, n0, none⟩) hgl]; exact fu
              have HST := Lib.hid hst
              clear hO1 hrow hst hO
              go_wp2
              refine wp_region_cut_held (S := fun W => W.cell? ⟨w.heap.size, 0, none⟩ = some (.int .i64 F0) ∧ W.cell? ⟨w.heap.size, 1, none⟩ = some (.int .i64 F1) ∧ W.cell? ⟨w.heap.size + 1, 0, none⟩ = some (.int .i64 S0) ∧ W.cell? ⟨w.heap.size + 1, 1, none⟩ = some (.int .i64 S1)) 20 _ rfl (by kernel_rfl) (by kernel_rfl) (KS.out _ hB.drew) (fun hHeld => ?_)
              simp only [List.take_succ_cons, List.take_zero]
              refine wpAnyH_take (i := 0) (v := ?_) rfl (by kernel_rfl) (by kernel_rfl) (by kernel_rfl) (fun _ _ _ h => h) (Or.inl ⟨by rfl, ?_⟩) (by assumption) ?_
              rotate_left
              · (intro w hSw; (try dsimp only at hSw); go_simp; try with_reducible rfl)
              try simp only [Act.put, List.setIfInBounds_toArray, List.set_cons_zero, List.set_cons_succ]
              refine wpAnyH_take (i := 1) (v := ?_) rfl (by kernel_rfl) (by kernel_rfl) (by kernel_rfl) (fun _ _ _ h => h) (Or.inl ⟨by rfl, ?_⟩) (by assumption) ?_
              rotate_left
              · (intro w hSw; (try dsimp only at hSw); go_simp; try with_reducible rfl)
              try simp only [Act.put, List.setIfInBounds_toArray, List.set_cons_zero, List.set_cons_succ]
              refine wpAnyH_take (i := 2) (v := ?_) rfl (by kernel_rfl) (by kernel_rfl) (by kernel_rfl) (fun _ _ _ h => h) (Or.inl ⟨by rfl, ?_⟩) (by assumption) ?_
              rotate_left
              · (intro w hSw; (try dsimp only at hSw); go_simp; try with_reducible rfl)
              try simp only [Act.put, List.setIfInBounds_toArray, List.set_cons_zero, List.set_cons_succ]
              refine wpAnyH_take (i := 3) (v := ?_) rfl (by kernel_rfl) (by kernel_rfl) (by kernel_rfl) (fun _ _ _ h => h) (Or.inl ⟨by rfl, ?_⟩) (by assumption) ?_
              rotate_left
              · (intro w hSw; (try dsimp only at hSw); go_simp; try with_reducible rfl)
              try simp only [Act.put, List.setIfInBounds_toArray, List.set_cons_zero, List.set_cons_succ]
              refine wpAnyH_take (i := 4) (v := ?_) rfl (by kernel_rfl) (by kernel_rfl) (by kernel_rfl) (fun _ _ _ h => h) (Or.inl ⟨by rfl, ?_⟩) (by assumption) ?_
              rotate_left
              · (intro w hSw; (try dsimp only at hSw); go_simp; try with_reducible rfl)
              try simp only [Act.put, List.setIfInBounds_toArray, List.set_cons_zero, List.set_cons_succ]
              refine wpAnyH_take (i := 5) (v := ?_) rfl (by kernel_rfl) (by kernel_rfl) (by kernel_rfl) (fun _ _ _ h => h) (Or.inl ⟨by rfl, ?_⟩) (by assumption) ?_
              rotate_left
              · (intro w hSw; (try dsimp only at hSw); go_simp; try with_reducible rfl)
              try simp only [Act.put, List.setIfInBounds_toArray, List.set_cons_zero, List.set_cons_succ]
              refine wpAnyH_take (i := 6) (v := ?_) rfl (by kernel_rfl) (by kernel_rfl) (by kernel_rfl) (fun _ _ _ h => h) (Or.inl ⟨by rfl, ?_⟩) (by assumption) ?_
              rotate_left
              · (intro w hSw; (try dsimp only at hSw); go_simp; try with_reducible rfl)
              try simp only [Act.put, List.setIfInBounds_toArray, List.set_cons_zero, List.set_cons_succ]
              refine wpAnyH_take (i := 7) (v := ?_) rfl (by kernel_rfl) (by kernel_rfl) (by kernel_rfl) (fun _ _ _ h => h) (Or.inl ⟨by rfl, ?_⟩) (by assumption) ?_
              rotate_left
              · (intro w hSw; (try dsimp only at hSw); go_simp; try with_reducible rfl)
              try simp only [Act.put, List.setIfInBounds_toArray, List.set_cons_zero, List.set_cons_succ]
              refine wpAnyH_take (i := 8) (v := ?_) rfl (by kernel_rfl) (by kernel_rfl) (by kernel_rfl) (fun _ _ _ h => h) (Or.inl ⟨by rfl, ?_⟩) (by assumption) ?_
              rotate_left
              · (intro w hSw; (try dsimp only at hSw); go_simp; try with_reducible rfl)
              try simp only [Act.put, List.setIfInBounds_toArray, List.set_cons_zero, List.set_cons_succ]
              refine wpAnyH_take (i := 9) (v := ?_) rfl (by kernel_rfl) (by kernel_rfl) (by kernel_rfl) (fun _ _ _ h => h) (Or.inl ⟨by rfl, ?_⟩) (by assumption) ?_
              rotate_left
              · (intro w hSw; (try dsimp only at hSw); go_simp; try with_reducible rfl)
              try simp only [Act.put, List.setIfInBounds_toArray, List.set_cons_zero, List.set_cons_succ]
              refine wpAnyH_take (i := 10) (v := ?_) rfl (by kernel_rfl) (by kernel_rfl) (by kernel_rfl) (fun _ _ _ h => h) (Or.inl ⟨by rfl, ?_⟩) (by assumption) ?_
              rotate_left
              · (intro w hSw; (try dsimp only at hSw); go_simp; try with_reducible rfl)
              try simp only [Act.put, List.setIfInBounds_toArray, List.set_cons_zero, List.set_cons_succ]
              refine wpAnyH_take (i := 11) (v := ?_) rfl (by kernel_rfl) (by kernel_rfl) (by kernel_rfl) (fun _ _ _ h => h) (Or.inl ⟨by rfl, ?_⟩) (by assumption) ?_
              rotate_left
              · (intro w hSw; (try dsimp only at hSw); go_simp; try with_reducible rfl)
              try simp only [Act.put, List.setIfInBounds_toArray, List.set_cons_zero, List.set_cons_succ]
              refine wpAnyH_take (i := 12) (v := ?_) rfl (by kernel_rfl) (by kernel_rfl) (by kernel_rfl) (fun _ _ _ h => h) (Or.inl ⟨by rfl, ?_⟩) (by assumption) ?_
              rotate_left
              · (intro w hSw; (try dsimp only at hSw); go_simp; try with_reducible rfl)
              try simp only [Act.put, List.setIfInBounds_toArray, List.set_cons_zero, List.set_cons_succ]
              refine wpAnyH_take (i := 13) (v := ?_) rfl (by kernel_rfl) (by kernel_rfl) (by kernel_rfl) (fun _ _ _ h => h) (Or.inl ⟨by rfl, ?_⟩) (by assumption) ?_
              rotate_left
              · (intro w hSw; (try dsimp only at hSw); go_simp; try with_reducible rfl)
              try simp only [Act.put, List.setIfInBounds_toArray, List.set_cons_zero, List.set_cons_succ]
              refine wpAnyH_take (i := 14) (v := ?_) rfl (by kernel_rfl) (by kernel_rfl) (by kernel_rfl) (fun _ _ _ h => h) (Or.inl ⟨by rfl, ?_⟩) (by assumption) ?_
              rotate_left
              · (intro w hSw; (try dsimp only at hSw); go_simp; try with_reducible rfl)
              try simp only [Act.put, List.setIfInBounds_toArray, List.set_cons_zero, List.set_cons_succ]
              refine wpAnyH_take (i := 15) (v := ?_) rfl (by kernel_rfl) (by kernel_rfl) (by kernel_rfl) (fun _ _ _ h => h) (Or.inl ⟨by rfl, ?_⟩) (by assumption) ?_
              rotate_left
              · (intro w hSw; (try dsimp only at hSw); go_simp; try with_reducible rfl)
              try simp only [Act.put, List.setIfInBounds_toArray, List.set_cons_zero, List.set_cons_succ]
              refine wpAnyH_take (i := 16) (v := ?_) rfl (by kernel_rfl) (by kernel_rfl) (by kernel_rfl) (fun _ _ _ h => h) (Or.inl ⟨by rfl, ?_⟩) (by assumption) ?_
              rotate_left
              · (intro w hSw; (try dsimp only at hSw); go_simp; try with_reducible rfl)
              try simp only [Act.put, List.setIfInBounds_toArray, List.set_cons_zero, List.set_cons_succ]
              refine wpAnyH_take (i := 17) (v := ?_) rfl (by kernel_rfl) (by kernel_rfl) (by kernel_rfl) (fun _ _ _ h => h) (Or.inl ⟨by rfl, ?_⟩) (by assumption) ?_
              rotate_left
              · (intro w hSw; (try dsimp only at hSw); go_simp; try with_reducible rfl)
              try simp only [Act.put, List.setIfInBounds_toArray, List.set_cons_zero, List.set_cons_succ]
              refine wpAnyH_ready (rs := [18]) (by kernel_rfl) (by simp) ?_
              refine AllReadyH.cons rfl (fun K hK => ?_) AllReadyH.nil
              go_simp
              refine hK.out _ _ ?_ (fun hHeld => ?_)
              · exact KS.out _ (hB.trans (hbw.mono (by omega)))
              clear hK K
              try simp only [Act.put, List.setIfInBounds_toArray, List.set_cons_zero, List.set_cons_succ]
              refine wpAnyH_take (i := 19) (v := ?_) rfl (by kernel_rfl) (by kernel_rfl) (by kernel_rfl) (fun _ _ _ h => h) (Or.inl ⟨by rfl, ?_⟩) (by assumption) ?_
              rotate_left
              · (intro w hSw; (try dsimp only at hSw); go_simp; try with_reducible rfl)
              try simp only [Act.put, List.setIfInBounds_toArray, List.set_cons_zero, List.set_cons_succ]
              refine wpAnyH_done (by kernel_rfl) ?_ _
              show wpList _ _ _ _ _ _
              go_wp2
              go_roundw
              case rel => exact ⟨1, by omega, rfl, _, by
                have h9 := HST.out
                unfold sumRows
                rw [HSET.out, HSG.out]
                exact h9.weaken (Nat.le_refl _) (by show wr.heap.size + 1 ≤ ((wr.setCell ⟨g, n0, none⟩ (.slice (some ⟨wr.heap.size, 0, none⟩) 4 4)).alloc (.cells #[.int .i64 1, .int .i64 (-1), .int .i64 (-1), .int .i64 1] 3)).heap.size; rw [World.size_alloc, World.size_setCell]; omega), hBn⟩
              case measure => simp [intOf]
          · rw [show ((1 : Nat) : Int) = (1 : Int) from rfl]
            have hq4 : IntKind.i64.wrap (0 : Int) = 0 := by decide
            have hq1 : IntKind.i64.wrap (Int.tdiv (1 : Int) 2) = 0 := by decide
            obtain ⟨u, hu⟩ : ∃ u, vs[n1]? = some u := ⟨_, List.getElem?_eq_getElem (by omega)⟩
            have cu := hcl n1 u hu
            have hjl : (n1 : Int) < (k : Int) := by omega
            have hj0 : (0 : Int) ≤ (n1 : Int) := by omega
            have fu := hfz n1
            have hset : setK Y F0 F1 S0 S1 1 = n1 := HK.out.2.1
            have HSET := Lib.hid hset
            have hwa : IntKind.i64.wrap ((F0 : Int) * (Y : Int)) = (F0 : Int) * (Y : Int) := wrap_in _ (by omega) (by omega)
            have hwb : IntKind.i64.wrap ((F0 : Int) * (Y : Int) + (S1 : Int)) = (n1 : Int) := by rw [hi1]; exact wrap_in _ (by omega) (by omega)
            have hwc : IntKind.i64.wrap (n1 : Int) = (n1 : Int) := wrap_in _ (by omega) (by omega)
            clear hset hu hcl hfz
            by_cases hkm : (1 : Int) = m
            · have hkz : ((1 : Int) == m) = true := by simp [hkm]
              have HSG := Lib.hid (show signRow m 1 = [-1, 1, 1, -1] by unfold signRow; rw [if_pos (by exact_mod_cast hkm)])
              clear hkm
              have hbw : Below wr.heap.size wr (wr.drew.alloc (.cells #[.int .i64 (-1), .int .i64 1, .int .i64 1, .int .i64 (-1)] 3)) := ((Below.refl _ _).drew).alloc (Nat.le_refl _) _
              have hrow : OwnV 3 wr.heap.size (wr.heap.size + 1) (wr.drew.alloc (.cells #[.int .i64 (-1), .int .i64 1, .int .i64 1, .int .i64 (-1)] 3)) (.slice (some ⟨wr.heap.size, 0, none⟩) 4 4) (ints [-1, 1, 1, -1]) := OwnV.lit 3 wr.drew (ints [-1, 1, 1, -1]) (by simp [maxLen])
              have hO1 := hO.kept hbw (Nat.le_refl _)
              have hst := hO1.setRow (g := g) (k := n1) rfl (by omega) hrow (Nat.le_refl _) (by omega) (by omega)
              have hBn : Below lo w1 ((wr.drew.alloc (.cells #[.int .i64 (-1), .int .i64 1, .int .i64 1, .int .i64 (-1)] 3)).setCell ⟨g, n1, none⟩ (.slice (some ⟨wr.heap.size, 0, none⟩) 4 4)) := (hB.trans (hbw.mono (by omega))).setCell hg0 _
              have hworld : (wr.drew.alloc (.cells #[.int .i64 (-1), .int .i64 1, .int .i64 1, .int .i64 (-1)] 3)).setCell ⟨g, n1, none⟩ (.slice (some ⟨wr.heap.size, 0, none⟩) 4 4) = ((wr.setCell ⟨g, n1, none⟩ (.slice (some ⟨wr.heap.size, 0, none⟩) 4 4)).alloc (.cells #[.int .i64 (-1), .int .i64 1, .int .i64 1, .int .i64 (-1)] 3)).drew := by
                rw [World.alloc_drew, World.setCell_drew, World.setCell_alloc_past]
                exact hgl
              rw [hworld] at hst hBn
              have cu' : (wr.drew.alloc (.cells #[.int .i64 (-1), .int .i64 1, .int .i64 1, .int .i64 (-1)] 3)).cell? ⟨g, n1, none⟩ = some u := keepAt hbw hgl cu
              have fu' : (wr.drew.alloc (.cells #[.int .i64 (-1), .int .i64 1, .int .i64 1, .int .i64 (-1)] 3)).frozen? ⟨g, n1, none⟩ = false := by rw [hbw.frozen (p := ⟨g, n1, none⟩) hgl]; exact fu
              have HST := Lib.hid hst
              clear hO1 hrow hst hO
              go_wp2
              refine wp_region_cut_held (S := fun W => W.cell? ⟨w.heap.size, 0, none⟩ = some (.int .i64 F0) ∧ W.cell? ⟨w.heap.size, 1, none⟩ = some (.int .i64 F1) ∧ W.cell? ⟨w.heap.size + 1, 0, none⟩ = some (.int .i64 S0) ∧ W.cell? ⟨w.heap.size + 1, 1, none⟩ = some (.int .i64 S1)) 20 _ rfl (by kernel_rfl) (by kernel_rfl) (KS.out _ hB.drew) (fun hHeld => ?_)
              simp only [List.take_succ_cons, List.take_zero]
              refine wpAnyH_take (i := 0) (v := ?_) rfl (by kernel_rfl) (by kernel_rfl) (by kernel_rfl) (fun _ _ _ h => h) (Or.inl ⟨by rfl, ?_⟩) (by assumption) ?_
              rotate_left
              · (intro w hSw; (try dsimp only at hSw); go_simp; try with_reducible rfl)
              try simp only [Act.put, List.setIfInBounds_toArray, List.set_cons_zero, List.set_cons_succ]
              refine wpAnyH_take (i := 1) (v := ?_) rfl (by kernel_rfl) (by kernel_rfl) (by kernel_rfl) (fun _ _ _ h => h) (Or.inl ⟨by rfl, ?_⟩) (by assumption) ?_
              rotate_left
              · (intro w hSw; (try dsimp only at hSw); go_simp; try with_reducible rfl)
              try simp only [Act.put, List.setIfInBounds_toArray, List.set_cons_zero, List.set_cons_succ]
              refine wpAnyH_take (i := 2) (v := ?_) rfl (by kernel_rfl) (by kernel_rfl) (by kernel_rfl) (fun _ _ _ h => h) (Or.inl ⟨by rfl, ?_⟩) (by assumption) ?_
              rotate_left
              · (intro w hSw; (try dsimp only at hSw); go_simp; try with_reducible rfl)
              try simp only [Act.put, List.setIfInBounds_toArray, List.set_cons_zero, List.set_cons_succ]
              refine wpAnyH_take (i := 3) (v := ?_) rfl (by kernel_rfl) (by kernel_rfl) (by kernel_rfl) (fun _ _ _ h => h) (Or.inl ⟨by rfl, ?_⟩) (by assumption) ?_
              rotate_left
              · (intro w hSw; (try dsimp only at hSw); go_simp; try with_reducible rfl)
              try simp only [Act.put, List.setIfInBounds_toArray, List.set_cons_zero, List.set_cons_succ]
              refine wpAnyH_take (i := 4) (v := ?_) rfl (by kernel_rfl) (by kernel_rfl) (by kernel_rfl) (fun _ _ _ h => h) (Or.inl ⟨by rfl, ?_⟩) (by assumption) ?_
              rotate_left
              · (intro w hSw; (try dsimp only at hSw); go_simp; try with_reducible rfl)
              try simp only [Act.put, List.setIfInBounds_toArray, List.set_cons_zero, List.set_cons_succ]
              refine wpAnyH_take (i := 5) (v := ?_) rfl (by kernel_rfl) (by kernel_rfl) (by kernel_rfl) (fun _ _ _ h => h) (Or.inl ⟨by rfl, ?_⟩) (by assumption) ?_
              rotate_left
              · (intro w hSw; (try dsimp only at hSw); go_simp; try with_reducible rfl)
              try simp only [Act.put, List.setIfInBounds_toArray, List.set_cons_zero, List.set_cons_succ]
              refine wpAnyH_take (i := 6) (v := ?_) rfl (by kernel_rfl) (by kernel_rfl) (by kernel_rfl) (fun _ _ _ h => h) (Or.inl ⟨by rfl, ?_⟩) (by assumption) ?_
              rotate_left
              · (intro w hSw; (try dsimp only at hSw); go_simp; try with_reducible rfl)
              try simp only [Act.put, List.setIfInBounds_toArray, List.set_cons_zero, List.set_cons_succ]
              refine wpAnyH_take (i := 7) (v := ?_) rfl (by kernel_rfl) (by kernel_rfl) (by kernel_rfl) (fun _ _ _ h => h) (Or.inl ⟨by rfl, ?_⟩) (by assumption) ?_
              rotate_left
              · (intro w hSw; (try dsimp only at hSw); go_simp; try with_reducible rfl)
              try simp only [Act.put, List.setIfInBounds_toArray, List.set_cons_zero, List.set_cons_succ]
              refine wpAnyH_take (i := 8) (v := ?_) rfl (by kernel_rfl) (by kernel_rfl) (by kernel_rfl) (fun _ _ _ h => h) (Or.inl ⟨by rfl, ?_⟩) (by assumption) ?_
              rotate_left
              · (intro w hSw; (try dsimp only at hSw); go_simp; try with_reducible rfl)
              try simp only [Act.put, List.setIfInBounds_toArray, List.set_cons_zero, List.set_cons_succ]
              refine wpAnyH_take (i := 9) (v := ?_) rfl (by kernel_rfl) (by kernel_rfl) (by kernel_rfl) (fun _ _ _ h => h) (Or.inl ⟨by rfl, ?_⟩) (by assumption) ?_
              rotate_left
              · (intro w hSw; (try dsimp only at hSw); go_simp; try with_reducible rfl)
              try simp only [Act.put, List.setIfInBounds_toArray, List.set_cons_zero, List.set_cons_succ]
              refine wpAnyH_take (i := 10) (v := ?_) rfl (by kernel_rfl) (by kernel_rfl) (by kernel_rfl) (fun _ _ _ h => h) (Or.inl ⟨by rfl, ?_⟩) (by assumption) ?_
              rotate_left
              · (intro w hSw; (try dsimp only at hSw); go_simp; try with_reducible rfl)
              try simp only [Act.put, List.setIfInBounds_toArray, List.set_cons_zero, List.set_cons_succ]
              refine wpAnyH_take (i := 11) (v := ?_) rfl (by kernel_rfl) (by kernel_rfl) (by kernel_rfl) (fun _ _ _ h => h) (Or.inl ⟨by rfl, ?_⟩) (by assumption) ?_
              rotate_left
              · (intro w hSw; (try dsimp only at hSw); go_simp; try with_reducible rfl)
              try simp only [Act.put, List.setIfInBounds_toArray, List.set_cons_zero, List.set_cons_succ]
              refine wpAnyH_take (i := 12) (v := ?_) rfl (by kernel_rfl) (by kernel_rfl) (by kernel_rfl) (fun _ _ _ h => h) (Or.inl ⟨by rfl, ?_⟩) (by assumption) ?_
              rotate_left
              · (intro w hSw; (try dsimp only at hSw); go_simp; try with_reducible rfl)
              try simp only [Act.put, List.setIfInBounds_toArray, List.set_cons_zero, List.set_cons_succ]
              refine wpAnyH_take (i := 13) (v := ?_) rfl (by kernel_rfl) (by kernel_rfl) (by kernel_rfl) (fun _ _ _ h => h) (Or.inl ⟨by rfl, ?_⟩) (by assumption) ?_
              rotate_left
              · (intro w hSw; (try dsimp only at hSw); go_simp; try with_reducible rfl)
              try simp only [Act.put, List.setIfInBounds_toArray, List.set_cons_zero, List.set_cons_succ]
              refine wpAnyH_take (i := 14) (v := ?_) rfl (by kernel_rfl) (by kernel_rfl) (by kernel_rfl) (fun _ _ _ h => h) (Or.inl ⟨by rfl, ?_⟩) (by assumption) ?_
              rotate_left
              · (intro w hSw; (try dsimp only at hSw); go_simp; try with_reducible rfl)
              try simp only [Act.put, List.setIfInBounds_toArray, List.set_cons_zero, List.set_cons_succ]
              refine wpAnyH_take (i := 15) (v := ?_) rfl (by kernel_rfl) (by kernel_rfl) (by kernel_rfl) (fun _ _ _ h => h) (Or.inl ⟨by rfl, ?_⟩) (by assumption) ?_
              rotate_left
              · (intro w hSw; (try dsimp only at hSw); go_simp; try with_reducible rfl)
              try simp only [Act.put, List.setIfInBounds_toArray, List.set_cons_zero, List.set_cons_succ]
              refine wpAnyH_take (i := 16) (v := ?_) rfl (by kernel_rfl) (by kernel_rfl) (by kernel_rfl) (fun _ _ _ h => h) (Or.inl ⟨by rfl, ?_⟩) (by assumption) ?_
              rotate_left
              · (intro w hSw; (try dsimp only at hSw); go_simp; try with_reducible rfl)
              try simp only [Act.put, List.setIfInBounds_toArray, List.set_cons_zero, List.set_cons_succ]
              refine wpAnyH_take (i := 17) (v := ?_) rfl (by kernel_rfl) (by kernel_rfl) (by kernel_rfl) (fun _ _ _ h => h) (Or.inl ⟨by rfl, ?_⟩) (by assumption) ?_
              rotate_left
              · (intro w hSw; (try dsimp only at hSw); go_simp; try with_reducible rfl)
              try simp only [Act.put, List.setIfInBounds_toArray, List.set_cons_zero, List.set_cons_succ]
              refine wpAnyH_ready (rs := [18]) (by kernel_rfl) (by simp) ?_
              refine AllReadyH.cons rfl (fun K hK => ?_) AllReadyH.nil
              go_simp
              refine hK.out _ _ ?_ (fun hHeld => ?_)
              · exact KS.out _ (hB.trans (hbw.mono (by omega)))
              clear hK K
              try simp only [Act.put, List.setIfInBounds_toArray, List.set_cons_zero, List.set_cons_succ]
              refine wpAnyH_take (i := 19) (v := ?_) rfl (by kernel_rfl) (by kernel_rfl) (by kernel_rfl) (fun _ _ _ h => h) (Or.inl ⟨by rfl, ?_⟩) (by assumption) ?_
              rotate_left
              · (intro w hSw; (try dsimp only at hSw); go_simp; try with_reducible rfl)
              try simp only [Act.put, List.setIfInBounds_toArray, List.set_cons_zero, List.set_cons_succ]
              refine wpAnyH_done (by kernel_rfl) ?_ _
              show wpList _ _ _ _ _ _
              go_wp2
              go_roundw
              case rel => exact ⟨2, by omega, rfl, _, by
                have h9 := HST.out
                unfold sumRows
                rw [HSET.out, HSG.out]
                exact h9.weaken (Nat.le_refl _) (by show wr.heap.size + 1 ≤ ((wr.setCell ⟨g, n1, none⟩ (.slice (some ⟨wr.heap.size, 0, none⟩) 4 4)).alloc (.cells #[.int .i64 (-1), .int .i64 1, .int .i64 1, .int .i64 (-1)] 3)).heap.size; rw [World.size_alloc, World.size_setCell]; omega), hBn⟩
              case measure => simp [intOf]
            · have hkz : ((1 : Int) == m) = false := by simp [hkm]
              have HSG := Lib.hid (show signRow m 1 = [1, -1, -1, 1] by unfold signRow; rw [if_neg (by exact_mod_cast hkm)])
              clear hkm
              have hbw : Below wr.heap.size wr (wr.drew.alloc (.cells #[.int .i64 1, .int .i64 (-1), .int .i64 (-1), .int .i64 1] 3)) := ((Below.refl _ _).drew).alloc (Nat.le_refl _) _
              have hrow : OwnV 3 wr.heap.size (wr.heap.size + 1) (wr.drew.alloc (.cells #[.int .i64 1, .int .i64 (-1), .int .i64 (-1), .int .i64 1] 3)) (.slice (some ⟨wr.heap.size, 0, none⟩) 4 4) (ints [1, -1, -1, 1]) := OwnV.lit 3 wr.drew (ints [1, -1, -1, 1]) (by simp [maxLen])
              have hO1 := hO.kept hbw (Nat.le_refl _)
              have hst := hO1.setRow (g := g) (k := n1) rfl (by omega) hrow (Nat.le_refl _) (by omega) (by omega)
              have hBn : Below lo w1 ((wr.drew.alloc (.cells #[.int .i64 1, .int .i64 (-1), .int .i64 (-1), .int .i64 1] 3)).setCell ⟨g, n1, none⟩ (.slice (some ⟨wr.heap.size, 0, none⟩) 4 4)) := (hB.trans (hbw.mono (by omega))).setCell hg0 _
              have hworld : (wr.drew.alloc (.cells #[.int .i64 1, .int .i64 (-1), .int .i64 (-1), .int .i64 1] 3)).setCell ⟨g, n1, none⟩ (.slice (some ⟨wr.heap.size, 0, none⟩) 4 4) = ((wr.setCell ⟨g, n1, none⟩ (.slice (some ⟨wr.heap.size, 0, none⟩) 4 4)).alloc (.cells #[.int .i64 1, .int .i64 (-1), .int .i64 (-1), .int .i64 1] 3)).drew := by
                rw [World.alloc_drew, World.setCell_drew, World.setCell_alloc_past]
                exact hgl
              rw [hworld] at hst hBn
              have cu' : (wr.drew.alloc (.cells #[.int .i64 1, .int .i64 (-1), .int .i64 (-1), .int .i64 1] 3)).cell? ⟨g, n1, none⟩ = some u := keepAt hbw hgl cu
              have fu' : (wr.drew.alloc (.cells #[.int .i64 1, .int .i64 (-1), .int .i64 (-1), .int .i64 1] 3)).frozen? ⟨g, n1, none⟩ = false := by rw [hbw.frozen (p := ⟨g, n1, none⟩) hgl]; exact fu
              have HST := Lib.hid hst
              clear hO1 hrow hst hO
              go_wp2
              refine wp_region_cut_held (S := fun W => W.cell? ⟨w.heap.size, 0, none⟩ = some (.int .i64 F0) ∧ W.cell? ⟨w.heap.size, 1, none⟩ = some (.int .i64 F1) ∧ W.cell? ⟨w.heap.size + 1, 0, none⟩ = some (.int .i64 S0) ∧ W.cell? ⟨w.heap.size + 1, 1, none⟩ = some (.int .i64 S1)) 20 _ rfl (by kernel_rfl) (by kernel_rfl) (KS.out _ hB.drew) (fun hHeld => ?_)
              simp only [List.take_succ_cons, List.take_zero]
              refine wpAnyH_take (i := 0) (v := ?_) rfl (by kernel_rfl) (by kernel_rfl) (by kernel_rfl) (fun _ _ _ h => h) (Or.inl ⟨by rfl, ?_⟩) (by assumption) ?_
              rotate_left
              · (intro w hSw; (try dsimp only at hSw); go_simp; try with_reducible rfl)
              try simp only [Act.put, List.setIfInBounds_toArray, List.set_cons_zero, List.set_cons_succ]
              refine wpAnyH_take (i := 1) (v := ?_) rfl (by kernel_rfl) (by kernel_rfl) (by kernel_rfl) (fun _ _ _ h => h) (Or.inl ⟨by rfl, ?_⟩) (by assumption) ?_
              rotate_left
              · (intro w hSw; (try dsimp only at hSw); go_simp; try with_reducible rfl)
              try simp only [Act.put, List.setIfInBounds_toArray, List.set_cons_zero, List.set_cons_succ]
              refine wpAnyH_take (i := 2) (v := ?_) rfl (by kernel_rfl) (by kernel_rfl) (by kernel_rfl) (fun _ _ _ h => h) (Or.inl ⟨by rfl, ?_⟩) (by assumption) ?_
              rotate_left
              · (intro w hSw; (try dsimp only at hSw); go_simp; try with_reducible rfl)
              try simp only [Act.put, List.setIfInBounds_toArray, List.set_cons_zero, List.set_cons_succ]
              refine wpAnyH_take (i := 3) (v := ?_) rfl (by kernel_rfl) (by kernel_rfl) (by kernel_rfl) (fun _ _ _ h => h) (Or.inl ⟨by rfl, ?_⟩) (by assumption) ?_
              rotate_left
              · (intro w hSw; (try dsimp only at hSw); go_simp; try with_reducible rfl)
              try simp only [Act.put, List.setIfInBounds_toArray, List.set_cons_zero, List.set_cons_succ]
              refine wpAnyH_take (i := 4) (v := ?_) rfl (by kernel_rfl) (by kernel_rfl) (by kernel_rfl) (fun _ _ _ h => h) (Or.inl ⟨by rfl, ?_⟩) (by assumption) ?_
              rotate_left
              · (intro w hSw; (try dsimp only at hSw); go_simp; try with_reducible rfl)
              try simp only [Act.put, List.setIfInBounds_toArray, List.set_cons_zero, List.set_cons_succ]
              refine wpAnyH_take (i := 5) (v := ?_) rfl (by kernel_rfl) (by kernel_rfl) (by kernel_rfl) (fun _ _ _ h => h) (Or.inl ⟨by rfl, ?_⟩) (by assumption) ?_
              rotate_left
              · (intro w hSw; (try dsimp only at hSw); go_simp; try with_reducible rfl)
              try simp only [Act.put, List.setIfInBounds_toArray, List.set_cons_zero, List.set_cons_succ]
              refine wpAnyH_take (i := 6) (v := ?_) rfl (by kernel_rfl) (by kernel_rfl) (by kernel_rfl) (fun _ _ _ h => h) (Or.inl ⟨by rfl, ?_⟩) (by assumption) ?_
              rotate_left
              · (intro w hSw; (try dsimp only at hSw); go_simp; try with_reducible rfl)
              try simp only [Act.put, List.setIfInBounds_toArray, List.set_cons_zero, List.set_cons_succ]
              refine wpAnyH_take (i := 7) (v := ?_) rfl (by kernel_rfl) (by kernel_rfl) (by kernel_rfl) (fun _ _ _ h => h) (Or.inl ⟨by rfl, ?_⟩) (by assumption) ?_
              rotate_left
              · (intro w hSw; (try dsimp only at hSw); go_simp; try with_reducible rfl)
              try simp only [Act.put, List.setIfInBounds_toArray, List.set_cons_zero, List.set_cons_succ]
              refine wpAnyH_take (i := 8) (v := ?_) rfl (by kernel_rfl) (by kernel_rfl) (by kernel_rfl) (fun _ _ _ h => h) (Or.inl ⟨by rfl, ?_⟩) (by assumption) ?_
              rotate_left
              · (intro w hSw; (try dsimp only at hSw); go_simp; try with_reducible rfl)
              try simp only [Act.put, List.setIfInBounds_toArray, List.set_cons_zero, List.set_cons_succ]
              refine wpAnyH_take (i := 9) (v := ?_) rfl (by kernel_rfl) (by kernel_rfl) (by kernel_rfl) (fun _ _ _ h => h) (Or.inl ⟨by rfl, ?_⟩) (by assumption) ?_
              rotate_left
              · (intro w hSw; (try dsimp only at hSw); go_simp; try with_reducible rfl)
              try simp only [Act.put, List.setIfInBounds_toArray, List.set_cons_zero, List.set_cons_succ]
              refine wpAnyH_take (i := 10) (v := ?_) rfl (by kernel_rfl) (by kernel_rfl) (by kernel_rfl) (fun _ _ _ h => h) (Or.inl ⟨by rfl, ?_⟩) (by assumption) ?_
              rotate_left
              · (intro w hSw; (try dsimp only at hSw); go_simp; try with_reducible rfl)
              try simp only [Act.put, List.setIfInBounds_toArray, List.set_cons_zero, List.set_cons_succ]
              refine wpAnyH_take (i := 11) (v := ?_) rfl (by kernel_rfl) (by kernel_rfl) (by kernel_rfl) (fun _ _ _ h => h) (Or.inl ⟨by rfl, ?_⟩) (by assumption) ?_
              rotate_left
              · (intro w hSw; (try dsimp only at hSw); go_simp; try with_reducible rfl)
              try simp only [Act.put, List.setIfInBounds_toArray, List.set_cons_zero, List.set_cons_succ]
              refine wpAnyH_take (i := 12) (v := ?_) rfl (by kernel_rfl) (by kernel_rfl) (by kernel_rfl) (fun _ _ _ h => h) (Or.inl ⟨by rfl, ?_⟩) (by assumption) ?_
              rotate_left
              · (intro w hSw; (try dsimp only at hSw); go_simp; try with_reducible rfl)
              try simp only [Act.put, List.setIfInBounds_toArray, List.set_cons_zero, List.set_cons_succ]
              refine wpAnyH_take (i := 13) (v := ?_) rfl (by kernel_rfl) (by kernel_rfl) (by kernel_rfl) (fun _ _ _ h => h) (Or.inl ⟨by rfl, ?_⟩) (by assumption) ?_
              rotate_left
              · (intro w hSw; (try dsimp only at hSw); go_simp; try with_reducible rfl)
              try simp only [Act.put, List.setIfInBounds_toArray, List.set_cons_zero, List.set_cons_succ]
              refine wpAnyH_take (i := 14) (v := ?_) rfl (by kernel_rfl) (by kernel_rfl) (by kernel_rfl) (fun _ _ _ h => h) (Or.inl ⟨by rfl, ?_⟩) (by assumption) ?_
              rotate_left
              · (intro w hSw; (try dsimp only at hSw); go_simp; try with_reducible rfl)
              try simp only [Act.put, List.setIfInBounds_toArray, List.set_cons_zero, List.set_cons_succ]
              refine wpAnyH_take (i := 15) (v := ?_) rfl (by kernel_rfl) (by kernel_rfl) (by kernel_rfl) (fun _ _ _ h => h) (Or.inl ⟨by rfl, ?_⟩) (by assumption) ?_
              rotate_left
              · (intro w hSw; (try dsimp only at hSw); go_simp; try with_reducible rfl)
              try simp only [Act.put, List.setIfInBounds_toArray, List.set_cons_zero, List.set_cons_succ]
              refine wpAnyH_take (i := 16) (v := ?_) rfl (by kernel_rfl) (by kernel_rfl) (by kernel_rfl) (fun _ _ _ h => h) (Or.inl ⟨by rfl, ?_⟩) (by assumption) ?_
              rotate_left
              · (intro w hSw; (try dsimp only at hSw); go_simp; try with_reducible rfl)
              try simp only [Act.put, List.setIfInBounds_toArray, List.set_cons_zero, List.set_cons_succ]
              refine wpAnyH_take (i := 17) (v := ?_) rfl (by kernel_rfl) (by kernel_rfl) (by kernel_rfl) (fun _ _ _ h => h) (Or.inl ⟨by rfl, ?_⟩) (by assumption) ?_
              rotate_left
              · (intro w hSw; (try dsimp only at hSw); go_simp; try with_reducible rfl)
              try simp only [Act.put, List.setIfInBounds_toArray, List.set_cons_zero, List.set_cons_succ]
              refine wpAnyH_ready (rs := [18]) (by kernel_rfl) (by simp) ?_
              refine AllReadyH.cons rfl (fun K hK => ?_) AllReadyH.nil
              go_simp
              refine hK.out _ _ ?_ (fun hHeld => ?_)
              · exact KS.out _ (hB.trans (hbw.mono (by omega)))
              clear hK K
              try simp only [Act.put, List.setIfInBounds_toArray, List.set_cons_zero, List.set_cons_succ]
              refine wpAnyH_take (i := 19) (v := ?_) rfl (by kernel_rfl) (by kernel_rfl) (by kernel_rfl) (fun _ _ _ h => h) (Or.inl ⟨by rfl, ?_⟩) (by assumption) ?_
              rotate_left
              · (intro w hSw; (try dsimp only at hSw); go_simp; try with_reducible rfl)
              try simp only [Act.put, List.setIfInBounds_toArray, List.set_cons_zero, List.set_cons_succ]
              refine wpAnyH_done (by kernel_rfl) ?_ _
              show wpList _ _ _ _ _ _
              go_wp2
              go_roundw
              case rel => exact ⟨2, by omega, rfl, _, by
                have h9 := HST.out
                unfold sumRows
                rw [HSET.out, HSG.out]
                exact h9.weaken (Nat.le_refl _) (by show wr.heap.size + 1 ≤ ((wr.setCell ⟨g, n1, none⟩ (.slice (some ⟨wr.heap.size, 0, none⟩) 4 4)).alloc (.cells #[.int .i64 1, .int .i64 (-1), .int .i64 (-1), .int .i64 1] 3)).heap.size; rw [World.size_alloc, World.size_setCell]; omega), hBn⟩
              case measure => simp [intOf]
          · rw [show ((2 : Nat) : Int) = (2 : Int) from rfl]
            have hq4 : IntKind.i64.wrap (1 : Int) = 1 := by decide
            have hq1 : IntKind.i64.wrap (Int.tdiv (2 : Int) 2) = 1 := by decide
            obtain ⟨u, hu⟩ : ∃ u, vs[n2]? = some u := ⟨_, List.getElem?_eq_getElem (by omega)⟩
            have cu := hcl n2 u hu
            have hjl : (n2 : Int) < (k : Int) := by omega
            have hj0 : (0 : Int) ≤ (n2 : Int) := by omega
            have fu := hfz n2
            have hset : setK Y F0 F1 S0 S1 2 = n2 := HK.out.2.2.1
            have HSET := Lib.hid hset
            have hwa : IntKind.i64.wrap ((F1 : Int) * (Y : Int)) = (F1 : Int) * (Y : Int) := wrap_in _ (by omega) (by omega)
            have hwb : IntKind.i64.wrap ((F1 : Int) * (Y : Int) + (S0 : Int)) = (n2 : Int) := by rw [hi2]; exact wrap_in _ (by omega) (by omega)
            have hwc : IntKind.i64.wrap (n2 : Int) = (n2 : Int) := wrap_in _ (by omega) (by omega)
            clear hset hu hcl hfz
            by_cases hkm : (2 : Int) = m
            · have hkz : ((2 : Int) == m) = true := by simp [hkm]
              have HSG := Lib.hid (show signRow m 2 = [-1, 1, 1, -1] by unfold signRow; rw [if_pos (by exact_mod_cast hkm)])
              clear hkm
              have hbw : Below wr.heap.size wr (wr.drew.alloc (.cells #[.int .i64 (-1), .int .i64 1, .int .i64 1, .int .i64 (-1)] 3)) := ((Below.refl _ _).drew).alloc (Nat.le_refl _) _
              have hrow : OwnV 3 wr.heap.size (wr.heap.size + 1) (wr.drew.alloc (.cells #[.int .i64 (-1), .int .i64 1, .int .i64 1, .int .i64 (-1)] 3)) (.slice (some ⟨wr.heap.size, 0, none⟩) 4 4) (ints [-1, 1, 1, -1]) := OwnV.lit 3 wr.drew (ints [-1, 1, 1, -1]) (by simp [maxLen])
              have hO1 := hO.kept hbw (Nat.le_refl _)
              have hst := hO1.setRow (g := g) (k := n2) rfl (by omega) hrow (Nat.le_refl _) (by omega) (by omega)
              have hBn : Below lo w1 ((wr.drew.alloc (.cells #[.int .i64 (-1), .int .i64 1, .int .i64 1, .int .i64 (-1)] 3)).setCell ⟨g, n2, none⟩ (.slice (some ⟨wr.heap.size, 0, none⟩) 4 4)) := (hB.trans (hbw.mono (by omega))).setCell hg0 _
              have hworld : (wr.drew.alloc (.cells #[.int .i64 (-1), .int .i64 1, .int .i64 1, .int .i64 (-1)] 3)).setCell ⟨g, n2, none⟩ (.slice (some ⟨wr.heap.size, 0, none⟩) 4 4) = ((wr.setCell ⟨g, n2, none⟩ (.slice (some ⟨wr.heap.size, 0, none⟩) 4 4)).alloc (.cells #[.int .i64 (-1), .int .i64 1, .int .i64 1, .int .i64 (-1)] 3)).drew := by
                rw [World.alloc_drew, World.setCell_drew, World.setCell_alloc_past]
                exact hgl
              rw [hworld] at hst hBn
              have cu' : (wr.drew.alloc (.cells #[.int .i64 (-1), .int .i64 1, .int .i64 1, .int .i64 (-1)] 3)).cell? ⟨g, n2, none⟩ = some u := keepAt hbw hgl cu
              have fu' : (wr.drew.alloc (.cells #[.int .i64 (-1), .int .i64 1, .int .i64 1, .int .i64 (-1)] 3)).frozen? ⟨g, n2, none⟩ = false := by rw [hbw.frozen (p := ⟨g, n2, none⟩) hgl]; exact fu
              have HST := Lib.hid hst
              clear hO1 hrow hst hO
              go_wp2
              refine wp_region_cut_held (S := fun W => W.cell? ⟨w.heap.size, 0, none⟩ = some (.int .i64 F0) ∧ W.cell? ⟨w.heap.size, 1, none⟩ = some (.int .i64 F1) ∧ W.cell? ⟨w.heap.size + 1, 0, none⟩ = some (.int .i64 S0) ∧ W.cell? ⟨w.heap.size + 1, 1, none⟩ = some (.int .i64 S1)) 20 _ rfl (by kernel_rfl) (by kernel_rfl) (KS.out _ hB.drew) (fun hHeld => ?_)
              simp only [List.take_succ_cons, List.take_zero]
              refine wpAnyH_take (i := 0) (v := ?_) rfl (by kernel_rfl) (by kernel_rfl) (by kernel_rfl) (fun _ _ _ h => h) (Or.inl ⟨by rfl, ?_⟩) (by assumption) ?_
              rotate_left
              · (intro w hSw; (try dsimp only at hSw); go_simp; try with_reducible rfl)
              try simp only [Act.put, List.setIfInBounds_toArray, List.set_cons_zero, List.set_cons_succ]
              refine wpAnyH_take (i := 1) (v := ?_) rfl (by kernel_rfl) (by kernel_rfl) (by kernel_rfl) (fun _ _ _ h => h) (Or.inl ⟨by rfl, ?_⟩) (by assumption) ?_
              rotate_left
              · (intro w hSw; (try dsimp only at hSw); go_simp; try with_reducible rfl)
              try simp only [Act.put, List.setIfInBounds_toArray, List.set_cons_zero, List.set_cons_succ]
              refine wpAnyH_take (i := 2) (v := ?_) rfl (by kernel_rfl) (by kernel_rfl) (by kernel_rfl) (fun _ _ _ h => h) (Or.inl ⟨by rfl, ?_⟩) (by assumption) ?_
              rotate_left
              · (intro w hSw; (try dsimp only at hSw); go_simp; try with_reducible rfl)
              try simp only [Act.put, List.setIfInBounds_toArray, List.set_cons_zero, List.set_cons_succ]
              refine wpAnyH_take (i := 3) (v := ?_) rfl (by kernel_rfl) (by kernel_rfl) (by kernel_rfl) (fun _ _ _ h => h) (Or.inl ⟨by rfl, ?_⟩) (by assumption) ?_
              rotate_left
              · (intro w hSw; (try dsimp only at hSw); go_simp; try with_reducible rfl)
              try simp only [Act.put, List.setIfInBounds_toArray, List.set_cons_zero, List.set_cons_succ]
              refine wpAnyH_take (i := 4) (v := ?_) rfl (by kernel_rfl) (by kernel_rfl) (by kernel_rfl) (fun _ _ _ h => h) (Or.inl ⟨by rfl, ?_⟩) (by assumption) ?_
              rotate_left
              · (intro w hSw; (try dsimp only at hSw); go_simp; try with_reducible rfl)
              try simp only [Act.put, List.setIfInBounds_toArray, List.set_cons_zero, List.set_cons_succ]
              refine wpAnyH_take (i := 5) (v := ?_) rfl (by kernel_rfl) (by kernel_rfl) (by kernel_rfl) (fun _ _ _ h => h) (Or.inl ⟨by rfl, ?_⟩) (by assumption) ?_
              rotate_left
              · (intro w hSw; (try dsimp only at hSw); go_simp; try with_reducible rfl)
              try simp only [Act.put, List.setIfInBounds_toArray, List.set_cons_zero, List.set_cons_succ]
              refine wpAnyH_take (i := 6) (v := ?_) rfl (by kernel_rfl) (by kernel_rfl) (by kernel_rfl) (fun _ _ _ h => h) (Or.inl ⟨by rfl, ?_⟩) (by assumption) ?_
              rotate_left
              · (intro w hSw; (try dsimp only at hSw); go_simp; try with_reducible rfl)
              try simp only [Act.put, List.setIfInBounds_toArray, List.set_cons_zero, List.set_cons_succ]
              refine wpAnyH_take (i := 7) (v := ?_) rfl (by kernel_rfl) (by kernel_rfl) (by kernel_rfl) (fun _ _ _ h => h) (Or.inl ⟨by rfl, ?_⟩) (by assumption) ?_
              rotate_left
              · (intro w hSw; (try dsimp only at hSw); go_simp; try with_reducible rfl)
              try simp only [Act.put, List.setIfInBounds_toArray, List.set_cons_zero, List.set_cons_succ]
              refine wpAnyH_take (i := 8) (v := ?_) rfl (by kernel_rfl) (by kernel_rfl) (by kernel_rfl) (fun _ _ _ h => h) (Or.inl ⟨by rfl, ?_⟩) (by assumption) ?_
              rotate_left
              · (intro w hSw; (try dsimp only at hSw); go_simp; try with_reducible rfl)
              try simp only [Act.put, List.setIfInBounds_toArray, List.set_cons_zero, List.set_cons_succ]
              refine wpAnyH_take (i := 9) (v := ?_) rfl (by kernel_rfl) (by kernel_rfl) (by kernel_rfl) (fun _ _ _ h => h) (Or.inl ⟨by rfl, ?_⟩) (by assumption) ?_
              rotate_left
              · (intro w hSw; (try dsimp only at hSw); go_simp; try with_reducible rfl)
              try simp only [Act.put, List.setIfInBounds_toArray, List.set_cons_zero, List.set_cons_succ]
              refine wpAnyH_take (i := 10) (v := ?_) rfl (by kernel_rfl) (by kernel_rfl) (by kernel_rfl) (fun _ _ _ h => h) (Or.inl ⟨by rfl, ?_⟩) (by assumption) ?_
              rotate_left
              · (intro w hSw; (try dsimp only at hSw); go_simp; try with_reducible rfl)
              try simp only [Act.put, List.setIfInBounds_toArray, List.set_cons_zero, List.set_cons_succ]
              refine wpAnyH_take (i := 11) (v := ?_) rfl (by kernel_rfl) (by kernel_rfl) (by kernel_rfl) (fun _ _ _ h => h) (Or.inl ⟨by rfl, ?_⟩) (by assumption) ?_
              rotate_left
              · (intro w hSw; (try dsimp only at hSw); go_simp; try with_reducible rfl)
              try simp only [Act.put, List.setIfInBounds_toArray, List.set_cons_zero, List.set_cons_succ]
              refine wpAnyH_take (i := 12) (v := ?_) rfl (by kernel_rfl) (by kernel_rfl) (by kernel_rfl) (fun _ _ _ h => h) (Or.inl ⟨by rfl, ?_⟩) (by assumption) ?_
              rotate_left
              · (intro w hSw; (try dsimp only at hSw); go_simp; try with_reducible rfl)
              try simp only [Act.put, List.setIfInBounds_toArray, List.set_cons_zero, List.set_cons_succ]
              refine wpAnyH_take (i := 13) (v := ?_) rfl (by kernel_rfl) (by kernel_rfl) (by kernel_rfl) (fun _ _ _ h => h) (Or.inl ⟨by rfl, ?_⟩) (by assumption) ?_
              rotate_left
              · (intro w hSw; (try dsimp only at hSw); go_simp; try with_reducible rfl)
              try simp only [Act.put, List.setIfInBounds_toArray, List.set_cons_zero, List.set_cons_succ]
              refine wpAnyH_take (i := 14) (v := ?_) rfl (by kernel_rfl) (by kernel_rfl) (by kernel_rfl) (fun _ _ _ h => h) (Or.inl ⟨by rfl, ?_⟩) (by assumption) ?_
              rotate_left
              · (intro w hSw; (try dsimp only at hSw); go_simp; try with_reducible rfl)
              try simp only [Act.put, List.setIfInBounds_toArray, List.set_cons_zero, List.set_cons_succ]
              refine wpAnyH_take (i := 15) (v := ?_) rfl (by kernel_rfl) (by kernel_rfl) (by kernel_rfl) (fun _ _ _ h => h) (Or.inl ⟨by rfl, ?_⟩) (by assumption) ?_
              rotate_left
              · (intro w hSw; (try dsimp only at hSw); go_simp; try with_reducible rfl)
              try simp only [Act.put, List.setIfInBounds_toArray, List.set_cons_zero, List.set_cons_succ]
              refine wpAnyH_take (i := 16) (v := ?_) rfl (by kernel_rfl) (by kernel_rfl) (by kernel_rfl) (fun _ _ _ h => h) (Or.inl ⟨by rfl, ?_⟩) (by assumption) ?_
              rotate_left
              · (intro w hSw; (try dsimp only at hSw); go_simp; try with_reducible rfl)
              try simp only [Act.put, List.setIfInBounds_toArray, List.set_cons_zero, List.set_cons_succ]
              refine wpAnyH_take (i := 17) (v := ?_) rfl (by kernel_rfl) (by kernel_rfl) (by kernel_rfl) (fun _ _ _ h => h) (Or.inl ⟨by rfl, ?_⟩) (by assumption) ?_
              rotate_left
              · (intro w hSw; (try dsimp only at hSw); go_simp; try with_reducible rfl)
              try simp only [Act.put, List.setIfInBounds_toArray, List.set_cons_zero, List.set_cons_succ]
              refine wpAnyH_ready (rs := [18]) (by kernel_rfl) (by simp) ?_
              refine AllReadyH.cons rfl (fun K hK => ?_) AllReadyH.nil
              go_simp
              refine hK.out _ _ ?_ (fun hHeld => ?_)
              · exact KS.out _ (hB.trans (hbw.mono (by omega)))
              clear hK K
              try simp only [Act.put, List.setIfInBounds_toArray, List.set_cons_zero, List.set_cons_succ]
              refine wpAnyH_take (i := 19) (v := ?_) rfl (by kernel_rfl) (by kernel_rfl) (by kernel_rfl) (fun _ _ _ h => h) (Or.inl ⟨by rfl, ?_⟩) (by assumption) ?_
              rotate_left
              · (intro w hSw; (try dsimp only at hSw); go_simp; try with_reducible rfl)
              try simp only [Act.put, List.setIfInBounds_toArray, List.set_cons_zero, List.set_cons_succ]
              refine wpAnyH_done (by kernel_rfl) ?_ _
              show wpList _ _ _ _ _ _
              go_wp2
              go_roundw
              case rel => exact ⟨3, by omega, rfl, _, by
                have h9 := HST.out
                unfold sumRows
                rw [HSET.out, HSG.out]
                exact h9.weaken (Nat.le_refl _) (by show wr.heap.size + 1 ≤ ((wr.setCell ⟨g, n2, none⟩ (.slice (some ⟨wr.heap.size, 0, none⟩) 4 4)).alloc (.cells #[.int .i64 (-1), .int .i64 1, .int .i64 1, .int .i64 (-1)] 3)).heap.size; rw [World.size_alloc, World.size_setCell]; omega), hBn⟩
              case measure => simp [intOf]
            · have hkz : ((2 : Int) == m) = false := by simp [hkm]
              have HSG := Lib.hid (show signRow m 2 = [1, -1, -1, 1] by unfold signRow; rw [if_neg (by exact_mod_cast hkm)])
              clear hkm
              have hbw : Below wr.heap.size wr (wr.drew.alloc (.cells #[.int .i64 1, .int .i64 (-1), .int .i64 (-1), .int .i64 1] 3)) := ((Below.refl _ _).drew).alloc (Nat.le_refl _) _
              have hrow : OwnV 3 wr.heap.size (wr.heap.size + 1) (wr.drew.alloc (.cells #[.int .i64 1, .int .i64 (-1), .int .i64 (-1), .int .i64 1] 3)) (.slice (some ⟨wr.heap.size, 0, none⟩) 4 4) (ints [1, -1, -1, 1]) := OwnV.lit 3 wr.drew (ints [1, -1, -1, 1]) (by simp [maxLen])
              have hO1 := hO.kept hbw (Nat.le_refl _)
              have hst := hO1.setRow (g := g) (k := n2) rfl (by omega) hrow (Nat.le_refl _) (by omega) (by omega)
              have hBn : Below lo w1 ((wr.drew.alloc (.cells #[.int .i64 1, .int .i64 (-1), .int .i64 (-1), .int .i64 1] 3)).setCell ⟨g, n2, none⟩ (.slice (some ⟨wr.heap.size, 0, none⟩) 4 4)) := (hB.trans (hbw.mono (by omega))).setCell hg0 _
              have hworld : (wr.drew.alloc (.cells #[.int .i64 1, .int .i64 (-1), .int .i64 (-1), .int .i64 1] 3)).setCell ⟨g, n2, none⟩ (.slice (some ⟨wr.heap.size, 0, none⟩) 4 4) = ((wr.setCell ⟨g, n2, none⟩ (.slice (some ⟨wr.heap.size, 0, none⟩) 4 4)).alloc (.cells #[.int .i64 1, .int .i64 (-1), .int .i64 (-1), .int .i64 1] 3)).drew := by
                rw [World.alloc_drew, World.setCell_drew, World.setCell_alloc_past]
                exact hgl
              rw [hworld] at hst hBn
              have cu' : (wr.drew.alloc (.cells #[.int .i64 1, .int .i64 (-1), .int .i64 (-1), .int .i64 1] 3)).cell? ⟨g, n2, none⟩ = some u := keepAt hbw hgl cu
              have fu' : (wr.drew.alloc (.cells #[.int .i64 1, .int .i64 (-1), .int .i64 (-1), .int .i64 1] 3)).frozen? ⟨g, n2, none⟩ = false := by rw [hbw.frozen (p := ⟨g, n2, none⟩) hgl]; exact fu
              have HST := Lib.hid hst
              clear hO1 hrow hst hO
              go_wp2
              refine wp_region_cut_held (S := fun W => W.cell? ⟨w.heap.size, 0, none⟩ = some (.int .i64 F0) ∧ W.cell? ⟨w.heap.size, 1, none⟩ = some (.int .i64 F1) ∧ W.cell? ⟨w.heap.size + 1, 0, none⟩ = some (.int .i64 S0) ∧ W.cell? ⟨w.heap.size + 1, 1, none⟩ = some (.int .i64 S1)) 20 _ rfl (by kernel_rfl) (by kernel_rfl) (KS.out _ hB.drew) (fun hHeld => ?_)
              simp only [List.take_succ_cons, List.take_zero]
              refine wpAnyH_take (i := 0) (v := ?_) rfl (by kernel_rfl) (by kernel_rfl) (by kernel_rfl) (fun _ _ _ h => h) (Or.inl ⟨by rfl, ?_⟩) (by assumption) ?_
              rotate_left
              · (intro w hSw; (try dsimp only at hSw); go_simp; try with_reducible rfl)
              try simp only [Act.put, List.setIfInBounds_toArray, List.set_cons_zero, List.set_cons_succ]
              refine wpAnyH_take (i := 1) (v := ?_) rfl (by kernel_rfl) (by kernel_rfl) (by kernel_rfl) (fun _ _ _ h => h) (Or.inl ⟨by rfl, ?_⟩) (by assumption) ?_
              rotate_left
              · (intro w hSw; (try dsimp only at hSw); go_simp; try with_reducible rfl)
              try simp only [Act.put, List.setIfInBounds_toArray, List.set_cons_zero, List.set_cons_succ]
              refine wpAnyH_take (i := 2) (v := ?_) rfl (by kernel_rfl) (by kernel_rfl) (by kernel_rfl) (fun _ _ _ h => h) (Or.inl ⟨by rfl, ?_⟩) (by assumption) ?_
              rotate_left
              · (intro w hSw; (try dsimp only at hSw); go_simp; try with_reducible rfl)
              try simp only [Act.put, List.setIfInBounds_toArray, List.set_cons_zero, List.set_cons_succ]
              refine wpAnyH_take (i := 3) (v := ?_) rfl (by kernel_rfl) (by kernel_rfl) (by kernel_rfl) (fun _ _ _ h => h) (Or.inl ⟨by rfl, ?_⟩) (by assumption) ?_
              rotate_left
              · (intro w hSw; (try dsimp only at hSw); go_simp; try with_reducible rfl)
              try simp only [Act.put, List.setIfInBounds_toArray, List.set_cons_zero, List.set_cons_succ]
              refine wpAnyH_take (i := 4) (v := ?_) rfl (by kernel_rfl) (by kernel_rfl) (by kernel_rfl) (fun _ _ _ h => h) (Or.inl ⟨by rfl, ?_⟩) (by assumption) ?_
              rotate_left
              · (intro w hSw; (try dsimp only at hSw); go_simp; try with_reducible rfl)
              try simp only [Act.put, List.setIfInBounds_toArray, List.set_cons_zero, List.set_cons_succ]
              refine wpAnyH_take (i := 5) (v := ?_) rfl (by kernel_rfl) (by kernel_rfl) (by kernel_rfl) (fun _ _ _ h => h) (Or.inl ⟨by rfl, ?_⟩) (by assumption) ?_
              rotate_left
              · (intro w hSw; (try dsimp only at hSw); go_simp; try with_reducible rfl)
              try simp only [Act.put, List.setIfInBounds_toArray, List.set_cons_zero, List.set_cons_succ]
              refine wpAnyH_take (i := 6) (v := ?_) rfl (by kernel_rfl) (by kernel_rfl) (by kernel_rfl) (fun _ _ _ h => h) (Or.inl ⟨by rfl, ?_⟩) (by assumption) ?_
              rotate_left
              · (intro w hSw; (try dsimp only at hSw); go_simp; try with_reducible rfl)
              try simp only [Act.put, List.setIfInBounds_toArray, List.set_cons_zero, List.set_cons_succ]
              refine wpAnyH_take (i := 7) (v := ?_) rfl (by kernel_rfl) (by kernel_rfl) (by kernel_rfl) (fun _ _ _ h => h) (Or.inl ⟨by rfl, ?_⟩) (by assumption) ?_
              rotate_left
              · (intro w hSw; (try dsimp only at hSw); go_simp; try with_reducible rfl)
              try simp only [Act.put, List.setIfInBounds_toArray, List.set_cons_zero, List.set_cons_succ]
              refine wpAnyH_take (i := 8) (v := ?_) rfl (by kernel_rfl) (by kernel_rfl) (by kernel_rfl) (fun _ _ _ h => h) (Or.inl ⟨by rfl, ?_⟩) (by assumption) ?_
              rotate_left
              · (intro w hSw; (try dsimp only at hSw); go_simp; try with_reducible rfl)
              try simp only [Act.put, List.setIfInBounds_toArray, List.set_cons_zero, List.set_cons_succ]
              refine wpAnyH_take (i := 9) (v := ?_) rfl (by kernel_rfl) (by kernel_rfl) (by kernel_rfl) (fun _ _ _ h => h) (Or.inl ⟨by rfl, ?_⟩) (by assumption) ?_
              rotate_left
              · (intro w hSw; (try dsimp only at hSw); go_simp; try with_reducible rfl)
              try simp only [Act.put, List.setIfInBounds_toArray, List.set_cons_zero, List.set_cons_succ]
              refine wpAnyH_take (i := 10) (v := ?_) rfl (by kernel_rfl) (by kernel_rfl) (by kernel_rfl) (fun _ _ _ h => h) (Or.inl ⟨by rfl, ?_⟩) (by assumption) ?_
              rotate_left
              · (intro w hSw; (try dsimp only at hSw); go_simp; try with_reducible rfl)
              try simp only [Act.put, List.setIfInBounds_toArray, List.set_cons_zero, List.set_cons_succ]
              refine wpAnyH_take (i := 11) (v := ?_) rfl (by kernel_rfl) (by kernel_rfl) (by kernel_rfl) (fun _ _ _ h => h) (Or.inl ⟨by rfl, ?_⟩) (by assumption) ?_
              rotate_left
              · (intro w hSw; (try dsimp only at hSw); go_simp; try with_reducible rfl)
              try simp only [Act.put, List.setIfInBounds_toArray, List.set_cons_zero, List.set_cons_succ]
              refine wpAnyH_take (i := 12) (v := ?_) rfl (by kernel_rfl) (by kernel_rfl) (by kernel_rfl) (fun _ _ _ h => h) (Or.inl ⟨by rfl, ?_⟩) (by assumption) ?_
              rotate_left
              · (intro w hSw; (try dsimp only at hSw); go_simp; try with_reducible rfl)
              try simp only [Act.put, List.setIfInBounds_toArray, List.set_cons_zero, List.set_cons_succ]
              refine wpAnyH_take (i := 13) (v := ?_) rfl (by kernel_rfl) (by kernel_rfl) (by kernel_rfl) (fun _ _ _ h => h) (Or.inl ⟨by rfl, ?_⟩) (by assumption) ?_
              rotate_left
              · (intro w hSw; (try dsimp only at hSw); go_simp; try with_reducible rfl)
              try simp only [Act.put, List.setIfInBounds_toArray, List.set_cons_zero, List.set_cons_succ]
              refine wpAnyH_take (i := 14) (v := ?_) rfl (by kernel_rfl) (by kernel_rfl) (by kernel_rfl) (fun _ _ _ h => h) (Or.inl ⟨by rfl, ?_⟩) (by assumption) ?_
              rotate_left
              · (intro w hSw; (try dsimp only at hSw); go_simp; try with_reducible rfl)
              try simp only [Act.put, List.setIfInBounds_toArray, List.set_cons_zero, List.set_cons_succ]
              refine wpAnyH_take (i := 15) (v := ?_) rfl (by kernel_rfl) (by kernel_rfl) (by kernel_rfl) (fun _ _ _ h => h) (Or.inl ⟨by rfl, ?_⟩) (by assumption) ?_
              rotate_left
              · (intro w hSw; (try dsimp only at hSw); go_simp; try with_reducible rfl)
              try simp only [Act.put, List.setIfInBounds_toArray, List.set_cons_zero, List.set_cons_succ]
              refine wpAnyH_take (i := 16) (v := ?_) rfl (by kernel_rfl) (by kernel_rfl) (by kernel_rfl) (fun _ _ _ h => h) (Or.inl ⟨by rfl, ?_⟩) (by assumption) ?_
              rotate_left
              · (intro w hSw; (try dsimp only at hSw); go_simp; try with_reducible rfl)
              try simp only [Act.put, List.setIfInBounds_toArray, List.set_cons_zero, List.set_cons_succ]
              refine wpAnyH_take (i := 17) (v := ?_) rfl (by kernel_rfl) (by kernel_rfl) (by kernel_rfl) (fun _ _ _ h => h) (Or.inl ⟨by rfl, ?_⟩) (by assumption) ?_
              rotate_left
              · (intro w hSw; (try dsimp only at hSw); go_simp; try with_reducible rfl)
              try simp only [Act.put, List.setIfInBounds_toArray, List.set_cons_zero, List.set_cons_succ]
              refine wpAnyH_ready (rs := [18]) (by kernel_rfl) (by simp) ?_
              refine AllReadyH.cons rfl (fun K hK => ?_) AllReadyH.nil
              go_simp
              refine hK.out _ _ ?_ (fun hHeld => ?_)
              · exact KS.out _ (hB.trans (hbw.mono (by omega)))
              clear hK K
              try simp only [Act.put, List.setIfInBounds_toArray, List.set_cons_zero, List.set_cons_succ]
              refine wpAnyH_take (i := 19) (v := ?_) rfl (by kernel_rfl) (by kernel_rfl) (by kernel_rfl) (fun _ _ _ h => h) (Or.inl ⟨by rfl, ?_⟩) (by assumption) ?_
              rotate_left
              · (intro w hSw; (try dsimp only at hSw); go_simp; try with_reducible rfl)
              try simp only [Act.put, List.setIfInBounds_toArray, List.set_cons_zero, List.set_cons_succ]
              refine wpAnyH_done (by kernel_rfl) ?_ _
              show wpList _ _ _ _ _ _
              go_wp2
              go_roundw
              case rel => exact ⟨3, by omega, rfl, _, by
                have h9 := HST.out
                unfold sumRows
                rw [HSET.out, HSG.out]
                exact h9.weaken (Nat.le_refl _) (by show wr.heap.size + 1 ≤ ((wr.setCell ⟨g, n2, none⟩ (.slice (some ⟨wr.heap.size, 0, none⟩) 4 4)).alloc (.cells #[.int .i64 1, .int .i64 (-1), .int .i64 (-1), .int .i64 1] 3)).heap.size; rw [World.size_alloc, World.size_setCell]; omega), hBn⟩
              case measure => simp [intOf]
          · rw [show ((3 : Nat) : Int) = (3 : Int) from rfl]
            have hq4 : IntKind.i64.wrap (1 : Int) = 1 := by decide
            have hq1 : IntKind.i64.wrap (Int.tdiv (3 : Int) 2) = 1 := by decide
            obtain ⟨u, hu⟩ : ∃ u, vs[n3]? = some u := ⟨_, List.getElem?_eq_getElem (by omega)⟩
            have cu := hcl n3 u hu
            have hjl : (n3 : Int) < (k : Int) := by omega
            have hj0 : (0 : Int) ≤ (n3 : Int) := by omega
            have fu := hfz n3
            have hset : setK Y F0 F1 S0 S1 3 = n3 := HK.out.2.2.2
            have HSET := Lib.hid hset
            have hwa : IntKind.i64.wrap ((F1 : Int) * (Y : Int)) = (F1 : Int) * (Y : Int) := wrap_in _ (by omega) (by omega)
            have hwb : IntKind.i64.wrap ((F1 : Int) * (Y : Int) + (S1 : Int)) = (n3 : Int) := by rw [hi3]; exact wrap_in _ (by omega) (by omega)
            have hwc : IntKind.i64.wrap (n3 : Int) = (n3 : Int) := wrap_in _ (by omega) (by omega)
            clear hset hu hcl hfz
            by_cases hkm : (3 : Int) = m
            · have hkz : ((3 : Int) == m) = true := by simp [hkm]
              have HSG := Lib.hid (show signRow m 3 = [-1, 1, 1, -1] by unfold signRow; rw [if_pos (by exact_mod_cast hkm)])
              clear hkm
              have hbw : Below wr.heap.size wr (wr.drew.alloc (.cells #[.int .i64 (-1), .int .i64 1, .int .i64 1, .int .i64 (-1)] 3)) := ((Below.refl _ _).drew).alloc (Nat.le_refl _) _
              have hrow : OwnV 3 wr.heap.size (wr.heap.size + 1) (wr.drew.alloc (.cells #[.int .i64 (-1), .int .i64 1, .int .i64 1, .int .i64 (-1)] 3)) (.slice (some ⟨wr.heap.size, 0, none⟩) 4 4) (ints [-1, 1, 1, -1]) := OwnV.lit 3 wr.drew (ints [-1, 1, 1, -1]) (by simp [maxLen])
              have hO1 := hO.kept hbw (Nat.le_refl _)
              have hst := hO1.setRow (g := g) (k := n3) rfl (by omega) hrow (Nat.le_refl _) (by omega) (by omega)
              have hBn : Below lo w1 ((wr.drew.alloc (.cells #[.int .i64 (-1), .int .i64 1, .int .i64 1, .int .i64 (-1)] 3)).setCell ⟨g, n3, none⟩ (.slice (some ⟨wr.heap.size, 0, none⟩) 4 4)) := (hB.trans (hbw.mono (by omega))).setCell hg0 _
              have hworld : (wr.drew.alloc (.cells #[.int .i64 (-1), .int .i64 1, .int .i64 1, .int .i64 (-1)] 3)).setCell ⟨g, n3, none⟩ (.slice (some ⟨wr.heap.size, 0, none⟩) 4 4) = ((wr.setCell ⟨g, n3, none⟩ (.slice (some ⟨wr.heap.size, 0, none⟩) 4 4)).alloc (.cells #[.int .i64 (-1), .int .i64 1, .int .i64 1, .int .i64 (-1)] 3)).drew := by
                rw [World.alloc_drew, World.setCell_drew, World.setCell_alloc_past]
                exact hgl
              rw [hworld] at hst hBn
              have cu' : (wr.drew.alloc (.cells #[.int .i64 (-1), .int .i64 1, .int .i64 1, .int .i64 (-1)] 3)).cell? ⟨g, n3, none⟩ = some u := keepAt hbw hgl cu
              have fu' : (wr.drew.alloc (.cells #[.int .i64 (-1), .int .i64 1, .int .i64 1, .int .i64 (-1)] 3)).frozen? ⟨g, n3, none⟩ = false := by rw [hbw.frozen (p := ⟨g, n3, none⟩) hgl]; exact fu
              have HST := Lib.hid hst
              clear hO1 hrow hst hO
              go_wp2
              refine wp_region_cut_held (S := fun W => W.cell? ⟨w.heap.size, 0, none⟩ = some (.int .i64 F0) ∧ W.cell? ⟨w.heap.size, 1, none⟩ = some (.int .i64 F1) ∧ W.cell? ⟨w.heap.size + 1, 0, none⟩ = some (.int .i64 S0) ∧ W.cell? ⟨w.heap.size + 1, 1, none⟩ = some (.int .i64 S1)) 20 _ rfl (by kernel_rfl) (by kernel_rfl) (KS.out _ hB.drew) (fun hHeld => ?_)
              simp only [List.take_succ_cons, List.take_zero]
              refine wpAnyH_take (i := 0) (v := ?_) rfl (by kernel_rfl) (by kernel_rfl) (by kernel_rfl) (fun _ _ _ h => h) (Or.inl ⟨by rfl, ?_⟩) (by assumption) ?_
              rotate_left
              · (intro w hSw; (try dsimp only at hSw); go_simp; try with_reducible rfl)
              try simp only [Act.put, List.setIfInBounds_toArray, List.set_cons_zero, List.set_cons_succ]
              refine wpAnyH_take (i := 1) (v := ?_) rfl (by kernel_rfl) (by kernel_rfl) (by kernel_rfl) (fun _ _ _ h => h) (Or.inl ⟨by rfl, ?_⟩) (by assumption) ?_
              rotate_left
              · (intro w hSw; (try dsimp only at hSw); go_simp; try with_reducible rfl)
              try simp only [Act.put, List.setIfInBounds_toArray, List.set_cons_zero, List.set_cons_succ]
              refine wpAnyH_take (i := 2) (v := ?_) rfl (by kernel_rfl) (by kernel_rfl) (by kernel_rfl) (fun _ _ _ h => h) (Or.inl ⟨by rfl, ?_⟩) (by assumption) ?_
              rotate_left
              · (intro w hSw; (try dsimp only at hSw); go_simp; try with_reducible rfl)
              try simp only [Act.put, List.setIfInBounds_toArray, List.set_cons_zero, List.set_cons_succ]
              refine wpAnyH_take (i := 3) (v := ?_) rfl (by kernel_rfl) (by kernel_rfl) (by kernel_rfl) (fun _ _ _ h => h) (Or.inl ⟨by rfl, ?_⟩) (by assumption) ?_
              rotate_left
              · (intro w hSw; (try dsimp only at hSw); go_simp; try with_reducible rfl)
              try simp only [Act.put, List.setIfInBounds_toArray, List.set_cons_zero, List.set_cons_succ]
              refine wpAnyH_take (i := 4) (v := ?_) rfl (by kernel_rfl) (by kernel_rfl) (by kernel_rfl) (fun _ _ _ h => h) (Or.inl ⟨by rfl, ?_⟩) (by assumption) ?_
              rotate_left
              · (intro w hSw; (try dsimp only at hSw); go_simp; try with_reducible rfl)
              try simp only [Act.put, List.setIfInBounds_toArray, List.set_cons_zero, List.set_cons_succ]
              refine wpAnyH_take (i := 5) (v := ?_) rfl (by kernel_rfl) (by kernel_rfl) (by kernel_rfl) (fun _ _ _ h => h) (Or.inl ⟨by rfl, ?_⟩) (by assumption) ?_
              rotate_left
              · (intro w hSw; (try dsimp only at hSw); go_simp; try with_reducible rfl)
              try simp only [Act.put, List.setIfInBounds_toArray, List.set_cons_zero, List.set_cons_succ]
              refine wpAnyH_take (i := 6) (v := ?_) rfl (by kernel_rfl) (by kernel_rfl) (by kernel_rfl) (fun _ _ _ h => h) (Or.inl ⟨by rfl, ?_⟩) (by assumption) ?_
              rotate_left
              · (intro w hSw; (try dsimp only at hSw); go_simp; try with_reducible rfl)
              try simp only [Act.put, List.setIfInBounds_toArray, List.set_cons_zero, List.set_cons_succ]
              refine wpAnyH_take (i := 7) (v := ?_) rfl (by kernel_rfl) (by kernel_rfl) (by kernel_rfl) (fun _ _ _ h => h) (Or.inl ⟨by rfl, ?_⟩) (by assumption) ?_
              rotate_left
              · (intro w hSw; (try dsimp only at hSw); go_simp; try with_reducible rfl)
              try simp only [Act.put, List.setIfInBounds_toArray, List.set_cons_zero, List.set_cons_succ]
              refine wpAnyH_take (i := 8) (v := ?_) rfl (by kernel_rfl) (by kernel_rfl) (by kernel_rfl) (fun _ _ _ h => h) (Or.inl ⟨by rfl, ?_⟩) (by assumption) ?_
              rotate_left
              · (intro w hSw; (try dsimp only at hSw); go_simp; try with_reducible rfl)
              try simp only [Act.put, List.setIfInBounds_toArray, List.set_cons_zero, List.set_cons_succ]
              refine wpAnyH_take (i := 9) (v := ?_) rfl (by kernel_rfl) (by kernel_rfl) (by kernel_rfl) (fun _ _ _ h => h) (Or.inl ⟨by rfl, ?_⟩) (by assumption) ?_
              rotate_left
              · (intro w hSw; (try dsimp only at hSw); go_simp; try with_reducible rfl)
              try simp only [Act.put, List.setIfInBounds_toArray, List.set_cons_zero, List.set_cons_succ]
              refine wpAnyH_take (i := 10) (v := ?_) rfl (by kernel_rfl) (by kernel_rfl) (by kernel_rfl) (fun _ _ _ h => h) (Or.inl ⟨by rfl, ?_⟩) (by assumption) ?_
              rotate_left
              · (intro w hSw; (try dsimp only at hSw); go_simp; try with_reducible rfl)
              try simp only [Act.put, List.setIfInBounds_toArray, List.set_cons_zero, List.set_cons_succ]
              refine wpAnyH_take (i := 11) (v := ?_) rfl (by kernel_rfl) (by kernel_rfl) (by kernel_rfl) (fun _ _ _ h => h) (Or.inl ⟨by rfl, ?_⟩) (by assumption) ?_
              rotate_left
              · (intro w hSw; (try dsimp only at hSw); go_simp; try with_reducible rfl)
              try simp only [Act.put, List.setIfInBounds_toArray, List.set_cons_zero, List.set_cons_succ]
              refine wpAnyH_take (i := 12) (v := ?_) rfl (by kernel_rfl) (by kernel_rfl) (by kernel_rfl) (fun _ _ _ h => h) (Or.inl ⟨by rfl, ?_⟩) (by assumption) ?_
              rotate_left
              · (intro w hSw; (try dsimp only at hSw); go_simp; try with_reducible rfl)
              try simp only [Act.put, List.setIfInBounds_toArray, List.set_cons_zero, List.set_cons_succ]
              refine wpAnyH_take (i := 13) (v := ?_) rfl (by kernel_rfl) (by kernel_rfl) (by kernel_rfl) (fun _ _ _ h => h) (Or.inl ⟨by rfl, ?_⟩) (by assumption) ?_
              rotate_left
              · (intro w hSw; (try dsimp only at hSw); go_simp; try with_reducible rfl)
              try simp only [Act.put, List.setIfInBounds_toArray, List.set_cons_zero, List.set_cons_succ]
              refine wpAnyH_take (i := 14) (v := ?_) rfl (by kernel_rfl) (by kernel_rfl) (by kernel_rfl) (fun _ _ _ h => h) (Or.inl ⟨by rfl, ?_⟩) (by assumption) ?_
              rotate_left
              · (intro w hSw; (try dsimp only at hSw); go_simp; try with_reducible rfl)
              try simp only [Act.put, List.setIfInBounds_toArray, List.set_cons_zero, List.set_cons_succ]
              refine wpAnyH_take (i := 15) (v := ?_) rfl (by kernel_rfl) (by kernel_rfl) (by kernel_rfl) (fun _ _ _ h => h) (Or.inl ⟨by rfl, ?_⟩) (by assumption) ?_
              rotate_left
              · (intro w hSw; (try dsimp only at hSw); go_simp; try with_reducible rfl)
              try simp only [Act.put, List.setIfInBounds_toArray, List.set_cons_zero, List.set_cons_succ]
              refine wpAnyH_take (i := 16) (v := ?_) rfl (by kernel_rfl) (by kernel_rfl) (by kernel_rfl) (fun _ _ _ h => h) (Or.inl ⟨by rfl, ?_⟩) (by assumption) ?_
              rotate_left
              · (intro w hSw; (try dsimp only at hSw); go_simp; try with_reducible rfl)
              try simp only [Act.put, List.setIfInBounds_toArray, List.set_cons_zero, List.set_cons_succ]
              refine wpAnyH_take (i := 17) (v := ?_) rfl (by kernel_rfl) (by kernel_rfl) (by kernel_rfl) (fun _ _ _ h => h) (Or.inl ⟨by rfl, ?_⟩) (by assumption) ?_
              rotate_left
              · (intro w hSw; (try dsimp only at hSw); go_simp; try with_reducible rfl)
              try simp only [Act.put, List.setIfInBounds_toArray, List.set_cons_zero, List.set_cons_succ]
              refine wpAnyH_ready (rs := [18]) (by kernel_rfl) (by simp) ?_
              refine AllReadyH.cons rfl (fun K hK => ?_) AllReadyH.nil
              go_simp
              refine hK.out _ _ ?_ (fun hHeld => ?_)
              · exact KS.out _ (hB.trans (hbw.mono (by omega)))
              clear hK K
              try simp only [Act.put, List.setIfInBounds_toArray, List.set_cons_zero, List.set_cons_succ]
              refine wpAnyH_take (i := 19) (v := ?_) rfl (by kernel_rfl) (by kernel_rfl) (by kernel_rfl) (fun _ _ _ h => h) (Or.inl ⟨by rfl, ?_⟩) (by assumption) ?_
              rotate_left
              · (intro w hSw; (try dsimp only at hSw); go_simp; try with_reducible rfl)
              try simp only [Act.put, List.setIfInBounds_toArray, List.set_cons_zero, List.set_cons_succ]
              refine wpAnyH_done (by kernel_rfl) ?_ _
              show wpList _ _ _ _ _ _
              go_wp2
              go_roundw
              case rel => exact ⟨4, by omega, rfl, _, by
                have h9 := HST.out
                unfold sumRows
                rw [HSET.out, HSG.out]
                exact h9.weaken (Nat.le_refl _) (by show wr.heap.size + 1 ≤ ((wr.setCell ⟨g, n3, none⟩ (.slice (some ⟨wr.heap.size, 0, none⟩) 4 4)).alloc (.cells #[.int .i64 (-1), .int .i64 1, .int .i64 1, .int .i64 (-1)] 3)).heap.size; rw [World.size_alloc, World.size_setCell]; omega), hBn⟩
              case measure => simp [intOf]
            · have hkz : ((3 : Int) == m) = false := by simp [hkm]
              have HSG := Lib.hid (show signRow m 3 = [1, -1, -1, 1] by unfold signRow; rw [if_neg (by exact_mod_cast hkm)])
              clear hkm
              have hbw : Below wr.heap.size wr (wr.drew.alloc (.cells #[.int .i64 1, .int .i64 (-1), .int .i64 (-1), .int .i64 1] 3)) := ((Below.refl _ _).drew).alloc (Nat.le_refl _) _
              have hrow : OwnV 3 wr.heap.size (wr.heap.size + 1) (wr.drew.alloc (.cells #[.int .i64 1, .int .i64 (-1), .int .i64 (-1), .int .i64 1] 3)) (.slice (some ⟨wr.heap.size, 0, none⟩) 4 4) (ints [1, -1, -1, 1]) := OwnV.lit 3 wr.drew (ints [1, -1, -1, 1]) (by simp [maxLen])
              have hO1 := hO.kept hbw (Nat.le_refl _)
              have hst := hO1.setRow (g := g) (k := n3) rfl (by omega) hrow (Nat.le_refl _) (by omega) (by omega)
              have hBn : Below lo w1 ((wr.drew.alloc (.cells #[.int .i64 1, .int .i64 (-1), .int .i64 (-1), .int .i64 1] 3)).setCell ⟨g, n3, none⟩ (.slice (some ⟨wr.heap.size, 0, none⟩) 4 4)) := (hB.trans (hbw.mono (by omega))).setCell hg0 _
              have hworld : (wr.drew.alloc (.cells #[.int .i64 1, .int .i64 (-1), .int .i64 (-1), .int .i64 1] 3)).setCell ⟨g, n3, none⟩ (.slice (some ⟨wr.heap.size, 0, none⟩) 4 4) = ((wr.setCell ⟨g, n3, none⟩ (.slice (some ⟨wr.heap.size, 0, none⟩) 4 4)).alloc (.cells #[.int .i64 1, .int .i64 (-1), .int .i64 (-1), .int .i64 1] 3)).drew := by
                rw [World.alloc_drew, World.setCell_drew, World.setCell_alloc_past]
                exact hgl
              rw [hworld] at hst hBn
              have cu' : (wr.drew.alloc (.cells #[.int .i64 1, .int .i64 (-1), .int .i64 (-1), .int .i64 1] 3)).cell? ⟨g, n3, none⟩ = some u := keepAt hbw hgl cu
              have fu' : (wr.drew.alloc (.cells #[.int .i64 1, .int .i64 (-1), .int .i64 (-1), .int .i64 1] 3)).frozen? ⟨g, n3, none⟩ = false := by rw [hbw.frozen (p := ⟨g, n3, none⟩) hgl]; exact fu
              have HST := Lib.hid hst
              clear hO1 hrow hst hO
              go_wp2
              refine wp_region_cut_held (S := fun W => W.cell? ⟨w.heap.size, 0, none⟩ = some (.int .i64 F0) ∧ W.cell? ⟨w.heap.size, 1, none⟩ = some (.int .i64 F1) ∧ W.cell? ⟨w.heap.size + 1, 0, none⟩ = some (.int .i64 S0) ∧ W.cell? ⟨w.heap.size + 1, 1, none⟩ = some (.int .i64 S1)) 20 _ rfl (by kernel_rfl) (by kernel_rfl) (KS.out _ hB.drew) (fun hHeld => ?_)
              simp only [List.take_succ_cons, List.take_zero]
              refine wpAnyH_take (i := 0) (v := ?_) rfl (by kernel_rfl) (by kernel_rfl) (by kernel_rfl) (fun _ _ _ h => h) (Or.inl ⟨by rfl, ?_⟩) (by assumption) ?_
              rotate_left
              · (intro w hSw; (try dsimp only at hSw); go_simp; try with_reducible rfl)
              try simp only [Act.put, List.setIfInBounds_toArray, List.set_cons_zero, List.set_cons_succ]
              refine wpAnyH_take (i := 1) (v := ?_) rfl (by kernel_rfl) (by kernel_rfl) (by kernel_rfl) (fun _ _ _ h => h) (Or.inl ⟨by rfl, ?_⟩) (by assumption) ?_
              rotate_left
              · (intro w hSw; (try dsimp only at hSw); go_simp; try with_reducible rfl)
              try simp only [Act.put, List.setIfInBounds_toArray, List.set_cons_zero, List.set_cons_succ]
              refine wpAnyH_take (i := 2) (v := ?_) rfl (by kernel_rfl) (by kernel_rfl) (by kernel_rfl) (fun _ _ _ h => h) (Or.inl ⟨by rfl, ?_⟩) (by assumption) ?_
              rotate_left
              · (intro w hSw; (try dsimp only at hSw); go_simp; try with_reducible rfl)
              try simp only [Act.put, List.setIfInBounds_toArray, List.set_cons_zero, List.set_cons_succ]
              refine wpAnyH_take (i := 3) (v := ?_) rfl (by kernel_rfl) (by kernel_rfl) (by kernel_rfl) (fun _ _ _ h => h) (Or.inl ⟨by rfl, ?_⟩) (by assumption) ?_
              rotate_left
              · (intro w hSw; (try dsimp only at hSw); go_simp; try with_reducible rfl)
              try simp only [Act.put, List.setIfInBounds_toArray, List.set_cons_zero, List.set_cons_succ]
              refine wpAnyH_take (i := 4) (v := ?_) rfl (by kernel_rfl) (by kernel_rfl) (by kernel_rfl) (fun _ _ _ h => h) (Or.inl ⟨by rfl, ?_⟩) (by assumption) ?_
              rotate_left
              · (intro w hSw; (try dsimp only at hSw); go_simp; try with_reducible rfl)
              try simp only [Act.put, List.setIfInBounds_toArray, List.set_cons_zero, List.set_cons_succ]
              refine wpAnyH_take (i := 5) (v := ?_) rfl (by kernel_rfl) (by kernel_rfl) (by kernel_rfl) (fun _ _ _ h => h) (Or.inl ⟨by rfl, ?_⟩) (by assumption) ?_
              rotate_left
              · (intro w hSw; (try dsimp only at hSw); go_simp; try with_reducible rfl)
              try simp only [Act.put, List.setIfInBounds_toArray, List.set_cons_zero, List.set_cons_succ]
              refine wpAnyH_take (i := 6) (v := ?_) rfl (by kernel_rfl) (by kernel_rfl) (by kernel_rfl) (fun _ _ _ h => h) (Or.inl ⟨by rfl, ?_⟩) (by assumption) ?_
              rotate_left
              · (intro w hSw; (try dsimp only at hSw); go_simp; try with_reducible rfl)
              try simp only [Act.put, List.setIfInBounds_toArray, List.set_cons_zero, List.set_cons_succ]
              refine wpAnyH_take (i := 7) (v := ?_) rfl (by kernel_rfl) (by kernel_rfl) (by kernel_rfl) (fun _ _ _ h => h) (Or.inl ⟨by rfl, ?_⟩) (by assumption) ?_
              rotate_left
              · (intro w hSw; (try dsimp only at hSw); go_simp; try with_reducible rfl)
              try simp only [Act.put, List.setIfInBounds_toArray, List.set_cons_zero, List.set_cons_succ]
              refine wpAnyH_take (i := 8) (v := ?_) rfl (by kernel_rfl) (by kernel_rfl) (by kernel_rfl) (fun _ _ _ h => h) (Or.inl ⟨by rfl, ?_⟩) (by assumption) ?_
              rotate_left
              · (intro w hSw; (try dsimp only at hSw); go_simp; try with_reducible rfl)
              try simp only [Act.put, List.setIfInBounds_toArray, List.set_cons_zero, List.set_cons_succ]
              refine wpAnyH_take (i := 9) (v := ?_) rfl (by kernel_rfl) (by kernel_rfl) (by kernel_rfl) (fun _ _ _ h => h) (Or.inl ⟨by rfl, ?_⟩) (by assumption) ?_
              rotate_left
              · (intro w hSw; (try dsimp only at hSw); go_simp; try with_reducible rfl)
              try simp only [Act.put, List.setIfInBounds_toArray, List.set_cons_zero, List.set_cons_succ]
              refine wpAnyH_take (i := 10) (v := ?_) rfl (by kernel_rfl) (by kernel_rfl) (by kernel_rfl) (fun _ _ _ h => h) (Or.inl ⟨by rfl, ?_⟩) (by assumption) ?_
              rotate_left
              · (intro w hSw; (try dsimp only at hSw); go_simp; try with_reducible rfl)
              try simp only [Act.put, List.setIfInBounds_toArray, List.set_cons_zero, List.set_cons_succ]
              refine wpAnyH_take (i := 11) (v := ?_) rfl (by kernel_rfl) (by kernel_rfl) (by kernel_rfl) (fun _ _ _ h => h) (Or.inl ⟨by rfl, ?_⟩) (by assumption) ?_
              rotate_left
              · (intro w hSw; (try dsimp only at hSw); go_simp; try with_reducible rfl)
              try simp only [Act.put, List.setIfInBounds_toArray, List.set_cons_zero, List.set_cons_succ]
              refine wpAnyH_take (i := 12) (v := ?_) rfl (by kernel_rfl) (by kernel_rfl) (by kernel_rfl) (fun _ _ _ h => h) (Or.inl ⟨by rfl, ?_⟩) (by assumption) ?_
              rotate_left
              · (intro w hSw; (try dsimp only at hSw); go_simp; try with_reducible rfl)
              try simp only [Act.put, List.setIfInBounds_toArray, List.set_cons_zero, List.set_cons_succ]
              refine wpAnyH_take (i := 13) (v := ?_) rfl (by kernel_rfl) (by kernel_rfl) (by kernel_rfl) (fun _ _ _ h => h) (Or.inl ⟨by rfl, ?_⟩) (by assumption) ?_
              rotate_left
              · (intro w hSw; (try dsimp only at hSw); go_simp; try with_reducible rfl)
              try simp only [Act.put, List.setIfInBounds_toArray, List.set_cons_zero, List.set_cons_succ]
              refine wpAnyH_take (i := 14) (v := ?_) rfl (by kernel_rfl) (by kernel_rfl) (by kernel_rfl) (fun _ _ _ h => h) (Or.inl ⟨by rfl, ?_⟩) (by assumption) ?_
              rotate_left
              · (intro w hSw; (try dsimp only at hSw); go_simp; try with_reducible rfl)
              try simp only [Act.put, List.setIfInBounds_toArray, List.set_cons_zero, List.set_cons_succ]
              refine wpAnyH_take (i := 15) (v := ?_) rfl (by kernel_rfl) (by kernel_rfl) (by kernel_rfl) (fun _ _ _ h => h) (Or.inl ⟨by rfl, ?_⟩) (by assumption) ?_
              rotate_left
              · (intro w hSw; (try dsimp only at hSw); go_simp; try with_reducible rfl)
              try simp only [Act.put, List.setIfInBounds_toArray, List.set_cons_zero, List.set_cons_succ]
              refine wpAnyH_take (i := 16) (v := ?_) rfl (by kernel_rfl) (by kernel_rfl) (by kernel_rfl) (fun _ _ _ h => h) (Or.inl ⟨by rfl, ?_⟩) (by assumption) ?_
              rotate_left
              · (intro w hSw; (try dsimp only at hSw); go_simp; try with_reducible rfl)
              try simp only [Act.put, List.setIfInBounds_toArray, List.set_cons_zero, List.set_cons_succ]
              refine wpAnyH_take (i := 17) (v := ?_) rfl (by kernel_rfl) (by kernel_rfl) (by kernel_rfl) (fun _ _ _ h => h) (Or.inl ⟨by rfl, ?_⟩) (by assumption) ?_
              rotate_left
              · (intro w hSw; (try dsimp only at hSw); go_simp; try with_reducible rfl)
              try simp only [Act.put, List.setIfInBounds_toArray, List.set_cons_zero, List.set_cons_succ]
              refine wpAnyH_ready (rs := [18]) (by kernel_rfl) (by simp) ?_
              refine AllReadyH.cons rfl (fun K hK => ?_) AllReadyH.nil
              go_simp
              refine hK.out _ _ ?_ (fun hHeld => ?_)
              · exact KS.out _ (hB.trans (hbw.mono (by omega)))
              clear hK K
              try simp only [Act.put, List.setIfInBounds_toArray, List.set_cons_zero, List.set_cons_succ]
              refine wpAnyH_take (i := 19) (v := ?_) rfl (by kernel_rfl) (by kernel_rfl) (by kernel_rfl) (fun _ _ _ h => h) (Or.inl ⟨by rfl, ?_⟩) (by assumption) ?_
              rotate_left
              · (intro w hSw; (try dsimp only at hSw); go_simp; try with_reducible rfl)
              try simp only [Act.put, List.setIfInBounds_toArray, List.set_cons_zero, List.set_cons_succ]
              refine wpAnyH_done (by kernel_rfl) ?_ _
              show wpList _ _ _ _ _ _
              go_wp2
              go_roundw
              case rel => exact ⟨4, by omega, rfl, _, by
                have h9 := HST.out
                unfold sumRows
                rw [HSET.out, HSG.out]
                exact h9.weaken (Nat.le_refl _) (by show wr.heap.size + 1 ≤ ((wr.setCell ⟨g, n3, none⟩ (.slice (some ⟨wr.heap.size, 0, none⟩) 4 4)).alloc (.cells #[.int .i64 1, .int .i64 (-1), .int .i64 (-1), .int .i64 1] 3)).heap.size; rw [World.size_alloc, World.size_setCell]; omega), hBn⟩
              case measure => simp [intOf]
          · have HOO := Lib.hid hO
            clear hO hcl hfz
            go_wp2
            go_ret2
            rw [HD.out, HOK.out]
            exact ⟨_, c, vs, by rw [sumRows_len]; rfl, by rw [sumRows_len]; exact HOO.out.weaken (by omega) (Nat.le_refl _), B1.trans (hB.mono (by omega))⟩
  · have HOK := Lib.hid (show sumFOk x y fa fb sa sb m = false from hok)
    have HD := Lib.hid (show sumFD x y fa fb sa sb m = [] by unfold sumFD; rw [HOK.out]; rfl)
    rw [hok]
    clear hok
    go_wp2
    go_ret2
    rw [HD.out, HOK.out]
    exact ⟨_, _, [], rfl, hO1.weaken (by omega) (Nat.le_refl _), B1⟩
set_option maxRecDepth 100000 in
set_option maxHeartbeats 6400000 in
theorem implSumFunctional_any (x y fa fb sa sb m : Int) (w : World) :
    Calls Try.prog 38 #[.int .i64 x, .int .i64 y, .agg #[.int .i64 fa, .int .i64 fb], .agg #[.int .i64 sa, .int .i64 sb], .int .i64 m] w (RowsRes w (sumFD x y fa fb sa sb m) (sumFOk x y fa fb sa sb m)) := by
  rcases Bool.eq_false_or_eq_true (sizesB x y) with hs1 | hs1
  · go_enter Try.func38, Try.ntmps38
    go_wp2_with (go_at_call 61; refine (areQuestions_any _ _ _).mono ?_; rintro e w' ⟨rfl, rfl⟩)
    refine (isSum_any x y fa fb sa sb m _).mono ?_
    rintro e w1 ⟨rfl, b1⟩
    have B1 : Below w.heap.size w w1 := Below.trans (by repeat' (first | with_reducible exact Below.refl _ _ | with_reducible assumption | with_reducible apply Below.alloc | with_reducible apply Below.setCell | with_reducible apply Below.drew | exact Nat.le_refl _ | omega | (simp only [World.size_alloc, World.size_setCell]; omega))) (b1.mono (by first | exact Nat.le_refl _ | omega | (simp only [World.size_alloc, World.size_setCell]; omega)))
    have c0 : w1.cell? ⟨w.heap.size, 0, none⟩ = some (.int .i64 fa) := keepCell b1 (by repeat' (first | with_reducible assumption | (refine cell_top ?_ rfl; first | with_reducible rfl | (simp only [World.size_alloc, World.size_setCell]; done)) | (refine cell_under ?_ ?_; (first | omega | (simp only [World.size_alloc, World.size_setCell]; omega))) | refine cell_drew ?_))
    have c1 : w1.cell? ⟨w.heap.size, 1, none⟩ = some (.int .i64 fb) := keepCell b1 (by repeat' (first | with_reducible assumption | (refine cell_top ?_ rfl; first | with_reducible rfl | (simp only [World.size_alloc, World.size_setCell]; done)) | (refine cell_under ?_ ?_; (first | omega | (simp only [World.size_alloc, World.size_setCell]; omega))) | refine cell_drew ?_))
    have d0 : w1.cell? ⟨w.heap.size + 1, 0, none⟩ = some (.int .i64 sa) := keepCell b1 (by repeat' (first | with_reducible assumption | (refine cell_top ?_ rfl; first | with_reducible rfl | (simp only [World.size_alloc, World.size_setCell]; done)) | (refine cell_under ?_ ?_; (first | omega | (simp only [World.size_alloc, World.size_setCell]; omega))) | refine cell_drew ?_))
    have d1 : w1.cell? ⟨w.heap.size + 1, 1, none⟩ = some (.int .i64 sb) := keepCell b1 (by repeat' (first | with_reducible assumption | (refine cell_top ?_ rfl; first | with_reducible rfl | (simp only [World.size_alloc, World.size_setCell]; done)) | (refine cell_under ?_ ?_; (first | omega | (simp only [World.size_alloc, World.size_setCell]; omega))) | refine cell_drew ?_))
    have hz1 := b1.size
    simp only [World.size_alloc] at hz1
    clear b1
    rcases Bool.eq_false_or_eq_true (isSumB x y fa fb sa sb m) with hok | hok
    · have HOK := Lib.hid (show sumFOk x y fa fb sa sb m = true by unfold sumFOk sum4B; rw [hs1, hok]; rfl)
      rw [hok]
      clear hok hs1
      obtain ⟨hsz, his⟩ : sizesB x y = true ∧ isSumB x y fa fb sa sb m = true := by rw [← Bool.and_eq_true]; exact HOK.out
      obtain ⟨⟨hx0, hx1⟩, hy0, hy1⟩ := sizesB_iff.1 hsz
      obtain ⟨q0, q1, q2, q3, q4, q5, -, -⟩ := isSumB_iff.1 his
      obtain ⟨X, rfl⟩ := Int.eq_ofNat_of_zero_le (show 0 ≤ x by omega)
      obtain ⟨Y, rfl⟩ := Int.eq_ofNat_of_zero_le (show 0 ≤ y by omega)
      obtain ⟨F0, rfl⟩ := Int.eq_ofNat_of_zero_le q0
      obtain ⟨F1, rfl⟩ := Int.eq_ofNat_of_zero_le (show 0 ≤ fb by omega)
      obtain ⟨S0, rfl⟩ := Int.eq_ofNat_of_zero_le q3
      obtain ⟨S1, rfl⟩ := Int.eq_ofNat_of_zero_le (show 0 ≤ sb by omega)
      have HD := Lib.hid (show sumFD X Y F0 F1 S0 S1 m = sumRows (X * Y) Y F0 F1 S0 S1 m 4 by unfold sumFD; rw [HOK.out]; rfl)
      obtain ⟨N, hN⟩ : ∃ N, X * Y = N := ⟨_, rfl⟩
      have hNi : (X : Int) * (Y : Int) = (N : Int) := by rw [← hN]; push_cast; rfl
      have hN9 : N ≤ 9 := by rw [← hN]; exact Nat.mul_le_mul (show X ≤ 3 by omega) (show Y ≤ 3 by omega)
      have hN1 : 1 ≤ N := by rw [← hN]; exact Nat.mul_le_mul (show 1 ≤ X by omega) (show 1 ≤ Y by omega)
      rw [hN] at HD
      obtain ⟨n0, hk0, hi0, ⟨hm0, hn0⟩, hl0, hb0⟩ := place_of (X := X) (Y := Y) (F := F0) (S := S0) (by omega) (by omega) (by omega) (by omega)
      obtain ⟨n1, hk1, hi1, ⟨hm1, hn1⟩, hl1, hb1⟩ := place_of (X := X) (Y := Y) (F := F0) (S := S1) (by omega) (by omega) (by omega) (by omega)
      obtain ⟨n2, hk2, hi2, ⟨hm2, hn2⟩, hl2, hb2⟩ := place_of (X := X) (Y := Y) (F := F1) (S := S0) (by omega) (by omega) (by omega) (by omega)
      obtain ⟨n3, hk3, hi3, ⟨hm3, hn3⟩, hl3, hb3⟩ := place_of (X := X) (Y := Y) (F := F1) (S := S1) (by omega) (by omega) (by omega) (by omega)
      rw [hN] at hl0 hl1 hl2 hl3
      have HK := Lib.hid (And.intro hk0 (And.intro hk1 (And.intro hk2 hk3)))
      clear hk0 hk1 hk2 hk3 hN hsz his q0 q3
      obtain ⟨wq, rfl⟩ : ∃ wq : World, wq = w1 := ⟨_, rfl⟩
      have hE := OwnII.empty 27 3 wq
      go_wp2
      obtain ⟨w1, hw1⟩ : ∃ w1, w1 = wq.alloc (.cells #[] 27) := ⟨_, rfl⟩
      have hba : Below wq.heap.size wq w1 := by rw [hw1]; exact (Below.refl _ _).alloc (Nat.le_refl _) _
      have hzz : wq.heap.size + 1 = w1.heap.size := by rw [hw1, World.size_alloc]
      rw [← hw1] at hE
      rw [← hw1]
      have c0' := keepCell hba c0
      have c1' := keepCell hba c1
      have d0' := keepCell hba d0
      have d1' := keepCell hba d1
      have B1' := B1.trans (hba.mono B1.size)
      obtain ⟨lo, hlo⟩ : ∃ lo, lo = wq.heap.size := ⟨_, rfl⟩
      have hO0 : OwnII 27 3 lo w1.heap.size w1 (.slice (some ⟨wq.heap.size, 0, none⟩) 0 0) (List.replicate 0 (List.replicate 4 0)) [] := by rw [hlo]; exact hE.weaken (Nat.le_refl _) (by omega)
      have hB0 : Below lo w1 w1 := Below.refl _ _
      have hl0' : w.heap.size < lo := by omega
      have hl1' : w.heap.size + 1 < lo := by omega
      have hl2' : lo ≤ w1.heap.size := by omega
      have KS := Lib.hid (fun (W : World) (h : Below lo w1 W) => And.intro (keepAt h hl0' c0') (And.intro (keepAt h hl0' c1') (And.intro (keepAt h hl1' d0') (keepAt h hl1' d1'))))
      clear hE hlo c0 c1 d0 d1 c0' c1' d0' d1' hz1 hba hzz hw1 B1
      go_loopw [32, 12] (fun s so wr => ∃ k : Nat, k ≤ N ∧ s = .int .i64 k ∧ ∃ a c vs, so = .slice a k c ∧ OwnII 27 3 lo wr.heap.size wr (.slice a k c) (List.replicate k (List.replicate 4 0)) vs ∧ Below lo w1 wr) (fun s _ _ => N - (intOf s).toNat)
      case atStart => exact ⟨0, by omega, rfl, _, _, _, rfl, hO0, hB0⟩
      case round =>
        clear hO0 hB0
        obtain ⟨k, hk, rfl, a, c, vs, rfl, hO, hB⟩ := hrel
        by_cases hlt : k < N
        · have hmk := mk4_run wr
          have hbz : Below wr.heap.size wr (wr.alloc (.cells zero4 3)) := (Below.refl _ _).alloc (Nat.le_refl _) _
          have hO1 := hO.kept hbz (Nat.le_refl _)
          have ht := hO1.top
          have hlen : vs.length = k := by have := hO1.len; simpa using this
          have HLN := Lib.hid hlen
          have hz := hB.size
          have hz0 := zero4_own wr
          clear hlen hO
          go_wp2_with (at_builtin; refine append1_at rfl _ _ 24 27 rfl Try.underlying24 Try.infoInts rfl ht (World.size_alloc _ _) rfl rfl rfl (by rw [HLN.out]; omega) (by omega) (by rw [World.size_alloc]; omega) ?_)
          intro a2 c2 w2 hO2 hg2
          have hsn := hO1.snoc hz0 (Nat.le_refl _) (by omega) (by omega) hO2 hg2 (by have := hg2.size; rw [World.size_alloc] at this; exact this) (by decide)
          have hB2 : Below lo w1 w2 := (hB.trans (hbz.mono (by omega))).grown hg2 (by rw [World.size_alloc]; omega) (fun g hg => (ht.lt g hg).1)
          rw [rep_snoc, HLN.out] at hsn
          clear hO1 ht hO2 hz0
          go_wp2
          go_roundw
          case rel => exact ⟨k + 1, by omega, by go_num, a2, c2, _, by rw [HLN.out], hsn, hB2⟩
          case measure => simp [intOf]; omega
        · obtain rfl : k = N := by omega
          obtain ⟨a', g, cap, hv, _, ha, _, _⟩ := hO.top.shape
          have hvl : vs.length = k := by have := hO.len; simpa using this
          injection hv with e1 e2 e3
          obtain ⟨ea, hg0, _, hg2⟩ := ha (by omega)
          rw [ea] at e1
          subst e1
          clear ea e2 e3 ha hvl cap a'
          obtain ⟨c0, c1, d0, d1⟩ := KS.out _ hB
          have H4 := Lib.hid (fun W => four_any Y F0 F1 S0 S1 n0 n1 n2 n3 hi0 hi1 hi2 hi3 ⟨hm0, hn0⟩ ⟨hm2, hn2⟩ ⟨hb0, hb1, hb2, hb3⟩ W)
          have hix := index4
          go_wp2_with fail
          refine (H4.out _).mono ?_
          rintro e w4 ⟨rfl, b4⟩
          have hB4 := hB.trans (b4.mono (by have := hB.size; omega))
          have hO4 := (hO.kept b4 (Nat.le_refl _)).weaken (Nat.le_refl _) b4.size
          clear hO hB c0 c1 d0 d1 b4 hg2 H4
          go_wp2
          go_loopw [43] (fun s wz => ∃ j : Nat, j ≤ 4 ∧ s = .int .i64 j ∧ ∃ vs, OwnII 27 3 lo wz.heap.size wz (.slice (some ⟨g, 0, none⟩) k c) (sumRows k Y F0 F1 S0 S1 m j) vs ∧ Below lo w1 wz) (fun s _ => 4 - (intOf s).toNat)
          case atStart => exact ⟨0, by omega, rfl, _, hO4, hB4⟩
          case round =>
            clear hO4 hB4
            obtain ⟨j, hj, rfl, vs, hO, hB⟩ := hrel
            have hvl : vs.length = k := by rw [hO.len, sumRows_len]
            obtain ⟨hcl, hfz, -, -, hgl⟩ := hO.top.at
            have hz := hB.size
            have : j = 0 ∨ j = 1 ∨ j = 2 ∨ j = 3 ∨ j = 4 := by omega
            rcases this with rfl | rfl | rfl | rfl | rfl
            · rw [show ((0 : Nat) : Int) = (0 : Int) from rfl]
              obtain ⟨u, hu⟩ : ∃ u, vs[n0]? = some u := ⟨_, List.getElem?_eq_getElem (by omega)⟩
              have cu := hcl n0 u hu
              have hjl : (n0 : Int) < (k : Int) := by omega
              have hj0 : (0 : Int) ≤ (n0 : Int) := by omega
              have fu := hfz n0
              have hset : setK Y F0 F1 S0 S1 0 = n0 := HK.out.1
              have HSET := Lib.hid hset
              have hbw : Below wr.heap.size wr (wr.alloc (.cells #[.int .i64 1, .int .i64 (-1), .int .i64 (-1), .int .i64 1] 3)) := (Below.refl _ _).alloc (Nat.le_refl _) _
              have hrow : OwnV 3 wr.heap.size (wr.heap.size + 1) (wr.alloc (.cells #[.int .i64 1, .int .i64 (-1), .int .i64 (-1), .int .i64 1] 3)) (.slice (some ⟨wr.heap.size, 0, none⟩) 4 4) (ints [1, -1, -1, 1]) := OwnV.lit 3 wr (ints [1, -1, -1, 1]) (by simp [maxLen])
              have hO1 := hO.kept hbw (Nat.le_refl _)
              have hst := hO1.setRow (g := g) (k := n0) rfl (by omega) hrow (Nat.le_refl _) (by omega) (by omega)
              have hBn : Below lo w1 ((wr.alloc (.cells #[.int .i64 1, .int .i64 (-1), .int .i64 (-1), .int .i64 1] 3)).setCell ⟨g, n0, none⟩ (.slice (some ⟨wr.heap.size, 0, none⟩) 4 4)) := (hB.trans (hbw.mono (by omega))).setCell hg0 _
              have hworld : (wr.alloc (.cells #[.int .i64 1, .int .i64 (-1), .int .i64 (-1), .int .i64 1] 3)).setCell ⟨g, n0, none⟩ (.slice (some ⟨wr.heap.size, 0, none⟩) 4 4) = (wr.setCell ⟨g, n0, none⟩ (.slice (some ⟨wr.heap.size, 0, none⟩) 4 4)).alloc (.cells #[.int .i64 1, .int .i64 (-1), .int .i64 (-1), .int .i64 1] 3) := by
                rw [World.setCell_alloc_past]
                exact hgl
              rw [hworld] at hst hBn
              have cu' : (wr.alloc (.cells #[.int .i64 1, .int .i64 (-1), .int .i64 (-1), .int .i64 1] 3)).cell? ⟨g, n0, none⟩ = some u := keepAt hbw hgl cu
              have fu' : (wr.alloc (.cells #[.int .i64 1, .int .i64 (-1), .int .i64 (-1), .int .i64 1] 3)).frozen? ⟨g, n0, none⟩ = false := by rw [hbw.frozen (p := ⟨g, n0, none⟩) hgl]; exact fu
              have HST := Lib.hid hst
              clear hset hu hcl hfz hO1 hrow hst hO
              by_cases hkm : (0 : Int) = m
              · have hkz : ((0 : Int) == m) = true := by simp [hkm]
                have HSG := Lib.hid (show signRow m 0 = [-1, 1, 1, -1] by unfold signRow; rw [if_pos (by exact_mod_cast hkm)])
                clear hkm
                obtain ⟨wv, hwv⟩ : ∃ wv, wv = (wr.setCell ⟨g, n0, none⟩ (.slice (some ⟨wr.heap.size, 0, none⟩) 4 4)).alloc (.cells #[.int .i64 1, .int .i64 (-1), .int .i64 (-1), .int .i64 1] 3) := ⟨_, rfl⟩
                have hzv : wv.heap.size = wr.heap.size + 1 := by rw [hwv, World.size_alloc, World.size_setCell]
                have hov : OwnII 27 3 lo wv.heap.size wv (.slice (some ⟨g, 0, none⟩) k c) ((sumRows k Y F0 F1 S0 S1 m 0).set n0 [1, -1, -1, 1]) (vs.set n0 (.slice (some ⟨wr.heap.size, 0, none⟩) 4 4)) := by rw [hwv]; simpa only [World.size_setCell, World.size_alloc] using HST.out
                have hbv : Below lo w1 wv := by rw [hwv]; exact hBn
                obtain ⟨hcv, hfv, -, -, hgv⟩ := hov.top.at
                have cv := hcv n0 (.slice (some ⟨wr.heap.size, 0, none⟩) 4 4) (by rw [List.getElem?_set]; simp; omega)
                have fv := hfv n0
                have hbw2 : Below wv.heap.size wv (wv.alloc (.cells #[.int .i64 (-1), .int .i64 1, .int .i64 1, .int .i64 (-1)] 3)) := (Below.refl _ _).alloc (Nat.le_refl _) _
                have hrow2 : OwnV 3 wv.heap.size (wv.heap.size + 1) (wv.alloc (.cells #[.int .i64 (-1), .int .i64 1, .int .i64 1, .int .i64 (-1)] 3)) (.slice (some ⟨wv.heap.size, 0, none⟩) 4 4) (ints [-1, 1, 1, -1]) := OwnV.lit 3 wv (ints [-1, 1, 1, -1]) (by simp [maxLen])
                have hO2 := hov.kept hbw2 (Nat.le_refl _)
                have hst2 := hO2.setRow (g := g) (k := n0) rfl (by rw [List.length_set]; omega) hrow2 (Nat.le_refl _) (by omega) (by omega)
                have hBn2 : Below lo w1 ((wv.alloc (.cells #[.int .i64 (-1), .int .i64 1, .int .i64 1, .int .i64 (-1)] 3)).setCell ⟨g, n0, none⟩ (.slice (some ⟨wv.heap.size, 0, none⟩) 4 4)) := (hbv.trans (hbw2.mono (by omega))).setCell hg0 _
                have hworld2 : (wv.alloc (.cells #[.int .i64 (-1), .int .i64 1, .int .i64 1, .int .i64 (-1)] 3)).setCell ⟨g, n0, none⟩ (.slice (some ⟨wv.heap.size, 0, none⟩) 4 4) = (wv.setCell ⟨g, n0, none⟩ (.slice (some ⟨wv.heap.size, 0, none⟩) 4 4)).alloc (.cells #[.int .i64 (-1), .int .i64 1, .int .i64 1, .int .i64 (-1)] 3) := by
                  rw [World.setCell_alloc_past]
                  exact hgv
                rw [hworld2] at hst2 hBn2
                have cv' : (wv.alloc (.cells #[.int .i64 (-1), .int .i64 1, .int .i64 1, .int .i64 (-1)] 3)).cell? ⟨g, n0, none⟩ = some (.slice (some ⟨wr.heap.size, 0, none⟩) 4 4) := keepAt hbw2 hgv cv
                have fv' : (wv.alloc (.cells #[.int .i64 (-1), .int .i64 1, .int .i64 1, .int .i64 (-1)] 3)).frozen? ⟨g, n0, none⟩ = false := by rw [hbw2.frozen (p := ⟨g, n0, none⟩) hgv]; exact fv
                have HST2 := Lib.hid hst2
                have HWV := Lib.hid hwv
                have HZV := Lib.hid hzv
                clear hov hcv hfv hO2 hrow2 hst2 hwv cv fv hzv
                go_upto_region 13 with fail
                rw [← HWV.out]
                go_wp2
                go_roundw
                case rel => exact ⟨1, by omega, rfl, _, by
                  have h9 := HST2.out
                  unfold sumRows
                  rw [HSET.out, HSG.out]
                  rw [List.set_set] at h9
                  exact h9.weaken (Nat.le_refl _) (by rw [World.size_alloc, World.size_setCell]; exact Nat.le_refl _), hBn2⟩
                case measure => simp [intOf]
              · have hkz : ((0 : Int) == m) = false := by simp [hkm]
                have HSG := Lib.hid (show signRow m 0 = [1, -1, -1, 1] by unfold signRow; rw [if_neg (by exact_mod_cast hkm)])
                clear hkm
                go_wp2
                go_roundw
                case rel => exact ⟨1, by omega, rfl, _, by
                  have h9 := HST.out
                  unfold sumRows
                  rw [HSET.out, HSG.out]
                  exact h9.weaken (Nat.le_refl _) (by rw [World.size_alloc, World.size_setCell]; omega), hBn⟩
                case measure => simp [intOf]
            · rw [show ((1 : Nat) : Int) = (1 : Int) from rfl]
              obtain ⟨u, hu⟩ : ∃ u, vs[n1]? = some u := ⟨_, List.getElem?_eq_getElem (by omega)⟩
              have cu := hcl n1 u hu
              have hjl : (n1 : Int) < (k : Int) := by omega
              have hj0 : (0 : Int) ≤ (n1 : Int) := by omega
              have fu := hfz n1
              have hset : setK Y F0 F1 S0 S1 1 = n1 := HK.out.2.1
              have HSET := Lib.hid hset
              have hbw : Below wr.heap.size wr (wr.alloc (.cells #[.int .i64 1, .int .i64 (-1), .int .i64 (-1), .int .i64 1] 3)) := (Below.refl _ _).alloc (Nat.le_refl _) _
              have hrow : OwnV 3 wr.heap.size (wr.heap.size + 1) (wr.alloc (.cells #[.int .i64 1, .int .i64 (-1), .int .i64 (-1), .int .i64 1] 3)) (.slice (some ⟨wr.heap.size, 0, none⟩) 4 4) (ints [1, -1, -1, 1]) := OwnV.lit 3 wr (ints [1, -1, -1, 1]) (by simp [maxLen])
              have hO1 := hO.kept hbw (Nat.le_refl _)
              have hst := hO1.setRow (g := g) (k := n1) rfl (by omega) hrow (Nat.le_refl _) (by omega) (by omega)
              have hBn : Below lo w1 ((wr.alloc (.cells #[.int .i64 1, .int .i64 (-1), .int .i64 (-1), .int .i64 1] 3)).setCell ⟨g, n1, none⟩ (.slice (some ⟨wr.heap.size, 0, none⟩) 4 4)) := (hB.trans (hbw.mono (by omega))).setCell hg0 _
              have hworld : (wr.alloc (.cells #[.int .i64 1, .int .i64 (-1), .int .i64 (-1), .int .i64 1] 3)).setCell ⟨g, n1, none⟩ (.slice (some ⟨wr.heap.size, 0, none⟩) 4 4) = (wr.setCell ⟨g, n1, none⟩ (.slice (some ⟨wr.heap.size, 0, none⟩) 4 4)).alloc (.cells #[.int .i64 1, .int .i64 (-1), .int .i64 (-1), .int .i64 1] 3) := by
                rw [World.setCell_alloc_past]
                exact hgl
              rw [hworld] at hst hBn
              have cu' : (wr.alloc (.cells #[.int .i64 1, .int .i64 (-1), .int .i64 (-1), .int .i64 1] 3)).cell? ⟨g, n1, none⟩ = some u := keepAt hbw hgl cu
              have fu' : (wr.alloc (.cells #[.int .i64 1, .int .i64 (-1), .int .i64 (-1), .int .i64 1] 3)).frozen? ⟨g, n1, none⟩ = false := by rw [hbw.frozen (p := ⟨g, n1, none⟩) hgl]; exact fu
              have HST := Lib.hid hst
              clear hset hu hcl hfz hO1 hrow hst hO
              by_cases hkm : (1 : Int) = m
              · have hkz : ((1 : Int) == m) = true := by simp [hkm]
                have HSG := Lib.hid (show signRow m 1 = [-1, 1, 1, -1] by unfold signRow; rw [if_pos (by exact_mod_cast hkm)])
                clear hkm
                obtain ⟨wv, hwv⟩ : ∃ wv, wv = (wr.setCell ⟨g, n1, none⟩ (.slice (some ⟨wr.heap.size, 0, none⟩) 4 4)).alloc (.cells #[.int .i64 1, .int .i64 (-1), .int .i64 (-1), .int .i64 1] 3) := ⟨_, rfl⟩
                have hzv : wv.heap.size = wr.heap.size + 1 := by rw [hwv, World.size_alloc, World.size_setCell]
                have hov : OwnII 27 3 lo wv.heap.size wv (.slice (some ⟨g, 0, none⟩) k c) ((sumRows k Y F0 F1 S0 S1 m 1).set n1 [1, -1, -1, 1]) (vs.set n1 (.slice (some ⟨wr.heap.size, 0, none⟩) 4 4)) := by rw [hwv]; simpa only [World.size_setCell, World.size_alloc] using HST.out
                have hbv : Below lo w1 wv := by rw [hwv]; exact hBn
                obtain ⟨hcv, hfv, -, -, hgv⟩ := hov.top.at
                have cv := hcv n1 (.slice (some ⟨wr.heap.size, 0, none⟩) 4 4) (by rw [List.getElem?_set]; simp; omega)
                have fv := hfv n1
                have hbw2 : Below wv.heap.size wv (wv.alloc (.cells #[.int .i64 (-1), .int .i64 1, .int .i64 1, .int .i64 (-1)] 3)) := (Below.refl _ _).alloc (Nat.le_refl _) _
                have hrow2 : OwnV 3 wv.heap.size (wv.heap.size + 1) (wv.alloc (.cells #[.int .i64 (-1), .int .i64 1, .int .i64 1, .int .i64 (-1)] 3)) (.slice (some ⟨wv.heap.size, 0, none⟩) 4 4) (ints [-1, 1, 1, -1]) := OwnV.lit 3 wv (ints [-1, 1, 1, -1]) (by simp [maxLen])
                have hO2 := hov.kept hbw2 (Nat.le_refl _)
                have hst2 := hO2.setRow (g := g) (k := n1) rfl (by rw [List.length_set]; omega) hrow2 (Nat.le_refl _) (by omega) (by omega)
                have hBn2 : Below lo w1 ((wv.alloc (.cells #[.int .i64 (-1), .int .i64 1, .int .i64 1, .int .i64 (-1)] 3)).setCell ⟨g, n1, none⟩ (.slice (some ⟨wv.heap.size, 0, none⟩) 4 4)) := (hbv.trans (hbw2.mono (by omega))).setCell hg0 _
                have hworld2 : (wv.alloc (.cells #[.int .i64 (-1), .int .i64 1, .int .i64 1, .int .i64 (-1)] 3)).setCell ⟨g, n1, none⟩ (.slice (some ⟨wv.heap.size, 0, none⟩) 4 4) = (wv.setCell ⟨g, n1, none⟩ (.slice (some ⟨wv.heap.size, 0, none⟩) 4 4)).alloc (.cells #[.int .i64 (-1), .int .i64 1, .int .i64 1, .int .i64 (-1)] 3) := by
                  rw [World.setCell_alloc_past]
                  exact hgv
                rw [hworld2] at hst2 hBn2
                have cv' : (wv.alloc (.cells #[.int .i64 (-1), .int .i64 1, .int .i64 1, .int .i64 (-1)] 3)).cell? ⟨g, n1, none⟩ = some (.slice (some ⟨wr.heap.size, 0, none⟩) 4 4) := keepAt hbw2 hgv cv
                have fv' : (wv.alloc (.cells #[.int .i64 (-1), .int .i64 1, .int .i64 1, .int .i64 (-1)] 3)).frozen? ⟨g, n1, none⟩ = false := by rw [hbw2.frozen (p := ⟨g, n1, none⟩) hgv]; exact fv
                have HST2 := Lib.hid hst2
                have HWV := Lib.hid hwv
                have HZV := Lib.hid hzv
                clear hov hcv hfv hO2 hrow2 hst2 hwv cv fv hzv
                go_upto_region 13 with fail
                rw [← HWV.out]
                go_wp2
                go_roundw
                case rel => exact ⟨2, by omega, rfl, _, by
                  have h9 := HST2.out
                  unfold sumRows
                  rw [HSET.out, HSG.out]
                  rw [List.set_set] at h9
                  exact h9.weaken (Nat.le_refl _) (by rw [World.size_alloc, World.size_setCell]; exact Nat.le_refl _), hBn2⟩
                case measure => simp [intOf]
              · have hkz : ((1 : Int) == m) = false := by simp [hkm]
                have HSG := Lib.hid (show signRow m 1 = [1, -1, -1, 1] by unfold signRow; rw [if_neg (by exact_mod_cast hkm)])
                clear hkm
                go_wp2
                go_roundw
                case rel => exact ⟨2, by omega, rfl, _, by
                  have h9 := HST.out
                  unfold sumRows
                  rw [HSET.out, HSG.out]
                  exact h9.weaken (Nat.le_refl _) (by rw [World.size_alloc, World.size_setCell]; omega), hBn⟩
                case measure => simp [intOf]
            · rw [show ((2 : Nat) : Int) = (2 : Int) from rfl]
              obtain ⟨u, hu⟩ : ∃ u, vs[n2]? = some u := ⟨_, List.getElem?_eq_getElem (by omega)⟩
              have cu := hcl n2 u hu
              have hjl : (n2 : Int) < (k : Int) := by omega
              have hj0 : (0 : Int) ≤ (n2 : Int) := by omega
              have fu := hfz n2
              have hset : setK Y F0 F1 S0 S1 2 = n2 := HK.out.2.2.1
              have HSET := Lib.hid hset
              have hbw : Below wr.heap.size wr (wr.alloc (.cells #[.int .i64 1, .int .i64 (-1), .int .i64 (-1), .int .i64 1] 3)) := (Below.refl _ _).alloc (Nat.le_refl _) _
              have hrow : OwnV 3 wr.heap.size (wr.heap.size + 1) (wr.alloc (.cells #[.int .i64 1, .int .i64 (-1), .int .i64 (-1), .int .i64 1] 3)) (.slice (some ⟨wr.heap.size, 0, none⟩) 4 4) (ints [1, -1, -1, 1]) := OwnV.lit 3 wr (ints [1, -1, -1, 1]) (by simp [maxLen])
              have hO1 := hO.kept hbw (Nat.le_refl _)
              have hst := hO1.setRow (g := g) (k := n2) rfl (by omega) hrow (Nat.le_refl _) (by omega) (by omega)
              have hBn : Below lo w1 ((wr.alloc (.cells #[.int .i64 1, .int .i64 (-1), .int .i64 (-1), .int .i64 1] 3)).setCell ⟨g, n2, none⟩ (.slice (some ⟨wr.heap.size, 0, none⟩) 4 4)) := (hB.trans (hbw.mono (by omega))).setCell hg0 _
              have hworld : (wr.alloc (.cells #[.int .i64 1, .int .i64 (-1), .int .i64 (-1), .int .i64 1] 3)).setCell ⟨g, n2, none⟩ (.slice (some ⟨wr.heap.size, 0, none⟩) 4 4) = (wr.setCell ⟨g, n2, none⟩ (.slice (some ⟨wr.heap.size, 0, none⟩) 4 4)).alloc (.cells #[.int .i64 1, .int .i64 (-1), .int .i64 (-1), .int .i64 1] 3) := by
                rw [World.setCell_alloc_past]
                exact hgl
              rw [hworld] at hst hBn
              have cu' : (wr.alloc (.cells #[.int .i64 1, .int .i64 (-1), .int .i64 (-1), .int .i64 1] 3)).cell? ⟨g, n2, none⟩ = some u := keepAt hbw hgl cu
              have fu' : (wr.alloc (.cells #[.int .i64 1, .int .i64 (-1), .int .i64 (-1), .int .i64 1] 3)).frozen? ⟨g, n2, none⟩ = false := by rw [hbw.frozen (p := ⟨g, n2, none⟩) hgl]; exact fu
              have HST := Lib.hid hst
              clear hset hu hcl hfz hO1 hrow hst hO
              by_cases hkm : (2 : Int) = m
              · have hkz : ((2 : Int) == m) = true := by simp [hkm]
                have HSG := Lib.hid (show signRow m 2 = [-1, 1, 1, -1] by unfold signRow; rw [if_pos (by exact_mod_cast hkm)])
                clear hkm
                obtain ⟨wv, hwv⟩ : ∃ wv, wv = (wr.setCell ⟨g, n2, none⟩ (.slice (some ⟨wr.heap.size, 0, none⟩) 4 4)).alloc (.cells #[.int .i64 1, .int .i64 (-1), .int .i64 (-1), .int .i64 1] 3) := ⟨_, rfl⟩
                have hzv : wv.heap.size = wr.heap.size + 1 := by rw [hwv, World.size_alloc, World.size_setCell]
                have hov : OwnII 27 3 lo wv.heap.size wv (.slice (some ⟨g, 0, none⟩) k c) ((sumRows k Y F0 F1 S0 S1 m 2).set n2 [1, -1, -1, 1]) (vs.set n2 (.slice (some ⟨wr.heap.size, 0, none⟩) 4 4)) := by rw [hwv]; simpa only [World.size_setCell, World.size_alloc] using HST.out
                have hbv : Below lo w1 wv := by rw [hwv]; exact hBn
                obtain ⟨hcv, hfv, -, -, hgv⟩ := hov.top.at
                have cv := hcv n2 (.slice (some ⟨wr.heap.size, 0, none⟩) 4 4) (by rw [List.getElem?_set]; simp; omega)
                have fv := hfv n2
                have hbw2 : Below wv.heap.size wv (wv.alloc (.cells #[.int .i64 (-1), .int .i64 1, .int .i64 1, .int .i64 (-1)] 3)) := (Below.refl _ _).alloc (Nat.le_refl _) _
                have hrow2 : OwnV 3 wv.heap.size (wv.heap.size + 1) (wv.alloc (.cells #[.int .i64 (-1), .int .i64 1, .int .i64 1, .int .i64 (-1)] 3)) (.slice (some ⟨wv.heap.size, 0, none⟩) 4 4) (ints [-1, 1, 1, -1]) := OwnV.lit 3 wv (ints [-1, 1, 1, -1]) (by simp [maxLen])
                have hO2 := hov.kept hbw2 (Nat.le_refl _)
                have hst2 := hO2.setRow (g := g) (k := n2) rfl (by rw [List.length_set]; omega) hrow2 (Nat.le_refl _) (by omega) (by omega)
                have hBn2 : Below lo w1 ((wv.alloc (.cells #[.int .i64 (-1), .int .i64 1, .int .i64 1, .int .i64 (-1)] 3)).setCell ⟨g, n2, none⟩ (.slice (some ⟨wv.heap.size, 0, none⟩) 4 4)) := (hbv.trans (hbw2.mono (by omega))).setCell hg0 _
                have hworld2 : (wv.alloc (.cells #[.int .i64 (-1), .int .i64 1, .int .i64 1, .int .i64 (-1)] 3)).setCell ⟨g, n2, none⟩ (.slice (some ⟨wv.heap.size, 0, none⟩) 4 4) = (wv.setCell ⟨g, n2, none⟩ (.slice (some ⟨wv.heap.size, 0, none⟩) 4 4)).alloc (.cells #[.int .i64 (-1), .int .i64 1, .int .i64 1, .int .i64 (-1)] 3) := by
                  rw [World.setCell_alloc_past]
                  exact hgv
                rw [hworld2] at hst2 hBn2
                have cv' : (wv.alloc (.cells #[.int .i64 (-1), .int .i64 1, .int .i64 1, .int .i64 (-1)] 3)).cell? ⟨g, n2, none⟩ = some (.slice (some ⟨wr.heap.size, 0, none⟩) 4 4) := keepAt hbw2 hgv cv
                have fv' : (wv.alloc (.cells #[.int .i64 (-1), .int .i64 1, .int .i64 1, .int .i64 (-1)] 3)).frozen? ⟨g, n2, none⟩ = false := by rw [hbw2.frozen (p := ⟨g, n2, none⟩) hgv]; exact fv
                have HST2 := Lib.hid hst2
                have HWV := Lib.hid hwv
                have HZV := Lib.hid hzv
                clear hov hcv hfv hO2 hrow2 hst2 hwv cv fv hzv
                go_upto_region 13 with fail
                rw [← HWV.out]
                go_wp2
                go_roundw
                case rel => exact ⟨3, by omega, rfl, _, by
                  have h9 := HST2.out
                  unfold sumRows
                  rw [HSET.out, HSG.out]
                  rw [List.set_set] at h9
                  exact h9.weaken (Nat.le_refl _) (by rw [World.size_alloc, World.size_setCell]; exact Nat.le_refl _), hBn2⟩
                case measure => simp [intOf]
              · have hkz : ((2 : Int) == m) = false := by simp [hkm]
                have HSG := Lib.hid (show signRow m 2 = [1, -1, -1, 1] by unfold signRow; rw [if_neg (by exact_mod_cast hkm)])
                clear hkm
                go_wp2
                go_roundw
                case rel => exact ⟨3, by omega, rfl, _, by
                  have h9 := HST.out
                  unfold sumRows
                  rw [HSET.out, HSG.out]
                  exact h9.weaken (Nat.le_refl _) (by rw [World.size_alloc, World.size_setCell]; omega), hBn⟩
                case measure => simp [intOf]
            · rw [show ((3 : Nat) : Int) = (3 : Int) from rfl]
              obtain ⟨u, hu⟩ : ∃ u, vs[n3]? = some u := ⟨_, List.getElem?_eq_getElem (by omega)⟩
              have cu := hcl n3 u hu
              have hjl : (n3 : Int) < (k : Int) := by omega
              have hj0 : (0 : Int) ≤ (n3 : Int) := by omega
              have fu := hfz n3
              have hset : setK Y F0 F1 S0 S1 3 = n3 := HK.out.2.2.2
              have HSET := Lib.hid hset
              have hbw : Below wr.heap.size wr (wr.alloc (.cells #[.int .i64 1, .int .i64 (-1), .int .i64 (-1), .int .i64 1] 3)) := (Below.refl _ _).alloc (Nat.le_refl _) _
              have hrow : OwnV 3 wr.heap.size (wr.heap.size + 1) (wr.alloc (.cells #[.int .i64 1, .int .i64 (-1), .int .i64 (-1), .int .i64 1] 3)) (.slice (some ⟨wr.heap.size, 0, none⟩) 4 4) (ints [1, -1, -1, 1]) := OwnV.lit 3 wr (ints [1, -1, -1, 1]) (by simp [maxLen])
              have hO1 := hO.kept hbw (Nat.le_refl _)
              have hst := hO1.setRow (g := g) (k := n3) rfl (by omega) hrow (Nat.le_refl _) (by omega) (by omega)
              have hBn : Below lo w1 ((wr.alloc (.cells #[.int .i64 1, .int .i64 (-1), .int .i64 (-1), .int .i64 1] 3)).setCell ⟨g, n3, none⟩ (.slice (some ⟨wr.heap.size, 0, none⟩) 4 4)) := (hB.trans (hbw.mono (by omega))).setCell hg0 _
              have hworld : (wr.alloc (.cells #[.int .i64 1, .int .i64 (-1), .int .i64 (-1), .int .i64 1] 3)).setCell ⟨g, n3, none⟩ (.slice (some ⟨wr.heap.size, 0, none⟩) 4 4) = (wr.setCell ⟨g, n3, none⟩ (.slice (some ⟨wr.heap.size, 0, none⟩) 4 4)).alloc (.cells #[.int .i64 1, .int .i64 (-1), .int .i64 (-1), .int .i64 1] 3) := by
                rw [World.setCell_alloc_past]
                exact hgl
              rw [hworld] at hst hBn
              have cu' : (wr.alloc (.cells #[.int .i64 1, .int .i64 (-1), .int .i64 (-1), .int .i64 1] 3)).cell? ⟨g, n3, none⟩ = some u := keepAt hbw hgl cu
              have fu' : (wr.alloc (.cells #[.int .i64 1, .int .i64 (-1), .int .i64 (-1), .int .i64 1] 3)).frozen? ⟨g, n3, none⟩ = false := by rw [hbw.frozen (p := ⟨g, n3, none⟩) hgl]; exact fu
              have HST := Lib.hid hst
              clear hset hu hcl hfz hO1 hrow hst hO
              by_cases hkm : (3 : Int) = m
              · have hkz : ((3 : Int) == m) = true := by simp [hkm]
                have HSG := Lib.hid (show signRow m 3 = [-1, 1, 1, -1] by unfold signRow; rw [if_pos (by exact_mod_cast hkm)])
                clear hkm
                obtain ⟨wv, hwv⟩ : ∃ wv, wv = (wr.setCell ⟨g, n3, none⟩ (.slice (some ⟨wr.heap.size, 0, none⟩) 4 4)).alloc (.cells #[.int .i64 1, .int .i64 (-1), .int .i64 (-1), .int .i64 1] 3) := ⟨_, rfl⟩
                have hzv : wv.heap.size = wr.heap.size + 1 := by rw [hwv, World.size_alloc, World.size_setCell]
                have hov : OwnII 27 3 lo wv.heap.size wv (.slice (some ⟨g, 0, none⟩) k c) ((sumRows k Y F0 F1 S0 S1 m 3).set n3 [1, -1, -1, 1]) (vs.set n3 (.slice (some ⟨wr.heap.size, 0, none⟩) 4 4)) := by rw [hwv]; simpa only [World.size_setCell, World.size_alloc] using HST.out
                have hbv : Below lo w1 wv := by rw [hwv]; exact hBn
                obtain ⟨hcv, hfv, -, -, hgv⟩ := hov.top.at
                have cv := hcv n3 (.slice (some ⟨wr.heap.size, 0, none⟩) 4 4) (by rw [List.getElem?_set]; simp; omega)
                have fv := hfv n3
                have hbw2 : Below wv.heap.size wv (wv.alloc (.cells #[.int .i64 (-1), .int .i64 1, .int .i64 1, .int .i64 (-1)] 3)) := (Below.refl _ _).alloc (Nat.le_refl _) _
                have hrow2 : OwnV 3 wv.heap.size (wv.heap.size + 1) (wv.alloc (.cells #[.int .i64 (-1), .int .i64 1, .int .i64 1, .int .i64 (-1)] 3)) (.slice (some ⟨wv.heap.size, 0, none⟩) 4 4) (ints [-1, 1, 1, -1]) := OwnV.lit 3 wv (ints [-1, 1, 1, -1]) (by simp [maxLen])
                have hO2 := hov.kept hbw2 (Nat.le_refl _)
                have hst2 := hO2.setRow (g := g) (k := n3) rfl (by rw [List.length_set]; omega) hrow2 (Nat.le_refl _) (by omega) (by omega)
                have hBn2 : Below lo w1 ((wv.alloc (.cells #[.int .i64 (-1), .int .i64 1, .int .i64 1, .int .i64 (-1)] 3)).setCell ⟨g, n3, none⟩ (.slice (some ⟨wv.heap.size, 0, none⟩) 4 4)) := (hbv.trans (hbw2.mono (by omega))).setCell hg0 _
                have hworld2 : (wv.alloc (.cells #[.int .i64 (-1), .int .i64 1, .int .i64 1, .int .i64 (-1)] 3)).setCell ⟨g, n3, none⟩ (.slice (some ⟨wv.heap.size, 0, none⟩) 4 4) = (wv.setCell ⟨g, n3, none⟩ (.slice (some ⟨wv.heap.size, 0, none⟩) 4 4)).alloc (.cells #[.int .i64 (-1), .int .i64 1, .int .i64 1, .int .i64 (-1)] 3) := by
                  rw [World.setCell_alloc_past]
                  exact hgv
                rw [hworld2] at hst2 hBn2
                have cv' : (wv.alloc (.cells #[.int .i64 (-1), .int .i64 1, .int .i64 1, .int .i64 (-1)] 3)).cell? ⟨g, n3, none⟩ = some (.slice (some ⟨wr.heap.size, 0, none⟩) 4 4) := keepAt hbw2 hgv cv
                have fv' : (wv.alloc (.cells #[.int .i64 (-1), .int .i64 1, .int .i64 1, .int .i64 (-1)] 3)).frozen? ⟨g, n3, none⟩ = false := by rw [hbw2.frozen (p := ⟨g, n3, none⟩) hgv]; exact fv
                have HST2 := Lib.hid hst2
                have HWV := Lib.hid hwv
                have HZV := Lib.hid hzv
                clear hov hcv hfv hO2 hrow2 hst2 hwv cv fv hzv
                go_upto_region 13 with fail
                rw [← HWV.out]
                go_wp2
                go_roundw
                case rel => exact ⟨4, by omega, rfl, _, by
                  have h9 := HST2.out
                  unfold sumRows
                  rw [HSET.out, HSG.out]
                  rw [List.set_set] at h9
                  exact h9.weaken (Nat.le_refl _) (by rw [World.size_alloc, World.size_setCell]; exact Nat.le_refl _), hBn2⟩
                case measure => simp [intOf]
              · have hkz : ((3 : Int) == m) = false := by simp [hkm]
                have HSG := Lib.hid (show signRow m 3 = [1, -1, -1, 1] by unfold signRow; rw [if_neg (by exact_mod_cast hkm)])
                clear hkm
                go_wp2
                go_roundw
                case rel => exact ⟨4, by omega, rfl, _, by
                  have h9 := HST.out
                  unfold sumRows
                  rw [HSET.out, HSG.out]
                  exact h9.weaken (Nat.le_refl _) (by rw [World.size_alloc, World.size_setCell]; omega), hBn⟩
                case measure => simp [intOf]
            · have HOO := Lib.hid hO
              clear hO hcl hfz
              go_wp2
              go_ret2
              rw [HD.out, HOK.out]
              exact ⟨_, c, vs, by rw [sumRows_len]; rfl, by rw [sumRows_len]; exact HOO.out.weaken (by omega) (Nat.le_refl _), B1'.trans (hB.mono (by omega))⟩
    · have HOK := Lib.hid (show sumFOk x y fa fb sa sb m = false by unfold sumFOk sum4B; rw [hs1, hok]; rfl)
      have HD := Lib.hid (show sumFD x y fa fb sa sb m = [] by unfold sumFD; rw [HOK.out]; rfl)
      rw [hok]
      clear hok hs1
      go_wp2
      go_ret2
      rw [HD.out, HOK.out]
      exact RowsRes.zero B1
  · have HOK := Lib.hid (show sumFOk x y fa fb sa sb m = false by unfold sumFOk sum4B; rw [hs1]; rfl)
    have HD := Lib.hid (show sumFD x y fa fb sa sb m = [] by unfold sumFD; rw [HOK.out]; rfl)
    go_enter Try.func38, Try.ntmps38
    go_wp2_with (go_at_call 61; refine (areQuestions_any _ _ _).mono ?_; rintro e w' ⟨rfl, rfl⟩)
    go_ret2
    rw [HD.out, HOK.out]
    exact RowsRes.zero (by repeat' (first | with_reducible exact Below.refl _ _ | with_reducible assumption | with_reducible apply Below.alloc | with_reducible apply Below.setCell | with_reducible apply Below.drew | exact Nat.le_refl _ | omega | (simp only [World.size_alloc, World.size_setCell]; omega)))
end Go.Proofs.Ytnmnmnpeoiblhaa
