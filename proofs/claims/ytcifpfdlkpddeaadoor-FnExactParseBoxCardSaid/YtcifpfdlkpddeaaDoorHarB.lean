/- Contracts of the laws' own helpers over a slice of slices of ints. -/
import Derived.Test.YtcifpfdlkpddeaaDoorHarA
import Derived.Deep.RegionWith
set_option linter.unusedSimpArgs false
set_option linter.unusedVariables false
namespace Go.Proofs.YtcifpfdlkpddeaaDoor
open Go.RowKit

theorem Tryd.infoInts : (Tryd.prog.info? 34).map (fun i => (i.zero, i.size, i.bytes)) = some (some (.slice none 0 0), 1, 24) := by kernel_rfl




set_option maxHeartbeats 400000 in
theorem eqIntSS_any (v1 v2 : Value) (xs ys : List (List Int)) (w : World) (h1 : RdII w v1 xs) (h2 : RdII w v2 ys) :
    Calls Tryd.prog 21 #[v1, v2] w fun e w' => e = .returned (.bool (decide (xs = ys))) ∧ Drw w w' := by
  obtain ⟨a1, b1, o1, c1, rfl, m1, e1, k1⟩ := h1
  obtain ⟨a2, b2, o2, c2, rfl, m2, e2, k2⟩ := h2
  unfold maxLen at m1 m2
  by_cases hl : xs.length = ys.length
  · have hlz : ((xs.length : Int) != (ys.length : Int)) = false := by rw [hl]; simp
    have H := Lib.hid hl
    clear hl
    go_enter Tryd.func21, Tryd.ntmps21
    go_wp2
    go_loopw [5] (fun i wr => ∃ k : Nat, k ≤ xs.length ∧ i = .int .i64 k ∧ (∀ j, j < k → xs[j]? = ys[j]?) ∧ Drw w wr) (fun i _ => xs.length - (intOf i).toNat)
    case atStart => exact ⟨0, by omega, rfl, fun j hj => by omega, Drw.refl _⟩
    case round =>
      obtain ⟨k, hk, rfl, hj, hd⟩ := hrel
      by_cases hlt : k < xs.length
      · have hlt2 : k < ys.length := by rw [← H.out]; exact hlt
        obtain rfl := e1 (by omega)
        obtain rfl := e2 (by omega)
        obtain ⟨u1, hx, r1⟩ := k1 k _ (List.getElem?_eq_getElem hlt)
        rw [← hd.cell] at hx
        obtain ⟨u2, hy, r2⟩ := k2 k _ (List.getElem?_eq_getElem hlt2)
        rw [← hd.cell] at hy
        clear k1 k2
        have r1' : ∀ m, RdI (wr.drewN m) u1 xs[k] := fun m => (r1.drw hd).drw (Drw.mk _ _)
        have r2' : ∀ m, RdI (wr.drewN m) u2 ys[k] := fun m => (r2.drw hd).drw (Drw.mk _ _)
        by_cases he : xs[k] = ys[k]
        · have hez : decide (xs[k] = ys[k]) = true := by simp [he]
          have HE := Lib.hid he
          clear he
          go_wp2
          go_quiet ((go_at_call 35; exact quietDrw (eqIntS_any u1 u2 _ _ _ (r1' _) (r2' _))))
          go_wp2
          go_roundw
          case rel => exact ⟨k + 1, by omega, by go_num, fun j hjk => by
            by_cases e : j = k
            · subst e; rw [List.getElem?_eq_getElem hlt, List.getElem?_eq_getElem hlt2, HE.out]
            · exact hj j (by omega), hd.trans (Drw.mk _ _)⟩
          case measure => simp [intOf]; omega
        · have hez : decide (xs[k] = ys[k]) = false := by simp [he]
          have HE := Lib.hid he
          clear he
          go_wp2
          go_quiet ((go_at_call 35; exact quietDrw (eqIntS_any u1 u2 _ _ _ (r1' _) (r2' _))))
          go_wp2
          go_ret
          exact ⟨ret_bool (lists_ne hlt hlt2 HE.out), hd.trans (Drw.mk _ _)⟩
      · go_wp2
        go_ret
        obtain rfl : k = xs.length := by omega
        exact ⟨ret_bool (lists_eq H.out hj), hd⟩
  · have hlz : ((xs.length : Int) != (ys.length : Int)) = true := by simp; omega
    go_enter Tryd.func21, Tryd.ntmps21
    go_wp2
    go_ret
    exact ⟨ret_bool (lists_len hl), Drw.refl _⟩

set_option maxHeartbeats 400000 in
theorem markIntSS_any (T2 T1 lo hi : Nat) (v : Value) (rss : List (List Int)) (vs : List Value) (k : Int) (w : World) (h : OwnII T2 T1 lo hi w v rss vs) (hn : rss.length + sumLen rss ≤ 4194304) (h0 : 0 ≤ k) (hk : k ≤ 1073741824) :
    Calls Tryd.prog 22 #[v, .int .i64 k] w fun e w' => e = .returned (.int .i64 (k + (sumLen rss : Int))) ∧ OwnII T2 T1 lo hi w' v (markRows k rss) vs ∧ Mid lo hi w w' := by
  obtain ⟨a, g, cap, hv, hm, ha, hc, hf⟩ := h.top.shape
  have hlen := h.len
  rw [hv]
  go_enter Tryd.func22, Tryd.ntmps22
  go_wp2
  go_loopw [1, 5] (fun s1 s5 wr => ∃ j : Nat, j ≤ vs.length ∧ s5 = .int .i64 j ∧ s1 = .int .i64 (k + (sumLen (rss.take j) : Int)) ∧ ∃ rss' : List (List Int), rss'.length = rss.length ∧ OwnII T2 T1 lo hi wr v rss' vs ∧ (∀ i, i < j → rss'[i]? = (markRows k rss)[i]?) ∧ (∀ i, j ≤ i → rss'[i]? = rss[i]?) ∧ Mid lo hi w wr) (fun _ s5 _ => vs.length - (intOf s5).toNat)
  case atStart => exact ⟨0, by omega, rfl, by simp [sumLen], rss, rfl, h, fun i hi => by omega, fun i _ => rfl, Mid.refl _ _ _⟩
  case round =>
    obtain ⟨j, hj, rfl, rfl, rss', hl, how, hmk, hrest, hmid⟩ := hrel
    by_cases hlt : j < vs.length
    · obtain ⟨rfl, _, _, _⟩ := ha (by omega)
      obtain ⟨a', g', cap', hv', _, ha', hc', hf'⟩ := how.top.shape
      obtain ⟨rfl, _, _, _⟩ := ha' (by omega)
      have hgg : g = g' := by have := hv.symm.trans hv'; simp at this; exact this.1
      subst hgg
      obtain ⟨u0, hu0⟩ : ∃ u0, vs[j]? = some u0 := ⟨_, List.getElem?_eq_getElem (by omega)⟩
      have hc1 : wr.cell? ⟨g, j, none⟩ = some u0 := hc' j _ hu0
      obtain ⟨rs, hrs⟩ : ∃ rs, rss[j]? = some rs := ⟨_, List.getElem?_eq_getElem (by omega)⟩
      have hrs' : rss'[j]? = some rs := by rw [hrest j (Nat.le_refl _)]; exact hrs
      have hown := how.row j u0 rs hu0 hrs'
      have hb0 := sumLen_row rss j rs hrs
      have hvl : vs.length ≤ 4194304 := by omega
      have HV := Lib.hid hv
      have HU := Lib.hid hu0
      have HR := Lib.hid hrs
      have HL := Lib.hid hl
      have HN := Lib.hid hlen
      clear hv hv' hc hf hc' hf' ha ha' h hu0 hrs hrs' hl hlen
      go_wp2_with (go_at_call 36; refine (markIntS_any T1 lo hi u0 (ints rs) (k + (sumLen (rss.take j) : Int)) _ hown (by rw [ints_length]; omega) (by omega) (by omega)).mono ?_; rw [ints_length]; rintro e w1 ⟨rfl, ho1, hg1⟩)
      have hch := how.rowChanged HU.out hg1 ho1
      have hm2 := hmid.trans (Mid.of_grown hg1 (fun g' hg' => by have := hown.lt g' hg'; omega))
      go_roundw
      case rel => exact ⟨j + 1, by omega, by go_num, by rw [sumLen_take rss j rs HR.out]; go_num, _, by rw [List.length_set]; exact HL.out, hch, fun i hi => by
        rw [List.getElem?_set]
        by_cases e : j = i
        · subst e; rw [if_pos rfl, if_pos (by rw [HL.out, ← HN.out]; exact hlt), markRows_get k rss j rs HR.out]
        · rw [if_neg e]; exact hmk i (by omega), fun i hi => by rw [List.getElem?_set, if_neg (by omega)]; exact hrest i (by omega), hm2⟩
      case measure => simp [intOf]; omega
    · have HV := Lib.hid hv
      clear hv
      go_wp2
      go_ret
      obtain rfl : j = vs.length := by omega
      obtain rfl : rss' = markRows k rss := eq_of_get (by rw [markRows_length, hl]) (fun i hi => hmk i (by omega))
      refine ⟨ret_int (by rw [hlen, List.take_length]), by rw [← HV.out]; exact how, hmid⟩

set_option maxHeartbeats 400000 in
theorem heldIntSS_any (v : Value) (rss : List (List Int)) (k : Int) (w : World) (h : RdII w v (markRows k rss)) (hn : rss.length + sumLen rss ≤ 4194304) (h0 : 0 ≤ k) (hk : k ≤ 1073741824) :
    Calls Tryd.prog 23 #[v, .int .i64 k] w fun e w' => e = .returned (.int .i64 (k + (sumLen rss : Int))) ∧ w = w' := by
  obtain ⟨a, b, off, cap, hv, hm, ha, hc⟩ := h
  rw [markRows_length] at hv hm ha
  subst hv
  go_enter Tryd.func23, Tryd.ntmps23
  go_wp2
  go_loop [1, 5] (fun s1 s5 => ∃ j : Nat, j ≤ rss.length ∧ s5 = .int .i64 j ∧ s1 = .int .i64 (k + (sumLen (rss.take j) : Int))) (fun _ s5 => rss.length - (intOf s5).toNat)
  case atStart => exact ⟨0, by omega, rfl, by simp [sumLen]⟩
  case round =>
    obtain ⟨j, hj, rfl, rfl⟩ := hrel
    by_cases hlt : j < rss.length
    · obtain rfl := ha (by omega)
      obtain ⟨rs, hrs⟩ : ∃ rs, rss[j]? = some rs := ⟨_, List.getElem?_eq_getElem (by omega)⟩
      obtain ⟨u, hcell, hrd⟩ := hc j _ (markRows_get k rss j rs hrs)
      have hb0 := sumLen_row rss j rs hrs
      have HR := Lib.hid hrs
      clear hc hrs
      go_wp2_with (go_at_call 37; refine (heldIntS_any u rs.length (k + (sumLen (rss.take j) : Int)) _ hrd (by omega) (by omega) (by omega)).mono ?_; rintro e w1 ⟨rfl, rfl⟩)
      go_round
      case rel => exact ⟨j + 1, by omega, by go_num, by rw [sumLen_take rss j rs HR.out]; go_num⟩
      case measure => simp [intOf]; omega
    · go_wp2
      go_ret
      obtain rfl : j = rss.length := by omega
      exact ⟨ret_int (by rw [List.take_length]), rfl⟩
end Go.Proofs.YtcifpfdlkpddeaaDoor
