/- FlipPlay: contract of the program's function. The reference's copy of a list: contract. ProductBox: contracts of the program's and the reference's function. -/
import Derived.Test.YtnmnmnpeoiblhaaNbam
import Derived.Test.YtnmnmnpeoiblhaaNbab
import Derived.Test.YtnmnmnpeoiblhaaNbag
import Derived.Test.YtnmnmnpeoiblhaaNbai
set_option linter.unusedSimpArgs false
set_option linter.unusedVariables false
namespace Go.Proofs.Ytnmnmnpeoiblhaa
open Go.RowKit

set_option maxHeartbeats 1600000 in
theorem implFlipPlay_any (x y : Int) (v1 : Value) (ps : List Int) (v2 : Value) (fs : List Int) (w : World) (h1 : RdI w v1 ps) (h2 : RdI w v2 fs) (hcap : ∀ c : Nat, v1 = .slice none 0 c → c = 0) :
    Calls Try.prog 17 #[.int .i64 x, .int .i64 y, v1, v2] w (IntsRes w (flipD x y ps fs) (flipOk x y ps fs)) := by
  have h1' := h1
  have h2' := h2
  obtain ⟨a1, b1, o1, c1, rfl, m1, e1, k1⟩ := h1
  obtain ⟨a2, b2, o2, c2, rfl, m2, e2, k2⟩ := h2
  clear e1 k1
  unfold maxLen at m1 m2
  rcases Bool.eq_false_or_eq_true (sizesB x y) with hs | hs
  · obtain ⟨hx, hy⟩ := sizesB_iff.1 hs
    rcases Bool.eq_false_or_eq_true (bitsB ps (x + y)) with hp | hp
    · rcases Bool.eq_false_or_eq_true (bitsB fs (x + y)) with hf | hf
      · have hok : flipOk x y ps fs = true := by unfold flipOk; rw [hs, hp, hf]; rfl
        have hD : flipD x y ps fs = flipL ps fs := by unfold flipD; rw [hok]; simp
        have HD := Lib.hid hD
        have HK := Lib.hid hok
        have HP := Lib.hid (bitsB_iff.1 hp)
        have HF := Lib.hid (bitsB_iff.1 hf)
        have hn6 : ps.length ≤ 6 := by have := HP.out.2; omega
        have hnf : fs.length ≤ 6 := by have := HF.out.2; omega
        have HL := Lib.hid (show ps.length = fs.length by have a := HP.out.2; have b := HF.out.2; omega)
        clear hD hok
        go_enter Try.func17, Try.ntmps17
        go_wp2_with (first | (go_at_call 61; refine (areQuestions_any _ _ _).mono ?_; rintro e w' ⟨rfl, rfl⟩) | (go_at_call 48; (with_reducible refine (isPlay_any (.slice a1 ps.length c1) ps _ _ _ h1' hx hy).mono ?_); rintro e w' ⟨rfl, rfl⟩) | (go_at_call 48; refine (isPlay_any (.slice a2 fs.length c2) fs _ _ _ h2' hx hy).mono ?_; rintro e w' ⟨rfl, rfl⟩))
        refine (copied_any _ ps _ h1' hcap (by omega)).mono ?_
        rintro e w1 ⟨ac, cc, rfl, hO, hB⟩
        go_wp2
        go_loopw [35] (fun s wr => ∃ k : Nat, k ≤ fs.length ∧ s = .int .i64 k ∧ ∃ vs' : List Value, vs'.length = ps.length ∧ OwnV 3 w.heap.size w1.heap.size wr (.slice ac ps.length cc) vs' ∧ (∀ i, i < k → vs'[i]? = (ints (flipL ps fs))[i]?) ∧ (∀ i, k ≤ i → vs'[i]? = (ints ps)[i]?) ∧ Below w.heap.size w wr ∧ wr.heap.size = w1.heap.size) (fun s _ => fs.length - (intOf s).toNat)
        case atStart => exact ⟨0, by omega, rfl, _, by simp, hO, fun i hi => by omega, fun i _ => rfl, hB, rfl⟩
        case round =>
          clear hO hB
          obtain ⟨k, hk, rfl, vs', hl, how, hlo, hhi, hB, hsz⟩ := hrel
          by_cases hlt : k < fs.length
          · have hltp : k < ps.length := by rw [HL.out]; exact hlt
            obtain rfl := e2 (by omega)
            obtain ⟨p, hpk⟩ : ∃ p, ps[k]? = some p := ⟨_, List.getElem?_eq_getElem hltp⟩
            obtain ⟨f, hfk⟩ : ∃ f, fs[k]? = some f := ⟨_, List.getElem?_eq_getElem hlt⟩
            have hcf : wr.cell? ⟨b2, o2 + k, none⟩ = some (.int .i64 f) := by rw [hB.cell (p := ⟨b2, o2 + k, none⟩) (World.block_lt_of_cell? _ _ (k2 k f hfk))]; exact k2 k f hfk
            obtain ⟨a', g', cap', hv', _, ha', hc', hf'⟩ := how.shape
            obtain ⟨ea, hg1, hg2, hg3⟩ := ha' (by omega)
            have hac : ac = some ⟨g', 0, none⟩ := by simp at hv'; rw [← ea]; exact hv'.1
            subst hac
            have hcp : wr.cell? ⟨g', k, none⟩ = some (.int .i64 p) := hc' k _ (by rw [hhi k (Nat.le_refl _)]; simp [ints, hpk])
            have hfz : wr.frozen? ⟨g', k, none⟩ = false := hf' (by omega) k
            have hget := flipL_get hpk hfk
            have hp01 := allIn_get HP.out.1 hpk
            have hf01 := allIn_get HF.out.1 hfk
            obtain ⟨r, hxr, hr⟩ : ∃ r : Int, bits BinOp.xor IntKind.i64 p f = r ∧ (if p = f then 0 else 1) = r := by
              have hpv : p = 0 ∨ p = 1 := by omega
              have hfv : f = 0 ∨ f = 1 := by omega
              rcases hpv with rfl | rfl <;> rcases hfv with rfl | rfl <;> exact ⟨_, rfl, by decide +kernel⟩
            rw [hr] at hget
            have hset := how.set (g := g') (j := k) rfl (by omega) (.int .i64 r)
            have hB2 : Below w.heap.size w (wr.setCell ⟨g', k, none⟩ (.int .i64 r)) := hB.setCell (by exact hg1) _
            have HG := Lib.hid hget
            have HN := Lib.hid hl
            have HS := Lib.hid hsz
            have HLO := Lib.hid hlo
            have HHI := Lib.hid hhi
            clear hp01 hf01 hr hget hl hsz hlo hhi hpk hfk k2 hv' ea hc' hf' ha'
            go_wp2
            go_roundw
            case rel => exact ⟨k + 1, by omega, by go_num, _, by rw [List.length_set]; exact HN.out, hset, fun i hi => by
              rw [List.getElem?_set]
              by_cases e : k = i
              · subst e; rw [if_pos rfl, if_pos (by rw [HN.out]; exact hltp)]; simp [ints, HG.out]
              · rw [if_neg e]; exact HLO.out i (by omega), fun i hi => by rw [List.getElem?_set, if_neg (by omega)]; exact HHI.out i (by omega), hB2, by rw [World.size_setCell]; exact HS.out⟩
            case measure => simp [intOf]; omega
          · obtain rfl : k = fs.length := by omega
            have hfl : (flipL ps fs).length = ps.length := by simp [flipL, HL.out]
            have hvs : vs' = ints (flipL ps fs) := eq_of_get (by rw [hl, ints_length, hfl]) (fun i hi => hlo i (by have := HL.out; omega))
            have HV := Lib.hid hvs
            clear hvs hlo hhi hl
            go_wp2
            go_ret2
            rw [HD.out, HK.out]
            refine ⟨ac, cc, by rw [hfl]; rfl, ?_, hB⟩
            rw [hfl, ← HV.out, hsz]
            exact how
      · have hok : flipOk x y ps fs = false := by unfold flipOk; rw [hs, hp, hf]; rfl
        have hD : flipD x y ps fs = [] := by unfold flipD; rw [hok]; simp
        rw [hD, hok]
        clear hD hok k2 e2
        go_enter Try.func17, Try.ntmps17
        go_wp2_with (first | (go_at_call 61; refine (areQuestions_any _ _ _).mono ?_; rintro e w' ⟨rfl, rfl⟩) | (go_at_call 48; (with_reducible refine (isPlay_any (.slice a1 ps.length c1) ps _ _ _ h1' hx hy).mono ?_); rintro e w' ⟨rfl, rfl⟩) | (go_at_call 48; refine (isPlay_any (.slice a2 fs.length c2) fs _ _ _ h2' hx hy).mono ?_; rintro e w' ⟨rfl, rfl⟩))
        go_ret2
        exact IntsRes.zero (by repeat' (first | with_reducible exact Below.refl _ _ | with_reducible assumption | with_reducible apply Below.alloc | with_reducible apply Below.setCell | with_reducible apply Below.drew | exact Nat.le_refl _ | omega | (simp only [World.size_alloc, World.size_setCell]; omega)))
    · have hok : flipOk x y ps fs = false := by unfold flipOk; rw [hs, hp]; rfl
      have hD : flipD x y ps fs = [] := by unfold flipD; rw [hok]; simp
      rw [hD, hok]
      clear hD hok k2 e2
      go_enter Try.func17, Try.ntmps17
      go_wp2_with (first | (go_at_call 61; refine (areQuestions_any _ _ _).mono ?_; rintro e w' ⟨rfl, rfl⟩) | (go_at_call 48; refine (isPlay_any (.slice a1 ps.length c1) ps _ _ _ h1' hx hy).mono ?_; rintro e w' ⟨rfl, rfl⟩))
      go_ret2
      exact IntsRes.zero (by repeat' (first | with_reducible exact Below.refl _ _ | with_reducible assumption | with_reducible apply Below.alloc | with_reducible apply Below.setCell | with_reducible apply Below.drew | exact Nat.le_refl _ | omega | (simp only [World.size_alloc, World.size_setCell]; omega)))
  · have hok : flipOk x y ps fs = false := by unfold flipOk; rw [hs]; rfl
    have hD : flipD x y ps fs = [] := by unfold flipD; rw [hok]; simp
    rw [hD, hok]
    clear hD hok k2 e2
    go_enter Try.func17, Try.ntmps17
    go_wp2_with (first | (go_at_call 61; refine (areQuestions_any _ _ _).mono ?_; rintro e w' ⟨rfl, rfl⟩))
    go_ret2
    exact IntsRes.zero (by repeat' (first | with_reducible exact Below.refl _ _ | with_reducible assumption | with_reducible apply Below.alloc | with_reducible apply Below.setCell | with_reducible apply Below.drew | exact Nat.le_refl _ | omega | (simp only [World.size_alloc, World.size_setCell]; omega)))
end Go.Proofs.Ytnmnmnpeoiblhaa
set_option linter.unusedSimpArgs false
set_option linter.unusedVariables false
namespace Go.Proofs.Ytnmnmnpeoiblhaa
open Go.RowKit

set_option maxHeartbeats 400000 in
theorem l1Own_any (v : Value) (xs : List Int) (w : World) (h : RdI w v xs) (hcap : ∀ c : Nat, v = .slice none 0 c → c = 0) (hn : xs.length ≤ 1048576) :
    Calls Try.prog 65 #[v] w fun e w' => ∃ a c, e = .returned (.slice a xs.length c) ∧ OwnV 3 w.heap.size w'.heap.size w' (.slice a xs.length c) (ints xs) ∧ Below w.heap.size w w' := by
  have hE := OwnV.empty 3 w
  have hr := h.kept (Nat.le_refl _) (show Below w.heap.size w (w.alloc (.cells #[] 3)) from (by repeat' (first | with_reducible exact Below.refl _ _ | with_reducible assumption | with_reducible apply Below.alloc | with_reducible apply Below.setCell | with_reducible apply Below.drew | exact Nat.le_refl _ | omega | (simp only [World.size_alloc, World.size_setCell]; omega))))
  have hlo : w.heap.size ≤ (w.alloc (.cells #[] 3)).heap.size := (by first | exact Nat.le_refl _ | omega | (simp only [World.size_alloc, World.size_setCell]; omega))
  obtain ⟨av, cv, hv⟩ : ∃ a c, v = .slice a xs.length c := by obtain ⟨a, _, _, c, hv, _⟩ := h; exact ⟨a, c, hv⟩
  subst hv
  go_enter Try.func65, Try.ntmps65
  go_wp2_with (at_builtin; refine appendAll_own (vx := .slice av xs.length cv) rfl _ _ 27 3 rfl Try.underlying27 Try.infoInt hE rfl rfl hr (by simp only [List.length_nil]; omega) (by omega) hlo hcap ?_)
  intro a2 c2 w2 hO hg
  have hB : Below w.heap.size w w2 := Below.grown (by repeat' (first | with_reducible exact Below.refl _ _ | with_reducible assumption | with_reducible apply Below.alloc | with_reducible apply Below.setCell | with_reducible apply Below.drew | exact Nat.le_refl _ | omega | (simp only [World.size_alloc, World.size_setCell]; omega))) hg hlo (fun g hg' => (hE.lt g hg').1)
  go_wp2
  go_ret
  exact ⟨a2, c2, rfl, hO, hB⟩
end Go.Proofs.Ytnmnmnpeoiblhaa
set_option linter.unusedSimpArgs false
set_option linter.unusedVariables false
namespace Go.Proofs.Ytnmnmnpeoiblhaa
open Go.RowKit

def chancesB (xs : List Int) (m : Int) : Bool := allIn xs 0 m && inB xs.length 1 3
set_option maxHeartbeats 400000 in
theorem l2Chances_any (v : Value) (xs : List Int) (m : Int) (w : World) (h : RdI w v xs) :
    Calls Try.prog 110 #[v, .int .i64 m] w fun e w' => e = .returned (.bool (chancesB xs m)) ∧ w = w' := by
  obtain ⟨a, b, off, cap, rfl, hm, ha, hc⟩ := h
  unfold maxLen at hm
  go_enter Try.func110, Try.ntmps110
  go_wp2
  go_loop [5] (fun i => ∃ k : Nat, k ≤ xs.length ∧ i = .int .i64 k ∧ ∀ (j : Nat) (x : Int), j < k → xs[j]? = some x → inB x 0 m = true) (fun i => xs.length - (intOf i).toNat)
  case atStart => exact ⟨0, by omega, rfl, fun j x hj => by omega⟩
  case round =>
    obtain ⟨k, hk, rfl, hall⟩ := hrel
    have HA := Lib.hid hall
    clear hall
    by_cases hlt : k < xs.length
    · obtain rfl := ha (by omega)
      obtain ⟨x, hx⟩ : ∃ x, xs[k]? = some x := ⟨_, List.getElem?_eq_getElem hlt⟩
      have hcell := hc k x hx
      have HX := Lib.hid hx
      clear hc hx
      rcases Bool.eq_false_or_eq_true (inB x 0 m) with h1 | h1
      · go_wp2_with (go_at_call 104; refine (l1In_any _ _ _ _).mono ?_; rintro e w' ⟨rfl, rfl⟩)
        go_round
        case rel => exact ⟨k + 1, by omega, by go_num, fun j x' hj hx' => by
          by_cases e : j = k
          · subst e; rw [HX.out] at hx'; cases hx'; exact h1
          · exact HA.out j x' (by omega) hx'⟩
        case measure => simp [intOf]; omega
      · go_wp2_with (go_at_call 104; refine (l1In_any _ _ _ _).mono ?_; rintro e w' ⟨rfl, rfl⟩)
        go_ret
        exact ⟨ret_bool (by unfold chancesB; rw [allIn_false HX.out h1]; rfl), rfl⟩
    · go_wp2_with (go_at_call 104; refine (l1In_any _ _ _ _).mono ?_; rintro e w' ⟨rfl, rfl⟩)
      go_ret
      obtain rfl : k = xs.length := by omega
      refine ⟨ret_bool ?_, rfl⟩
      unfold chancesB
      rw [allIn_true (fun j x hx => HA.out j x (List.getElem?_eq_some_iff.1 hx).1 hx)]
      rw [Bool.true_and]
end Go.Proofs.Ytnmnmnpeoiblhaa
