/- FlipPlay: contracts of the program's and the reference's function. -/
import Derived.Test.YtnmnmnpeoiblhaaSuae
import Derived.Test.YtnmnmnpeoiblhaaSuag
import Derived.Test.YtnmnmnpeoiblhaaSuai
set_option linter.unusedSimpArgs false
set_option linter.unusedVariables false
namespace Go.Proofs.Ytnmnmnpeoiblhaa
open Go.RowKit

/-- A call handed back a slice of ints of its own and a bool. -/
def IntsRes (w : World) (xs : List Int) (ok : Bool) (e : Ending) (w' : World) : Prop :=
  ∃ a c, e = .returned (.tuple #[.slice a xs.length c, .bool ok]) ∧ OwnV 3 w.heap.size w'.heap.size w' (.slice a xs.length c) (ints xs) ∧ Below w.heap.size w w'
theorem IntsRes.zero {w w' : World} (h : Below w.heap.size w w') : IntsRes w [] false (.returned (.tuple #[.slice none 0 0, .bool false])) w' :=
  ⟨none, 0, rfl, OwnV.nil _ _ _ _, h⟩

set_option maxHeartbeats 400000 in
theorem copied_any (v : Value) (xs : List Int) (w : World) (h : RdI w v xs) (hcap : ∀ c : Nat, v = .slice none 0 c → c = 0) (hn : xs.length ≤ 1048576) :
    Calls Try.prog 67 #[v] w fun e w' => ∃ a c, e = .returned (.slice a xs.length c) ∧ OwnV 3 w.heap.size w'.heap.size w' (.slice a xs.length c) (ints xs) ∧ Below w.heap.size w w' := by
  have hE := OwnV.empty 3 w
  have hr := h.kept (Nat.le_refl _) (show Below w.heap.size w (w.alloc (.cells #[] 3)) from (by repeat' (first | with_reducible exact Below.refl _ _ | with_reducible assumption | with_reducible apply Below.alloc | with_reducible apply Below.setCell | with_reducible apply Below.drew | exact Nat.le_refl _ | omega | (simp only [World.size_alloc, World.size_setCell]; omega))))
  have hlo : w.heap.size ≤ (w.alloc (.cells #[] 3)).heap.size := (by first | exact Nat.le_refl _ | omega | (simp only [World.size_alloc, World.size_setCell]; omega))
  obtain ⟨av, cv, hv⟩ : ∃ a c, v = .slice a xs.length c := by obtain ⟨a, _, _, c, hv, _⟩ := h; exact ⟨a, c, hv⟩
  subst hv
  go_enter Try.func67, Try.ntmps67
  go_wp2_with (at_builtin; refine appendAll_own (vx := .slice av xs.length cv) rfl _ _ 27 3 rfl Try.underlying27 Try.infoInt hE rfl rfl hr (by simp only [List.length_nil]; omega) (by omega) hlo hcap ?_)
  intro a2 c2 w2 hO hg
  have hB : Below w.heap.size w w2 := Below.grown (by repeat' (first | with_reducible exact Below.refl _ _ | with_reducible assumption | with_reducible apply Below.alloc | with_reducible apply Below.setCell | with_reducible apply Below.drew | exact Nat.le_refl _ | omega | (simp only [World.size_alloc, World.size_setCell]; omega))) hg hlo (fun g hg' => (hE.lt g hg').1)
  go_wp2
  go_ret
  exact ⟨a2, c2, rfl, hO, hB⟩
theorem l2Play_any (x y : Int) (v : Value) (ps : List Int) (w : World) (h : RdI w v ps) :
    Calls Try.prog 68 #[.int .i64 x, .int .i64 y, v] w fun e w' => e = .returned (.bool (sizesB x y && bitsB ps (x + y))) ∧ w = w' := by
  rcases Bool.eq_false_or_eq_true (sizesB x y) with hs | hs
  · obtain ⟨⟨hx0, hx1⟩, hy0, hy1⟩ := sizesB_iff.1 hs
    go_enter Try.func68, Try.ntmps68
    go_wp2_with (first | (go_at_call 69; refine (l2Sizes_any _ _ _).mono ?_; rintro e w' ⟨rfl, rfl⟩) | (go_at_call 51; refine (l2Bits_any _ ps _ _ h).mono ?_; rintro e w' ⟨rfl, rfl⟩))
    go_ret
    exact ⟨ret_bool (by rw [hs]; rfl), rfl⟩
  · go_enter Try.func68, Try.ntmps68
    go_wp2_with (go_at_call 69; refine (l2Sizes_any _ _ _).mono ?_; rintro e w' ⟨rfl, rfl⟩)
    go_ret
    exact ⟨ret_bool (by rw [hs]; rfl), rfl⟩
def flipL (ps fs : List Int) : List Int := List.zipWith (fun p f => if p = f then 0 else 1) ps fs
def flipOk (x y : Int) (ps fs : List Int) : Bool := sizesB x y && (bitsB ps (x + y) && bitsB fs (x + y))
def flipD (x y : Int) (ps fs : List Int) : List Int := if flipOk x y ps fs then flipL ps fs else []
theorem bitsB_iff {xs : List Int} {n : Int} : bitsB xs n = true ↔ allIn xs 0 1 = true ∧ (xs.length : Int) = n := by
  simp [bitsB]
theorem flipD_size (x y : Int) (ps fs : List Int) : (flipD x y ps fs).length ≤ 6 := by
  unfold flipD
  split
  · rename_i h
    unfold flipOk at h
    rw [Bool.and_eq_true, Bool.and_eq_true] at h
    have h1 := sizesB_iff.1 h.1
    have h2 := (bitsB_iff.1 h.2.1).2
    simp [flipL, List.length_zipWith]
    omega
  · simp
theorem flipL_get {ps fs : List Int} {k : Nat} {p f : Int} (hp : ps[k]? = some p) (hf : fs[k]? = some f) : (flipL ps fs)[k]? = some (if p = f then 0 else 1) := by
  simp [flipL, List.getElem?_zipWith, hp, hf]

set_option maxHeartbeats 1600000 in
theorem specFlipPlay_any (x y : Int) (v1 : Value) (ps : List Int) (v2 : Value) (fs : List Int) (w : World) (h1 : RdI w v1 ps) (h2 : RdI w v2 fs) :
    Calls Try.prog 18 #[.int .i64 x, .int .i64 y, v1, v2] w (IntsRes w (flipD x y ps fs) (flipOk x y ps fs)) := by
  have hr1 : ∀ w', Below w.heap.size w w' → RdI w' v1 ps := fun w' hb => h1.kept (Nat.le_refl _) hb
  have hr2 : ∀ w', Below w.heap.size w w' → RdI w' v2 fs := fun w' hb => h2.kept (Nat.le_refl _) hb
  obtain ⟨a1, b1, o1, c1, rfl, m1, e1, k1⟩ := h1
  obtain ⟨a2, b2, o2, c2, rfl, m2, e2, k2⟩ := h2
  unfold maxLen at m1 m2
  rcases Bool.eq_false_or_eq_true (sizesB x y) with hs | hs
  · obtain ⟨⟨hx0, hx1⟩, hy0, hy1⟩ := sizesB_iff.1 hs
    rcases Bool.eq_false_or_eq_true (bitsB ps (x + y)) with hp | hp
    · rcases Bool.eq_false_or_eq_true (bitsB fs (x + y)) with hf | hf
      · have hok : flipOk x y ps fs = true := by unfold flipOk; rw [hs, hp, hf]; rfl
        have hD : flipD x y ps fs = flipL ps fs := by unfold flipD; rw [hok]; simp
        have HD := Lib.hid hD
        have HK := Lib.hid hok
        have HP := Lib.hid (bitsB_iff.1 hp)
        have HF := Lib.hid (bitsB_iff.1 hf)
        have hn6 : ps.length ≤ 6 := by have := HP.out.2; omega
        have hnf : fs.length ≤ 6 := by have := HF.out.2; omega
        have HL := Lib.hid (show ps.length = fs.length by have a := HP.out.2; have b := HF.out.2; omega)
        have hq : (sizesB x y && bitsB ps (x + y)) = true := by rw [hs, hp]; rfl
        clear hD hok
        go_enter Try.func18, Try.ntmps18
        go_wp2_with (first | (go_at_call 68; refine (l2Play_any _ _ _ ps _ (hr1 _ (by repeat' (first | with_reducible exact Below.refl _ _ | with_reducible assumption | with_reducible apply Below.alloc | with_reducible apply Below.setCell | with_reducible apply Below.drew | exact Nat.le_refl _ | omega | (simp only [World.size_alloc, World.size_setCell]; omega))))).mono ?_; rw [hq]; rintro e w' ⟨rfl, rfl⟩) | (go_at_call 51; refine (l2Bits_any _ fs _ _ (hr2 _ (by repeat' (first | with_reducible exact Below.refl _ _ | with_reducible assumption | with_reducible apply Below.alloc | with_reducible apply Below.setCell | with_reducible apply Below.drew | exact Nat.le_refl _ | omega | (simp only [World.size_alloc, World.size_setCell]; omega))))).mono ?_; rintro e w' ⟨rfl, rfl⟩))
        have hE := OwnV.empty 3 w
        have hBe : Below w.heap.size w (w.alloc (.cells #[] 3)) := (by repeat' (first | with_reducible exact Below.refl _ _ | with_reducible assumption | with_reducible apply Below.alloc | with_reducible apply Below.setCell | with_reducible apply Below.drew | exact Nat.le_refl _ | omega | (simp only [World.size_alloc, World.size_setCell]; omega)))
        go_loopw [10, 11] (fun s10 s11 wr => ∃ k : Nat, k ≤ ps.length ∧ s11 = .int .i64 k ∧ ∃ a c, s10 = .slice a k c ∧ OwnV 3 w.heap.size wr.heap.size wr (.slice a k c) (ints ((flipL ps fs).take k)) ∧ Below w.heap.size w wr) (fun _ s11 _ => ps.length - (intOf s11).toNat)
        case atStart => exact ⟨0, by omega, rfl, _, _, rfl, by simpa [ints] using hE, hBe⟩
        case round =>
          clear hE hBe
          obtain ⟨k, hk, rfl, a, c, rfl, hO, hB⟩ := hrel
          by_cases hlt : k < ps.length
          · have hltf : k < fs.length := by rw [← HL.out]; exact hlt
            obtain rfl := e1 (by omega)
            obtain rfl := e2 (by omega)
            obtain ⟨p, hpk⟩ : ∃ p, ps[k]? = some p := ⟨_, List.getElem?_eq_getElem hlt⟩
            obtain ⟨f, hfk⟩ : ∃ f, fs[k]? = some f := ⟨_, List.getElem?_eq_getElem hltf⟩
            have hcp : wr.cell? ⟨b1, o1 + k, none⟩ = some (.int .i64 p) := by rw [hB.cell (p := ⟨b1, o1 + k, none⟩) (World.block_lt_of_cell? _ _ (k1 k p hpk))]; exact k1 k p hpk
            have hcf : wr.cell? ⟨b2, o2 + k, none⟩ = some (.int .i64 f) := by rw [hB.cell (p := ⟨b2, o2 + k, none⟩) (World.block_lt_of_cell? _ _ (k2 k f hfk))]; exact k2 k f hfk
            have hget := flipL_get hpk hfk
            have hp01 := allIn_get HP.out.1 hpk
            have hf01 := allIn_get HF.out.1 hfk
            have hlen : (ints ((flipL ps fs).take k)).length = k := by
              have : (flipL ps fs).length = ps.length := by simp [flipL, HL.out]
              simp [this]; omega
            have hsz := hB.size
            have hxor : IntKind.i64.wrap 0 = 0 := by decide
            obtain ⟨r, hxr, hr⟩ : ∃ r : Int, bits BinOp.xor IntKind.i64 p f = r ∧ (if p = f then 0 else 1) = r := by
              have hpv : p = 0 ∨ p = 1 := by omega
              have hfv : f = 0 ∨ f = 1 := by omega
              rcases hpv with rfl | rfl <;> rcases hfv with rfl | rfl <;> exact ⟨_, rfl, by decide +kernel⟩
            rw [hr] at hget
            have HG := Lib.hid hget
            have HN := Lib.hid hlen
            have hp0 := k1 k p hpk
            have hf0 := k2 k f hfk
            have lp0 := World.block_lt_of_cell? _ _ hp0
            have lf0 := World.block_lt_of_cell? _ _ hf0
            have HP0 := Lib.hid hp0
            have HF0 := Lib.hid hf0
            generalize hL : ints ((flipL ps fs).take k) = L at *
            have HL2 := Lib.hid hL
            clear hp01 hf01 hr hget hlen k1 k2 hpk hfk hp0 hf0 hL
            go_wp2
            go_region_held3 (fun w' => w'.cell? ⟨b1, o1 + k, none⟩ = some (.int .i64 p) ∧ w'.cell? ⟨b2, o2 + k, none⟩ = some (.int .i64 f)) (first | go_keep | exact ⟨hcp, hcf⟩) (first | (refine step_append1 (u := .int .i64 r) (by rfl) _ _ 27 3 (by rfl) Try.underlying27 Try.infoInt rfl (hO.kept (Below.drew (by repeat' (first | with_reducible exact Below.refl _ _ | with_reducible assumption | with_reducible apply Below.alloc | with_reducible apply Below.setCell | with_reducible apply Below.drew | exact Nat.le_refl _ | omega | (simp only [World.size_alloc, World.size_setCell]; omega)))) (Nat.le_refl _)) (by rfl) (by rfl) (by simp) rfl (by rw [HN.out]; omega) (by omega) (by show w.heap.size ≤ (wr.alloc _).heap.size; rw [World.size_alloc]; omega) ?_; intro a2 c2 w2 hO2 hg2; have hB2 : Below w.heap.size w w2 := Below.grown (Below.drew (hB.alloc (by omega) _)) hg2 (by show w.heap.size ≤ (wr.alloc _).heap.size; rw [World.size_alloc]; omega) (fun g hg => (hO.lt g hg).1); have hcp : w2.cell? ⟨b1, o1 + k, none⟩ = some (.int .i64 p) := (hB2.cell (p := ⟨b1, o1 + k, none⟩) lp0).trans HP0.out; have hcf : w2.cell? ⟨b2, o2 + k, none⟩ = some (.int .i64 f) := (hB2.cell (p := ⟨b2, o2 + k, none⟩) lf0).trans HF0.out))
            have hnx : L ++ [Value.int .i64 r] = ints ((flipL ps fs).take (k + 1)) := by
              rw [← HL2.out, List.take_add_one, HG.out]; simp [ints]
            rw [hnx] at hO2
            clear hO hnx
            go_wp2
            go_roundw
            case rel => exact ⟨k + 1, by omega, by go_num, a2, c2, by rw [HN.out], by rw [HN.out] at hO2; exact hO2, hB2⟩
            case measure => simp [intOf]; omega
          · obtain rfl : k = ps.length := by omega
            go_wp2
            go_ret2
            have hfl : (flipL ps fs).length = ps.length := by simp [flipL, HL.out]
            rw [List.take_of_length_le (by omega)] at hO
            rw [HD.out, HK.out]
            exact ⟨a, c, by rw [hfl]; rfl, by rw [hfl]; exact hO, hB⟩
      · have hok : flipOk x y ps fs = false := by unfold flipOk; rw [hs, hp, hf]; rfl
        have hD : flipD x y ps fs = [] := by unfold flipD; rw [hok]; simp
        have hq : (sizesB x y && bitsB ps (x + y)) = true := by rw [hs, hp]; rfl
        rw [hD, hok]
        clear hD hok k1 k2 e1 e2
        go_enter Try.func18, Try.ntmps18
        go_wp2_with (first | (go_at_call 68; refine (l2Play_any _ _ _ ps _ (hr1 _ (by repeat' (first | with_reducible exact Below.refl _ _ | with_reducible assumption | with_reducible apply Below.alloc | with_reducible apply Below.setCell | with_reducible apply Below.drew | exact Nat.le_refl _ | omega | (simp only [World.size_alloc, World.size_setCell]; omega))))).mono ?_; rw [hq]; rintro e w' ⟨rfl, rfl⟩) | (go_at_call 51; refine (l2Bits_any _ fs _ _ (hr2 _ (by repeat' (first | with_reducible exact Below.refl _ _ | with_reducible assumption | with_reducible apply Below.alloc | with_reducible apply Below.setCell | with_reducible apply Below.drew | exact Nat.le_refl _ | omega | (simp only [World.size_alloc, World.size_setCell]; omega))))).mono ?_; rintro e w' ⟨rfl, rfl⟩))
        go_ret2
        exact ⟨some ⟨w.heap.size, 0, none⟩, 0, rfl, (OwnV.empty 3 w).weaken (Nat.le_refl _) (by first | exact Nat.le_refl _ | omega | (simp only [World.size_alloc, World.size_setCell]; omega)), (by repeat' (first | with_reducible exact Below.refl _ _ | with_reducible assumption | with_reducible apply Below.alloc | with_reducible apply Below.setCell | with_reducible apply Below.drew | exact Nat.le_refl _ | omega | (simp only [World.size_alloc, World.size_setCell]; omega)))⟩
    · have hok : flipOk x y ps fs = false := by unfold flipOk; rw [hs, hp]; rfl
      have hD : flipD x y ps fs = [] := by unfold flipD; rw [hok]; simp
      have hq : (sizesB x y && bitsB ps (x + y)) = false := by rw [hs, hp]; rfl
      rw [hD, hok]
      clear hD hok k1 k2 e1 e2
      go_enter Try.func18, Try.ntmps18
      go_wp2_with (first | (go_at_call 68; refine (l2Play_any _ _ _ ps _ (hr1 _ (by repeat' (first | with_reducible exact Below.refl _ _ | with_reducible assumption | with_reducible apply Below.alloc | with_reducible apply Below.setCell | with_reducible apply Below.drew | exact Nat.le_refl _ | omega | (simp only [World.size_alloc, World.size_setCell]; omega))))).mono ?_; rw [hq]; rintro e w' ⟨rfl, rfl⟩))
      go_ret2
      exact ⟨some ⟨w.heap.size, 0, none⟩, 0, rfl, (OwnV.empty 3 w).weaken (Nat.le_refl _) (by first | exact Nat.le_refl _ | omega | (simp only [World.size_alloc, World.size_setCell]; omega)), (by repeat' (first | with_reducible exact Below.refl _ _ | with_reducible assumption | with_reducible apply Below.alloc | with_reducible apply Below.setCell | with_reducible apply Below.drew | exact Nat.le_refl _ | omega | (simp only [World.size_alloc, World.size_setCell]; omega)))⟩
  · have hok : flipOk x y ps fs = false := by unfold flipOk; rw [hs]; rfl
    have hD : flipD x y ps fs = [] := by unfold flipD; rw [hok]; simp
    rw [hD, hok]
    clear hD hok k1 k2 e1 e2
    go_enter Try.func18, Try.ntmps18
    have hq : (sizesB x y && bitsB ps (x + y)) = false := by rw [hs]; rfl
    go_wp2_with (first | (go_at_call 68; refine (l2Play_any _ _ _ ps _ (hr1 _ (by repeat' (first | with_reducible exact Below.refl _ _ | with_reducible assumption | with_reducible apply Below.alloc | with_reducible apply Below.setCell | with_reducible apply Below.drew | exact Nat.le_refl _ | omega | (simp only [World.size_alloc, World.size_setCell]; omega))))).mono ?_; rw [hq]; rintro e w' ⟨rfl, rfl⟩))
    go_ret2
    exact ⟨some ⟨w.heap.size, 0, none⟩, 0, rfl, (OwnV.empty 3 w).weaken (Nat.le_refl _) (by first | exact Nat.le_refl _ | omega | (simp only [World.size_alloc, World.size_setCell]; omega)), (by repeat' (first | with_reducible exact Below.refl _ _ | with_reducible assumption | with_reducible apply Below.alloc | with_reducible apply Below.setCell | with_reducible apply Below.drew | exact Nat.le_refl _ | omega | (simp only [World.size_alloc, World.size_setCell]; omega)))⟩
end Go.Proofs.Ytnmnmnpeoiblhaa
