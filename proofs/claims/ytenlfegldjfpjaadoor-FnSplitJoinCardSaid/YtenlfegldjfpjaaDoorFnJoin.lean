/- Joining texts: what the reference's and the program's JoinStrings hand back. -/
import Derived.Test.YtenlfegldjfpjaaDoorHarS
import Derived.Test.YtenlfegldjfpjaaDoorFnStands
import Derived.Lib.Join
set_option linter.unusedSimpArgs false
set_option linter.unusedVariables false
namespace Go.Proofs.YtenlfegldjfpjaaDoor
open Go.RowKit Go.WideShapes

theorem join_snoc (sep : List UInt8) : ∀ (xs : List (List UInt8)) (x : List UInt8), Lib.join (xs ++ [x]) sep = if xs = [] then x else Lib.join xs sep ++ sep ++ x
  | [], x => by rw [if_pos rfl]; exact Lib.join_one x sep
  | y :: r, x => by
    rw [if_neg (by simp), List.cons_append, Lib.join_cons, Lib.join_cons]
    simp [Lib.joinTail]
/-- The texts, joined. -/
def joinB (c : UInt8) (ss : List ByteArray) : ByteArray := ⟨(Lib.join (ss.map (·.data.toList)) [c]).toArray⟩
theorem joinB_first (c : UInt8) {ss : List ByteArray} {x : ByteArray} (h : ss[0]? = some x) : joinB c (ss.take 1) = x := by
  have e : ss.take 1 = [x] := by
    cases ss with
    | nil => cases h
    | cons y r => cases h; rfl
  rw [e]
  exact bytes_inj (by simp [joinB, Lib.join_one])
theorem joinB_next (c : UInt8) {ss : List ByteArray} {k : Nat} {x : ByteArray} (hk : 0 < k) (h : ss[k]? = some x) : joinB c (ss.take (k + 1)) = joinB c (ss.take k) ++ ⟨#[c]⟩ ++ x := by
  have e : ss.take (k + 1) = ss.take k ++ [x] := by simp [List.take_add_one, h]
  have hkl := (List.getElem?_eq_some_iff.1 h).1
  have hne : ¬ (ss.take k).map (·.data.toList) = [] := by
    intro h0
    have := congrArg List.length h0
    simp only [List.length_map, List.length_take, List.length_nil] at this
    omega
  apply bytes_inj
  unfold joinB
  rw [e, List.map_append, List.map_singleton, join_snoc, if_neg hne]
  simp [ByteArray.data_append]
theorem joinB_size (c : UInt8) {ss : List ByteArray} {k : Nat} (hk : k < ss.length) : (joinB c (ss.take (k + 1))).size = sumSz (ss.take (k + 1)) + k := by
  induction k with
  | zero =>
    have h := List.getElem?_eq_getElem hk
    rw [joinB_first c h, sumSz_take ss 0 _ h]
    simp [sumSz]
  | succ k ih =>
    have h := List.getElem?_eq_getElem hk
    rw [joinB_next c (by omega) h, sumSz_take ss (k + 1) _ h, ByteArray.size_append, ByteArray.size_append, ih (by omega)]
    show _ + 1 + _ = _
    omega
/-- What JoinStrings hands back. -/
def jOkC (c : UInt8) (ss : List ByteArray) : Bool := ss.all fun s => !(hasC s.data.toList c)
def jOk (ss : List ByteArray) (sep : ByteArray) : Bool := decide (sep.size = 1) && (decide (ss ≠ []) && (jOkC (sep.data.toList.headD 0) ss && decide (sumSz ss + (ss.length - 1) ≤ 4000)))
def jR (ss : List ByteArray) (sep : ByteArray) : ByteArray := if jOk ss sep then joinB (sep.data.toList.headD 0) ss else ⟨#[]⟩
theorem jR_ok {ss : List ByteArray} {sep : ByteArray} (h : jOk ss sep = true) : jR ss sep = joinB (sep.data.toList.headD 0) ss := by unfold jR; rw [if_pos h]
theorem jR_not {ss : List ByteArray} {sep : ByteArray} (h : jOk ss sep = false) : jR ss sep = ⟨#[]⟩ := by unfold jR; rw [if_neg (by simp [h])]
theorem jOk_sep {ss : List ByteArray} {sep : ByteArray} (h : ¬ sep.size = 1) : jOk ss sep = false := by unfold jOk; simp [h]
theorem jOk_nil (sep : ByteArray) : jOk [] sep = false := by unfold jOk; simp
theorem jOk_has {ss : List ByteArray} {c : UInt8} {k : Nat} {x : ByteArray} (h : ss[k]? = some x) (hx : hasC x.data.toList c = true) : jOk ss ⟨#[c]⟩ = false := by
  have : jOkC c ss = false := by
    unfold jOkC
    rw [List.all_eq_false]
    exact ⟨x, List.mem_of_getElem? h, by simp [hx]⟩
  unfold jOk
  show (_ && (_ && (jOkC c ss && _))) = _
  rw [this]; simp
theorem jOk_long {ss : List ByteArray} {c : UInt8} (h : 4000 < sumSz ss + (ss.length - 1)) : jOk ss ⟨#[c]⟩ = false := by
  unfold jOk
  have : decide (sumSz ss + (ss.length - 1) ≤ 4000) = false := by simp; omega
  rw [this]; simp
theorem jOk_all {ss : List ByteArray} {c : UInt8} (hne : 0 < ss.length) (h : ∀ (k : Nat) (x : ByteArray), ss[k]? = some x → hasC x.data.toList c = false) (hl : sumSz ss + (ss.length - 1) ≤ 4000) : jOk ss ⟨#[c]⟩ = true := by
  have h1 : jOkC c ss = true := by
    unfold jOkC
    rw [List.all_eq_true]
    intro x hx
    obtain ⟨k, hk⟩ := List.mem_iff_getElem?.1 hx
    rw [h k x hk]; rfl
  unfold jOk
  show (_ && (_ && (jOkC c ss && _))) = _
  rw [h1]
  have : ss ≠ [] := List.length_pos_iff.1 hne
  simp [this, hl]
  rfl
theorem one_byteJ {sep : ByteArray} (h : sep.size = 1) : ∃ c : UInt8, sep = ⟨#[c]⟩ := by
  obtain ⟨⟨l⟩⟩ := sep
  have : l.length = 1 := by simpa [ByteArray.size] using h
  obtain ⟨c, rfl⟩ := List.length_eq_one_iff.1 this
  exact ⟨c, rfl⟩

set_option maxRecDepth 20000 in
set_option maxHeartbeats 4000000 in
theorem specJoin_any (v : Value) (ss : List ByteArray) (sep : ByteArray) (w : World) (h : RdS w v ss) (hz : sumSz ss + ss.length ≤ 1048576) (hp : sep.size ≤ 1048576) :
    Calls Tryd.prog 38 #[v, .string sep] w fun e w' => e = .returned (.tuple #[.string (jR ss sep), .bool (jOk ss sep)]) ∧ Drw w w' := by
  obtain ⟨a, b, off, cap, rfl, hm, ha, hc⟩ := h
  unfold maxLen at hm
  by_cases h1 : sep.size = 1
  · obtain ⟨c, rfl⟩ := one_byteJ h1
    by_cases h0 : ss.length = 0
    · obtain rfl : ss = [] := List.length_eq_zero_iff.1 h0
      rw [jR_not (jOk_nil _), jOk_nil]
      clear h1
      go_enter Tryd.func38, Tryd.ntmps38
      go_wp2
      go_ret2
      exact ⟨rfl, Drw.refl _⟩
    · have h0' : ((ss.length : Int) == 0) = false := by rw [beq_eq_false_iff_ne]; omega
      clear h1
      go_enter Tryd.func38, Tryd.ntmps38
      go_wp2
      go_loopw [6, 7] (fun s6 s7 wr => ∃ k : Nat, k ≤ ss.length ∧ s7 = .int .i64 k ∧ s6 = .string (joinB c (ss.take k)) ∧ (joinB c (ss.take k)).size ≤ 4000 ∧ Hid (∀ (j : Nat) (x : ByteArray), j < k → ss[j]? = some x → hasC x.data.toList c = false) ∧ Drw w wr) (fun _ s7 _ => ss.length - (intOf s7).toNat)
      case atStart => exact ⟨0, by omega, rfl, rfl, Nat.zero_le _, Lib.hid (fun j x hj => by omega), Drw.refl _⟩
      case round =>
        obtain ⟨k, hk, rfl, rfl, hsz, HN, hd⟩ := hrel
        obtain ⟨y, hy⟩ : ∃ y, joinB c (ss.take k) = y := ⟨_, rfl⟩
        rw [hy] at hsz
        rw [hy]
        by_cases hlt : k < ss.length
        · obtain rfl := ha (by omega)
          have hg := List.getElem?_eq_getElem hlt
          have hcell := hc k _ hg
          rw [← hd.cell] at hcell
          have hxs := sumSz_get hg
          have hjs := joinB_size c hlt
          have hst := sumSz_take_le ss (k + 1)
          generalize ss[k] = x at *
          have C := fun W => l1Stands_any x c W (by unfold maxLen; omega)
          cases hx : hasC x.data.toList c with
          | true =>
            have HE := Lib.hid (jOk_has hg hx)
            rw [hx] at C
            clear hc hg hx hjs hst hy
            go_wp2
            go_region_held3 (fun w' => w'.cell? ⟨b, off + k, none⟩ = some (.string x)) (first | go_keep | exact hcell) (first | (go_at_call 59; refine (C _).mono ?_; rintro e w' ⟨rfl, rfl⟩))
            all_goals
              go_wp2
              go_ret2
              exact ⟨by rw [jR_not HE.out, HE.out]; rfl, hd.trans (Drw.mk _ _)⟩
          | false =>
          rw [hx] at C
          have HN2 := Lib.hid (fun (j : Nat) (x' : ByteArray) (hj : j < k + 1) (hx' : ss[j]? = some x') => (by
            by_cases e : j = k
            · subst e; rw [hg] at hx'; cases hx'; exact hx
            · exact HN.out j x' (by omega) hx' : hasC x'.data.toList c = false))
          obtain ⟨z, hzz⟩ : ∃ z, joinB c (ss.take (k + 1)) = z := ⟨_, rfl⟩
          rw [hzz] at hjs
          by_cases hk0 : k = 0
          · by_cases hbz : 4000 < z.size
            · obtain rfl := hk0
              replace hcell : wr.cell? ⟨b, off, none⟩ = some (.string x) := by simpa using hcell
              have hstep : z = y ++ x := by rw [← hzz, ← hy]; rw [joinB_first c hg]; exact bytes_inj (by simp [joinB, Lib.join_nil, ByteArray.data_append])
              have gd1 : ¬ (9223372036854775807 < y.size + x.size) := by omega
              have hzs : z.size = y.size + x.size := by rw [hstep]; simp [ByteArray.size_append]
              have HE := Lib.hid (jOk_long (ss := ss) (c := c) (by omega))
              have hbig : (4000 : Int) < (y.size : Int) + x.size := by omega
              have HS := Lib.hid (And.intro hstep hzz)
              clear hc hg hx hjs hst hstep hzz hzs hy
              go_wp2
              go_region_held3 (fun w' => w'.cell? ⟨b, off, none⟩ = some (.string x)) (first | go_keep | exact hcell) (first | (go_at_call 59; refine (C _).mono ?_; rintro e w' ⟨rfl, rfl⟩))
              all_goals
                go_wp2
                go_ret2
                exact ⟨by rw [jR_not HE.out, HE.out]; rfl, hd.trans (Drw.mk _ _)⟩
            · obtain rfl := hk0
              replace hcell : wr.cell? ⟨b, off, none⟩ = some (.string x) := by simpa using hcell
              have hstep : z = y ++ x := by rw [← hzz, ← hy]; rw [joinB_first c hg]; exact bytes_inj (by simp [joinB, Lib.join_nil, ByteArray.data_append])
              have gd1 : ¬ (9223372036854775807 < y.size + x.size) := by omega
              have hzs : z.size = y.size + x.size := by rw [hstep]; simp [ByteArray.size_append]
              have hbig : ¬ (4000 : Int) < (y.size : Int) + x.size := by omega
              have hz4 : z.size ≤ 4000 := by omega
              have HS := Lib.hid (And.intro hstep hzz)
              clear hc hg hx hjs hst hstep hzz hzs hy
              go_wp2
              go_region_held3 (fun w' => w'.cell? ⟨b, off, none⟩ = some (.string x)) (first | go_keep | exact hcell) (first | (go_at_call 59; refine (C _).mono ?_; rintro e w' ⟨rfl, rfl⟩))
              all_goals
                go_wp2
                go_roundw
                case rel => exact ⟨0 + 1, by omega, by go_num, by rw [HS.out.2, HS.out.1], by rw [HS.out.2]; exact hz4, HN2, hd.trans (Drw.mk _ _)⟩
                case measure => simp [intOf]; omega
          · by_cases hbz : 4000 < z.size
            · have hstep : z = y ++ ⟨#[c]⟩ ++ x := by rw [← hzz, ← hy]; exact joinB_next c (by omega) hg
              have hkz : (0 : Int) < (k : Int) := by omega
              have gd1 : ¬ (9223372036854775807 < y.size + 1) := by omega
              have gd2 : ¬ (9223372036854775807 < y.size + 1 + x.size) := by omega
              have hzs : z.size = y.size + 1 + x.size := by rw [hstep]; simp [ByteArray.size_append]; rfl
              have HE := Lib.hid (jOk_long (ss := ss) (c := c) (by omega))
              have hbig : (4000 : Int) < (y.size : Int) + 1 + x.size := by omega
              have HS := Lib.hid (And.intro hstep hzz)
              clear hc hg hx hjs hst hstep hzz hzs hy
              go_wp2
              go_region_held3 (fun w' => w'.cell? ⟨b, off + k, none⟩ = some (.string x)) (first | go_keep | exact hcell) (first | (go_at_call 59; refine (C _).mono ?_; rintro e w' ⟨rfl, rfl⟩))
              all_goals
                go_wp2
                go_ret2
                exact ⟨by rw [jR_not HE.out, HE.out]; rfl, hd.trans (Drw.mk _ _)⟩
            · have hstep : z = y ++ ⟨#[c]⟩ ++ x := by rw [← hzz, ← hy]; exact joinB_next c (by omega) hg
              have hkz : (0 : Int) < (k : Int) := by omega
              have gd1 : ¬ (9223372036854775807 < y.size + 1) := by omega
              have gd2 : ¬ (9223372036854775807 < y.size + 1 + x.size) := by omega
              have hzs : z.size = y.size + 1 + x.size := by rw [hstep]; simp [ByteArray.size_append]; rfl
              have hbig : ¬ (4000 : Int) < (y.size : Int) + 1 + x.size := by omega
              have hz4 : z.size ≤ 4000 := by omega
              have HS := Lib.hid (And.intro hstep hzz)
              clear hc hg hx hjs hst hstep hzz hzs hy
              go_wp2
              go_region_held3 (fun w' => w'.cell? ⟨b, off + k, none⟩ = some (.string x)) (first | go_keep | exact hcell) (first | (go_at_call 59; refine (C _).mono ?_; rintro e w' ⟨rfl, rfl⟩))
              all_goals
                go_wp2
                go_roundw
                case rel => exact ⟨k + 1, by omega, by go_num, by rw [HS.out.2, HS.out.1], by rw [HS.out.2]; exact hz4, HN2, hd.trans (Drw.mk _ _)⟩
                case measure => simp [intOf]; omega
        · obtain rfl : k = ss.length := by omega
          rw [List.take_length] at hy
          have hjl : y.size = sumSz ss + (ss.length - 1) := by
            have := joinB_size c (ss := ss) (k := ss.length - 1) (by omega)
            rw [show ss.length - 1 + 1 = ss.length by omega, List.take_length, hy] at this
            exact this
          have hok : jOk ss ⟨#[c]⟩ = true := jOk_all (by omega) (fun j x hx => HN.out j x (List.getElem?_eq_some_iff.1 hx).1 hx) (by omega)
          have HR := Lib.hid (And.intro (jR_ok hok) hok)
          have HY := Lib.hid hy
          clear hok hy hjl
          go_wp2
          go_ret2
          exact ⟨by rw [HR.out.1, HR.out.2, ← HY.out]; rfl, hd⟩
  · rw [jR_not (jOk_sep h1), jOk_sep h1]
    have h1' : ((sep.size : Int) != 1) = true := by simp; omega
    go_enter Tryd.func38, Tryd.ntmps38
    go_wp2
    go_ret2
    exact ⟨rfl, Drw.refl _⟩

set_option maxRecDepth 20000 in
set_option maxHeartbeats 4000000 in
theorem implJoin_any (v : Value) (ss : List ByteArray) (sep : ByteArray) (w : World) (h : RdS w v ss) (hv : ∀ a c, v = .slice a ss.length c → ss.length ≤ c) (hz : sumSz ss + ss.length ≤ 1048576) (hp : sep.size ≤ 1048576) :
    Calls Tryd.prog 37 #[v, .string sep] w fun e w' => e = .returned (.tuple #[.string (jR ss sep), .bool (jOk ss sep)]) ∧ Below w.heap.size w w' := by
  obtain ⟨a, b, off, cap, rfl, hm, ha, hc⟩ := h
  unfold maxLen at hm
  have hcap := hv a cap rfl
  clear hv
  by_cases h0 : ss.length = 0
  · obtain rfl : ss = [] := List.length_eq_zero_iff.1 h0
    rw [jR_not (jOk_nil _), jOk_nil]
    go_enter Tryd.func37, Tryd.ntmps37
    go_wp2
    go_ret2
    exact ⟨rfl, Below.refl _ _⟩
  · have h0' : ((ss.length : Int) == 0) = false := by rw [beq_eq_false_iff_ne]; omega
    obtain rfl := ha (by omega)
    by_cases h1 : sep.size = 1
    · obtain ⟨c, rfl⟩ := one_byteJ h1
      have hbw : b < w.heap.size := World.block_lt_of_cell? _ _ (hc 0 _ (List.getElem?_eq_getElem (by omega)))
      clear h1
      go_enter Tryd.func37, Tryd.ntmps37
      go_wp2
      go_loop [6, 22] (fun s6 s22 => ∃ k : Nat, k ≤ ss.length ∧ s22 = .int .i64 k ∧ s6 = .int .i64 ((ss.length : Int) - 1 + sumSz (ss.take k)) ∧ Hid (∀ (j : Nat) (x : ByteArray), j < k → ss[j]? = some x → hasC x.data.toList c = false) ∧ ((ss.length : Int) - 1 + sumSz (ss.take k) ≤ 4000 ∨ k = 0)) (fun _ s22 => ss.length - (intOf s22).toNat)
      case atStart => exact ⟨0, by omega, rfl, by simp [sumSz], Lib.hid (fun j x hj => by omega), Or.inr rfl⟩
      case round =>
        obtain ⟨k, hk, rfl, rfl, HN, hsm⟩ := hrel
        by_cases hlt : k < ss.length
        · have hg := List.getElem?_eq_getElem hlt
          have hcell := hc k _ hg
          have hst := sumSz_take ss k _ hg
          have hle := sumSz_take_le ss (k + 1)
          have hxs := sumSz_get hg
          obtain ⟨m, hmm⟩ : ∃ m, sumSz (ss.take k) = m := ⟨_, rfl⟩
          rw [hmm] at hst hsm
          rw [hmm]
          generalize ss[k] = x at *
          have C := fun W => containsC_any x c W
          have hwr : IntKind.i64.wrap ((ss.length : Int) - 1 + (m : Int) + (x.size : Int)) = (ss.length : Int) - 1 + (m : Int) + (x.size : Int) := wrapIn64 _ (by omega) (by omega)
          have hwr2 : IntKind.i64.wrap ((ss.length : Int) - 1) = (ss.length : Int) - 1 := wrapIn64 _ (by omega) (by omega)
          by_cases hbig : (4000 : Int) < (ss.length : Int) - 1 + m + x.size
          · have HE := Lib.hid (jOk_long (ss := ss) (c := c) (by omega))
            clear hc hg hst hmm hle
            go_wp2
            go_ret2
            exact ⟨by rw [jR_not HE.out, HE.out]; rfl, Below.refl _ _⟩
          · cases hx : hasC x.data.toList c with
            | true =>
              have HE := Lib.hid (jOk_has hg hx)
              rw [hx] at C
              clear hc hg hx hst hmm hle
              go_wp2_with (go_at_call 57; refine (C _).mono ?_; rintro e w' ⟨rfl, rfl⟩)
              go_ret2
              exact ⟨by rw [jR_not HE.out, HE.out]; rfl, Below.refl _ _⟩
            | false =>
              rw [hx] at C
              have HN2 := Lib.hid (fun (j : Nat) (x' : ByteArray) (hj : j < k + 1) (hx' : ss[j]? = some x') => (by
                by_cases e : j = k
                · subst e; rw [hg] at hx'; cases hx'; exact hx
                · exact HN.out j x' (by omega) hx' : hasC x'.data.toList c = false))
              have HT := Lib.hid hst
              clear hc hg hx hst hmm hle
              go_wp2_with (go_at_call 57; refine (C _).mono ?_; rintro e w' ⟨rfl, rfl⟩)
              go_round
              case rel => exact ⟨k + 1, by omega, by go_num, by rw [HT.out]; go_num, HN2, Or.inl (by rw [HT.out]; omega)⟩
              case measure => simp [intOf]; omega
        · obtain rfl : k = ss.length := by omega
          rw [List.take_length] at hsm
          rw [List.take_length]
          have hok : jOk ss ⟨#[c]⟩ = true := jOk_all (by omega) (fun j x hx => HN.out j x (List.getElem?_eq_some_iff.1 hx).1 hx) (by omega)
          have HR := Lib.hid (And.intro (jR_ok hok) hok)
          have hjl : (Lib.join (ss.map (·.data.toList)) [c]).length = sumSz ss + (ss.length - 1) := by
            have := joinB_size c (ss := ss) (k := ss.length - 1) (by omega)
            rw [show ss.length - 1 + 1 = ss.length by omega, List.take_length] at this
            exact this
          have C := fun W (hW : W = w) => Tryd.strings_Join b off cap ss ⟨#[c]⟩ W (by rw [hW]; exact hc) (by rw [hW]; exact hbw) (by omega) hcap (by
            show (Lib.join (ss.map (·.data.toList)) [c]).length ≤ _
            omega)
          clear hok hjl hc
          go_wp2_with (go_at_call 75; refine (C _ rfl).mono ?_; rintro e w' ⟨rfl, hb⟩)
          go_ret2
          exact ⟨by rw [HR.out.1, HR.out.2]; rfl, hb⟩
    · rw [jR_not (jOk_sep h1), jOk_sep h1]
      have h1' : ((sep.size : Int) != 1) = true := by simp; omega
      go_enter Tryd.func37, Tryd.ntmps37
      go_wp2
      go_ret2
      exact ⟨rfl, Below.refl _ _⟩
end Go.Proofs.YtenlfegldjfpjaaDoor
