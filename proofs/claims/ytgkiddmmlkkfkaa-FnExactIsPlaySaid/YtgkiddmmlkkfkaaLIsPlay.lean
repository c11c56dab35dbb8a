/- IsPlay: the program's answers are the reference's, for all arguments. -/
import Derived.Test.YtgkiddmmlkkfkaaFnA
import Derived.Test.YtgkiddmmlkkfkaaRow
set_option linter.unusedSimpArgs false
set_option linter.unusedVariables false
namespace Go.Proofs.Ytgkiddmmlkkfkaa
open Go.ChangeShapes Go.WideShapes Go.ChangeAt Go.RowKit
open Go.ChangeMaps (open_string shut_string)

theorem ret_bool2 {a b c d : Bool} (h : a = c) (h' : b = d) : Ending.returned (.tuple #[.bool a, .bool b]) = .returned (.tuple #[.bool c, .bool d]) := by rw [h, h']

theorem specIsPlay_any (v : Value) (xs : List Int) (x y : Int) (w : World) (h : RdI w v xs) :
    Calls Try.prog 18 #[.int .i64 x, .int .i64 y, v] w fun e w' => e = .returned (.tuple #[.bool (sizesB x y && bitsB xs (x + y)), .bool (sizesB x y)]) ∧ w = w' := by
  rcases Bool.eq_false_or_eq_true (sizesB x y) with hs | hs
  · obtain ⟨⟨hx1, hx2⟩, hy1, hy2⟩ := sizesB_iff.1 hs
    go_enter Try.func18, Try.ntmps18
    go_wp2_with (first | (go_at_call 52; refine (l2Sizes_any _ _ _).mono ?_; rintro e w' ⟨rfl, rfl⟩) | (go_at_call 53; refine (l2Bits_any _ xs _ _ h).mono ?_; rintro e w' ⟨rfl, rfl⟩))
    go_ret2
    exact ⟨ret_bool2 (by rw [hs]; rfl) hs.symm, rfl⟩
  · go_enter Try.func18, Try.ntmps18
    go_wp2_with (go_at_call 52; refine (l2Sizes_any _ _ _).mono ?_; rintro e w' ⟨rfl, rfl⟩)
    go_ret2
    exact ⟨ret_bool2 (by rw [hs]; rfl) hs.symm, rfl⟩

theorem implIsPlay_any (v : Value) (xs : List Int) (x y : Int) (w : World) (h : RdI w v xs) :
    Calls Try.prog 20 #[.int .i64 x, .int .i64 y, v] w fun e w' => e = .returned (.tuple #[.bool (sizesB x y && bitsB xs (x + y)), .bool (sizesB x y)]) ∧ w = w' := by
  rcases Bool.eq_false_or_eq_true (sizesB x y) with hs | hs
  · have hq := sizesB_iff.1 hs
    go_enter Try.func20, Try.ntmps20
    go_wp2_with (first | (go_at_call 54; refine (areQuestions_any _ _ _).mono ?_; rintro e w' ⟨rfl, rfl⟩) | (go_at_call 55; refine (isPlay_any _ xs _ _ _ h hq.1 hq.2).mono ?_; rintro e w' ⟨rfl, rfl⟩))
    go_ret2
    exact ⟨ret_bool2 (by rw [hs]; rfl) hs.symm, rfl⟩
  · go_enter Try.func20, Try.ntmps20
    go_wp2_with (go_at_call 54; refine (areQuestions_any _ _ _).mono ?_; rintro e w' ⟨rfl, rfl⟩)
    go_ret2
    exact ⟨ret_bool2 (by rw [hs]; rfl) hs.symm, rfl⟩

set_option maxHeartbeats 1000000 in
theorem fnExactIsPlay_walk (v : Value) (xs : List Int) (x y : Int) (w : World) (h : RdI w v xs) :
    Calls Try.prog 6 #[.int .i64 x, .int .i64 y, v] w fun e w' => e = .returned (.bool true) ∧ Below w.heap.size w w' := by
  have h0 := h
  obtain ⟨a, b, off, cap, rfl, hm, ha, hc⟩ := h0
  unfold maxLen at hm
  clear ha hc
  by_cases hl : (1048576 : Int) < xs.length
  · go_enter Try.func6, Try.ntmps6
    go_wp2
    go_ret
    exact ⟨rfl, Below.refl _ _⟩
  · have hl' : xs.length ≤ 1048576 := by omega
    go_enter Try.func6, Try.ntmps6
    go_wp2_with fail
    refine (toIntS_any _ xs _ h hl').mono ?_
    rintro e w1 ⟨a1, c1, rfl, o1, b1⟩
    go_wp2_with fail
    refine (specIsPlay_any _ xs x y _ o1.rdI).mono ?_
    rintro e w1' ⟨rfl, rfl⟩
    go_wp2_with fail
    refine (toIntS_any _ xs _ (h.kept (Nat.le_refl _) b1) hl').mono ?_
    rintro e w2 ⟨a2, c2, rfl, o2, b2⟩
    have B2 := b1.trans (b2.mono b1.size)
    go_wp2_with fail
    refine (implIsPlay_any _ xs x y _ o2.rdI).mono ?_
    rintro e w2' ⟨rfl, rfl⟩
    generalize (sizesB x y && bitsB xs (x + y)) = r1
    generalize (sizesB x y) = r2
    have g1 : (r1 != r1) = false := by simp
    have g2 : (r2 != r2) = false := by simp
    go_wp2_with fail
    refine (toIntS_any _ xs _ (h.kept (Nat.le_refl _) B2) hl').mono ?_
    rintro e w3 ⟨a3, c3, rfl, o3, b3⟩
    have B3 := B2.trans (b3.mono B2.size)
    go_wp2_with fail
    refine (eqIntS_any _ _ xs xs _ (o2.rdI.kept (Nat.le_refl _) b3) o3.rdI).mono ?_
    rintro e w4 ⟨rfl, d4⟩
    have B4 := B3.trans (d4.below _)
    have hd : decide (xs = xs) = true := by simp
    rw [hd]
    go_wp2
    go_ret
    exact ⟨rfl, B4⟩


/-! ### The row -/
set_option maxRecDepth 100000 in
theorem fnExactIsPlay_lifted (os : Os) (started : os.Started) (H : Type) (enc : TypeId × Value → H) :
    ReturnsInHanded {} Try.checked os 6 .any (Rows.fnExactIsPlaySpec.pre6 enc Try.prog Try.f6 Rows.fnExactIsPlayRow.domain false) (Rows.fnExactIsPlaySpec.post enc Try.prog Try.f6 false true false false) := by
  refine returnsInHanded_of_change (C := Try.checked) Try.own started (by kernel_rfl) Try.func6
    (ChangeSpec.witness6 (enc := enc) (C := Try.checked) false ⟨#[], #[.int .i64 0, .int .i64 0, .slice none 0 0], []⟩ 8 (by kernel_rfl) (by kernel_rfl) (by kernel_rfl) (by kernel_rfl)) ?_
  intro W base args ds gs before hval0 hW hcnd _
  have hval : ∀ (j : Nat) t v, Try.f6.params[j]? = some t → args[j]? = some v → Value.okWide Try.prog W .any base t v := hval0
  have hW' := hW
  obtain ⟨p, q, hA0, hV, rfl, hfz, hnd⟩ := hW
  have hA : DataW.TrodAll enc Try.prog W 0 (fun _ => true) true Try.f6.params.toList args.toList ds p := hA0
  rw [Try.params6] at hA hval
  obtain ⟨v0, vs0, d0, ds0, p0, q0, hargs, rfl, rfl, h0, r0⟩ := trodAll_cons hA
  obtain ⟨v1, vs1, d1, ds1, p1, q1, rfl, rfl, rfl, h1, r1⟩ := trodAll_cons r0
  obtain ⟨v2, vs2, d2, ds2, p2, q2, rfl, rfl, rfl, h2, r2⟩ := trodAll_cons r1
  obtain ⟨rfl, rfl, rfl⟩ := trodAll_nil r2
  obtain rfl : args = #[v0, v1, v2] := by cases args; simp_all
  obtain ⟨x0, rfl, rfl, rfl, wx0⟩ := open_int Try.underlying3 (hval 0 3 v0 rfl rfl) h0
  obtain ⟨x1, rfl, rfl, rfl, wx1⟩ := open_int Try.underlying3 (hval 1 3 v1 rfl rfl) h1
  obtain ⟨xs2, hx2⟩ := rdI_of Try.underlying27 Try.underlying3 Try.cellsInt (hval 2 27 v2 rfl rfl) h2
  clear hA0 hval0
  refine (fnExactIsPlay_walk _ xs2 x0 x1 W hx2).mono fun e W' ⟨he, hb⟩ => ?_
  subst he
  exact ⟨_, rfl, law_post Try.laidOut (by kernel_rfl) rfl Try.underlying4 rfl (fun ds hd => by match ds, hd with | [e0, e1, e2], _ => rfl) hW' hb⟩

theorem fnExactIsPlay_holds : Rows.FnExactIsPlaySaid :=
  OpenClaim.holds_of_wide 6 Try.f6 rfl rfl rfl rfl rfl rfl rfl ⟨rfl, rfl, rfl, rfl, rfl⟩ rfl rfl rfl rfl rfl (by kernel_rfl) Try.func6 (by kernel_rfl)
    (of_decide_eq_true (by kernel_rfl)) (by unfold Func.isWrapper; first | (rw [if_pos (by decide +kernel)]; kernel_rfl) | (rw [if_neg (by decide +kernel)]; exact ⟨rfl, rfl⟩))
    (fun os started H enc _ => fnExactIsPlay_lifted os started H enc)

end Go.Proofs.Ytgkiddmmlkkfkaa
