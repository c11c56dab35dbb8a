/- FnStrings: the program's answer is the reference's, for all arguments; the listed tables are as the program's text lays them (a tied card). -/
import Derived.Test.YtenlfegldjfpjaaDoorFnStr
import Derived.Test.YtenlfegldjfpjaaDoorRowC
import Derived.Test.YtenlfegldjfpjaaDoorCut
set_option linter.unusedSimpArgs false
set_option linter.unusedVariables false
namespace Go.Proofs.YtenlfegldjfpjaaDoor
open Go.ChangeShapes Go.WideShapes Go.ChangeAt Go.RowKit
open Go.ChangeMaps (open_string shut_string)


set_option maxRecDepth 20000 in
set_option maxHeartbeats 8000000 in
theorem fnStrings_walk (a : Option Addr) (n cap : Nat) (w : World) (hn : n ≤ maxLen) (h : n ≤ 65536 → RdB w (.slice a n cap) n) (ht : Tab w) (hE : ErrS w) (hmx : Max w) :
    Calls Tryd.prog 3 #[.slice a n cap] w fun e w' => e = .returned (.bool true) ∧ Below w.heap.size w w' := by
  unfold maxLen at hn
  by_cases hbig : (65536 : Int) < (n : Int)
  · have CB := vBig_any a n cap w (by unfold maxLen; omega)
    have hd : decide ((65536 : Int) < (n : Int)) = true := decide_eq_true hbig
    rw [hd] at CB
    go_enter Tryd.func3, Tryd.ntmps3
    go_wp2_with (go_at_call 12; refine CB.mono ?_; rintro e w' ⟨rfl, rfl⟩)
    go_ret
    exact ⟨rfl, Below.refl _ _⟩
  have hb := h (by omega)
  have CB := vBig_any a n cap w (by unfold maxLen; omega)
  have hd : decide ((65536 : Int) < (n : Int)) = false := decide_eq_false hbig
  rw [hd] at CB
  have HT := Lib.hid ht
  have HEE := Lib.hid hE
  have HM := Lib.hid hmx
  have HB := Lib.hid hb
  clear h hd hbig ht hE hmx hb
  go_enter Tryd.func3, Tryd.ntmps3
  go_wp2_with fail
  refine CB.mono ?_
  rintro e w0 ⟨rfl, rfl⟩
  clear CB
  go_wp2_with fail
  refine (drawFormatInt_any _ n w HB.out).mono ?_
  rintro e w1 ⟨x1, rfl, hx0, hx1, B1⟩
  have z1 := B1.size
  go_wp2_with fail
  refine (implFormatInt_any x1 w1 (HT.out.stays B1)).mono ?_
  rintro e w2 ⟨rfl, b2⟩
  have B2 := B1.trans (b2.mono z1)
  have z2 := B2.size
  go_wp2_with fail
  refine (specFormatInt_any x1 w2).mono ?_
  rintro e w3 ⟨rfl, d3⟩
  have B3 := B2.trans ((d3.below w2.heap.size).mono z2)
  have z3 := B3.size
  go_wp2_with fail
  refine (drawParseInt_any _ n w3 (HB.out.kept B3)).mono ?_
  rintro e w4 ⟨t, rfl, ht30, b4⟩
  have B4 := B3.trans (b4.mono z3)
  have z4 := B4.size
  go_wp2_with fail
  refine (implParseInt_any t w4 (by omega) (HT.out.stays B4) (HEE.out.stays B4)).mono ?_
  rintro e w5 ⟨rfl, b5⟩
  have B5 := B4.trans (b5.mono z4)
  have z5 := B5.size
  go_wp2_with fail
  refine (specParseInt_any t w5 (by omega)).mono ?_
  rintro e w6 ⟨rfl, d6⟩
  have B6 := B5.trans ((d6.below w5.heap.size).mono z5)
  have z6 := B6.size
  go_wp2_with fail
  refine (drawAppendChecksum_any _ n w6 (HB.out.kept B6)).mono ?_
  rintro e w7 ⟨x, rfl, hx4, b7⟩
  have B7 := B6.trans (b7.mono z6)
  have z7 := B7.size
  go_wp2_with fail
  refine (implAppend_any x w7 (by omega) (HT.out.stays B7)).mono ?_
  rintro e w8 ⟨rfl, b8⟩
  have B8 := B7.trans (b8.mono z7)
  have z8 := B8.size
  go_wp2_with fail
  refine (specAppend_any x w8 (by omega)).mono ?_
  rintro e w9 ⟨rfl, d9⟩
  have B9 := B8.trans ((d9.below w8.heap.size).mono z8)
  have z9 := B9.size
  clear z1 z2 z3 z4 z5 z6 z7 z8 b2 d3 b4 b5 d6 b7 b8 d9 B1 B2 B3 B4 B5 B6 B7 B8
  have hfs : (fmtS x1).size ≤ 1048576 := by
    unfold fmtS
    split
    · have := Lib.itoa_length_le x1 (by omega) (by omega)
      show (Lib.itoa x1).length ≤ _
      omega
    · exact Nat.zero_le _
  have CP := implParseInt_any (fmtS x1) w9 hfs (HT.out.stays B9) (HEE.out.stays B9)
  have g1 : (readV t != readV t) = false := by simp
  have g2 : (readOk t != readOk t) = false := by simp
  have g3 : (sealOk x != sealOk x) = false := by simp
  have g4 : (inB x1 (-999999) 999999 != inB x1 (-999999) 999999) = false := by simp
  have hback : inB x1 (-999999) 999999 = true → readV (fmtS x1) = x1 ∧ readOk (fmtS x1) = true := fun hi => by
    have := readI_itoa hi
    rw [fmtS_in hi]
    exact read_some (s := ⟨(Lib.itoa x1).toArray⟩) this
  have CV := fun W (hW : Below w.heap.size w W) (hz : (sealR x).size ≤ 1048576) => implVerify_any (sealR x) W hz (HT.out.stays hW) (HM.out.stays hW)
  have hso := fun hs : sealOk x = true => And.intro (sealR_ok hs) (And.intro (open_seal hs) hs)
  generalize readV t = m1 at *
  generalize readOk t = f1 at *
  generalize fmtS x1 = s1 at *
  obtain ⟨ok, hok⟩ : ∃ ok, inB x1 (-999999) 999999 = ok := ⟨_, rfl⟩
  rw [hok] at g4 hback
  rw [hok]
  cases hsx : sealOk x with
  | false =>
    have e1 := sealR_not hsx
    rw [hsx] at g3
    rw [e1]
    clear hsx hso e1 CV hok
    cases ok with
    | false =>
      clear hback
      generalize readV s1 = v1 at *
      generalize readOk s1 = o1 at *
      go_wp2_with (go_at_call 17; refine CP.mono ?_; rintro e w10 ⟨rfl, b10⟩)
      go_ret
      exact ⟨rfl, B9.trans (b10.mono z9)⟩
    | true =>
      obtain ⟨q1, q2⟩ := hback rfl
      rw [q1, q2] at CP
      have g5 : (x1 != x1) = false := by simp
      clear hback q1 q2
      go_wp2_with (go_at_call 17; refine CP.mono ?_; rintro e w10 ⟨rfl, b10⟩)
      go_ret
      exact ⟨rfl, B9.trans (b10.mono z9)⟩
  | true =>
    obtain ⟨e1, ⟨e2, e3⟩, _⟩ := hso hsx
    have HYC := fun (k : Nat) (b c : UInt8) => open_changed hsx (k := k) (b := b) (c := c)
    have hys := sealB_size x
    have hyl := csum_len x.data.toList
    rw [e1] at CV
    rw [hsx] at g3
    rw [e1]
    obtain ⟨y, hy⟩ : ∃ y, sealB x = y := ⟨_, rfl⟩
    rw [hy] at HYC hys e2 e3 CV
    rw [hy]
    have hy1 : 1 ≤ y.size := by omega
    have hy2 : y.size ≤ 5000 := by omega
    have CW := fun (z : ByteArray) W (hW : Below w.heap.size w W) (hz : z.size ≤ 1048576) => implVerify_any z W hz (HT.out.stays hW) (HM.out.stays hW)
    rw [e2, e3] at CV
    have HYY := Lib.hid HYC
    clear hsx hso e1 e2 e3 hy hys hyl hok HYC
    cases ok
    clear hback
    generalize readV s1 = v1 at *
    generalize readOk s1 = o1 at *
    go_wp2_with fail
    refine CP.mono ?_
    rintro e w10 ⟨rfl, b10⟩
    clear CP
    rotate_left
    obtain ⟨q1, q2⟩ := hback (by trivial)
    rw [q1, q2] at CP
    have g5 : (x1 != x1) = false := by simp
    clear hback q1 q2
    go_wp2_with fail
    refine CP.mono ?_
    rintro e w10 ⟨rfl, b10⟩
    clear CP
    all_goals
      have B10 := B9.trans (b10.mono z9)
      have z10 := B10.size
      go_wp2_with fail
      refine (CV w10 B10 (by omega)).mono ?_
      rintro e w11 ⟨rfl, b11⟩
      have B11 := B10.trans (b11.mono z10)
      have z11 := B11.size
      have hconv := Lib.run_convert_string_bytes (P := Tryd.prog) w11 9 22 5 y Tryd.underlying9 Tryd.underlying22 Tryd.underlying5
      have b12 := Lib.bytesWorld_below w11 5 y
      have B12 := B11.trans (b12.mono z11)
      have z12 := B12.size
      clear b10 b11
      go_wp2_with fail
      have hcl : ∀ j : Nat, j < y.size → (Lib.bytesWorld w11 5 y).cell? ⟨w11.heap.size, j, none⟩ = some (.int .u8 (y.data.toList.getD j 0).toNat) := fun j hj => Lib.bytesWorld_cell w11 5 y j hj
      have hfr : ∀ j : Nat, j < y.size → (Lib.bytesWorld w11 5 y).frozen? ⟨w11.heap.size, j, none⟩ = false := fun j hj => bytes_frozen w11 5 y j hj
      have hzb : (Lib.bytesWorld w11 5 y).heap.size = w11.heap.size + 1 := Lib.bytesWorld_size w11 5 y
      generalize Lib.bytesWorld w11 5 y = wb at *
      generalize grownCap w11 y.size 0 5 = ycap at *
      obtain ⟨g, hg⟩ : ∃ g, g = w11.heap.size := ⟨_, rfl⟩
      rw [← hg] at hcl hfr hzb
      rw [← hg]
      have hgw : w.heap.size ≤ g := by omega
      have hgb : g < wb.heap.size := by omega
      clear hconv b12 hg hzb
      refine (vAt_any _ n 9 wb (HB.out.kept B12) (by decide)).mono ?_
      rintro e w13 ⟨x9, rfl, hx9, rfl⟩
      obtain ⟨k, hk⟩ : ∃ k : Nat, k = x9 % y.size := ⟨_, rfl⟩
      have hkl : k < y.size := by rw [hk]; exact Nat.mod_lt _ hy1
      have ek1 : (x9 : Int).tmod (y.size : Int) = (k : Int) := by rw [hk]; exact tmod_lt hy1
      have ek2 : IntKind.i64.wrap (k : Int) = (k : Int) := wrapIn64 _ (by omega) (by omega)
      have hy0 : ¬ (y.size : Int) = 0 := by omega
      obtain ⟨c, hc⟩ : ∃ c, y.data.toList[k]? = some c := ⟨_, List.getElem?_eq_getElem (by simpa using hkl)⟩
      have hck := hcl k hkl
      rw [show y.data.toList.getD k 0 = c by rw [List.getD_eq_getElem?_getD, hc]; rfl] at hck
      have hfk := hfr k hkl
      have HCL := Lib.hid hcl
      have HCK := Lib.hid hc
      clear hk hcl hfr hc
      have C10 := vAt_any (.slice a n cap) n 10 wb.drew (HB.out.kept B12.drew) (by decide)
      go_wp2
      refine wp_region_cut_held (S := fun W => W.cell? ⟨g, k, none⟩ = some (.int .u8 (c.toNat : Int))) 13 _ rfl (by kernel_rfl) (by kernel_rfl) hck (fun hHeld => ?_)
      simp only [List.take_succ_cons, List.take_zero]
      refine wpAnyH_take (i := 0) (v := ?_) rfl (by kernel_rfl) (by kernel_rfl) (by kernel_rfl) (fun _ _ _ h => h) (Or.inl ⟨by rfl, ?_⟩) (by assumption) ?_
      rotate_left
      · (intro w hSw; (try dsimp only at hSw); go_simp; try with_reducible rfl)
      try simp only [Act.put, List.setIfInBounds_toArray, List.set_cons_zero, List.set_cons_succ]
      refine wpAnyH_take (i := 1) (v := ?_) rfl (by kernel_rfl) (by kernel_rfl) (by kernel_rfl) (fun _ _ _ h => h) (Or.inl ⟨by rfl, ?_⟩) (by assumption) ?_
      rotate_left
      · (intro w hSw; (try dsimp only at hSw); go_simp; try with_reducible rfl)
      try simp only [Act.put, List.setIfInBounds_toArray, List.set_cons_zero, List.set_cons_succ]
      refine wpAnyH_take (i := 2) (v := ?_) rfl (by kernel_rfl) (by kernel_rfl) (by kernel_rfl) (fun _ _ _ h => h) (Or.inl ⟨by rfl, ?_⟩) (by assumption) ?_
      rotate_left
      · (intro w hSw; (try dsimp only at hSw); go_simp; try with_reducible rfl)
      try simp only [Act.put, List.setIfInBounds_toArray, List.set_cons_zero, List.set_cons_succ]
      refine wpAnyH_take (i := 3) (v := ?_) rfl (by kernel_rfl) (by kernel_rfl) (by kernel_rfl) (fun _ _ _ h => h) (Or.inl ⟨by rfl, ?_⟩) (by assumption) ?_
      rotate_left
      · (intro w hSw; (try dsimp only at hSw); go_simp; try with_reducible rfl)
      try simp only [Act.put, List.setIfInBounds_toArray, List.set_cons_zero, List.set_cons_succ]
      refine wpAnyH_take (i := 4) (v := ?_) rfl (by kernel_rfl) (by kernel_rfl) (by kernel_rfl) (fun _ _ _ h => h) (Or.inl ⟨by rfl, ?_⟩) (by assumption) ?_
      rotate_left
      · (intro w hSw; (try dsimp only at hSw); go_simp; try with_reducible rfl)
      try simp only [Act.put, List.setIfInBounds_toArray, List.set_cons_zero, List.set_cons_succ]
      refine wpAnyH_take (i := 5) (v := ?_) rfl (by kernel_rfl) (by kernel_rfl) (by kernel_rfl) (fun _ _ _ h => h) (Or.inl ⟨by rfl, ?_⟩) (by assumption) ?_
      rotate_left
      · (intro w hSw; (try dsimp only at hSw); go_simp; try with_reducible rfl)
      try simp only [Act.put, List.setIfInBounds_toArray, List.set_cons_zero, List.set_cons_succ]
      refine wpAnyH_take (i := 6) (v := ?_) rfl (by kernel_rfl) (by kernel_rfl) (by kernel_rfl) (fun _ _ _ h => h) (Or.inl ⟨by rfl, ?_⟩) (by assumption) ?_
      rotate_left
      · (intro w hSw; (try dsimp only at hSw); go_simp; try with_reducible rfl)
      try simp only [Act.put, List.setIfInBounds_toArray, List.set_cons_zero, List.set_cons_succ]
      refine wpAnyH_ready (rs := [7]) (by kernel_rfl) (by simp) ?_
      refine AllReadyH.cons rfl (fun K hK => ?_) AllReadyH.nil
      go_simp
      refine C10.mono ?_
      rintro e w14 ⟨x10, rfl, hx10, rfl⟩
      go_wp2_with fail
      refine hK.out _ _ ?_ (fun hHeld => ?_)
      · exact hck
      clear hK K
      try simp only [Act.put, List.setIfInBounds_toArray, List.set_cons_zero, List.set_cons_succ]
      obtain ⟨r, hr⟩ : ∃ r : Nat, r = x10 % 255 := ⟨_, rfl⟩
      have hrl : r < 255 := by omega
      have ek3 : (x10 : Int).tmod 255 = (r : Int) := by rw [hr]; exact tmod_lt (m := 255) (by decide)
      have ek4 : IntKind.i64.wrap (r : Int) = (r : Int) := wrapIn64 _ (by omega) (by omega)
      have ek5 : IntKind.i64.wrap (1 + (r : Int)) = 1 + (r : Int) := wrapIn64 _ (by omega) (by omega)
      have ek6 : IntKind.u8.wrap (1 + (r : Int)) = 1 + (r : Int) := IntWalk.u8_in _ (by omega)
      have hcb := c.toNat_lt
      obtain ⟨hx1b, hxne⟩ := xor_ne (x := c.toNat) (y := 1 + r) hcb (by omega) (by omega)
      obtain ⟨b, hbn⟩ : ∃ b : UInt8, b.toNat = Nat.xor c.toNat (1 + r) := ⟨UInt8.ofNat (Nat.xor c.toNat (1 + r)), by rw [UInt8.toNat_ofNat']; omega⟩
      have ek7 : bits .xor .u8 (c.toNat : Int) (1 + (r : Int)) = (b.toNat : Int) := by
        rw [hbn, show (1 + (r : Int)) = ((1 + r : Nat) : Int) by omega]
        exact u8_xor_nat c.toNat (1 + r) hcb (by omega)
      have hbc : b ≠ c := fun e => hxne (by rw [← hbn, e])
      have hver := HYY.out k b c HCK.out hbc
      have HV := Lib.hid hver
      clear hr hx1b hxne hbn hbc hver hcb
      refine wpAnyH_take (i := 8) (v := ?_) rfl (by kernel_rfl) (by kernel_rfl) (by kernel_rfl) (fun _ _ _ h => h) (Or.inl ⟨by rfl, ?_⟩) (by assumption) ?_
      rotate_left
      · (intro w hSw; (try dsimp only at hSw); go_simp; try with_reducible rfl)
      try simp only [Act.put, List.setIfInBounds_toArray, List.set_cons_zero, List.set_cons_succ]
      refine wpAnyH_take (i := 9) (v := ?_) rfl (by kernel_rfl) (by kernel_rfl) (by kernel_rfl) (fun _ _ _ h => h) (Or.inl ⟨by rfl, ?_⟩) (by assumption) ?_
      rotate_left
      · (intro w hSw; (try dsimp only at hSw); go_simp; try with_reducible rfl)
      try simp only [Act.put, List.setIfInBounds_toArray, List.set_cons_zero, List.set_cons_succ]
      refine wpAnyH_take (i := 10) (v := ?_) rfl (by kernel_rfl) (by kernel_rfl) (by kernel_rfl) (fun _ _ _ h => h) (Or.inl ⟨by rfl, ?_⟩) (by assumption) ?_
      rotate_left
      · (intro w hSw; (try dsimp only at hSw); go_simp; try with_reducible rfl)
      try simp only [Act.put, List.setIfInBounds_toArray, List.set_cons_zero, List.set_cons_succ]
      refine wpAnyH_take (i := 11) (v := ?_) rfl (by kernel_rfl) (by kernel_rfl) (by kernel_rfl) (fun _ _ _ h => h) (Or.inl ⟨by rfl, ?_⟩) (by assumption) ?_
      rotate_left
      · (intro w hSw; (try dsimp only at hSw); go_simp; try with_reducible rfl)
      try simp only [Act.put, List.setIfInBounds_toArray, List.set_cons_zero, List.set_cons_succ]
      refine wpAnyH_take (i := 12) (v := ?_) rfl (by kernel_rfl) (by kernel_rfl) (by kernel_rfl) (fun _ _ _ h => h) (Or.inl ⟨by rfl, ?_⟩) (by assumption) ?_
      rotate_left
      · (intro w hSw; (try dsimp only at hSw); go_simp; try with_reducible rfl)
      try simp only [Act.put, List.setIfInBounds_toArray, List.set_cons_zero, List.set_cons_succ]
      refine wpAnyH_done (by kernel_rfl) ?_ _
      show wpList _ _ _ _ _ _
      have hT1 := text_set wb ((wb.setCell ⟨g, k, none⟩ (.int .u8 (b.toNat : Int))).drew) g k ycap y b hkl HCL.out (fun j => rfl)
      have hT2 := text_set wb (wb.drew.setCell ⟨g, k, none⟩ (.int .u8 (b.toNat : Int))) g k ycap y b hkl HCL.out (fun j => rfl)
      have B14 : Below w.heap.size w ((wb.setCell ⟨g, k, none⟩ (.int .u8 (b.toNat : Int))).drew) := (B12.setCell hgw _).drew
      have hys : (ByteArray.mk (y.data.toList.set k b).toArray).size = y.size := by show (y.data.toList.set k b).length = y.size; simp
      obtain ⟨y2, hy2⟩ : ∃ y2, ByteArray.mk (y.data.toList.set k b).toArray = y2 := ⟨_, rfl⟩
      rw [hy2] at hT1 hT2 hys
      have CF := CW y2 _ B14 (by omega)
      have e5 : verOk y2 = false := by rw [← hy2]; exact HV.out
      rw [e5, verR_not e5] at CF
      clear hy2 hys e5 HV hT2
      go_wp2_with (go_at_call 22; refine CF.mono ?_; rintro e w15 ⟨rfl, b15⟩)
      go_ret
      exact ⟨rfl, B14.trans (b15.mono B14.size)⟩


/-! ### The row -/
theorem fnStrings_door (os : Os) (args : Array Value) : laidMetH Tryd.prog Rows.fnStringsRow.laid ((World.doorLaid Tryd.prog 72 os).forCall (fun _ _ => 0) ⟨#[], args, []⟩).memory :=
  laidMetH_of_parts3 (fuel := 8) (laidMet_of_run' 8 (by kernel_rfl) (by kernel_rfl)) (by kernel_rfl) (by kernel_rfl)

set_option maxRecDepth 100000 in
theorem fnStrings_lifted (os : Os) (started : os.Started) (H : Type) (enc : TypeId × Value → H) :
    ReturnsInHanded {} Tryd.checked os 3 .any (fun w args => (Rows.fnStringsSpec.pre enc Tryd.prog Tryd.f3 [] false w args ∧ laidMetH Tryd.prog Rows.fnStringsRow.laid w) ∧ sizedMet enc Tryd.prog Tryd.f3 (OpenSpec.ofChange Rows.fnStringsSpec) false w args)
      (Rows.fnStringsSpec.post enc Tryd.prog Tryd.f3 false true false false) := by
  refine lift_shaped (C := Tryd.checked) (X := fun w _ => laidMetH Tryd.prog Rows.fnStringsRow.laid w) (fun _ _ _ hh h => h.of_heap hh) Tryd.own started (by kernel_rfl) Tryd.func3
    (ChangeSpec.witness_shaped (enc := enc) (C := Tryd.checked) (os := os) (X := fun w _ => laidMetH Tryd.prog Rows.fnStringsRow.laid w) false (World.doorLaid Tryd.prog 72 os) #[.slice none 0 0] 8 rfl (World.shaped_of_RefB (by kernel_rfl) (by kernel_rfl)) (by kernel_rfl) (by kernel_rfl) (by kernel_rfl) (fnStrings_door os _)) ?_
  intro W base args ds gs before hval0 hW hL hsh
  have hval : ∀ (j : Nat) t v, Tryd.f3.params[j]? = some t → args[j]? = some v → Value.okWide Tryd.prog W .any base t v := hval0
  have hW' := hW
  obtain ⟨p, q, hA0, hV, rfl, hfz, hnd⟩ := hW
  have hA : DataW.TrodAll enc Tryd.prog W 0 (fun _ => true) true Tryd.f3.params.toList args.toList ds p := hA0
  rw [Tryd.params3] at hA hval
  obtain ⟨v0, vs0, d0, ds0, p0, q0, hargs, rfl, rfl, h0, r0⟩ := trodAll_cons hA
  obtain ⟨rfl, rfl, rfl⟩ := trodAll_nil r0
  obtain rfl : args = #[v0] := by cases args; simp_all
  obtain ⟨aa0, n0, ca0, rfl, hm0, hx0⟩ := rdB_of Tryd.underlying22 Tryd.underlying5 Tryd.cellsByte (hval 0 22 v0 rfl rfl) h0
  clear hA0 hval0
  obtain ⟨ht, hE⟩ := tabErr_of_laid5 hL
  have hmx := max_of_shaped hsh
  refine (fnStrings_walk aa0 n0 ca0 W hm0 hx0 ht hE hmx).mono fun e W' ⟨he, hb⟩ => ?_
  subst he
  exact ⟨_, rfl, law_post Tryd.laidOut (by kernel_rfl) rfl Tryd.underlying4 rfl (fun ds hd => by match ds, hd with | [e0], _ => rfl) hW' hb⟩

theorem fnStrings_row_holds : Rows.FnStringsSaid :=
  OpenClaim.holds_of_wide 3 Tryd.f3 rfl rfl rfl rfl rfl rfl rfl ⟨rfl, rfl, rfl, rfl, rfl⟩ rfl rfl rfl rfl rfl (by kernel_rfl) Tryd.func3 (by kernel_rfl)
    (of_decide_eq_true (by kernel_rfl)) (by unfold Func.isWrapper; first | (rw [if_pos (by decide +kernel)]; kernel_rfl) | (rw [if_neg (by decide +kernel)]; exact ⟨rfl, rfl⟩))
    (fun os started H enc _ => fnStrings_lifted os started H enc)

/-! ### The card -/
theorem fnStrings_holds : Rows.FnStringsCardSaid :=
  Claim7.holds_tied_plain_at .later [] [.data, .data, .data, .sentinel, .sentinel] true Rows.fnStringsCard.stood.harness true
    fnStrings_row_holds (fun _ h => by cases h) (by kernel_rfl) (fun _ h => by cases h) fnStrings_row_tie rfl ⟨rfl, rfl⟩ (by kernel_rfl) rfl
    (fun f fn hf hfn => by
      obtain rfl : f = 3 := Option.some.inj ((show Tryd.prog.funcNamed "loop.example/g01141/laws.FnStrings" = some 3 by kernel_rfl).symm.trans hf) |>.symm
      obtain rfl : fn = Tryd.f3 := (Option.some.inj (Tryd.func3.symm.trans hfn)).symm
      exact ⟨by kernel_rfl, fun j t ht => by
        rw [Tryd.params3] at ht
        have hm : t ∈ [22] := by simpa using Array.mem_of_getElem? ht
        have hall : ([22].all fun u => !Tryd.prog.wantsStandIn u) = true := by kernel_rfl
        exact (show Tryd.prog.wantsStandIn t = false by simpa using List.all_eq_true.1 hall t hm)⟩)
    (by kernel_rfl)

end Go.Proofs.YtenlfegldjfpjaaDoor
