/- A listed row whose walk also needs the world's shape: the library's variable of the greatest length holds some number. SplitString: what the reference's and the program's call of the library hand back. Words read as numbers: what the program's and the reference's readers of a row hand back. -/
import Derived.Test.YtcifpfdlkpddeaaGreatDoorQxbd
import Derived.Test.YtcifpfdlkpddeaaGreatDoorQxaq
import Derived.Test.YtcifpfdlkpddeaaGreatDoorQxav
import Derived.Shelf.Vars
set_option linter.unusedSimpArgs false
set_option linter.unusedVariables false
namespace Go.Proofs.YtcifpfdlkpddeaaGreatDoor
open Go.ChangeShapes Go.WideShapes Go.ChangeAt Go.RowKit

/-- A listed row from its walk, the world's shape at hand. -/
theorem lift_shaped {H : Type} {enc : TypeId × Value → H} {a : Assume} {C : Checked} {os : Os} {f : FuncId} {fn : Func} {s : ChangeSpec} {conds : List PathCond} {apart fresh handsOn again : Bool} {X : World → Array Value → Prop}
    (hX : ∀ (w w' : World) (args : Array Value), w.heap = w'.heap → X w args → X w' args)
    (own : ownKnob C.prog.godebug = none) (started : os.Started) (noInit : C.prog.inits.idxOf? f = none) (hfn : C.prog.funcs[f]? = some fn)
    (witness : ∃ (w : World) (tape : Tape) (i : Input), w.os = os ∧ (w.forCall tape i).Shaped C.prog ∧ i.vars = [] ∧ Input.okWide C.prog (w.forCall tape i) .any w.heap.size f i ∧
      ((s.pre enc C.prog fn conds apart (w.forCall tape i).memory i.args ∧ X (w.forCall tape i).memory i.args) ∧ sizedMet enc C.prog fn (OpenSpec.ofChange s) apart (w.forCall tape i).memory i.args) ∧ a.holds C.prog (lone (Frame.enter C.prog f i.args .normal) [] (w.forCall tape i)))
    (walk : ∀ (W : World) (base : Nat) (args : Array Value) (ds gs : List (DataW H)) (before : List MemPlace),
      (∀ (j : Nat) t v, fn.params[j]? = some t → args[j]? = some v → Value.okWide C.prog W .any base t v) →
      DataW.Whole enc C.prog fn.params.toList s.vars apart W args.toList ds gs before → X W args → W.ShapedOpen C.prog →
      Calls C.prog f args W fun e W' => ∃ v, e = .returned v ∧ s.post enc C.prog fn apart fresh handsOn again W args v W') :
    ReturnsInHanded a C os f .any (fun w args => (s.pre enc C.prog fn conds apart w args ∧ X w args) ∧ sizedMet enc C.prog fn (OpenSpec.ofChange s) apart w args) (s.post enc C.prog fn apart fresh handsOn again) := by
  refine returnsInHanded_of_calls own started noInit witness ?_
  intro w tape i _ hshape _ hin hpre _
  obtain ⟨_, _, _, g, hg, _, _, _, _, hval⟩ := hin
  obtain rfl : g = fn := Option.some.inj (hg.symm.trans hfn)
  obtain ⟨⟨⟨ds, gs, before, hwhole, _⟩, hx⟩, _⟩ := hpre
  have hwhole' := DataW.Whole.of_heap (w' := w.forCall tape i) (by rfl) hwhole
  refine (walk (w.forCall tape i) w.heap.size i.args ds gs before hval hwhole' (hX _ _ _ (by rfl) hx) hshape).mono fun e W' ⟨v, he, hp⟩ => ?_
  subst he
  exact ChangeSpec.post_blind hp

/-- The library's variable of the greatest length holds some number. -/
def Max (w : World) : Prop := ∃ m, w.cell? ⟨0, 0, none⟩ = some (.int .i64 m)
theorem Max.stays {w w' : World} (h : Max w) (hb : Below w.heap.size w w') : Max w' := by
  obtain ⟨m, hm⟩ := h
  exact ⟨m, by rw [hb.cell (p := ⟨0, 0, none⟩) (World.block_lt_of_cell? _ _ hm)]; exact hm⟩
theorem max_of_shaped {w : World} (h : w.ShapedOpen Tryz.prog) : Max w :=
  cell_of_shapedOpen_int (P := Tryz.prog) (g := 0) (t := 3) (zero := #[.int .i64 0]) h (of_decide_eq_true (by kernel_rfl)) (by kernel_rfl) rfl (by kernel_rfl) (by kernel_rfl) Tryz.underlying3
end Go.Proofs.YtcifpfdlkpddeaaGreatDoor
set_option linter.unusedSimpArgs false
set_option linter.unusedVariables false
namespace Go.Proofs.YtcifpfdlkpddeaaGreatDoor
open Go.RowKit Go.WideShapes

/-- What SplitString hands back. -/
def splOk (s sep : ByteArray) : Bool := decide (s.size ≤ 4000) && decide (sep.size = 1)
def splR (s sep : ByteArray) : List ByteArray := if splOk s sep then piecesB (sep.data.toList.headD 0) s else []
theorem splR_size (s sep : ByteArray) : (splR s sep).length ≤ 4001 := by
  unfold splR
  split
  · rename_i h
    unfold splOk at h
    rw [Bool.and_eq_true, decide_eq_true_eq] at h
    have := piecesB_length (sep.data.toList.headD 0) s
    omega
  · simp
theorem one_byte {sep : ByteArray} (h : sep.size = 1) : ∃ c : UInt8, sep = ⟨#[c]⟩ := by
  obtain ⟨⟨l⟩⟩ := sep
  have : l.length = 1 := by simpa [ByteArray.size] using h
  obtain ⟨c, rfl⟩ := List.length_eq_one_iff.1 this
  exact ⟨c, rfl⟩
theorem splitB_own (c : UInt8) (s : ByteArray) : Lib.splitB ⟨#[c]⟩ 0 (Lib.countB s ⟨#[c]⟩) s = piecesB c s ∧ Lib.countB s ⟨#[c]⟩ + 1 = (piecesB c s).length := by
  have h := splitB_pieces c s
  have h1 : Lib.splitB ⟨#[c]⟩ 0 (Lib.countB s ⟨#[c]⟩) s = piecesB c s := by
    unfold piecesB
    rw [← h, List.map_map]
    symm
    conv => rhs; rw [← List.map_id (Lib.splitB ⟨#[c]⟩ 0 (Lib.countB s ⟨#[c]⟩) s)]
    apply List.map_congr_left
    intro x _
    exact bytes_inj (by simp)
  refine ⟨h1, ?_⟩
  rw [← h1]
  exact (Lib.splitB_all ⟨#[c]⟩ (Nat.le_refl 1) 0 _ s rfl).symm

theorem split_any (s : ByteArray) (c : UInt8) (w : World) (hs : s.size ≤ 1048576) (hm : Max w) :
    Calls Tryz.prog 48 #[.string s, .string ⟨#[c]⟩] w fun e w' => ∃ a c', e = .returned (.slice a (piecesB c s).length c') ∧ OwnV 9 w.heap.size w'.heap.size w' (.slice a (piecesB c s).length c') (strs (piecesB c s)) ∧ Below w.heap.size w w' := by
  obtain ⟨m, hm⟩ := hm
  obtain ⟨h1, h2⟩ := splitB_own c s
  refine (Tryz.strings_Split s ⟨#[c]⟩ m w (by omega) hm (Nat.le_refl 1)).mono ?_
  rintro e w' ⟨rfl, rfl⟩
  rw [h1, h2]
  refine ⟨_, _, rfl, ?_, (Below.refl _ _).alloc (Nat.le_refl _) _⟩
  have hl : (piecesB c s).length ≤ maxLen := by have := piecesB_length c s; unfold maxLen; omega
  have hr : (w.alloc (.cells ((piecesB c s).map Value.string).toArray 9)).rowIs w.heap.size 9 (strs (piecesB c s)).length (fun j => (strs (piecesB c s)).getD j .nilIface) := by
    refine ⟨((piecesB c s).map Value.string).toArray, by show (w.heap.push _)[w.heap.size]? = _; simp, by simp [strs], fun j hj => ?_⟩
    show _ = some ((strs (piecesB c s)).getD j .nilIface)
    rw [List.getD_eq_getElem?_getD, List.getElem?_eq_getElem hj]
    simp [strs, List.getElem?_eq_getElem (by simpa using hj)]
  have := ownV_of_rowIs (lo := w.heap.size) hr (Nat.le_refl _) (fun j u hu => by rw [List.getD_eq_getElem?_getD, hu]; rfl) (by rw [strs_length]; exact hl)
  rw [strs_length] at this
  rw [World.size_alloc]
  exact this

end Go.Proofs.YtcifpfdlkpddeaaGreatDoor
set_option linter.unusedSimpArgs false
set_option linter.unusedVariables false
namespace Go.Proofs.YtcifpfdlkpddeaaGreatDoor
open Go.RowKit Go.WideShapes

/-- A row stays while another one of another kind grows. -/
theorem OwnV.beside {T T' lo hi lo' hi' : Nat} {w w' : World} {v v' : Value} {vs vs' : List Value} (h : OwnV T lo hi w v vs) (h' : OwnV T' lo' hi' w v' vs') (hT : T ≠ T') (hg : w.grownBy w' v'.ownBlock) : OwnV T lo hi w' v vs :=
  h.of_block fun g hgv => hg.block g (h.lt g hgv).2.2 (fun e => (h.ne h' hT hgv) e.symm)
theorem OwnV.cell0 {T lo hi g n c : Nat} {w : World} {vs : List Value} (h : OwnV T lo hi w (.slice (some ⟨g, 0, none⟩) n c) vs) (j : Nat) (u : Value) (hj : vs[j]? = some u) : w.cell? ⟨g, j, none⟩ = some u := by
  obtain ⟨a', g', cap, hv, _, ha, hc, _⟩ := h.shape
  have hp : 0 < vs.length := by have := (List.getElem?_eq_some_iff.1 hj).1; omega
  obtain ⟨h1, _⟩ := ha hp
  injection hv with q1
  rw [h1] at q1
  injection q1 with q1
  injection q1 with q1
  rw [q1]
  exact hc j u hj
/-- The pieces of a text lie in one row. -/
theorem pieces_row {c : UInt8} {t : ByteArray} {lo hi : Nat} {w : World} {a : Option Addr} {c1 : Nat} (h : OwnV 9 lo hi w (.slice a (piecesB c t).length c1) (strs (piecesB c t))) : ∃ g, a = some ⟨g, 0, none⟩ := by
  obtain ⟨a', g, cap, hv, _, ha, _⟩ := h.shape
  obtain ⟨h1, _⟩ := ha (by rw [strs_length]; exact piecesB_pos c t)
  injection hv with q1
  exact ⟨g, by rw [q1, h1]⟩
set_option maxRecDepth 20000 in
set_option maxHeartbeats 2000000 in
theorem readNumbers_any (t : ByteArray) (w : World) (hs : t.size ≤ 1048576) (ht : Tab w) (he : ErrS w) (hm : Max w) :
    Calls Tryz.prog 50 #[.string t, .string ⟨#[44]⟩] w (IntsRes w (numsR t) (numsOk t)) := by
  have hE := OwnV.empty 3 w
  have hB0 : Below w.heap.size w (w.alloc (.cells #[] 3)) := (Below.refl _ _).alloc (Nat.le_refl _) _
  have C := split_any t 44 (w.alloc (.cells #[] 3)) hs (hm.stays hB0)
  have HT := Lib.hid ht
  have HEE := Lib.hid he
  have hpl := piecesB_length 44 t
  have hps := fun (k : Nat) (x : ByteArray) (h : (piecesB 44 t)[k]? = some x) => piecesB_size (List.mem_of_getElem? h)
  obtain ⟨ps, hp⟩ : ∃ ps, piecesB 44 t = ps := ⟨_, rfl⟩
  rw [hp] at C hpl hps
  have HP := Lib.hid hp
  have HPS := Lib.hid hps
  obtain ⟨lo, hlo⟩ : ∃ lo, lo = w.heap.size := ⟨_, rfl⟩
  clear hp ht he hm hps
  go_enter Tryz.func50, Tryz.ntmps50
  go_wp2_with fail
  refine C.mono ?_
  rintro e w1 ⟨a1, c1, rfl, o1, b1⟩
  have B1 : Below w.heap.size w w1 := hB0.trans (b1.mono hB0.size)
  have hE1 := (hE.kept b1 (by simp)).weaken (hi' := w1.heap.size) (Nat.le_refl _) (by have := b1.size; rw [World.size_alloc] at this; exact this)
  rw [← HP.out] at o1
  obtain ⟨rb, rfl⟩ := pieces_row o1
  rw [HP.out] at o1
  have oS := o1.weaken (lo' := lo) (by rw [hlo, World.size_alloc]; omega) (Nat.le_refl _)
  clear C hE hB0 o1 b1
  go_wp2
  go_loopw [6, 16] (fun s6 s16 wr => ∃ (k : Nat) (D : List Int), k ≤ ps.length ∧ s16 = .int .i64 k ∧ D.length = k ∧ Hid (D = (ps.take k).map readV ∧ ∀ j x, j < k → ps[j]? = some x → readOk x = true) ∧ ∃ a c, s6 = .slice a D.length c ∧ OwnV 3 lo wr.heap.size wr (.slice a D.length c) (ints D) ∧ OwnV 9 lo w1.heap.size wr (.slice (some ⟨rb, 0, none⟩) ps.length c1) (strs ps) ∧ Below lo w wr) (fun _ s16 _ => ps.length - (intOf s16).toNat)
  case atStart => exact ⟨0, [], by omega, rfl, rfl, Lib.hid ⟨rfl, fun j x hj => absurd hj (by omega)⟩, _, _, rfl, by rw [hlo]; simpa [ints] using hE1, oS, by rw [hlo]; exact B1⟩
  case round =>
    clear hE1 oS
    obtain ⟨k, D, hk, rfl, hDl, HD, a, c, rfl, hO, oS, hB⟩ := hrel
    have HDL := Lib.hid hDl
    have hdl : (ints D).length ≤ 4194304 := by rw [ints_length]; omega
    have BW : Below w.heap.size w wr := by rw [← hlo]; exact hB
    have hz := BW.size
    clear hDl
    by_cases hlt : k < ps.length
    · have hg := List.getElem?_eq_getElem hlt
      have hcell : wr.cell? ⟨rb, k, none⟩ = some (.string ps[k]) := oS.cell0 k _ (by rw [strs_get, hg]; rfl)
      have hsz := HPS.out k _ hg
      have CP := implParseInt_any ps[k] wr (by omega) (HT.out.stays BW) (HEE.out.stays BW)
      generalize ps[k] = x at *
      have HG := Lib.hid hg
      clear hg
      cases hok : readOk x with
      | true =>
        rw [hok] at CP
        have hvb := readV_bd x
        have HV := Lib.hid hok
        obtain ⟨z, hzv⟩ : ∃ z, readV x = z := ⟨_, rfl⟩
        rw [hzv] at CP hvb
        have HZ := Lib.hid hzv
        clear hok hzv
        go_wp2_with fail
        refine CP.mono ?_
        rintro e w2 ⟨rfl, b2⟩
        have hO2 := hO.kept b2 (Nat.le_refl _)
        have oS2 := oS.of_block (fun g hg => b2.block g (oS.lt g hg).2.2)
        have hB2 := hB.trans (b2.mono (by omega))
        have hz2 := b2.size
        clear hO CP hcell oS
        go_wp2_with (at_builtin; refine append1_own rfl _ _ 33 3 rfl Tryz.underlying33 Tryz.infoInt rfl hO2 rfl rfl rfl hdl (by omega) (by omega) ?_)
        intro a2 c2 w3 hO3 hg3
        have hB3 : Below lo w w3 := hB2.grown hg3 (by omega) (fun g hg => (hO2.lt g hg).1)
        have oS3 := oS2.beside hO2 (by decide) hg3
        clear hO2 oS2
        go_wp2
        go_roundw
        case rel => exact ⟨k + 1, D ++ [z], by omega, by go_num, by rw [List.length_append, HDL.out]; rfl, Lib.hid ⟨by rw [List.take_add_one, HG.out, List.map_append, HD.out.1]; simp [HZ.out], fun j y hj hy => by
          by_cases e : j = k
          · subst e; rw [HG.out] at hy; cases hy; exact HV.out
          · exact HD.out.2 j y (by omega) hy⟩, a2, c2, by simp, by rw [hlo]; simpa [ints] using hO3, oS3, hB3⟩
        case measure => simp [intOf]; omega
      | false =>
        rw [hok] at CP
        have HN := Lib.hid (show numsOk t = false by
          unfold numsOk
          rw [HP.out, List.all_eq_false]
          exact ⟨x, List.mem_of_getElem? HG.out, by simp [hok]⟩)
        clear hok
        generalize readV x = z at *
        go_wp2_with fail
        refine CP.mono ?_
        rintro e w2 ⟨rfl, b2⟩
        go_wp2
        go_ret2
        have e1 : numsR t = [] := by unfold numsR; rw [if_neg (by simp [HN.out])]
        rw [e1, HN.out]
        exact IntsRes.zero (BW.trans (b2.mono hz))
    · obtain rfl : k = ps.length := by omega
      have HN := Lib.hid (show numsOk t = true ∧ numsR t = D by
        have h1 : numsOk t = true := by
          unfold numsOk
          rw [HP.out, List.all_eq_true]
          intro x hx
          obtain ⟨j, hj⟩ := List.mem_iff_getElem?.1 hx
          exact HD.out.2 j x (List.getElem?_eq_some_iff.1 hj).1 hj
        refine ⟨h1, ?_⟩
        unfold numsR numsL
        rw [if_pos h1, HP.out, HD.out.1, List.take_length])
      go_wp2
      go_ret2
      rw [HN.out.1, HN.out.2]
      exact ⟨_, _, rfl, by rw [← hlo]; exact hO, BW⟩
set_option maxRecDepth 20000 in
set_option maxHeartbeats 2000000 in
theorem l2ReadRow_any (t : ByteArray) (w : World) (hs : t.size ≤ 1048576) :
    Calls Tryz.prog 57 #[.string t] w (IntsRes w (rowR t) (rowOk t)) := by
  have hE := OwnV.empty 3 w
  have hB0 : Below w.heap.size w (w.alloc (.cells #[] 3)) := (Below.refl _ _).alloc (Nat.le_refl _) _
  have C := l1Split_any t 44 (w.alloc (.cells #[] 3)) hs
  have hpl := piecesB_length 44 t
  have hps := fun (k : Nat) (x : ByteArray) (h : (piecesB 44 t)[k]? = some x) => piecesB_size (List.mem_of_getElem? h)
  obtain ⟨ps, hp⟩ : ∃ ps, piecesB 44 t = ps := ⟨_, rfl⟩
  rw [hp] at C hpl hps
  have HP := Lib.hid hp
  have HPS := Lib.hid hps
  obtain ⟨lo, hlo⟩ : ∃ lo, lo = w.heap.size := ⟨_, rfl⟩
  clear hp hps
  go_enter Tryz.func57, Tryz.ntmps57
  go_wp2_with fail
  refine C.mono ?_
  rintro e w1 ⟨a1, c1, rfl, o1, b1⟩
  have B1 : Below w.heap.size w w1 := hB0.trans (b1.mono hB0.size)
  have hE1 := (hE.kept b1 (by simp)).weaken (hi' := w1.heap.size) (Nat.le_refl _) (by have := b1.size; rw [World.size_alloc] at this; exact this)
  rw [← HP.out] at o1
  obtain ⟨rb, rfl⟩ := pieces_row o1
  rw [HP.out] at o1
  have oS := o1.weaken (lo' := lo) (by rw [hlo, World.size_alloc]; omega) (Nat.le_refl _)
  clear C hE hB0 o1 b1
  go_wp2
  go_loopw [4, 6] (fun s4 s6 wr => ∃ (k : Nat) (D : List Int), k ≤ ps.length ∧ k ≤ 5 ∧ s6 = .int .i64 k ∧ D.length = k ∧ Hid (D = (ps.take k).map readV ∧ ∀ j x, j < k → ps[j]? = some x → readOk x = true) ∧ ∃ a c, s4 = .slice a D.length c ∧ OwnV 3 lo wr.heap.size wr (.slice a D.length c) (ints D) ∧ OwnV 9 lo w1.heap.size wr (.slice (some ⟨rb, 0, none⟩) ps.length c1) (strs ps) ∧ Below lo w wr) (fun _ s6 _ => 5 - (intOf s6).toNat)
  case atStart => exact ⟨0, [], by omega, by omega, rfl, rfl, Lib.hid ⟨rfl, fun j x hj => absurd hj (by omega)⟩, _, _, rfl, by rw [hlo]; simpa [ints] using hE1, oS, by rw [hlo]; exact B1⟩
  case round =>
    clear hE1 oS
    obtain ⟨k, D, hk, hk5, rfl, hDl, HD, a, c, rfl, hO, oS, hB⟩ := hrel
    have HDL := Lib.hid hDl
    have hdl : (ints D).length ≤ 4194304 := by rw [ints_length]; omega
    have BW : Below w.heap.size w wr := by rw [← hlo]; exact hB
    have hz := BW.size
    have hd5 : D.length ≤ 5 := by omega
    have hd4 : ((D.length : Int) == 4) = decide (D.length = 4) := by
      by_cases h : D.length = 4
      · rw [h]; rfl
      · rw [decide_eq_false h]; simp; omega
    have HD4 := Lib.hid hd4
    clear hd4
    clear hDl
    have hend : ¬ (k < ps.length ∧ k < 5) → rowR t = D ∧ rowOk t = (decide (D.length = 4)) := fun hno => by
      have ht : ps.take 5 = ps.take k := by
        by_cases h5 : k = 5
        · rw [h5]
        · rw [List.take_of_length_le (by omega), List.take_of_length_le (by omega)]
      have hall : (ps.take k).all readOk = true := by
        rw [List.all_eq_true]
        intro x hx
        obtain ⟨j, hj⟩ := List.mem_iff_getElem?.1 hx
        rw [List.getElem?_take] at hj
        split at hj
        · rename_i hlt
          exact HD.out.2 j x hlt hj
        · cases hj
      have hl : (ps.take k).length = D.length := by rw [HD.out.1, List.length_map]
      unfold rowR rowOk
      rw [HP.out, ht, if_pos hall, hall, hl, ← HD.out.1]
      exact ⟨rfl, rfl⟩
    by_cases hlt : k < ps.length
    · have hlti : (k : Int) < (ps.length : Int) := by omega
      by_cases hlt5 : k < 5
      · have hlti5 : (k : Int) < 5 := by omega
        clear hend
        have hg := List.getElem?_eq_getElem hlt
        have hcell : wr.cell? ⟨rb, k, none⟩ = some (.string ps[k]) := oS.cell0 k _ (by rw [strs_get, hg]; rfl)
        have hsz := HPS.out k _ hg
        have CP := l1Read_any ps[k] wr (by omega)
        generalize ps[k] = x at *
        have HG := Lib.hid hg
        have hk0 : (0 : Int) ≤ (k : Int) := by omega
        clear hg
        cases hok : readOk x with
        | true =>
          rw [hok] at CP
          have hvb := readV_bd x
          have HV := Lib.hid hok
          obtain ⟨z, hzv⟩ : ∃ z, readV x = z := ⟨_, rfl⟩
          rw [hzv] at CP hvb
          have HZ := Lib.hid hzv
          clear hok hzv
          go_wp2_with fail
          refine CP.mono ?_
          rintro e w2 ⟨rfl, d2⟩
          have b2 := d2.below wr.heap.size
          have hO2 := (hO.kept b2 (Nat.le_refl _)).weaken (hi' := w2.heap.size) (Nat.le_refl _) b2.size
          have oS2 := oS.of_block (fun g hg => b2.block g (oS.lt g hg).2.2)
          have hB2 := hB.trans (b2.mono (by omega))
          have hz2 := b2.size
          clear hO CP hcell oS d2
          go_wp2_with (at_builtin; refine append1_own rfl _ _ 33 3 rfl Tryz.underlying33 Tryz.infoInt rfl hO2 rfl rfl rfl hdl (by omega) (by omega) ?_)
          intro a2 c2 w3 hO3 hg3
          have hB3 : Below lo w w3 := hB2.grown hg3 (by omega) (fun g hg => (hO2.lt g hg).1)
          have oS3 := oS2.beside hO2 (by decide) hg3
          clear hO2 oS2
          go_wp2
          go_roundw
          case rel => exact ⟨k + 1, D ++ [z], by omega, by omega, by go_num, by rw [List.length_append, HDL.out]; rfl, Lib.hid ⟨by rw [List.take_add_one, HG.out, List.map_append, HD.out.1]; simp [HZ.out], fun j y hj hy => by
            by_cases e : j = k
            · subst e; rw [HG.out] at hy; cases hy; exact HV.out
            · exact HD.out.2 j y (by omega) hy⟩, a2, c2, by simp, by rw [hlo]; simpa [ints] using hO3, oS3, hB3⟩
          case measure => simp [intOf]; omega
        | false =>
          rw [hok] at CP
          have HN := Lib.hid (show ((piecesB 44 t).take 5).all readOk = false by
            rw [HP.out, List.all_eq_false]
            exact ⟨x, List.mem_of_getElem? (i := k) (by rw [List.getElem?_take, if_pos hlt5]; exact HG.out), by simp [hok]⟩)
          clear hok
          generalize readV x = z at *
          have hE2 := OwnV.empty 3 wr
          have hB2 := BW.alloc hz (.cells #[] 3)
          go_wp2_with fail
          refine CP.mono ?_
          rintro e w2 ⟨rfl, d2⟩
          have hE3 := OwnV.empty 3 w2
          have hB3 : Below w.heap.size w (w2.alloc (.cells #[] 3)) := (BW.trans (d2.below _)).alloc (by have := (d2.below wr.heap.size).size; omega) _
          have hz3 := (d2.below wr.heap.size).size
          go_wp2
          go_ret2
          have e1 : rowR t = [] := by unfold rowR; rw [HN.out]; rfl
          have e2 : rowOk t = false := by unfold rowOk; rw [HN.out]; rfl
          rw [e1, e2]
          exact ⟨_, _, rfl, by simpa [ints] using hE3.weaken (by omega) (by simp), hB3⟩
      · have hlti5 : ¬ (k : Int) < 5 := by omega
        have HEND := Lib.hid (hend (by omega))
        clear hend hk5
        go_wp2
        go_ret2
        rw [HEND.out.1, HEND.out.2]
        exact ⟨a, c, by rw [← HD4.out]; rfl, by rw [← hlo]; exact hO, BW⟩
    · have hlti : ¬ (k : Int) < (ps.length : Int) := by omega
      have HEND := Lib.hid (hend (by omega))
      clear hend
      go_wp2
      go_ret2
      rw [HEND.out.1, HEND.out.2]
      exact ⟨a, c, by rw [← HD4.out]; rfl, by rw [← hlo]; exact hO, BW⟩
end Go.Proofs.YtcifpfdlkpddeaaGreatDoor
