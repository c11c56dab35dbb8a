/- Slices of texts: readings, and the laws' own helpers over one slice of texts: copy, compare, size, mark, ask. -/
import Derived.Test.YtenlfegldjfpjaaDoorHarA
import Derived.Test.YtenlfegldjfpjaaDoorPlainN
import Derived.Test.YtenlfegldjfpjaaDoorApp
import Derived.Deep.RegionHeld3
import Derived.Laws.IdiomStrings
set_option linter.unusedSimpArgs false
set_option linter.unusedVariables false
namespace Go.Proofs.YtenlfegldjfpjaaDoor
open Go.RowKit Go.WideShapes

theorem wrapIn64 (x : Int) (h0 : -9223372036854775808 ≤ x) (h1 : x ≤ 9223372036854775807) : IntKind.i64.wrap x = x := IntWalk.i64_in _ (by omega)
def strs (ss : List ByteArray) : List Value := ss.map Value.string
@[simp] theorem strs_length (ss : List ByteArray) : (strs ss).length = ss.length := by simp [strs]
theorem strs_get (ss : List ByteArray) (j : Nat) : (strs ss)[j]? = ss[j]?.map Value.string := by simp [strs]

/-- A slice of texts that reads as ss, wherever it lies. -/
def RdS (w : World) (v : Value) (ss : List ByteArray) : Prop :=
  ∃ (a : Option Addr) (b off cap : Nat), v = .slice a ss.length cap ∧ ss.length ≤ maxLen ∧ (0 < ss.length → a = some ⟨b, off, none⟩) ∧ ∀ (j : Nat) (x : ByteArray), ss[j]? = some x → w.cell? ⟨b, off + j, none⟩ = some (.string x)
theorem RdS.kept {w w' : World} {v : Value} {ss : List ByteArray} (h : RdS w v ss) {B : Nat} (hB : w.heap.size ≤ B) (hb : Below B w w') : RdS w' v ss := by
  obtain ⟨a, b, off, cap, hv, hm, ha, hc⟩ := h
  refine ⟨a, b, off, cap, hv, hm, ha, fun j x hx => ?_⟩
  have h1 := hc j x hx
  have h2 := World.block_lt_of_cell? _ _ h1
  rw [hb.cell (p := ⟨b, off + j, none⟩) (Nat.lt_of_lt_of_le h2 hB)]
  exact h1
theorem OwnV.rdS {T lo hi : Nat} {w : World} {v : Value} {ss : List ByteArray} (h : OwnV T lo hi w v (strs ss)) : RdS w v ss := by
  obtain ⟨a, g, cap, hv, hm, ha, hc, _⟩ := h.shape
  rw [strs_length] at hv hm ha
  exact ⟨a, g, 0, cap, hv, hm, fun hp => (ha hp).1, fun j x hx => by rw [Nat.zero_add]; exact hc j _ (by simp [strs, hx])⟩

theorem Tryd.infoStr : (Tryd.prog.info? 9).map (fun i => (i.zero, i.size, i.bytes)) = some (some (.string ⟨#[]⟩), 1, 16) := by kernel_rfl

def sumSz (ss : List ByteArray) : Nat := (ss.map ByteArray.size).sum
theorem sumSz_take (ss : List ByteArray) (k : Nat) (x : ByteArray) (h : ss[k]? = some x) : sumSz (ss.take (k + 1)) = sumSz (ss.take k) + x.size := by
  simp [sumSz, List.take_add_one, h]
theorem sumSz_take_le (ss : List ByteArray) (k : Nat) : sumSz (ss.take k) ≤ sumSz ss := by
  have h : sumSz ss = sumSz (ss.take k) + sumSz (ss.drop k) := by
    have : ss = ss.take k ++ ss.drop k := (List.take_append_drop k ss).symm
    unfold sumSz
    rw [← List.sum_append, ← List.map_append, ← this]
  omega
theorem sumSz_get {ss : List ByteArray} {k : Nat} {x : ByteArray} (h : ss[k]? = some x) : x.size ≤ sumSz ss := by
  have h1 := sumSz_take ss k x h
  have h2 := sumSz_take_le ss (k + 1)
  omega

set_option maxHeartbeats 400000 in
theorem eqStringS_any (v1 v2 : Value) (xs ys : List ByteArray) (w : World) (h1 : RdS w v1 xs) (h2 : RdS w v2 ys) :
    Calls Tryd.prog 31 #[v1, v2] w fun e w' => e = .returned (.bool (decide (xs = ys))) ∧ Drw w w' := by
  obtain ⟨a1, b1, o1, c1, rfl, m1, e1, k1⟩ := h1
  obtain ⟨a2, b2, o2, c2, rfl, m2, e2, k2⟩ := h2
  unfold maxLen at m1 m2
  by_cases hl : xs.length = ys.length
  · have hlz : ((xs.length : Int) != (ys.length : Int)) = false := by rw [hl]; simp
    have H := Lib.hid hl
    clear hl
    go_enter Tryd.func31, Tryd.ntmps31
    go_wp2
    go_loopw [5] (fun i wr => ∃ k : Nat, k ≤ xs.length ∧ i = .int .i64 k ∧ (∀ j, j < k → xs[j]? = ys[j]?) ∧ Drw w wr) (fun i _ => xs.length - (intOf i).toNat)
    case atStart => exact ⟨0, by omega, rfl, fun j hj => by omega, Drw.refl _⟩
    case round =>
      obtain ⟨k, hk, rfl, hj, hd⟩ := hrel
      by_cases hlt : k < xs.length
      · have hlt2 : k < ys.length := by rw [← H.out]; exact hlt
        obtain rfl := e1 (by omega)
        obtain rfl := e2 (by omega)
        have hx := k1 k _ (List.getElem?_eq_getElem hlt)
        rw [← hd.cell] at hx
        have hy := k2 k _ (List.getElem?_eq_getElem hlt2)
        rw [← hd.cell] at hy
        clear k1 k2
        by_cases he : xs[k] = ys[k]
        · have hjk : ∀ j, j < k + 1 → xs[j]? = ys[j]? := fun j hjk => by
            by_cases e : j = k
            · subst e; rw [List.getElem?_eq_getElem hlt, List.getElem?_eq_getElem hlt2, he]
            · exact hj j (by omega)
          rw [← he] at hy
          generalize xs[k] = x at *
          clear he hj
          go_wp2
          go_quiet (fail)
          go_wp2
          go_roundw
          case rel => exact ⟨k + 1, by omega, by go_num, hjk, hd.trans (Drw.mk _ _)⟩
          case measure => simp [intOf]; omega
        · have HNE := Lib.hid (lists_ne hlt hlt2 he)
          have hez : ((xs[k]).toList == (ys[k]).toList) = false := by
            rw [beq_eq_false_iff_ne, ByteArray.toList_eq, ByteArray.toList_eq]
            intro e
            exact he (bytes_inj e)
          generalize xs[k] = x at *
          generalize ys[k] = y at *
          clear he
          go_wp2
          go_quiet (fail)
          go_wp2
          go_ret
          exact ⟨ret_bool HNE.out, hd.trans (Drw.mk _ _)⟩
      · go_wp2
        go_ret
        obtain rfl : k = xs.length := by omega
        exact ⟨ret_bool (lists_eq H.out hj), hd⟩
  · have hlz : ((xs.length : Int) != (ys.length : Int)) = true := by simp; omega
    go_enter Tryd.func31, Tryd.ntmps31
    go_wp2
    go_ret
    exact ⟨ret_bool (lists_len hl), Drw.refl _⟩
/-! ### markText -/
def mkTail (u : Nat) (o : List UInt8) : List UInt8 := if h : u = 0 then o else mkTail (u / 10) (UInt8.ofNat (48 + u % 10) :: o)
termination_by u
decreasing_by omega
theorem mkTail_zero (o : List UInt8) : mkTail 0 o = o := by rw [mkTail]; simp
theorem mkTail_step {u : Nat} (h : 0 < u) (o : List UInt8) : mkTail u o = mkTail (u / 10) (UInt8.ofNat (48 + u % 10) :: o) := by rw [mkTail, dif_neg (by omega)]
/-- The mark with a number. -/
def markT (k : Nat) : ByteArray := ⟨#[109]⟩ ++ ⟨(mkTail k []).toArray⟩

set_option maxRecDepth 20000 in
set_option maxHeartbeats 1000000 in
theorem markText_any (k : Nat) (w : World) (h0 : 0 < k) (hk : k ≤ 1099511627776) :
    Calls Tryd.prog 74 #[.int .i64 k] w fun e w' => e = .returned (.string (markT k)) ∧ Below w.heap.size w w' := by
  have hB0 := Below.refl w.heap.size w
  obtain ⟨lo, hlo⟩ : ∃ lo, lo = w.heap.size := ⟨_, rfl⟩
  have hk0 : ¬ k = 0 := by omega
  have hk1 : decide (k = 0) = false := by simp [hk0]
  go_enter Tryd.func74, Tryd.ntmps74
  go_wp2
  go_loopw [0, 3] (fun s0 s3 wr => ∃ (u : Nat) (o : List UInt8), s0 = .int .i64 u ∧ s3 = .string ⟨o.toArray⟩ ∧ u + o.length ≤ k ∧ mkTail k [] = mkTail u o ∧ Below lo w wr) (fun s0 _ _ => (intOf s0).toNat)
  case atStart => exact ⟨k, [], rfl, rfl, by simp, rfl, by rw [hlo]; exact hB0⟩
  case round =>
    obtain ⟨u, o, rfl, rfl, hl, hT, hB⟩ := hrel
    have hz := hB.size
    by_cases hu : 0 < u
    · obtain ⟨q, hq⟩ : ∃ q : Nat, q = u / 10 := ⟨_, rfl⟩
      obtain ⟨r, hr⟩ : ∃ r : Nat, r = u % 10 := ⟨_, rfl⟩
      have hr10 : r < 10 := by omega
      have hqu : q + 1 ≤ u := by omega
      have hT2 : mkTail k [] = mkTail q (UInt8.ofNat (48 + r) :: o) := by rw [hT, mkTail_step hu, ← hq, ← hr]
      have e1 : (u : Int) / 10 = (q : Int) := by omega
      have e2 : (u : Int) % 10 = (r : Int) := by omega
      have e3 : (u : Int).tdiv 10 = (q : Int) := by rw [Int.tdiv_eq_ediv_of_nonneg (by omega)]; exact e1
      have e4 : (u : Int).tmod 10 = (r : Int) := by rw [Int.tmod_eq_emod_of_nonneg (by omega)]; exact e2
      have e5 : IntKind.i64.wrap (q : Int) = (q : Int) := wrapIn64 _ (by omega) (by omega)
      have e6 : IntKind.i64.wrap (r : Int) = (r : Int) := wrapIn64 _ (by omega) (by omega)
      have e7 : IntKind.i64.wrap (48 + (r : Int)) = 48 + (r : Int) := wrapIn64 _ (by omega) (by omega)
      have e8 : IntKind.u8.wrap (48 + (r : Int)) = 48 + (r : Int) := IntWalk.u8_in _ (by omega)
      have HT := Lib.hid hT2
      have HQ := Lib.hid hqu
      have hl3 : ¬ (9223372036854775807 < 1 + o.length) := by omega
      have HL := Lib.hid hl
      have HK := Lib.hid hk
      have hu2 : u ≤ 1099511627776 := by omega
      clear hT hT2 hq hr e1 e2 hl hk
      have eb : ((UInt8.ofNat (48 + r)).toNat : Int) = 48 + (r : Int) := by rw [UInt8.toNat_ofNat']; omega
      have hconv := run_convert_bytes_back (P := Tryd.prog) (wr.alloc (.cells #[.int .u8 (48 + (r : Int))] 5)) 22 9 5 ⟨wr.heap.size, 0, none⟩ 1 [UInt8.ofNat (48 + r)] Tryd.underlying22 Tryd.underlying5 Tryd.underlying9 (fun j hj => by
        obtain rfl : j = 0 := by simpa using hj
        simp [Addr.add, eb]; omega)
      have hB2 : Below lo w (wr.alloc (.cells #[.int .u8 (48 + (r : Int))] 5)) := hB.alloc (by omega) _
      have HC := Lib.hid hconv
      clear hconv eb
      generalize UInt8.ofNat (48 + r) = c at *
      go_wp2
      rw [show (Value.slice (some { block := wr.heap.size, off := 0 }) 1 1) = (Value.slice (some ⟨wr.heap.size, 0, none⟩) [c].length 1) from rfl, HC.out]
      go_wp2
      go_roundw
      case rel => exact ⟨q, c :: o, rfl, by simp [ByteArray.mk_append_mk], by have := HL.out; have := HQ.out; simp only [List.length_cons]; omega, HT.out, hB2⟩
      case measure => simp [intOf]; omega
    · obtain rfl : u = 0 := by omega
      rw [mkTail_zero] at hT
      have HT := Lib.hid hT
      clear hT
      have hl3 : ¬ (9223372036854775807 < 1 + o.length) := by omega
      go_wp2
      go_ret
      exact ⟨by unfold markT; rw [HT.out]; rfl, by rw [← hlo]; exact hB⟩
/-! ### markStringS, heldStringS -/
def smarks (k n : Nat) : List ByteArray := (List.range n).map fun j => markT (k + j)
@[simp] theorem smarks_length (k n : Nat) : (smarks k n).length = n := by simp [smarks]
theorem smarks_get (k n j : Nat) (h : j < n) : (smarks k n)[j]? = some (markT (k + j)) := by simp [smarks, h]

set_option maxHeartbeats 1000000 in
theorem markStringS_any (T lo hi : Nat) (v : Value) (vs : List Value) (k : Nat) (w : World) (h : OwnV T lo hi w v vs) (hn : vs.length ≤ 4194304) (h0 : 0 < k) (hk : k ≤ 1073741824) :
    Calls Tryd.prog 32 #[v, .int .i64 k] w fun e w' => e = .returned (.int .i64 (k + vs.length)) ∧ OwnV T lo hi w' v (strs (smarks k vs.length)) ∧ w.grownBy w' v.ownBlock := by
  obtain ⟨a, g, cap, hv, hm, ha, hc, hf⟩ := h.shape
  rw [hv]
  go_enter Tryd.func32, Tryd.ntmps32
  go_wp2
  go_loopw [1, 5] (fun s1 s5 wr => ∃ j : Nat, j ≤ vs.length ∧ s5 = .int .i64 j ∧ s1 = .int .i64 (k + j) ∧ ∃ vs' : List Value, vs'.length = vs.length ∧ OwnV T lo hi wr v vs' ∧ (∀ i, i < j → vs'[i]? = some (.string (markT (k + i)))) ∧ w.grownBy wr v.ownBlock) (fun _ s5 _ => vs.length - (intOf s5).toNat)
  case atStart => exact ⟨0, by omega, rfl, by simp, vs, rfl, h, fun i hi => by omega, grown_refl _ _⟩
  case round =>
    obtain ⟨j, hj, rfl, rfl, vs', hl, how, hmk, hgr⟩ := hrel
    by_cases hlt : j < vs.length
    · obtain ⟨rfl, _, _, _⟩ := ha (by omega)
      have hob : v.ownBlock = some g := by rw [hv]; rfl
      have C := fun W => markText_any (k + j) W (by omega) (by omega)
      rw [Int.natCast_add] at C
      have HL := Lib.hid hl
      have HV := Lib.hid hv
      have HO := Lib.hid hob
      have HW := Lib.hid how
      have HM := Lib.hid hmk
      have HG := Lib.hid hgr
      clear hl hv hob hc hf ha h how hmk hgr
      go_wp2_with fail
      refine (C _).mono ?_
      rintro e wm ⟨rfl, hbm⟩
      have how2 := HW.out.of_block fun g' hg' => hbm.block g' (HW.out.lt g' hg').2.2
      obtain ⟨a', g', cap', hv', _, ha', hc', hf'⟩ := how2.shape
      obtain ⟨rfl, _, _, _⟩ := ha' (by rw [HL.out]; omega)
      have hgg : g = g' := by have := HV.out.symm.trans hv'; simp at this; exact this.1
      subst hgg
      obtain ⟨u0, hu0⟩ : ∃ u0, vs'[j]? = some u0 := ⟨_, List.getElem?_eq_getElem (by rw [HL.out]; omega)⟩
      have h1 : wm.cell? ⟨g, j, none⟩ = some u0 := hc' j _ hu0
      clear hu0
      have h2 : wm.frozen? ⟨g, j, none⟩ = false := hf' (by rw [HL.out]; omega) j
      have hset := how2.set HO.out (show j < vs'.length by rw [HL.out]; omega) (.string (markT (k + j)))
      have hgr2 := grown_trans HG.out (grown_trans ⟨hbm.os, hbm.tape, hbm.output, hbm.size, fun i hi _ => hbm.block i hi⟩ (by rw [HO.out]; exact grown_setCell wm g j (.string (markT (k + j)))))
      clear hv' hc' hf' ha' how2
      go_wp2
      go_roundw
      case rel => exact ⟨j + 1, by omega, by go_num, by go_num, _, by rw [List.length_set]; exact HL.out, hset, fun i hi => by
        rw [List.getElem?_set]
        by_cases e : j = i
        · subst e; rw [if_pos rfl, if_pos (by rw [HL.out]; exact hlt)]
        · rw [if_neg e]; exact HM.out i (by omega), hgr2⟩
      case measure => simp [intOf]; omega
    · have HV := Lib.hid hv
      clear hv
      go_wp2
      go_ret
      obtain rfl : j = vs.length := by omega
      refine ⟨rfl, ?_, by rw [← HV.out]; exact hgr⟩
      have : vs' = strs (smarks k vs.length) := by
        apply List.ext_getElem?
        intro i
        by_cases hi : i < vs.length
        · rw [hmk i hi]; simp [strs, smarks_get _ _ _ hi]
        · rw [List.getElem?_eq_none (by omega), List.getElem?_eq_none (by simp; omega)]
      rw [← this, ← HV.out]
      exact how
set_option maxHeartbeats 1000000 in
/-- heldStringS over what markStringS laid. -/
theorem heldStringS_any (v : Value) (n : Nat) (k : Nat) (w : World) (h : RdS w v (smarks k n)) (hn : n ≤ 4194304) (h0 : 0 < k) (hk : k ≤ 1073741824) :
    Calls Tryd.prog 33 #[v, .int .i64 k] w fun e w' => e = .returned (.int .i64 (k + n)) ∧ Below w.heap.size w w' := by
  obtain ⟨a, b, off, cap, hv, hm, ha, hc⟩ := h
  rw [smarks_length] at hv hm ha
  subst hv
  unfold maxLen at hm
  have hB0 := Below.refl w.heap.size w
  obtain ⟨lo, hlo⟩ : ∃ lo, lo = w.heap.size := ⟨_, rfl⟩
  go_enter Tryd.func33, Tryd.ntmps33
  go_wp2
  go_loopw [1, 5] (fun s1 s5 wr => ∃ j : Nat, j ≤ n ∧ s5 = .int .i64 j ∧ s1 = .int .i64 (k + j) ∧ Below lo w wr) (fun _ s5 _ => n - (intOf s5).toNat)
  case atStart => exact ⟨0, by omega, rfl, by simp, by rw [hlo]; exact hB0⟩
  case round =>
    obtain ⟨j, hj, rfl, rfl, hB⟩ := hrel
    have hz := hB.size
    by_cases hlt : j < n
    · obtain rfl := ha (by omega)
      have h1 := hc j _ (smarks_get k n j hlt)
      have hbl := World.block_lt_of_cell? _ _ h1
      have h2 : wr.cell? ⟨b, off + j, none⟩ = some (.string (markT (k + j))) := by rw [hB.cell (p := ⟨b, off + j, none⟩) (by rw [hlo]; exact hbl)]; exact h1
      have C := fun W => markText_any (k + j) W (by omega) (by omega)
      rw [Int.natCast_add] at C
      generalize markT (k + j) = t at *
      clear hc h1
      simp only at hbl
      have hbl2 : b < wr.heap.size := by rw [hlo] at hB; have := hB.size; omega
      have hez : (!(t.toList == t.toList)) = false := by simp
      have KS := Lib.hid (fun (W : World) (h : Below wr.heap.size wr W) => And.intro h ((h.cell (p := ⟨b, off + j, none⟩) hbl2).trans h2))
      have hBr := (Below.refl wr.heap.size wr).drew
      go_wp2
      go_region_held3 (fun w' => Below wr.heap.size wr w' ∧ w'.cell? ⟨b, off + j, none⟩ = some (.string t))
        (first | exact KS.out _ hBr | exact KS.out _ hBn)
        (first | (go_at_call 74; have hS := And.left (by assumption : Below wr.heap.size wr _ ∧ _); (with_reducible refine (C _).mono ?_); rintro e wd ⟨rfl, bd⟩; have hBn := hS.trans (bd.mono hS.size)))
      all_goals
        go_wp2
        go_roundw
        case rel => exact ⟨j + 1, by omega, by go_num, by go_num, hB.trans (hBn.mono (by rw [hlo]; exact hz))⟩
        case measure => simp [intOf]; omega
    · go_wp2
      go_ret
      obtain rfl : j = n := by omega
      exact ⟨rfl, by rw [← hlo]; exact hB⟩
end Go.Proofs.YtenlfegldjfpjaaDoor
