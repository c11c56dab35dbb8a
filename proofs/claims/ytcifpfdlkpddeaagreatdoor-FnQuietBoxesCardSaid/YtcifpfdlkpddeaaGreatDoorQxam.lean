/- Which byte stands in a text: the reference's loop and the program's call of the library. Joining texts: what the reference's and the program's JoinStrings hand back. The decimal text of a number: what the reference's l1Num and the program's call of the library hand back. -/
import Derived.Test.YtcifpfdlkpddeaaGreatDoorQxab
import Derived.Test.YtcifpfdlkpddeaaGreatDoorQxak
import Derived.Test.YtcifpfdlkpddeaaGreatDoorQxal
import Derived.Lib.Join
import Derived.Lib.ItoaNum
import Derived.Lib.ItoaMem
import Derived.Lib.ItoaLen
import Derived.Lib.SmallJoins
import Derived.Lib.AppendIntMem
set_option linter.unusedSimpArgs false
set_option linter.unusedVariables false
namespace Go.Proofs.YtcifpfdlkpddeaaGreatDoor
open Go.RowKit

theorem byte_eq_true {a b : UInt8} (h : a = b) : ((a.toNat : Int) == (b.toNat : Int)) = true := by subst h; simp
theorem byte_eq_false {a b : UInt8} (h : ¬ a = b) : ((a.toNat : Int) == (b.toNat : Int)) = false := by
  rw [beq_eq_false_iff_ne]
  intro e
  exact h (UInt8.toNat_inj.1 (by omega))
theorem byte_get {s : ByteArray} {k : Nat} (h : k < s.size) : s.data.toList[k]? = some s[k] := by
  rw [List.getElem?_eq_getElem (by simpa using h)]; rfl

end Go.Proofs.YtcifpfdlkpddeaaGreatDoor
set_option linter.unusedSimpArgs false
set_option linter.unusedVariables false
namespace Go.Proofs.YtcifpfdlkpddeaaGreatDoor
open Go.RowKit Go.WideShapes

theorem join_snoc (sep : List UInt8) : ∀ (xs : List (List UInt8)) (x : List UInt8), Lib.join (xs ++ [x]) sep = if xs = [] then x else Lib.join xs sep ++ sep ++ x
  | [], x => by rw [if_pos rfl]; exact Lib.join_one x sep
  | y :: r, x => by
    rw [if_neg (by simp), List.cons_append, Lib.join_cons, Lib.join_cons]
    simp [Lib.joinTail]
/-- The texts, joined. -/
def joinB (c : UInt8) (ss : List ByteArray) : ByteArray := ⟨(Lib.join (ss.map (·.data.toList)) [c]).toArray⟩
theorem joinB_first (c : UInt8) {ss : List ByteArray} {x : ByteArray} (h : ss[0]? = some x) : joinB c (ss.take 1) = x := by
  have e : ss.take 1 = [x] := by
    cases ss with
    | nil => cases h
    | cons y r => cases h; rfl
  rw [e]
  exact bytes_inj (by simp [joinB, Lib.join_one])
theorem joinB_next (c : UInt8) {ss : List ByteArray} {k : Nat} {x : ByteArray} (hk : 0 < k) (h : ss[k]? = some x) : joinB c (ss.take (k + 1)) = joinB c (ss.take k) ++ ⟨#[c]⟩ ++ x := by
  have e : ss.take (k + 1) = ss.take k ++ [x] := by simp [List.take_add_one, h]
  have hkl := (List.getElem?_eq_some_iff.1 h).1
  have hne : ¬ (ss.take k).map (·.data.toList) = [] := by
    intro h0
    have := congrArg List.length h0
    simp only [List.length_map, List.length_take, List.length_nil] at this
    omega
  apply bytes_inj
  unfold joinB
  rw [e, List.map_append, List.map_singleton, join_snoc, if_neg hne]
  simp [ByteArray.data_append]
theorem joinB_size (c : UInt8) {ss : List ByteArray} {k : Nat} (hk : k < ss.length) : (joinB c (ss.take (k + 1))).size = sumSz (ss.take (k + 1)) + k := by
  induction k with
  | zero =>
    have h := List.getElem?_eq_getElem hk
    rw [joinB_first c h, sumSz_take ss 0 _ h]
    simp [sumSz]
  | succ k ih =>
    have h := List.getElem?_eq_getElem hk
    rw [joinB_next c (by omega) h, sumSz_take ss (k + 1) _ h, ByteArray.size_append, ByteArray.size_append, ih (by omega)]
    show _ + 1 + _ = _
    omega
/-- What JoinStrings hands back. -/
def jOkC (c : UInt8) (ss : List ByteArray) : Bool := ss.all fun s => !(hasC s.data.toList c)
def jOk (ss : List ByteArray) (sep : ByteArray) : Bool := decide (sep.size = 1) && (decide (ss ≠ []) && (jOkC (sep.data.toList.headD 0) ss && decide (sumSz ss + (ss.length - 1) ≤ 4000)))
def jR (ss : List ByteArray) (sep : ByteArray) : ByteArray := if jOk ss sep then joinB (sep.data.toList.headD 0) ss else ⟨#[]⟩
theorem jR_ok {ss : List ByteArray} {sep : ByteArray} (h : jOk ss sep = true) : jR ss sep = joinB (sep.data.toList.headD 0) ss := by unfold jR; rw [if_pos h]
theorem jR_not {ss : List ByteArray} {sep : ByteArray} (h : jOk ss sep = false) : jR ss sep = ⟨#[]⟩ := by unfold jR; rw [if_neg (by simp [h])]
theorem jOk_sep {ss : List ByteArray} {sep : ByteArray} (h : ¬ sep.size = 1) : jOk ss sep = false := by unfold jOk; simp [h]
theorem jOk_nil (sep : ByteArray) : jOk [] sep = false := by unfold jOk; simp
theorem jOk_has {ss : List ByteArray} {c : UInt8} {k : Nat} {x : ByteArray} (h : ss[k]? = some x) (hx : hasC x.data.toList c = true) : jOk ss ⟨#[c]⟩ = false := by
  have : jOkC c ss = false := by
    unfold jOkC
    rw [List.all_eq_false]
    exact ⟨x, List.mem_of_getElem? h, by simp [hx]⟩
  unfold jOk
  show (_ && (_ && (jOkC c ss && _))) = _
  rw [this]; simp
theorem jOk_long {ss : List ByteArray} {c : UInt8} (h : 4000 < sumSz ss + (ss.length - 1)) : jOk ss ⟨#[c]⟩ = false := by
  unfold jOk
  have : decide (sumSz ss + (ss.length - 1) ≤ 4000) = false := by simp; omega
  rw [this]; simp
theorem jOk_all {ss : List ByteArray} {c : UInt8} (hne : 0 < ss.length) (h : ∀ (k : Nat) (x : ByteArray), ss[k]? = some x → hasC x.data.toList c = false) (hl : sumSz ss + (ss.length - 1) ≤ 4000) : jOk ss ⟨#[c]⟩ = true := by
  have h1 : jOkC c ss = true := by
    unfold jOkC
    rw [List.all_eq_true]
    intro x hx
    obtain ⟨k, hk⟩ := List.mem_iff_getElem?.1 hx
    rw [h k x hk]; rfl
  unfold jOk
  show (_ && (_ && (jOkC c ss && _))) = _
  rw [h1]
  have : ss ≠ [] := List.length_pos_iff.1 hne
  simp [this, hl]
  rfl
theorem one_byteJ {sep : ByteArray} (h : sep.size = 1) : ∃ c : UInt8, sep = ⟨#[c]⟩ := by
  obtain ⟨⟨l⟩⟩ := sep
  have : l.length = 1 := by simpa [ByteArray.size] using h
  obtain ⟨c, rfl⟩ := List.length_eq_one_iff.1 this
  exact ⟨c, rfl⟩

end Go.Proofs.YtcifpfdlkpddeaaGreatDoor
set_option linter.unusedSimpArgs false
set_option linter.unusedVariables false
namespace Go.Proofs.YtcifpfdlkpddeaaGreatDoor
open Go.RowKit

/-- The text of ten digits, as the program's text holds it. -/
def digs : ByteArray := ⟨#[48, 49, 50, 51, 52, 53, 54, 55, 56, 57]⟩
theorem digs_size : digs.size = 10 := rfl
theorem digs_piece_fin : ∀ i : Fin 10, (digs.data.toList.drop i.val).take (i.val + 1 - i.val) = [UInt8.ofNat (48 + i.val)] := by decide +kernel
theorem digs_piece {i : Nat} (h : i < 10) : (digs.data.toList.drop i).take (i + 1 - i) = [UInt8.ofNat (48 + i)] := digs_piece_fin ⟨i, h⟩

theorem digs_extract_fin : ∀ i : Fin 10, digs.extract i.val (i.val + 1) = ⟨#[UInt8.ofNat (48 + i.val)]⟩ := by decide +kernel
theorem digs_extract {i : Nat} (h : i < 10) : digs.extract i (i + 1) = ⟨[UInt8.ofNat (48 + i)].toArray⟩ := digs_extract_fin ⟨i, h⟩

theorem wrapIn (x : Int) (h0 : -9223372036854775808 ≤ x) (h1 : x ≤ 9223372036854775807) : IntKind.i64.wrap x = x := IntWalk.i64_in _ (by omega)
theorem decDigits_big {u : Nat} (h : ¬ u < 10) : Lib.decDigits u = Lib.decDigits (u / 10) ++ [UInt8.ofNat (48 + u % 10)] := by rw [Lib.decDigits, dif_neg h]

set_option maxRecDepth 20000 in
set_option maxHeartbeats 1000000 in
theorem l1Num_nat (k : Nat) : ∀ (u : Nat) (w : World), u ≤ k → u ≤ 9223372036854775800 →
    Calls Tryz.prog 82 #[.int .i64 u] w fun e w' => e = .returned (.string ⟨(Lib.decDigits u).toArray⟩) ∧ Drw w w' := by
  induction k with
  | zero =>
    intro u w hk hu
    obtain rfl : u = 0 := by omega
    go_enter Tryz.func82, Tryz.ntmps82
    go_wp2_with fail
    go_ret
    exact ⟨by rw [Lib.decDigits_one (by decide)]; rfl, Drw.refl _⟩
  | succ k ih =>
    intro u w hk hu
    by_cases h10 : u < 10
    · go_enter Tryz.func82, Tryz.ntmps82
      go_wp2_with fail
      go_ret
      exact ⟨by rw [Lib.decDigits_one h10, ← digs_extract h10]; rfl, Drw.refl _⟩
    · obtain ⟨q, hq⟩ : ∃ q : Nat, q = u / 10 := ⟨_, rfl⟩
      obtain ⟨r, hr⟩ : ∃ r : Nat, r = u % 10 := ⟨_, rfl⟩
      have hr10 : r < 10 := by omega
      have e0 := decDigits_big h10
      rw [← hq, ← hr] at e0
      have IH : ∀ n, Calls Tryz.prog 82 #[.int .i64 (q : Int)] (w.drewN n) fun e w' => e = .returned (.string ⟨(Lib.decDigits q).toArray⟩) ∧ Drw (w.drewN n) w' :=
        fun n => ih q _ (by omega) (by omega)
      have e1 : (u : Int) / 10 = (q : Int) := by omega
      have e2 : (u : Int) % 10 = (r : Int) := by omega
      have e3 : (u : Int).tdiv 10 = (q : Int) := by rw [Int.tdiv_eq_ediv_of_nonneg (by omega)]; exact e1
      have e4 : (u : Int).tmod 10 = (r : Int) := by rw [Int.tmod_eq_emod_of_nonneg (by omega)]; exact e2
      have e5 : IntKind.i64.wrap (q : Int) = (q : Int) := wrapIn _ (by omega) (by omega)
      have e6 : IntKind.i64.wrap (r : Int) = (r : Int) := wrapIn _ (by omega) (by omega)
      have e7 : IntKind.i64.wrap ((r : Int) + 1) = (r : Int) + 1 := wrapIn _ (by omega) (by omega)
      have f1 : (0 : Int) ≤ (r : Int) := by omega
      have f2 : (0 : Int) ≤ (r : Int) + 1 := by omega
      have f3 : (r : Int) ≤ (r : Int) + 1 := by omega
      have f4 : (r : Int) + 1 ≤ 10 := by omega
      have f5 : r ≤ r + 1 := by omega
      have f6 : r + 1 ≤ 10 := by omega
      have f7 : r ≤ 9 := by omega
      have hx : (ByteArray.mk #[48, 49, 50, 51, 52, 53, 54, 55, 56, 57]).extract r (r + 1) = ⟨#[UInt8.ofNat (48 + r)]⟩ := digs_extract hr10
      have hxs : ((ByteArray.mk #[48, 49, 50, 51, 52, 53, 54, 55, 56, 57]).extract r (r + 1)).size = 1 := by rw [hx]; rfl
      have HX := Lib.hid hx
      clear hx
      have hl : (Lib.decDigits q).length ≤ 20 := by rw [Lib.decDigits_length]; exact Lib.nDigits_le20 _ (by omega)
      generalize hD : Lib.decDigits q = D at *
      have hl3 : ¬ (9223372036854775807 < D.length + 1) := by omega
      generalize UInt8.ofNat (48 + r) = c at *
      have hu10 : (10 : Int) ≤ (u : Int) := by omega
      rw [e0]
      clear e0 ih hD hq hr hk e1 e2
      go_enter Tryz.func82, Tryz.ntmps82
      go_wp2_with fail
      go_quiet (with_reducible exact quietDrw (IH _))
      go_wp2
      go_ret
      exact ⟨by rw [HX.out]; simp [ByteArray.mk_append_mk], Drw.mk _ _⟩

theorem l1Num_any (n : Int) (w : World) (h0 : -1000000 ≤ n) (h1 : n ≤ 1000000) :
    Calls Tryz.prog 82 #[.int .i64 n] w fun e w' => e = .returned (.string ⟨(Lib.itoa n).toArray⟩) ∧ Drw w w' := by
  by_cases hn : n < 0
  · obtain ⟨u, rfl⟩ : ∃ u : Nat, n = -(u : Int) := ⟨n.natAbs, by omega⟩
    have e0 : Lib.itoa (-(u : Int)) = 45 :: Lib.decDigits u := Lib.itoa_neg u (by omega)
    have hl : (Lib.decDigits u).length ≤ 20 := by rw [Lib.decDigits_length]; exact Lib.nDigits_le20 _ (by omega)
    have C := l1Num_nat u u
    rw [e0]
    generalize Lib.decDigits u = D at *
    clear e0
    have hl3 : ¬ (9223372036854775807 < 1 + D.length) := by omega
    have hl4 : ¬ (9223372036854775807 < D.length + 1) := by omega
    go_enter Tryz.func82, Tryz.ntmps82
    go_wp2_with (go_at_call 82; refine (C _ (Nat.le_refl _) (by omega)).mono ?_; rintro e w' ⟨rfl, hd⟩)
    go_ret
    exact ⟨by rw [ByteArray.mk_append_mk [45] D]; rfl, hd⟩
  · obtain ⟨u, rfl⟩ : ∃ u : Nat, n = (u : Int) := ⟨n.toNat, by omega⟩
    rw [Lib.itoa_nonneg]
    exact l1Num_nat u u w (Nat.le_refl _) (by omega)

/-- The library's table of powers of ten holds what its text lays. -/
def Tab (w : World) : Prop := Lib.TabIs Tryz.prog w "internal/strconv.uint64pow10" .u64 Lib.pow10Tab
theorem Tryz.gPow : Tryz.prog.globalNamed "internal/strconv.uint64pow10" = some 3 := by kernel_rfl
theorem Tab.stays {w w' : World} (h : Tab w) (hb : Below w.heap.size w w') : Tab w' := Joins.var_stays Tryz.gPow h hb (Nat.le_refl _)

theorem drwSize {w w' : World} (h : Drw w w') : w'.heap.size = w.heap.size := by rw [h.heap]
theorem itoa_any (n : Int) (w : World) (h0 : -1000000 ≤ n) (h1 : n ≤ 1000000) (ht : Tab w) :
    Calls Tryz.prog 79 #[.int .i64 n] w fun e w' => e = .returned (.string ⟨(Lib.itoa n).toArray⟩) ∧ Below w.heap.size w w' :=
  (Tryz.strconv_Itoa n (by omega) (by omega) w ht).mono fun e w' ⟨he, k, os, hw⟩ => ⟨he, by rw [hw]; exact Lib.below_grow _ _ (Nat.le_refl _) _ _⟩

/-- What FormatInt hands back. -/
def fmtS (n : Int) : ByteArray := if inB n (-999999) 999999 then ⟨(Lib.itoa n).toArray⟩ else ⟨#[]⟩
theorem fmtS_in {n : Int} (h : inB n (-999999) 999999 = true) : fmtS n = ⟨(Lib.itoa n).toArray⟩ := by unfold fmtS; rw [if_pos h]
theorem fmtS_out {n : Int} (h : inB n (-999999) 999999 = false) : fmtS n = ⟨#[]⟩ := by unfold fmtS; rw [if_neg (by simp [h])]

end Go.Proofs.YtcifpfdlkpddeaaGreatDoor
