/- FlipAnswers: contracts of the reference's function. -/
import Derived.Test.YtcifpfdlkpddeaaGreatDoorQxbh
import Derived.Deep.DeepCutAuto
set_option linter.unusedSimpArgs false
set_option linter.unusedVariables false
namespace Go.Proofs.YtcifpfdlkpddeaaGreatDoor
open Go.RowKit

/-- The row behind k steps of the flip by c. -/
def flipTo (c : Nat) (rs : List Int) : Nat → List Int
  | 0 => [0, 0, 0, 0]
  | k + 1 => (flipTo c rs k).set (k ^^^ c) (rs.getD k 0)
theorem flipTo_length (c : Nat) (rs : List Int) : ∀ k, (flipTo c rs k).length = 4
  | 0 => rfl
  | k + 1 => by unfold flipTo; rw [List.length_set]; exact flipTo_length c rs k
theorem xor4 (k c : Nat) (hk : k < 4) (hc : c < 4) : bits BinOp.xor IntKind.i64 (k : Int) (c : Int) = ((k ^^^ c : Nat) : Int) ∧ k ^^^ c < 4 := by
  have : k = 0 ∨ k = 1 ∨ k = 2 ∨ k = 3 := by omega
  have : c = 0 ∨ c = 1 ∨ c = 2 ∨ c = 3 := by omega
  rcases ‹k = 0 ∨ k = 1 ∨ k = 2 ∨ k = 3› with rfl | rfl | rfl | rfl <;> rcases ‹c = 0 ∨ c = 1 ∨ c = 2 ∨ c = 3› with rfl | rfl | rfl | rfl <;> exact ⟨by decide +kernel, by decide⟩
theorem flip_row {b : BoxD} {fl : List Int} {i j : Nat} {f g c : Nat} {p q r s : Int} (hf : fl[i]? = some (f : Int)) (hg : fl[b.X.toNat + j]? = some (g : Int)) (f2 : f < 2) (g2 : g < 2) (hc : 2 * f + g = c)
    (e0 : numB b i j 0 0 = p) (e1 : numB b i j 0 1 = q) (e2 : numB b i j 1 0 = r) (e3 : numB b i j 1 1 = s) : rowOf (flipN b fl) i j = flipTo c [p, q, r, s] 4 := by
  subst hc e0 e1 e2 e3
  unfold rowOf flipN
  simp only [Int.toNat_natCast, List.getD_eq_getElem?_getD, hf, hg, Option.getD_some]
  have : f = 0 ∨ f = 1 := by omega
  have : g = 0 ∨ g = 1 := by omega
  rcases ‹f = 0 ∨ f = 1› with rfl | rfl <;> rcases ‹g = 0 ∨ g = 1› with rfl | rfl <;> simp [xorB, flipTo]

set_option maxRecDepth 100000 in
set_option maxHeartbeats 3200000 in
theorem l2Flip_any (v : Value) (b : BoxD) (v1 : Value) (fl : List Int) (qa : boxB b = true) (hf : bitsB fl (b.X + b.Y) = true) (w : World) (h : RdII w v b.Rows) (r1 : RdI w v1 fl) :
    Calls Tryz.prog 103 #[.agg #[.int .i64 b.X, .int .i64 b.Y, .int .i64 b.Whole, v], v1] w (BoxOnly w b.X b.Y b.Whole (flipBL b fl).Rows) := by
  obtain ⟨⟨hx0, hx1⟩, hy0, hy1⟩ := (boxB_iff.1 qa).1
  obtain ⟨hall, hlen⟩ := bits_iff.1 hf
  obtain ⟨a1, b1, o1, k1, rfl, m1, e1, d1⟩ := r1
  unfold maxLen at m1
  obtain rfl := e1 (by omega)
  have hXY : b.X.toNat * b.Y.toNat ≤ 9 := Nat.mul_le_mul (show b.X.toNat ≤ 3 by omega) (show b.Y.toNat ≤ 3 by omega)
  have HL := Lib.hid hlen
  have HA := Lib.hid hall
  have D1 := Lib.hid d1
  clear hlen hall d1 e1 hf
  go_enter Tryz.func103, Tryz.ntmps103
  go_wp2
  obtain ⟨W3, hW3⟩ : ∃ W3, W3 = ((((w.alloc (.cells #[.int .i64 b.X, .int .i64 b.Y, .int .i64 b.Whole, v] 26)).alloc (.cells #[.int .i64 0, .int .i64 0, .int .i64 0, .slice none 0 0] 26)).alloc (.cells #[] 33)).alloc (.cells #[.int .i64 b.X, .int .i64 b.Y, .int .i64 b.Whole, .slice (some ⟨w.heap.size + 1 + 1, 0, none⟩) 0 0] 26)) := ⟨_, rfl⟩
  obtain ⟨hst, hB3, hs3⟩ := BoxRel.start3 _ W3 (w.heap.size + 1 + 1) b.X b.Y b.Whole (by simp only [World.size_alloc]) hW3
  have hret3 : RetAt W3 (w.heap.size + 1) := by rw [hW3]; exact (by repeat' (first | with_reducible assumption | (refine RetAt.top ?_; first | with_reducible rfl | (simp only [World.size_alloc, World.size_setCell]; done)) | refine RetAt.under ?_))
  have A3 : BoxAt W3 w.heap.size b.X b.Y b.Whole v := by rw [hW3]; exact ⟨(by repeat' (first | with_reducible assumption | (refine cell_top ?_ rfl; first | with_reducible rfl | (simp only [World.size_alloc, World.size_setCell]; done)) | (refine cell_under ?_ ?_; (first | omega | (simp only [World.size_alloc, World.size_setCell]; omega))) | refine cell_drew ?_)), (by repeat' (first | with_reducible assumption | (refine cell_top ?_ rfl; first | with_reducible rfl | (simp only [World.size_alloc, World.size_setCell]; done)) | (refine cell_under ?_ ?_; (first | omega | (simp only [World.size_alloc, World.size_setCell]; omega))) | refine cell_drew ?_)), (by repeat' (first | with_reducible assumption | (refine cell_top ?_ rfl; first | with_reducible rfl | (simp only [World.size_alloc, World.size_setCell]; done)) | (refine cell_under ?_ ?_; (first | omega | (simp only [World.size_alloc, World.size_setCell]; omega))) | refine cell_drew ?_)), (by repeat' (first | with_reducible assumption | (refine cell_top ?_ rfl; first | with_reducible rfl | (simp only [World.size_alloc, World.size_setCell]; done)) | (refine cell_under ?_ ?_; (first | omega | (simp only [World.size_alloc, World.size_setCell]; omega))) | refine cell_drew ?_))⟩
  have BW : Below w.heap.size w W3 := by rw [hW3]; exact (by repeat' (first | with_reducible exact Below.refl _ _ | with_reducible assumption | with_reducible apply Below.alloc | with_reducible apply Below.setCell | with_reducible apply Below.drew | exact Nat.le_refl _ | omega | (simp only [World.size_alloc, World.size_setCell]; omega)))
  have HW := Lib.hid hW3
  clear hW3 hB3
  go_loopw [6] (fun s wr => ∃ i : Nat, (i : Int) ≤ b.X ∧ s = .int .i64 i ∧ ∃ a c vs, BoxRel W3 (w.heap.size + 1 + 1) (w.heap.size + 1 + 1 + 1) (w.heap.size + 1 + 1) wr b.X b.Y b.Whole (rowsTo (flipN b fl) b.Y.toNat (i * b.Y.toNat)) a c vs) (fun s _ => b.X.toNat - (intOf s).toNat)
  case atStart => exact ⟨0, by omega, rfl, _, _, _, by rw [← HW.out]; simpa [rowsTo] using hst⟩
  case round =>
    clear hst
    obtain ⟨i, hi, rfl, a, c, vs, hR⟩ := hrel
    have q0 := keepAt hR.below (by omega) A3.e0
    by_cases hlt : (i : Int) < b.X
    · go_wp2
      clear q0
      go_loopw [7] (fun s wr => ∃ j : Nat, (j : Int) ≤ b.Y ∧ s = .int .i64 j ∧ ∃ a c vs, BoxRel W3 (w.heap.size + 1 + 1) (w.heap.size + 1 + 1 + 1) (w.heap.size + 1 + 1) wr b.X b.Y b.Whole (rowsTo (flipN b fl) b.Y.toNat (i * b.Y.toNat + j)) a c vs) (fun s _ => b.Y.toNat - (intOf s).toNat)
      case atStart => exact ⟨0, by omega, rfl, _, _, _, hR⟩
      case round =>
        clear hR
        obtain ⟨j, hj, rfl, a, c, vs, hR⟩ := hrel
        have q1 := keepAt hR.below (by omega) A3.e1
        by_cases hjt : (j : Int) < b.Y
        · obtain ⟨n, p, q, r, s, hn, hnm, hn8, hrow, hnl, _, _, _, _, _, f0, f1, f2, f3⟩ := boxB_at qa i j hlt hjt
          have hl := HL.out
          obtain ⟨m, hm⟩ : ∃ m : Nat, b.X.toNat + j = m := ⟨_, rfl⟩
          have hmi : b.X + (j : Int) = (m : Int) := by omega
          have hil : i < fl.length := by omega
          have hml : m < fl.length := by omega
          obtain ⟨f, hfi⟩ : ∃ f, fl[i]? = some f := ⟨_, List.getElem?_eq_getElem hil⟩
          obtain ⟨g, hgm⟩ : ∃ g, fl[m]? = some g := ⟨_, List.getElem?_eq_getElem hml⟩
          have f01 := allIn_get HA.out hfi
          have g01 := allIn_get HA.out hgm
          obtain ⟨f, rfl⟩ := Int.eq_ofNat_of_zero_le f01.1
          obtain ⟨g, rfl⟩ := Int.eq_ofNat_of_zero_le g01.1
          obtain ⟨cc, hcc⟩ : ∃ cc : Nat, 2 * f + g = cc := ⟨_, rfl⟩
          have hrw := flip_row (b := b) (fl := fl) hfi (by rw [hm]; exact hgm) (by omega) (by omega) hcc f0 f1 f2 f3
          have hrr := rowsTo_succ (flipN b fl) b.Y.toNat i j (by omega)
          rw [hrw] at hrr
          have cf := D1.out i _ hfi
          have cg := D1.out m _ hgm
          have lf := World.block_lt_of_cell? _ _ cf
          simp only [] at lf
          have HR := Lib.hid hrr
          have HN := Lib.hid hn
          have HNM := Lib.hid hnm
          have HRW := Lib.hid hrow
          have hcc4 : cc < 4 := by omega
          have i0 : (0 : Int) ≤ (i : Int) := by omega
          have i1 : (i : Int) < (fl.length : Int) := by omega
          have j0 : (0 : Int) ≤ (m : Int) := by omega
          have j1 : (m : Int) < (fl.length : Int) := by omega
          have w1 : IntKind.i64.wrap (2 * (f : Int)) = 2 * (f : Int) := wrap_in _ (by omega) (by omega)
          have w2 : 2 * (f : Int) + (g : Int) = (cc : Int) := by omega
          have w3 : IntKind.i64.wrap (cc : Int) = (cc : Int) := wrap_in _ (by omega) (by omega)
          have w4 : IntKind.i64.wrap (m : Int) = (m : Int) := wrap_in _ (by omega) (by omega)
          have BR := hR.below
          have HB := Lib.hid (fun (W : World) (h : Below (w.heap.size + 1 + 1) W3 W) => And.intro h (And.intro (keepAt h (by omega) A3.e0) (And.intro (keepAt h (by omega) A3.e1) (And.intro (keepAt h (by omega) A3.e2) (keepAt h (by omega) A3.e3)))))
          have KF := Lib.hid (fun (W : World) (h : Below (w.heap.size + 1 + 1) W3 W) => And.intro (keepAt h (by omega) A3.e0) (And.intro (keepAt (BW.trans (h.mono (by omega))) lf cf) (keepAt (BW.trans (h.mono (by omega))) lf cg)))
          clear hrr hrw hfi hgm f01 g01 hn hnm hrow f0 f1 f2 f3 hm hl cf cg hcc
          have HM := Lib.hid hmi
          have hmk : ∀ W : World, (Instr.makeSlice 33 (.int .i64 4) (.int .i64 4)).run Tryz.prog W = .ok (.slice (some ⟨W.heap.size, 0, none⟩) 4 4) (W.alloc (.cells zero4 3)) := mk4_run
          go_upto_region 8 with fail
          go_cut [8, 9] (fun s8 s9 wx => ∃ b5 o5 c5 gt : Nat, s8 = .slice (some ⟨b5, o5, none⟩) 4 c5 ∧ s9 = .slice (some ⟨gt, 0, none⟩) 4 4 ∧ Below wr.heap.size wr wx ∧ OwnV 3 wr.heap.size wx.heap.size wx (.slice (some ⟨gt, 0, none⟩) 4 4) (ints (flipTo cc [p, q, r, s] 0)) ∧
            (w.cell? ⟨b5, o5, none⟩ = some (.int .i64 p) ∧ w.cell? ⟨b5, o5 + 1, none⟩ = some (.int .i64 q) ∧ w.cell? ⟨b5, o5 + 2, none⟩ = some (.int .i64 r) ∧ w.cell? ⟨b5, o5 + 3, none⟩ = some (.int .i64 s)))
          case first =>
            go_region_held3 (fun W => Below (w.heap.size + 1 + 1) W3 W ∧ W.cell? ⟨w.heap.size, 0, none⟩ = some (.int .i64 b.X) ∧ W.cell? ⟨w.heap.size, 1, none⟩ = some (.int .i64 b.Y) ∧ W.cell? ⟨w.heap.size, 2, none⟩ = some (.int .i64 b.Whole) ∧ W.cell? ⟨w.heap.size, 3, none⟩ = some v)
              (first | exact HB.out _ BR.drew | exact HB.out _ hBn | exact HB.out _ (hBn.alloc (by have := hBn.size; omega) _) | exact HB.out _ (BR.drew.alloc (by have := BR.size; show _ ≤ wr.heap.size; omega) _))
              (first | (go_at_call 45
                        have hS := And.left (by assumption : Below (w.heap.size + 1 + 1) W3 _ ∧ _)
                        (with_reducible refine (l2Row_any v b i j n p q r s HN.out HNM.out hn8 hnl HRW.out w _ h (BW.trans (hS.mono (by omega)))).mono ?_)
                        rintro e wd ⟨b5, o5, c5, rfl, K5, bd⟩
                        have hBn : Below (w.heap.size + 1 + 1) W3 wd := hS.trans (bd.mono (by have := hS.size; omega))))
            all_goals
              go_wp2_with fail
              go_meet
              first
                | exact ⟨b5, o5, c5, wd.heap.size, rfl, rfl, ((Below.refl wr.heap.size wr).drew.trans bd).alloc bd.size _, (zero4_own wd).weaken bd.size (by rw [World.size_alloc]; omega), K5⟩
                | (have hza := World.size_alloc wr (.cells zero4 3)
                   have hza1 : (wr.alloc (.cells zero4 3)).drew.heap.size = wr.heap.size + 1 := hza
                   exact ⟨b5, o5, c5, wr.heap.size, rfl, rfl, (((Below.refl wr.heap.size wr).alloc (Nat.le_refl _) _).drew.trans (bd.mono (by omega))), (((zero4_own wr).of_block (w' := (wr.alloc (.cells zero4 3)).drew) (fun _ _ => rfl)).kept bd (by omega)).weaken (Nat.le_refl _) (by have := bd.size; omega), K5⟩)
          case rest =>
            obtain ⟨b5, o5, c5, gt, rfl, rfl, hB1, hO, K5⟩ := hcut
            clear hmk
            obtain ⟨wx, rfl⟩ : ∃ wx : World, wx = wc := ⟨_, rfl⟩
            obtain ⟨wb, rfl⟩ : ∃ wb : World, wb = wr := ⟨_, rfl⟩
            have lk := World.block_lt_of_cell? _ _ K5.1
            simp only [] at lk
            go_wp2
            go_loopw [10] (fun s10 wz => ∃ k : Nat, k ≤ 4 ∧ s10 = .int .i64 k ∧ OwnV 3 wb.heap.size wz.heap.size wz (.slice (some ⟨gt, 0, none⟩) 4 4) (ints (flipTo cc [p, q, r, s] k)) ∧ Below wb.heap.size wb wz) (fun s10 _ => 4 - (intOf s10).toNat)
            case atStart => exact ⟨0, by omega, rfl, hO, hB1⟩
            case round =>
              clear hO hB1
              obtain ⟨k, hk, rfl, hO, hB⟩ := hrel
              have BZ := BR.trans (hB.mono hR.b4)
              by_cases hk4 : k < 4
              · obtain ⟨hx1, hx2⟩ := xor4 k cc hk4 hcc4
                obtain ⟨hoc, hof, hog, hog2, hog3⟩ := hO.at
                have hlen := flipTo_length cc [p, q, r, s] k
                obtain ⟨u0, hu0⟩ : ∃ u0, (ints (flipTo cc [p, q, r, s] k))[k ^^^ cc]? = some u0 := ⟨_, List.getElem?_eq_getElem (by rw [ints_length, hlen]; exact hx2)⟩
                have cu := hoc _ _ hu0
                have fu := hof (k ^^^ cc)
                have hset := hO.set (g := gt) (j := k ^^^ cc) rfl (by rw [ints_length, hlen]; exact hx2) (.int .i64 ([p, q, r, s].getD k 0))
                have hns : (ints (flipTo cc [p, q, r, s] k)).set (k ^^^ cc) (.int .i64 ([p, q, r, s].getD k 0)) = ints (flipTo cc [p, q, r, s] (k + 1)) := by
                  simp [ints, flipTo, List.map_set]
                rw [hns] at hset
                have ck0 := rd4_cell K5 k hk4
                generalize hx : [p, q, r, s].getD k 0 = x at *
                have KF2 := Lib.hid (fun (W : World) (h : Below (w.heap.size + 1 + 1) W3 W) => And.intro h (And.intro (KF.out W h).1 (And.intro (KF.out W h).2.1 (And.intro (KF.out W h).2.2 (keepAt (BW.trans (h.mono (by omega))) lk ck0)))))
                have k0 : (0 : Int) ≤ (k : Int) := by omega
                have k1' : (k : Int) < 4 := by omega
                have HO := Lib.hid hset
                generalize k ^^^ cc = e at *
                have e0 : (0 : Int) ≤ (e : Int) := by omega
                have e1 : (e : Int) < 4 := by omega
                have hmle : w.heap.size + 1 + 1 ≤ gt := by have := hR.b4; omega
                clear hoc hof hu0 hlen hset hns ck0 hx
                go_wp2
                go_region_held3 (fun W => Below (w.heap.size + 1 + 1) W3 W ∧ W.cell? ⟨w.heap.size, 0, none⟩ = some (.int .i64 b.X) ∧ W.cell? ⟨b1, o1 + i, none⟩ = some (.int .i64 f) ∧ W.cell? ⟨b1, o1 + m, none⟩ = some (.int .i64 g) ∧ W.cell? ⟨b5, o5 + k, none⟩ = some (.int .i64 x))
                  (first | exact KF2.out _ BZ.drew | exact KF2.out _ (BZ.drew.setCell hmle _)) (fail)
                go_wp2
                go_roundw
                case rel => exact ⟨k + 1, by omega, by go_num, (by refine OwnV.weaken (HO.out.of_block (fun _ _ => rfl)) (Nat.le_refl _) ?_; show wr.heap.size ≤ (wr.setCell _ _).heap.size; rw [World.size_setCell]; exact Nat.le_refl _), (hB.setCell hog _).drew⟩
                case measure => simp [intOf]; omega
              · obtain rfl : k = 4 := by omega
                have hb1 := hB
                have hrow := hO
                obtain ⟨wd, rfl⟩ : ∃ wd : World, wd = wr := ⟨_, rfl⟩
                obtain ⟨wr, rfl⟩ : ∃ wr : World, wr = wb := ⟨_, rfl⟩
                have hn9 : i * b.Y.toNat + j ≤ 9 := by
                  have h1 : i * b.Y.toNat + j < (i + 1) * b.Y.toNat := by rw [Nat.succ_mul]; omega
                  have h2 : (i + 1) * b.Y.toNat ≤ b.X.toNat * b.Y.toNat := Nat.mul_le_mul_right _ (by omega)
                  omega
                have hRd := hR.later hb1
                obtain ⟨⟨g0, g1, g2, g3⟩, gf⟩ := hRd.cells
                have ht := hRd.rows.top
                have hlen := hRd.rows.len
                rw [rowsTo_length] at hlen ht g3
                have HN := Lib.hid hlen
                have hn9 : vs.length ≤ 4194304 := by omega
                have hlo := hRd.b4
                clear hlen
                go_wp2_with (at_builtin; refine append1_at rfl _ _ 24 33 rfl Tryz.underlying24 Tryz.infoInts rfl ht rfl rfl rfl rfl hn9 (by omega) hlo ?_)
                intro a2 c2 w2 hT2 hg2
                have hp := hR.push hb1 hrow hT2 (by rw [rowsTo_length]; exact hg2) (by rw [HN.out]; simp)
                obtain ⟨hp1, f1, f2⟩ := hp
                clear g0 g1 g2 g3 gf hR hRd ht hT2 hrow
                rw [← HR.out] at hp1
                go_wp2
                go_roundw
                case rel => exact ⟨j + 1, by omega, by go_num, a2, c2, _, hp1⟩
                case measure => simp [intOf]; omega
        · obtain rfl : j = b.Y.toNat := by omega
          go_wp2
          go_roundw
          case rel => exact ⟨i + 1, by omega, by go_num, a, c, vs, by rw [Nat.succ_mul]; exact hR⟩
          case measure => simp [intOf]; omega
    · obtain rfl : i = b.X.toNat := by omega
      have hrt := hret3.kept hR.below (by omega)
      obtain ⟨⟨g0, g1, g2, g3⟩, gf⟩ := hR.cells
      have hrows := hR.rows
      have B5 := BW.trans (hR.below.mono (by omega))
      rw [rowsTo_length] at g3 hrows
      obtain ⟨e0, e1, e2, e3, ef⟩ := hrt
      have hend := box_out (g := w.heap.size + 1) B5 (by omega) (by omega) hrows (.int .i64 b.X) (.int .i64 b.Y) (.int .i64 b.Whole) (.slice a (b.X.toNat * b.Y.toNat) c)
      clear hrows hR
      go_wp2
      refine bodyPost_ret (v := .agg #[.int .i64 b.X, .int .i64 b.Y, .int .i64 b.Whole, .slice a (b.X.toNat * b.Y.toNat) c]) ?_ rfl ?_
      · simp [results, Tryz.results103, go_sem, e0, e1, e2, e3]
      · exact ⟨a, c, vs, rfl, hend.1, hend.2⟩
end Go.Proofs.YtcifpfdlkpddeaaGreatDoor
