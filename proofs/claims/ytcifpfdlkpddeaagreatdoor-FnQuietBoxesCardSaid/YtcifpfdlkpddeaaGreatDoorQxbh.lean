/- MixBoxes: contracts of the program's function. MixBoxes: contracts of the reference's function. FlipAnswers: contracts of the program's function. -/
import Derived.Test.YtcifpfdlkpddeaaGreatDoorQxay
import Derived.Test.YtcifpfdlkpddeaaGreatDoorQxar
set_option linter.unusedSimpArgs false
set_option linter.unusedVariables false
namespace Go.Proofs.YtcifpfdlkpddeaaGreatDoor
open Go.RowKit

def mixN (a b : BoxD) : Num := fun i j p q => numB a i j p q + numB b i j p q
def mixOk (a b : BoxD) : Bool := sameB a b && decide (a.Whole + b.Whole ≤ 1000)
def mixD (a b : BoxD) : BoxD := if mixOk a b then boxOf a.X a.Y (a.Whole + b.Whole) (mixN a b) else zeroD
theorem mixD_size (a b : BoxD) : (mixD a b).Rows.length + sumLen (mixD a b).Rows ≤ 4194304 := by
  unfold mixD
  split
  · rename_i h
    unfold mixOk at h
    rw [Bool.and_eq_true] at h
    exact boxOf_size _ _ _ _ (boxB_sizes (sameB_iff.1 h.1).1)
  · simp [zeroD, sumLen]
end Go.Proofs.YtcifpfdlkpddeaaGreatDoor
set_option linter.unusedSimpArgs false
set_option linter.unusedVariables false
namespace Go.Proofs.YtcifpfdlkpddeaaGreatDoor
open Go.RowKit

set_option maxHeartbeats 3200000 in
theorem l2Mix_any (va : Value) (a : BoxD) (vb : Value) (b : BoxD) (hs : sameB a b = true) (w : World) (ra : RdII w va a.Rows) (rb : RdII w vb b.Rows) :
    Calls Tryz.prog 102 #[.agg #[.int .i64 a.X, .int .i64 a.Y, .int .i64 a.Whole, va], .agg #[.int .i64 b.X, .int .i64 b.Y, .int .i64 b.Whole, vb]] w (BoxOnly w a.X a.Y (a.Whole + b.Whole) (rowsTo (mixN a b) a.Y.toNat (a.X.toNat * a.Y.toNat))) := by
  obtain ⟨qa, qb, hX, hY⟩ := sameB_iff.1 hs
  have la := boxB_len2 qa
  have lb := boxB_len2 qb
  have hlen : b.Rows.length = a.Rows.length := by rw [la, lb, hX, hY]
  have PA := Lib.hid (fun k hk => boxB_path qa ra k hk)
  have PB := Lib.hid (fun k hk => boxB_path qb rb k hk)
  obtain ⟨⟨hx0, hx1⟩, hy0, hy1⟩ := (boxB_iff.1 qa).1
  have hl9 : a.Rows.length ≤ 9 := boxB_len qa
  have hl1 : 1 ≤ a.Rows.length := by rw [la]; exact Nat.mul_le_mul (show 1 ≤ a.X.toNat by omega) (show 1 ≤ a.Y.toNat by omega)
  obtain ⟨wa0, wa1⟩ := (boxB_iff.1 qa).2.1
  obtain ⟨wb0, wb1⟩ := (boxB_iff.1 qb).2.1
  obtain ⟨ba, off, cap, _, _, _, rfl, _⟩ := PA.out 0 (by omega)
  obtain ⟨bb, offb, capb, _, _, _, rfl, _⟩ := PB.out 0 (by omega)
  have HY := Lib.hid hY
  have HL := Lib.hid hlen
  have LA := Lib.hid la
  clear hX hY hlen la lb hs qa qb ra rb
  go_enter Tryz.func102, Tryz.ntmps102
  go_wp2
  obtain ⟨W3, hW3⟩ : ∃ W3, W3 = (((((w.alloc (.cells #[.int .i64 a.X, .int .i64 a.Y, .int .i64 a.Whole, .slice (some ⟨ba, off, none⟩) a.Rows.length cap] 26)).alloc (.cells #[.int .i64 b.X, .int .i64 b.Y, .int .i64 b.Whole, .slice (some ⟨bb, offb, none⟩) b.Rows.length capb] 26)).alloc (.cells #[.int .i64 0, .int .i64 0, .int .i64 0, .slice none 0 0] 26)).alloc (.cells #[] 33)).alloc (.cells #[.int .i64 a.X, .int .i64 a.Y, .int .i64 (a.Whole + b.Whole), .slice (some ⟨w.heap.size + 1 + 1 + 1, 0, none⟩) 0 0] 26)) := ⟨_, rfl⟩
  obtain ⟨hst, hB3, hs3⟩ := BoxRel.start3 _ W3 (w.heap.size + 1 + 1 + 1) a.X a.Y (a.Whole + b.Whole) (by simp only [World.size_alloc]) hW3
  have hret3 : RetAt W3 (w.heap.size + 1 + 1) := by rw [hW3]; exact (by repeat' (first | with_reducible assumption | (refine RetAt.top ?_; first | with_reducible rfl | (simp only [World.size_alloc, World.size_setCell]; done)) | refine RetAt.under ?_))
  have A3 : BoxAt W3 w.heap.size a.X a.Y a.Whole (.slice (some ⟨ba, off, none⟩) a.Rows.length cap) := by rw [hW3]; exact ⟨(by repeat' (first | with_reducible assumption | (refine cell_top ?_ rfl; first | with_reducible rfl | (simp only [World.size_alloc, World.size_setCell]; done)) | (refine cell_under ?_ ?_; (first | omega | (simp only [World.size_alloc, World.size_setCell]; omega))) | refine cell_drew ?_)), (by repeat' (first | with_reducible assumption | (refine cell_top ?_ rfl; first | with_reducible rfl | (simp only [World.size_alloc, World.size_setCell]; done)) | (refine cell_under ?_ ?_; (first | omega | (simp only [World.size_alloc, World.size_setCell]; omega))) | refine cell_drew ?_)), (by repeat' (first | with_reducible assumption | (refine cell_top ?_ rfl; first | with_reducible rfl | (simp only [World.size_alloc, World.size_setCell]; done)) | (refine cell_under ?_ ?_; (first | omega | (simp only [World.size_alloc, World.size_setCell]; omega))) | refine cell_drew ?_)), (by repeat' (first | with_reducible assumption | (refine cell_top ?_ rfl; first | with_reducible rfl | (simp only [World.size_alloc, World.size_setCell]; done)) | (refine cell_under ?_ ?_; (first | omega | (simp only [World.size_alloc, World.size_setCell]; omega))) | refine cell_drew ?_))⟩
  have B3 : BoxAt W3 (w.heap.size + 1) b.X b.Y b.Whole (.slice (some ⟨bb, offb, none⟩) b.Rows.length capb) := by rw [hW3]; exact ⟨(by repeat' (first | with_reducible assumption | (refine cell_top ?_ rfl; first | with_reducible rfl | (simp only [World.size_alloc, World.size_setCell]; done)) | (refine cell_under ?_ ?_; (first | omega | (simp only [World.size_alloc, World.size_setCell]; omega))) | refine cell_drew ?_)), (by repeat' (first | with_reducible assumption | (refine cell_top ?_ rfl; first | with_reducible rfl | (simp only [World.size_alloc, World.size_setCell]; done)) | (refine cell_under ?_ ?_; (first | omega | (simp only [World.size_alloc, World.size_setCell]; omega))) | refine cell_drew ?_)), (by repeat' (first | with_reducible assumption | (refine cell_top ?_ rfl; first | with_reducible rfl | (simp only [World.size_alloc, World.size_setCell]; done)) | (refine cell_under ?_ ?_; (first | omega | (simp only [World.size_alloc, World.size_setCell]; omega))) | refine cell_drew ?_)), (by repeat' (first | with_reducible assumption | (refine cell_top ?_ rfl; first | with_reducible rfl | (simp only [World.size_alloc, World.size_setCell]; done)) | (refine cell_under ?_ ?_; (first | omega | (simp only [World.size_alloc, World.size_setCell]; omega))) | refine cell_drew ?_))⟩
  have BW : Below w.heap.size w W3 := by rw [hW3]; exact (by repeat' (first | with_reducible exact Below.refl _ _ | with_reducible assumption | with_reducible apply Below.alloc | with_reducible apply Below.setCell | with_reducible apply Below.drew | exact Nat.le_refl _ | omega | (simp only [World.size_alloc, World.size_setCell]; omega)))
  have HW := Lib.hid hW3
  clear hW3 hB3
  go_loopw [6] (fun s wr => ∃ k : Nat, k ≤ a.Rows.length ∧ s = .int .i64 k ∧ ∃ ar c vs, BoxRel W3 (w.heap.size + 1 + 1 + 1) (w.heap.size + 1 + 1 + 1 + 1) (w.heap.size + 1 + 1 + 1) wr a.X a.Y (a.Whole + b.Whole) (rowsTo (mixN a b) a.Y.toNat k) ar c vs) (fun s _ => a.Rows.length - (intOf s).toNat)
  case atStart => exact ⟨0, by omega, rfl, _, _, _, by rw [← HW.out]; simpa [rowsTo] using hst⟩
  case round =>
    clear hst
    obtain ⟨k, hk, rfl, ar, c, vs, hR⟩ := hrel
    have f3 := keepAt hR.below (by omega) A3.e3
    by_cases hlt : k < a.Rows.length
    · obtain ⟨_, _, _, b2, o2, c2, ev, _, ca, lba, lb2, PAk⟩ := PA.out k hlt
      obtain ⟨_, _, _, b4, o4, c4, ev2, _, cb, lbb, lb4, PBk⟩ := PB.out k (by rw [HL.out]; exact hlt)
      simp only [Value.slice.injEq, Option.some.injEq, Addr.mk.injEq, and_true, true_and] at ev ev2
      obtain ⟨⟨rfl, rfl⟩, rfl⟩ := ev
      obtain ⟨⟨rfl, rfl⟩, rfl⟩ := ev2
      have HPA := Lib.hid PAk
      have HPB := Lib.hid PBk
      clear PAk PBk
      have hE := OwnV.empty 3 wr
      go_wp2
      obtain ⟨wo, rfl⟩ : ∃ wo : World, wo = wr := ⟨_, rfl⟩
      go_loopw [8, 7] (fun s8 s7 wz => ∃ q : Nat, q ≤ 4 ∧ s8 = .int .i64 q ∧ ∃ aq cq, s7 = .slice aq q cq ∧ OwnV 3 wo.heap.size wz.heap.size wz (.slice aq q cq) (ints (rowTo (mixN a b) ((k / a.Y.toNat : Nat) : Int) ((k % a.Y.toNat : Nat) : Int) q)) ∧ Below wo.heap.size wo wz) (fun s8 _ _ => 4 - (intOf s8).toNat)
      case atStart => exact ⟨0, by omega, rfl, _, _, rfl, by simpa [rowTo, ints] using hE, (Below.refl _ _).alloc (Nat.le_refl _) _⟩
      case round =>
        clear hE
        obtain ⟨q, hq, rfl, aq, cq, rfl, hO, hB⟩ := hrel
        by_cases hqt : q < 4
        · obtain ⟨x, cx, bx, nx, _⟩ := HPA.out q hqt
          obtain ⟨y, cy, bY, ny, _⟩ := HPB.out q hqt
          have hxy := wrap_in (x + y) (by omega) (by omega)
          have hnum : mixN a b ((k / a.Y.toNat : Nat) : Int) ((k % a.Y.toNat : Nat) : Int) ((q : Int) / 2) ((q : Int) % 2) = x + y := by
            unfold mixN; rw [nx]; rw [← HY.out] at ny; rw [ny]
          have hrs := rowTo_succ (mixN a b) ((k / a.Y.toNat : Nat) : Int) ((k % a.Y.toNat : Nat) : Int) q
          rw [hnum] at hrs
          have hm := hR.b4
          have BA := hR.below.trans (hB.mono hm)
          have KS := Lib.hid (fun (W : World) (h : Below (w.heap.size + 1 + 1 + 1) W3 W) => And.intro h (And.intro (keepAt h (by omega) A3.e3) (And.intro (keepAt h (by omega) B3.e3) (And.intro (keepAt (BW.trans (h.mono (by omega))) lba ca) (And.intro (keepAt (BW.trans (h.mono (by omega))) lb2 cx) (And.intro (keepAt (BW.trans (h.mono (by omega))) lbb cb) (keepAt (BW.trans (h.mono (by omega))) lb4 cy)))))))
          have hlen : (ints (rowTo (mixN a b) ((k / a.Y.toNat : Nat) : Int) ((k % a.Y.toNat : Nat) : Int) q)).length = q := by simp
          have hz := hB.size
          have k0 : (0 : Int) ≤ (k : Int) := by omega
          have k1 : (k : Int) < (a.Rows.length : Int) := by omega
          have k2 : (k : Int) < (b.Rows.length : Int) := by have := HL.out; omega
          have q0 : (0 : Int) ≤ (q : Int) := by omega
          have q1 : (q : Int) < 4 := by omega
          have hrs2 : ints (rowTo (mixN a b) ((k / a.Y.toNat : Nat) : Int) ((k % a.Y.toNat : Nat) : Int) q) ++ [Value.int .i64 (x + y)] = ints (rowTo (mixN a b) ((k / a.Y.toNat : Nat) : Int) ((k % a.Y.toNat : Nat) : Int) (q + 1)) := by rw [hrs]; simp [ints]
          have HS := Lib.hid hrs2
          have HN := Lib.hid hlen
          generalize hgl : ints (rowTo (mixN a b) ((k / a.Y.toNat : Nat) : Int) ((k % a.Y.toNat : Nat) : Int) q) = L at *
          have HG := Lib.hid hgl
          clear hgl nx ny hnum hrs hrs2 hlen ca cb cx cy bx bY
          go_wp2
          go_region_held3 (fun W => Below (w.heap.size + 1 + 1 + 1) W3 W ∧ W.cell? ⟨w.heap.size, 3, none⟩ = some (.slice (some ⟨ba, off, none⟩) a.Rows.length cap) ∧ W.cell? ⟨w.heap.size + 1, 3, none⟩ = some (.slice (some ⟨bb, offb, none⟩) b.Rows.length capb) ∧ W.cell? ⟨ba, off + k, none⟩ = some (.slice (some ⟨b2, o2, none⟩) 4 c2) ∧ W.cell? ⟨b2, o2 + q, none⟩ = some (.int .i64 x) ∧ W.cell? ⟨bb, offb + k, none⟩ = some (.slice (some ⟨b4, o4, none⟩) 4 c4) ∧ W.cell? ⟨b4, o4 + q, none⟩ = some (.int .i64 y))
            (first | exact KS.out _ BA.drew | exact KS.out _ (BA.drew.alloc (by show _ ≤ wr.heap.size; omega) _) | exact KS.out _ hBn)
            (first | (refine step_append1 (u := .int .i64 (x + y)) (by rfl) _ _ 33 3 (by rfl) Tryz.underlying33 Tryz.infoInt rfl (hO.kept (Below.drew (by repeat' (first | with_reducible exact Below.refl _ _ | with_reducible assumption | with_reducible apply Below.alloc | with_reducible apply Below.setCell | with_reducible apply Below.drew | exact Nat.le_refl _ | omega | (simp only [World.size_alloc, World.size_setCell]; omega)))) (Nat.le_refl _)) (by rfl) (by rfl) (by simp) rfl (by rw [HN.out]; omega) (by omega) (by show wo.heap.size ≤ (wr.alloc _).heap.size; rw [World.size_alloc]; omega) ?_
                      intro a2 c2 w2 hO2 hg2
                      have hB2 : Below wo.heap.size wo w2 := Below.grown (Below.drew (hB.alloc (by omega) _)) hg2 (by show wo.heap.size ≤ (wr.alloc _).heap.size; rw [World.size_alloc]; omega) (fun g hg => (hO.lt g hg).1)
                      have hBn := hR.below.trans (hB2.mono hm)))
          rw [HS.out, HN.out] at hO2
          clear hO hB
          go_wp2
          go_roundw
          case rel => exact ⟨q + 1, by omega, by go_num, a2, c2, by rw [HN.out], by rw [← HN.out] ; first | exact hO2 | (rw [HN.out]; exact hO2), hB2⟩
          case measure => simp [intOf]; omega
        · obtain rfl : q = 4 := by omega
          rw [rowTo_four] at hO
          have hb1 := hB
          have hrow := hO
          obtain ⟨wd, rfl⟩ : ∃ wd : World, wd = wr := ⟨_, rfl⟩
          have hRd := hR.later hb1
          obtain ⟨⟨g0, g1, g2, g3⟩, gf⟩ := hRd.cells
          have ht := hRd.rows.top
          have hlen := hRd.rows.len
          rw [rowsTo_length] at hlen ht g3
          have HN := Lib.hid hlen
          have hn9 : vs.length ≤ 4194304 := by omega
          have hlo := hRd.b4
          clear hlen
          go_wp2_with (at_builtin; refine append1_at rfl _ _ 24 33 rfl Tryz.underlying24 Tryz.infoInts rfl ht rfl rfl rfl rfl hn9 (by omega) hlo ?_)
          intro a2 c2 w2 hT2 hg2
          have hp := hR.push hb1 hrow hT2 (by rw [rowsTo_length]; exact hg2) (by rw [HN.out]; simp)
          obtain ⟨hp1, f1, f2⟩ := hp
          clear g0 g1 g2 g3 gf hR hRd ht hT2 hrow
          rw [← rows_next (mixN a b) a.Y.toNat k] at hp1
          go_wp2
          go_roundw
          case rel => exact ⟨k + 1, by omega, by go_num, a2, c2, _, hp1⟩
          case measure => simp [intOf]; omega
    · obtain rfl : k = a.Rows.length := by omega
      have hrt := hret3.kept hR.below (by omega)
      obtain ⟨⟨g0, g1, g2, g3⟩, gf⟩ := hR.cells
      have hrows := hR.rows
      have B5 := BW.trans (hR.below.mono (by have := BW.size; omega))
      rw [rowsTo_length] at g3 hrows
      obtain ⟨e0, e1, e2, e3, ef⟩ := hrt
      have hend := box_out (g := w.heap.size + 1 + 1) B5 (by omega) (by omega) hrows (.int .i64 a.X) (.int .i64 a.Y) (.int .i64 (a.Whole + b.Whole)) (.slice ar a.Rows.length c)
      clear hrows hR
      go_wp2
      refine bodyPost_ret (v := .agg #[.int .i64 a.X, .int .i64 a.Y, .int .i64 (a.Whole + b.Whole), .slice ar a.Rows.length c]) ?_ rfl ?_
      · simp [results, Tryz.results102, go_sem, e0, e1, e2, e3]
      · rw [LA.out] at hend ⊢
        exact ⟨ar, c, vs, rfl, hend.1, hend.2⟩
end Go.Proofs.YtcifpfdlkpddeaaGreatDoor
set_option linter.unusedSimpArgs false
set_option linter.unusedVariables false
namespace Go.Proofs.YtcifpfdlkpddeaaGreatDoor
open Go.RowKit

def xorB (a f : Int) : Int := if a = f then 0 else 1
theorem xorB_nat (a f : Int) (ha : a = 0 ∨ a = 1) (hf : f = 0 ∨ f = 1) : ∃ r : Nat, bits BinOp.xor IntKind.i64 a f = (r : Int) ∧ xorB a f = (r : Int) ∧ r < 2 := by
  rcases ha with rfl | rfl <;> rcases hf with rfl | rfl
  · exact ⟨0, by decide +kernel, rfl, by omega⟩
  · exact ⟨1, by decide +kernel, rfl, by omega⟩
  · exact ⟨1, by decide +kernel, rfl, by omega⟩
  · exact ⟨0, by decide +kernel, rfl, by omega⟩
def flipN (b : BoxD) (fl : List Int) : Num := fun i j p q => numB b i j (xorB p (fl.getD i.toNat 0)) (xorB q (fl.getD (b.X.toNat + j.toNat) 0))
def flipBL (b : BoxD) (fl : List Int) : BoxD := boxOf b.X b.Y b.Whole (flipN b fl)
end Go.Proofs.YtcifpfdlkpddeaaGreatDoor
