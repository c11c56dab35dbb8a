/- The worth of a functional: contracts of the program's and the reference's sum. The greatest worth of a play. The first loud player: contracts of the program's search. -/
import Derived.Test.YtnmnmnpeoiblhaaSuai
import Derived.Test.YtnmnmnpeoiblhaaSuau
import Derived.Test.YtnmnmnpeoiblhaaSuam
set_option linter.unusedSimpArgs false
set_option linter.unusedVariables false
namespace Go.Proofs.Ytnmnmnpeoiblhaa
open Go.RowKit

/-- The cells that lead to a valid functional's number. -/
theorem func_path {f : List (List Int)} (hf : f.all funcRowB = true) {w : World} {v : Value} (h : RdII w v f) (k : Nat) (hk : k < f.length) :
    ∃ (ba off cap b2 o2 c2 : Nat), v = .slice (some ⟨ba, off, none⟩) f.length cap ∧ w.cell? ⟨ba, off + k, none⟩ = some (.slice (some ⟨b2, o2, none⟩) 4 c2) ∧ ba < w.heap.size ∧ b2 < w.heap.size ∧
      ∀ q, q < 4 → ∃ x : Int, w.cell? ⟨b2, o2 + q, none⟩ = some (.int .i64 x) ∧ (-99 ≤ x ∧ x ≤ 99) ∧ cellAt f k q = x := by
  obtain ⟨av, ba, off, cap, rfl, hm, ha, hc⟩ := h
  obtain rfl := ha (by omega)
  have hrs : f[k]? = some f[k] := List.getElem?_eq_getElem hk
  obtain ⟨p0, p1, p2, p3, hrow, h0, h1, h2, h3⟩ := funcRow_four (all_get hf hrs)
  obtain ⟨v', hv', a2, b2, o2, c2, rfl, _, ha2, hc2⟩ := hc k _ hrs
  rw [hrow] at hv' ha2 hc2 hrs
  obtain rfl := ha2 (by simp)
  have l1 := World.block_lt_of_cell? _ _ hv'
  have l2 := World.block_lt_of_cell? _ _ (hc2 0 p0 rfl)
  refine ⟨ba, off, cap, b2, o2, c2, rfl, hv', l1, l2, fun q hq => ?_⟩
  have : q = 0 ∨ q = 1 ∨ q = 2 ∨ q = 3 := by omega
  rcases this with rfl | rfl | rfl | rfl
  · exact ⟨p0, hc2 0 p0 rfl, h0, cellAt_get hrs rfl⟩
  · exact ⟨p1, hc2 1 p1 rfl, h1, cellAt_get hrs rfl⟩
  · exact ⟨p2, hc2 2 p2 rfl, h2, cellAt_get hrs rfl⟩
  · exact ⟨p3, hc2 3 p3 rfl, h3, cellAt_get hrs rfl⟩
theorem func_len {f : List (List Int)} {b : BoxD} (hf : funcB b.X b.Y f = true) (hb : boxB b = true) : f.length = b.Rows.length := by
  have h1 := (funcB_iff.1 hf).2.1
  have h2 := (boxB_iff.1 hb).2.2.1
  omega
theorem prod_bd {x y : Int} (hx : -99 ≤ x ∧ x ≤ 99) (hy : 0 ≤ y ∧ y ≤ 1000) : -99000 ≤ x * y ∧ x * y ≤ 99000 := mul_bd x y 99 1000 hx hy

set_option maxHeartbeats 1600000 in
theorem worth_any (vf : Value) (f : List (List Int)) (vb : Value) (b : BoxD) (hf : funcB b.X b.Y f = true) (hb : boxB b = true) (w : World) (rf : RdII w vf f) (rb : RdII w vb b.Rows) :
    Calls Try.prog 96 #[vf, vb] w fun e w' => e = .returned (.int .i64 (worthR f b.Rows)) ∧ w = w' := by
  have hlen := func_len hf hb
  have PF := Lib.hid (fun k hk => func_path (funcB_iff.1 hf).2.2 rf k hk)
  have PB := Lib.hid (fun k hk => boxB_path hb rb k hk)
  have hl9 : b.Rows.length ≤ 9 := boxB_len hb
  have hl1 : 1 ≤ b.Rows.length := boxB_len1 hb
  obtain ⟨wb0, wb1⟩ := (boxB_iff.1 hb).2.1
  obtain ⟨ba, off, cap, _, _, _, rfl, _⟩ := PF.out 0 (by omega)
  obtain ⟨bb, offb, capb, _, _, _, rfl, _⟩ := PB.out 0 (by omega)
  have hf9 : f.length ≤ 9 := by omega
  have HL := Lib.hid hlen
  clear hlen hf hb rf rb
  go_enter Try.func96, Try.ntmps96
  go_wp2
  go_loop [12, 5] (fun s6 s5 => ∃ (n : Nat) (t : Int), n ≤ f.length ∧ s6 = .int .i64 n ∧ s5 = .int .i64 t ∧ t = worthTo f b.Rows n ∧ -(396000 * (n : Int)) ≤ t ∧ t ≤ 396000 * (n : Int)) (fun s6 _ => f.length - (intOf s6).toNat)
  case atStart => exact ⟨0, 0, by omega, rfl, rfl, rfl, by omega, by omega⟩
  case round =>
    obtain ⟨n, t, hn, rfl, rfl, ht, ht0, ht1⟩ := hrel
    have HT := Lib.hid ht
    clear ht
    by_cases hlt : n < f.length
    · obtain ⟨_, _, _, b2, o2, c2, ev, ca, lba, lb2, PFk⟩ := PF.out n hlt
      obtain ⟨_, _, _, b4, o4, c4, ev2, _, cb, lbb, lb4, PBk⟩ := PB.out n (by rw [← HL.out]; exact hlt)
      simp only [Value.slice.injEq, Option.some.injEq, Addr.mk.injEq, and_true, true_and] at ev ev2
      obtain ⟨⟨rfl, rfl⟩, rfl⟩ := ev
      obtain ⟨⟨rfl, rfl⟩, rfl⟩ := ev2
      have HPF := Lib.hid PFk
      have HPB := Lib.hid PBk
      clear PFk PBk
      go_wp2
      go_loop [19, 5] (fun s7 s5 => ∃ (q : Nat) (u : Int), q ≤ 4 ∧ s7 = .int .i64 q ∧ s5 = .int .i64 u ∧ u = t + wRow f b.Rows n q ∧ -(396000 * (n : Int) + 99000 * (q : Int)) ≤ u ∧ u ≤ 396000 * (n : Int) + 99000 * (q : Int)) (fun s7 _ => 4 - (intOf s7).toNat)
      case atStart => exact ⟨0, t, by omega, rfl, rfl, by rw [wRow_zero]; omega, by omega, by omega⟩
      case round =>
        obtain ⟨q, u, hq, rfl, rfl, hu, hu0, hu1⟩ := hrel
        have HU := Lib.hid hu
        clear hu
        by_cases hqt : q < 4
        · obtain ⟨x, cx, hx, nx⟩ := HPF.out q hqt
          obtain ⟨y, cy, ⟨by0, by1⟩, _, ny⟩ := HPB.out q hqt
          obtain ⟨p0, p1⟩ := prod_bd hx ⟨by0, by omega⟩
          have n2 : n < b.Rows.length := by have := HL.out; omega
          have hs : u + x * y = t + wRow f b.Rows n (q + 1) := by rw [wRow_succ, nx, ny, HU.out]; omega
          have HS := Lib.hid hs
          have v0 : -(396000 * (n : Int) + 99000 * ((q + 1 : Nat) : Int)) ≤ u + x * y := by omega
          have v1 : u + x * y ≤ 396000 * (n : Int) + 99000 * ((q + 1 : Nat) : Int) := by omega
          have HV := Lib.hid (And.intro v0 v1)
          obtain ⟨hx0, hx1⟩ := hx
          clear nx ny hs v0 v1
          go_wp2
          go_round
          case rel => exact ⟨q + 1, u + x * y, by omega, by go_num, rfl, HS.out, HV.out.1, HV.out.2⟩
          case measure => simp [intOf]; omega
        · obtain rfl : q = 4 := by omega
          have hv : u = worthTo f b.Rows (n + 1) := by rw [worthTo_succ, ← HT.out]; exact HU.out
          have HV := Lib.hid hv
          clear hv
          go_wp2
          go_round
          case rel => exact ⟨n + 1, u, by omega, by go_num, rfl, HV.out, by omega, by omega⟩
          case measure => simp [intOf]; omega
    · obtain rfl : n = f.length := by omega
      go_wp2
      go_ret
      exact ⟨ret_int (by rw [HT.out, HL.out]; rfl), rfl⟩
end Go.Proofs.Ytnmnmnpeoiblhaa
set_option linter.unusedSimpArgs false
set_option linter.unusedVariables false
namespace Go.Proofs.Ytnmnmnpeoiblhaa
open Go.RowKit

def bestUp (g : Nat → Int) : Nat → Int
  | 0 => 0
  | n + 1 => if n = 0 ∨ bestUp g n < g n then g n else bestUp g n
theorem bestUp_new {g : Nat → Int} {n : Nat} {u z : Int} (hu : u = bestUp g n) (hz : z = g n) (h : n = 0 ∨ u < z) : z = bestUp g (n + 1) := by
  subst hu hz; show _ = if _ then _ else _; rw [if_pos h]
theorem bestUp_old {g : Nat → Int} {n : Nat} {u z : Int} (hu : u = bestUp g n) (hz : z = g n) (h : ¬ n = 0) (h2 : ¬ u < z) : u = bestUp g (n + 1) := by
  subst hu hz; show _ = if _ then _ else _; rw [if_neg (fun h' => h'.elim h h2)]
theorem bestUp_bd {g : Nat → Int} {B : Int} (hB : 0 ≤ B) (n : Nat) (h : ∀ k, k < n → -B ≤ g k ∧ g k ≤ B) : -B ≤ bestUp g n ∧ bestUp g n ≤ B := by
  induction n with
  | zero => unfold bestUp; omega
  | succ n ih =>
    have h1 := ih (fun k hk => h k (by omega))
    have h2 := h n (by omega)
    unfold bestUp
    split <;> assumption
def valP (x y : Int) (f : List (List Int)) (c : Nat) : Int := playW x y f (bitsTo (x.toNat + y.toNat) c (x.toNat + y.toNat))
def localV (x y : Int) (f : List (List Int)) : Int := bestUp (valP x y f) (2 ^ (x.toNat + y.toNat))
theorem bitsTo_len (n k j : Nat) : (bitsTo n k j).length = j := by simp [bitsTo]
theorem bitsTo_bits (n k : Nat) (m : Int) (hm : (n : Int) = m) : bitsB (bitsTo n k n) m = true := by
  refine bits_iff.2 ⟨allIn_true (fun j x hx => ?_), by rw [bitsTo_len]; exact hm⟩
  unfold bitsTo at hx
  rw [List.getElem?_map] at hx
  obtain ⟨c, _, rfl⟩ := Option.map_eq_some_iff.1 hx
  have := Nat.mod_lt (k / 2 ^ (n - 1 - c)) (show 0 < 2 by omega)
  exact inB_iff.2 ⟨by omega, by omega⟩
theorem playsTo_get {n M c : Nat} (h : c < M) : (playsTo n M)[c]? = some (bitsTo n c n) := by simp [playsTo, h]
theorem playsTo_len (n M : Nat) : (playsTo n M).length = M := by simp [playsTo]
/-- The way to a play of the list of all plays. -/
theorem plays_path {lo hi N M : Nat} {w : World} {a : Option Addr} {c : Nat} {vs : List Value} (o : OwnII 27 3 lo hi w (.slice a (playsTo N M).length c) (playsTo N M) vs) (hM : 0 < M) :
    ∃ g, a = some ⟨g, 0, none⟩ ∧ g < w.heap.size ∧ lo ≤ g ∧ ∀ n, n < M → ∃ a2 c2, vs[n]? = some (.slice a2 N c2) ∧ w.cell? ⟨g, n, none⟩ = some (.slice a2 N c2) ∧ RdI w (.slice a2 N c2) (bitsTo N n N) := by
  obtain ⟨a', g, cap, hv, hm, ha, hc, _⟩ := o.top.shape
  have hl : vs.length = M := by rw [o.len, playsTo_len]
  injection hv with e1 e2 e3
  obtain ⟨h1, h2, h3, h4⟩ := ha (by omega)
  refine ⟨g, by rw [e1, h1], h4, h2, fun n hn => ?_⟩
  have hvn : vs[n]? = some vs[n] := List.getElem?_eq_getElem (by omega)
  have hr := (o.row n _ _ hvn (playsTo_get hn)).rdI
  have hr' := hr
  obtain ⟨a2, _, _, c2, hv2, _⟩ := hr'
  rw [bitsTo_len] at hv2
  exact ⟨a2, c2, by rw [← hv2]; exact hvn, by rw [← hv2]; exact hc n _ hvn, by rw [← hv2]; exact hr⟩
theorem pow_M (X Y : Nat) (hX : X ≤ 3) (hY : Y ≤ 3) : 1 ≤ 2 ^ (X + Y) ∧ 2 ^ (X + Y) ≤ 64 :=
  ⟨Nat.two_pow_pos _, Nat.le_trans (Nat.pow_le_pow_right (by omega) (show X + Y ≤ 6 by omega)) (by decide)⟩
theorem playW_bd {x y : Int} {f : List (List Int)} {ps : List Int} (hf : funcB x y f = true) (hp : bitsB ps (x + y) = true) : -891 ≤ playW x y f ps ∧ playW x y f ps ≤ 891 := by
  obtain ⟨hs, hfl, hfa⟩ := funcB_iff.1 hf
  obtain ⟨⟨hx0, hx1⟩, hy0, hy1⟩ := sizesB_iff.1 hs
  obtain ⟨X, rfl⟩ := Int.eq_ofNat_of_zero_le (show 0 ≤ x by omega)
  obtain ⟨Y, rfl⟩ := Int.eq_ofNat_of_zero_le (show 0 ≤ y by omega)
  have hXY : X * Y ≤ 9 := Nat.mul_le_mul (show X ≤ 3 by omega) (show Y ≤ 3 by omega)
  have hfn : f.length = X * Y := by exact_mod_cast hfl
  have key : ∀ n, n ≤ X * Y → -(99 * (n : Int)) ≤ worthTo f (playRows X Y ps) n ∧ worthTo f (playRows X Y ps) n ≤ 99 * (n : Int) := by
    intro n
    induction n with
    | zero => intro _; rw [worthTo_zero]; omega
    | succ n ih =>
      intro hn
      have h1 := ih (by omega)
      obtain ⟨hi, hk⟩ := div_lt_of (show n < X * Y by omega)
      obtain ⟨p, hp1, p2⟩ := bits_get hp (j := n / Y) (by omega)
      obtain ⟨q, hq1, q2⟩ := bits_get hp (j := X + n % Y) (by omega)
      have hw := wRow_one (f := f) hi hk hp1 hq1 p2 q2 (n := n) (by rw [Nat.mul_comm]; exact Nat.div_add_mod n Y)
      rw [worthTo_succ, hw]
      have hrs : f[n]? = some f[n] := List.getElem?_eq_getElem (by omega)
      obtain ⟨p0, p1, p2', p3, hrow, h0, h1', h2, h3⟩ := funcRow_four (all_get hfa hrs)
      rw [hrow] at hrs
      have hc : -99 ≤ cellAt f n (2 * p + q) ∧ cellAt f n (2 * p + q) ≤ 99 := by
        have : p = 0 ∨ p = 1 := by omega
        have : q = 0 ∨ q = 1 := by omega
        rcases ‹p = 0 ∨ p = 1› with rfl | rfl <;> rcases ‹q = 0 ∨ q = 1› with rfl | rfl
        · rw [cellAt_get hrs rfl]; exact h0
        · rw [cellAt_get hrs rfl]; exact h1'
        · rw [cellAt_get hrs rfl]; exact h2
        · rw [cellAt_get hrs rfl]; exact h3
      push_cast
      omega
  have := key (X * Y) (Nat.le_refl _)
  rw [playW_eq]
  omega
theorem valP_bd {x y : Int} {f : List (List Int)} (hf : funcB x y f = true) (c : Nat) : -891 ≤ valP x y f c ∧ valP x y f c ≤ 891 := by
  obtain ⟨⟨hx0, hx1⟩, hy0, hy1⟩ := sizesB_iff.1 (funcB_iff.1 hf).1
  exact playW_bd hf (bitsTo_bits _ _ _ (by omega))
theorem localV_bd {x y : Int} {f : List (List Int)} (hf : funcB x y f = true) : -891 ≤ localV x y f ∧ localV x y f ≤ 891 :=
  bestUp_bd (by omega) _ (fun k _ => valP_bd hf k)
end Go.Proofs.Ytnmnmnpeoiblhaa
set_option linter.unusedSimpArgs false
set_option linter.unusedVariables false
namespace Go.Proofs.Ytnmnmnpeoiblhaa
open Go.RowKit

theorem questions_any (v : Value) (b : BoxD) (w : World) :
    Calls Try.prog 73 #[.agg #[.int .i64 b.X, .int .i64 b.Y, .int .i64 b.Whole, v]] w fun e w' => e = .returned (.agg #[.int .i64 b.X, .int .i64 b.Y]) ∧ Below w.heap.size w w' := by
  go_enter Try.func73, Try.ntmps73
  go_wp2
  refine bodyPost_ret (v := .agg #[.int .i64 b.X, .int .i64 b.Y]) ?_ rfl ?_
  · simp [results, Try.results73, go_sem]
  · exact ⟨rfl, (by repeat' (first | with_reducible exact Below.refl _ _ | with_reducible assumption | with_reducible apply Below.alloc | with_reducible apply Below.setCell | with_reducible apply Below.drew | exact Nat.le_refl _ | omega | (simp only [World.size_alloc, World.size_setCell]; omega)))⟩
theorem ones0_lit (v : Value) (b : BoxD) (hb : boxB b = true) (x y : Nat) (y' : Int) (ey : (y : Int) = y') (hx : (x : Int) < b.X) (hy : (y : Int) < b.Y) (w : World) (h : RdII w v b.Rows) :
    Calls Try.prog 74 #[.agg #[.int .i64 b.X, .int .i64 b.Y, .int .i64 b.Whole, v], .int .i64 0, .int .i64 x, .int .i64 y'] w fun e w' => e = .returned (.int .i64 (oneB b 0 x y)) ∧ Below w.heap.size w w' := by
  subst ey; exact ones0_any v b hb x y hx hy w h
theorem ones1_lit (v : Value) (b : BoxD) (hb : boxB b = true) (x y : Nat) (x' : Int) (ex : (x : Int) = x') (hx : (x : Int) < b.X) (hy : (y : Int) < b.Y) (w : World) (h : RdII w v b.Rows) :
    Calls Try.prog 74 #[.agg #[.int .i64 b.X, .int .i64 b.Y, .int .i64 b.Whole, v], .int .i64 1, .int .i64 y, .int .i64 x'] w fun e w' => e = .returned (.int .i64 (oneB b 1 x y)) ∧ Below w.heap.size w w' := by
  subst ex; exact ones1_any v b hb x y hx hy w h
def loudI (b : BoxD) : Int × Int × Bool := match loudF b with
  | some (p, q) => ((p : Int), (q : Int), true)
  | none => (0, 0, false)

set_option maxRecDepth 100000 in
set_option maxHeartbeats 6400000 in
theorem loud_any (v : Value) (b : BoxD) (hb : boxB b = true) (w : World) (h : RdII w v b.Rows) :
    Calls Try.prog 112 #[.agg #[.int .i64 b.X, .int .i64 b.Y, .int .i64 b.Whole, v]] w fun e w' => e = .returned (.tuple #[.int .i64 (loudI b).1, .int .i64 (loudI b).2.1, .bool (loudI b).2.2]) ∧ Below w.heap.size w w' := by
  obtain ⟨⟨hx0, hx1⟩, hy0, hy1⟩ := (boxB_iff.1 hb).1
  go_enter Try.func112, Try.ntmps112
  go_wp2_with fail
  refine (questions_any v b _).mono ?_
  rintro e wq ⟨rfl, bq⟩
  have B0 : Below w.heap.size w wq := Below.trans (by repeat' (first | with_reducible exact Below.refl _ _ | with_reducible assumption | with_reducible apply Below.alloc | with_reducible apply Below.setCell | with_reducible apply Below.drew | exact Nat.le_refl _ | omega | (simp only [World.size_alloc, World.size_setCell]; omega))) (bq.mono (by first | exact Nat.le_refl _ | omega | (simp only [World.size_alloc, World.size_setCell]; omega)))
  have A0 : BoxAt wq w.heap.size b.X b.Y b.Whole v := ⟨keepCell bq (by repeat' (first | with_reducible assumption | (refine cell_top ?_ rfl; first | with_reducible rfl | (simp only [World.size_alloc, World.size_setCell]; done)) | (refine cell_under ?_ ?_; (first | omega | (simp only [World.size_alloc, World.size_setCell]; omega))) | refine cell_drew ?_)), keepCell bq (by repeat' (first | with_reducible assumption | (refine cell_top ?_ rfl; first | with_reducible rfl | (simp only [World.size_alloc, World.size_setCell]; done)) | (refine cell_under ?_ ?_; (first | omega | (simp only [World.size_alloc, World.size_setCell]; omega))) | refine cell_drew ?_)), keepCell bq (by repeat' (first | with_reducible assumption | (refine cell_top ?_ rfl; first | with_reducible rfl | (simp only [World.size_alloc, World.size_setCell]; done)) | (refine cell_under ?_ ?_; (first | omega | (simp only [World.size_alloc, World.size_setCell]; omega))) | refine cell_drew ?_)), keepCell bq (by repeat' (first | with_reducible assumption | (refine cell_top ?_ rfl; first | with_reducible rfl | (simp only [World.size_alloc, World.size_setCell]; done)) | (refine cell_under ?_ ?_; (first | omega | (simp only [World.size_alloc, World.size_setCell]; omega))) | refine cell_drew ?_))⟩
  have hlq := A0.lt
  clear bq
  go_wp2
  have c0 : (wq.alloc (.cells #[.int .i64 b.X, .int .i64 b.Y] 47)).cell? ⟨wq.heap.size, 0, none⟩ = some (.int .i64 b.X) := cell_top rfl rfl
  have c1 : (wq.alloc (.cells #[.int .i64 b.X, .int .i64 b.Y] 47)).cell? ⟨wq.heap.size, 1, none⟩ = some (.int .i64 b.Y) := cell_top rfl rfl
  have A1 : BoxAt (wq.alloc (.cells #[.int .i64 b.X, .int .i64 b.Y] 47)) w.heap.size b.X b.Y b.Whole v := A0.kept ((Below.refl _ _).alloc (Nat.le_refl _) _) hlq
  have B1 : Below w.heap.size w (wq.alloc (.cells #[.int .i64 b.X, .int .i64 b.Y] 47)) := B0.alloc B0.size _
  generalize hw1 : wq.alloc (.cells #[.int .i64 b.X, .int .i64 b.Y] 47) = w1 at *
  have H1 := Lib.hid hw1
  clear hw1 A0
  go_loopw [11] (fun s wr => ∃ pl : Nat, pl ≤ 2 ∧ s = .int .i64 pl ∧ (1 ≤ pl → ∀ j : Nat, (j : Int) < b.X → loudX b j = false) ∧ (2 ≤ pl → ∀ j : Nat, (j : Int) < b.Y → loudY b j = false) ∧ Below w1.heap.size w1 wr) (fun s _ => 2 - (intOf s).toNat)
  case atStart => exact ⟨0, by omega, rfl, fun h => by omega, fun h => by omega, Below.refl _ _⟩
  case round =>
    obtain ⟨pl, hpl, rfl, hPX, hPY, hB⟩ := hrel
    have HPX := Lib.hid hPX
    have HPY := Lib.hid hPY
    clear hPX hPY
    have d0 := keepCell hB c0
    have d1 := keepCell hB c1
    have : pl = 0 ∨ pl = 1 ∨ pl = 2 := by omega
    rcases this with rfl | rfl | rfl
    · rw [show ((0 : Nat) : Int) = (0 : Int) from rfl]
      go_wp2
      clear d0 d1
      go_loopw [17] (fun s wr => ∃ x : Nat, (x : Int) ≤ b.X ∧ s = .int .i64 x ∧ (∀ j, j < x → loudX b j = false) ∧ Below w1.heap.size w1 wr) (fun s _ => b.X.toNat - (intOf s).toNat)
      case atStart => exact ⟨0, by omega, rfl, fun j hj => by omega, hB⟩
      case round =>
        clear hB
        obtain ⟨x, hx, rfl, hA, hB⟩ := hrel
        have HA := Lib.hid hA
        clear hA
        have d1 := keepCell hB c1
        by_cases hxt : (x : Int) < b.X
        · go_wp2
          clear d1
          go_loopw [24] (fun s wr => ∃ y : Nat, (y : Int) ≤ b.Y ∧ s = .int .i64 y ∧ (∀ j, j < y → oneB b 0 x j = oneB b 0 x 0) ∧ Below w1.heap.size w1 wr) (fun s _ => b.Y.toNat - (intOf s).toNat)
          case atStart => exact ⟨0, by omega, rfl, fun j hj => by omega, hB⟩
          case round =>
            clear hB
            obtain ⟨y, hy, rfl, hI, hB⟩ := hrel
            have HI := Lib.hid hI
            clear hI
            by_cases hyt : (y : Int) < b.Y
            · have hY0 : ((0 : Nat) : Int) < b.Y := by omega
              by_cases he : oneB b 0 x y = oneB b 0 x 0
              · have hez : (oneB b 0 x y != oneB b 0 x 0) = false := by simp [he]
                have HE := Lib.hid he
                clear he
                go_wp2
                go_region_held3 (fun w' => Below w1.heap.size w1 w' ∧ w'.cell? ⟨w.heap.size, 0, none⟩ = some (.int .i64 b.X) ∧ w'.cell? ⟨w.heap.size, 1, none⟩ = some (.int .i64 b.Y) ∧ w'.cell? ⟨w.heap.size, 2, none⟩ = some (.int .i64 b.Whole) ∧ w'.cell? ⟨w.heap.size, 3, none⟩ = some v)
                  (first | exact held1 hB.drew A1 | exact held1 hBn A1)
                  (first
                    | (go_at_call 74; have hS := And.left (by assumption : Below w1.heap.size w1 _ ∧ _); (with_reducible refine (ones0_any v b hb x y hxt hyt _ (h.kept (Nat.le_refl _) (B1.trans (hS.mono B1.size)))).mono ?_); rintro e w2 ⟨rfl, b2⟩; have hBn := hS.trans (b2.mono hS.size))
                    | (go_at_call 74; have hS := And.left (by assumption : Below w1.heap.size w1 _ ∧ _); (with_reducible refine (ones0_lit v b hb x 0 0 rfl hxt hY0 _ (h.kept (Nat.le_refl _) (B1.trans (hS.mono B1.size)))).mono ?_); rintro e w2 ⟨rfl, b2⟩; have hBn := hS.trans (b2.mono hS.size)))
                all_goals
                  go_wp2
                  go_roundw
                  case rel => exact ⟨y + 1, by omega, by go_num, fun j hj => by
                    by_cases e : j = y
                    · subst e; exact HE.out
                    · exact HI.out j (by omega), hBn⟩
                  case measure => simp [intOf]; omega
              · have hez : (oneB b 0 x y != oneB b 0 x 0) = true := by simp [he]
                have HE := Lib.hid he
                clear he
                go_wp2
                go_region_held3 (fun w' => Below w1.heap.size w1 w' ∧ w'.cell? ⟨w.heap.size, 0, none⟩ = some (.int .i64 b.X) ∧ w'.cell? ⟨w.heap.size, 1, none⟩ = some (.int .i64 b.Y) ∧ w'.cell? ⟨w.heap.size, 2, none⟩ = some (.int .i64 b.Whole) ∧ w'.cell? ⟨w.heap.size, 3, none⟩ = some v)
                  (first | exact held1 hB.drew A1 | exact held1 hBn A1)
                  (first
                    | (go_at_call 74; have hS := And.left (by assumption : Below w1.heap.size w1 _ ∧ _); (with_reducible refine (ones0_any v b hb x y hxt hyt _ (h.kept (Nat.le_refl _) (B1.trans (hS.mono B1.size)))).mono ?_); rintro e w2 ⟨rfl, b2⟩; have hBn := hS.trans (b2.mono hS.size))
                    | (go_at_call 74; have hS := And.left (by assumption : Below w1.heap.size w1 _ ∧ _); (with_reducible refine (ones0_lit v b hb x 0 0 rfl hxt hY0 _ (h.kept (Nat.le_refl _) (B1.trans (hS.mono B1.size)))).mono ?_); rintro e w2 ⟨rfl, b2⟩; have hBn := hS.trans (b2.mono hS.size)))
                all_goals
                  go_wp2
                  have hl : loudI b = ((0 : Int), (x : Int), true) := by unfold loudI; rw [loudF_x hxt (loudX_true hyt HE.out) HA.out]; rfl
                  refine bodyPost_ret (v := .tuple #[.int .i64 0, .int .i64 x, .bool true]) (by simp [results, Try.results112, go_sem]) rfl ⟨by rw [hl], B1.trans (hBn.mono B1.size)⟩
            · have HX := Lib.hid (loudX_false (b := b) (x := x) (fun j hj => HI.out j (by omega)))
              go_wp2
              go_roundw
              case rel => exact ⟨x + 1, by omega, by go_num, fun j hj => by
                by_cases e : j = x
                · subst e; exact HX.out
                · exact HA.out j (by omega), hB⟩
              case measure => simp [intOf]; omega
        · have HX := Lib.hid (fun (j : Nat) (hj : (j : Int) < b.X) => HA.out j (by omega))
          go_wp2
          go_roundw
          case rel => exact ⟨1, by omega, rfl, fun _ => HX.out, fun h => by omega, hB⟩
          case measure => simp [intOf]
    · have HXA := Lib.hid (HPX.out (by omega))
      rw [show ((1 : Nat) : Int) = (1 : Int) from rfl]
      go_wp2
      clear d0 d1
      go_loopw [17] (fun s wr => ∃ y : Nat, (y : Int) ≤ b.Y ∧ s = .int .i64 y ∧ (∀ j, j < y → loudY b j = false) ∧ Below w1.heap.size w1 wr) (fun s _ => b.Y.toNat - (intOf s).toNat)
      case atStart => exact ⟨0, by omega, rfl, fun j hj => by omega, hB⟩
      case round =>
        clear hB
        obtain ⟨y, hy, rfl, hA, hB⟩ := hrel
        have HA := Lib.hid hA
        clear hA
        have d0 := keepCell hB c0
        by_cases hyt : (y : Int) < b.Y
        · go_wp2
          clear d0
          go_loopw [24] (fun s wr => ∃ x : Nat, (x : Int) ≤ b.X ∧ s = .int .i64 x ∧ (∀ j, j < x → oneB b 1 j y = oneB b 1 0 y) ∧ Below w1.heap.size w1 wr) (fun s _ => b.X.toNat - (intOf s).toNat)
          case atStart => exact ⟨0, by omega, rfl, fun j hj => by omega, hB⟩
          case round =>
            clear hB
            obtain ⟨x, hx, rfl, hI, hB⟩ := hrel
            have HI := Lib.hid hI
            clear hI
            by_cases hxt : (x : Int) < b.X
            · have hX0 : ((0 : Nat) : Int) < b.X := by omega
              by_cases he : oneB b 1 x y = oneB b 1 0 y
              · have hez : (oneB b 1 x y != oneB b 1 0 y) = false := by simp [he]
                have HE := Lib.hid he
                clear he
                go_wp2
                go_region_held3 (fun w' => Below w1.heap.size w1 w' ∧ w'.cell? ⟨w.heap.size, 0, none⟩ = some (.int .i64 b.X) ∧ w'.cell? ⟨w.heap.size, 1, none⟩ = some (.int .i64 b.Y) ∧ w'.cell? ⟨w.heap.size, 2, none⟩ = some (.int .i64 b.Whole) ∧ w'.cell? ⟨w.heap.size, 3, none⟩ = some v)
                  (first | exact held1 hB.drew A1 | exact held1 hBn A1)
                  (first
                    | (go_at_call 74; have hS := And.left (by assumption : Below w1.heap.size w1 _ ∧ _); (with_reducible refine (ones1_any v b hb x y hxt hyt _ (h.kept (Nat.le_refl _) (B1.trans (hS.mono B1.size)))).mono ?_); rintro e w2 ⟨rfl, b2⟩; have hBn := hS.trans (b2.mono hS.size))
                    | (go_at_call 74; have hS := And.left (by assumption : Below w1.heap.size w1 _ ∧ _); (with_reducible refine (ones1_lit v b hb 0 y 0 rfl hX0 hyt _ (h.kept (Nat.le_refl _) (B1.trans (hS.mono B1.size)))).mono ?_); rintro e w2 ⟨rfl, b2⟩; have hBn := hS.trans (b2.mono hS.size)))
                all_goals
                  go_wp2
                  go_roundw
                  case rel => exact ⟨x + 1, by omega, by go_num, fun j hj => by
                    by_cases e : j = x
                    · subst e; exact HE.out
                    · exact HI.out j (by omega), hBn⟩
                  case measure => simp [intOf]; omega
              · have hez : (oneB b 1 x y != oneB b 1 0 y) = true := by simp [he]
                have HE := Lib.hid he
                clear he
                go_wp2
                go_region_held3 (fun w' => Below w1.heap.size w1 w' ∧ w'.cell? ⟨w.heap.size, 0, none⟩ = some (.int .i64 b.X) ∧ w'.cell? ⟨w.heap.size, 1, none⟩ = some (.int .i64 b.Y) ∧ w'.cell? ⟨w.heap.size, 2, none⟩ = some (.int .i64 b.Whole) ∧ w'.cell? ⟨w.heap.size, 3, none⟩ = some v)
                  (first | exact held1 hB.drew A1 | exact held1 hBn A1)
                  (first
                    | (go_at_call 74; have hS := And.left (by assumption : Below w1.heap.size w1 _ ∧ _); (with_reducible refine (ones1_any v b hb x y hxt hyt _ (h.kept (Nat.le_refl _) (B1.trans (hS.mono B1.size)))).mono ?_); rintro e w2 ⟨rfl, b2⟩; have hBn := hS.trans (b2.mono hS.size))
                    | (go_at_call 74; have hS := And.left (by assumption : Below w1.heap.size w1 _ ∧ _); (with_reducible refine (ones1_lit v b hb 0 y 0 rfl hX0 hyt _ (h.kept (Nat.le_refl _) (B1.trans (hS.mono B1.size)))).mono ?_); rintro e w2 ⟨rfl, b2⟩; have hBn := hS.trans (b2.mono hS.size)))
                all_goals
                  go_wp2
                  have hl : loudI b = ((1 : Int), (y : Int), true) := by unfold loudI; rw [loudF_y HXA.out hyt (loudY_true hxt HE.out) HA.out]; rfl
                  refine bodyPost_ret (v := .tuple #[.int .i64 1, .int .i64 y, .bool true]) (by simp [results, Try.results112, go_sem]) rfl ⟨by rw [hl], B1.trans (hBn.mono B1.size)⟩
            · have HX := Lib.hid (loudY_false (b := b) (y := y) (fun j hj => HI.out j (by omega)))
              go_wp2
              go_roundw
              case rel => exact ⟨y + 1, by omega, by go_num, fun j hj => by
                by_cases e : j = y
                · subst e; exact HX.out
                · exact HA.out j (by omega), hB⟩
              case measure => simp [intOf]; omega
        · have HY := Lib.hid (fun (j : Nat) (hj : (j : Int) < b.Y) => HA.out j (by omega))
          go_wp2
          go_roundw
          case rel => exact ⟨2, by omega, rfl, fun _ => HXA.out, fun _ => HY.out, hB⟩
          case measure => simp [intOf]
    · have hl : loudI b = ((0 : Int), (0 : Int), false) := by unfold loudI; rw [loudF_no (HPX.out (by omega)) (HPY.out (by omega))]
      have HLD := Lib.hid hl
      clear hl d0 d1
      go_wp2
      refine bodyPost_ret (v := .tuple #[.int .i64 0, .int .i64 0, .bool false]) (by simp [results, Try.results112, go_sem]) rfl ⟨by rw [HLD.out], B1.trans (hB.mono B1.size)⟩
end Go.Proofs.Ytnmnmnpeoiblhaa
