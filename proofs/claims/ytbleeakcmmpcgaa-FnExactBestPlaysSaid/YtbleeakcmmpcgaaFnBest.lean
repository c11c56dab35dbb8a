/- BestPlays: contracts of the program's and the reference's functions. -/
import Derived.Test.YtbleeakcmmpcgaaFnLocal
import Derived.Test.YtbleeakcmmpcgaaFnPlaysOf
set_option linter.unusedSimpArgs false
set_option linter.unusedVariables false
namespace Go.Proofs.Ytbleeakcmmpcgaa
open Go.RowKit

section
variable {P : Program} {ops : Array Oper} {rest : List Oper} {o : Oper} {a : Act} {Q : Exit → Act → World → Prop}
/-- The first element appended to an empty slice without room: the row lies in new memory. -/
theorem append1_first (hgd : o.guard = none) (s x : Operand) (t e : TypeId)
    (ho : o.op = .call { callee := .builtin .append, args := #[s, x], argTypes := #[t, t] })
    {z : Value} {bytes : Nat} (ht : P.underlying t = some (.slice e)) (hinfo : (P.info? e).map (fun i => (i.zero, i.size, i.bytes)) = some (some z, 1, bytes)) (hz : z.cells.size = 1)
    {W : World} {g : Nat} {u : Value} (hs : a.eval s = .slice (some ⟨g, 0, none⟩) 0 0)
    (hx : a.eval x = .slice (some ⟨W.heap.size, 0, none⟩) 1 1) (hby : bytes ≤ 1024)
    (h : ∀ (a' : Option Addr) (c : Nat) (w' : World), OwnV e W.heap.size w'.heap.size w' (.slice a' 1 c) [u] → Below W.heap.size W w' →
      wpList P ops Q rest (a.put o.dst (.slice a' 1 c)) w') :
    wpList P ops Q (o :: rest) a (W.alloc (.cells #[u] e)) := by
  obtain ⟨i, hi0, hi1, hi2, hi3⟩ := info_parts hinfo
  have hb1 : (0 + 1) * i.bytes ≤ 140737488355328 := by rw [hi3]; omega
  have hr := run_append_grow (P := P) (W.alloc (.cells #[u] e)) t o.type e i z ht hi0 hi1 ⟨g, 0, none⟩ 0 0 [] (by simp) (by simp) ⟨W.heap.size, 0, none⟩ 1 1 [u] (by simp [hi2])
    (by intro j v hj
        match j, hj with
        | 0, hj => simp at hj; subst hj; simp [Addr.add]) (by omega) (by omega) (growslice_fits (by omega) hb1)
  have hge := grownCap_ge (W.alloc (.cells #[u] e)) (0 + 1) 0 e
  have hle := grownCap_le_maxLen (W.alloc (.cells #[u] e)) (0 + 1) 0 e (by simp [maxLen])
  refine wpList_plain hgd fun K hK => ?_
  unfold Oper.wp execOp
  simp only [ho, resolve, invoke, builtin, Sem.run_bind, Sem.run_pure, Result.andThen_ok, List.map_toArray, List.map_cons, List.map_nil, hs, hx, hr]
  refine hK _ _ (h _ _ _ ⟨⟨by simp, .inr ⟨_, _, _, rfl, ?_, heap_alloc_new _ _, hge, hle, ?_, ?_⟩⟩, ?_⟩ ?_)
  · simp
  · simp only [List.size_toArray, Array.size_append, size_zeroCells, hz, List.length_nil, List.length_cons, Nat.mul_one]
    omega
  · simp
  · intro g' hg'
    simp only [Value.ownBlock, Option.some.injEq] at hg'
    subst hg'
    simp
  · exact (((Below.refl _ _).alloc (Nat.le_refl _) _).drew).alloc (by simp) _
end

def sel (p : Nat → Bool) (n : Nat) : List Nat := (List.range n).filter p
theorem sel_yes {p : Nat → Bool} {n : Nat} (h : p n = true) : sel p (n + 1) = sel p n ++ [n] := by simp [sel, List.range_succ, List.filter_append, h]
theorem sel_no {p : Nat → Bool} {n : Nat} (h : p n = false) : sel p (n + 1) = sel p n := by simp [sel, List.range_succ, List.filter_append, h]
theorem sel_lt {p : Nat → Bool} {n i k : Nat} (h : (sel p n)[i]? = some k) : k < n := by
  have := List.mem_of_getElem? h
  simp [sel] at this
  exact this.1
theorem sel_len (p : Nat → Bool) (n : Nat) : (sel p n).length ≤ n := by
  have := List.length_filter_le p (List.range n)
  simpa [sel] using this
theorem sel_inj {p : Nat → Bool} {n i j k : Nat} (hi : (sel p n)[i]? = some k) (hj : (sel p n)[j]? = some k) : i = j := by
  have hn : (sel p n).Nodup := List.Pairwise.filter p (List.nodup_range (n := n))
  obtain ⟨h1, e1⟩ := List.getElem?_eq_some_iff.1 hi
  obtain ⟨h2, e2⟩ := List.getElem?_eq_some_iff.1 hj
  have hpw := List.pairwise_iff_getElem.1 hn
  rcases Nat.lt_trichotomy i j with h | h | h
  · exact absurd (e1.trans e2.symm) (hpw i j h1 h2 h)
  · exact h
  · exact absurd (e2.trans e1.symm) (hpw j i h2 h1 h)
def selV (vs : List Value) (p : Nat → Bool) (n : Nat) : List Value := (sel p n).map fun k => vs.getD k (.bool false)
def selR (N : Nat) (p : Nat → Bool) (n : Nat) : List (List Int) := (sel p n).map fun k => bitsTo N k N
theorem selV_len (vs : List Value) (p : Nat → Bool) (n : Nat) : (selV vs p n).length = (sel p n).length := by simp [selV]
theorem selR_len (N : Nat) (p : Nat → Bool) (n : Nat) : (selR N p n).length = (sel p n).length := by simp [selR]
theorem selV_yes {vs : List Value} {p : Nat → Bool} {n : Nat} {u : Value} (h : p n = true) (hu : vs[n]? = some u) : selV vs p n ++ [u] = selV vs p (n + 1) := by
  unfold selV; rw [sel_yes h]; simp [List.getD_eq_getElem?_getD, hu]
/-- The chosen rows, in a list of their own. -/
theorem ownII_sel {lo lo1 lo2 hi1 hi2 hi N M : Nat} {w : World} {va v8 : Value} {vs : List Value} {p : Nat → Bool} (o : OwnII 31 3 lo1 hi1 w va (playsTo N M) vs)
    (h8 : OwnV 31 lo2 hi2 w v8 (selV vs p M)) (l1 : lo ≤ lo1) (l2 : lo ≤ lo2) (r1 : hi1 ≤ hi) (r2 : hi2 ≤ hi) : OwnII 31 3 lo hi w v8 (selR N p M) (selV vs p M) := by
  have hvl : vs.length = M := by rw [o.len, playsTo_len]
  have key : ∀ (i : Nat) (v' : Value), (selV vs p M)[i]? = some v' → ∃ k, (sel p M)[i]? = some k ∧ vs[k]? = some v' := by
    intro i v' hv
    unfold selV at hv
    rw [List.getElem?_map] at hv
    obtain ⟨k, hk, rfl⟩ := Option.map_eq_some_iff.1 hv
    have hkM := sel_lt hk
    exact ⟨k, hk, by rw [List.getD_eq_getElem?_getD, List.getElem?_eq_getElem (by omega)]; rfl⟩
  refine ⟨by rw [selV_len, selR_len], h8.weaken l2 r2, ?_, ?_, ?_⟩
  · intro i v' rs hv hr
    obtain ⟨k, hk, hvk⟩ := key i v' hv
    unfold selR at hr
    rw [List.getElem?_map, hk] at hr
    cases hr
    exact (o.row k v' _ hvk (playsTo_get (sel_lt hk))).weaken l1 r1
  · intro i j b c g hb hc hgb hgc
    obtain ⟨k, hk, hvk⟩ := key i b hb
    obtain ⟨k', hk', hvk'⟩ := key j c hc
    obtain rfl := o.apart k k' b c g hvk hvk' hgb hgc
    exact sel_inj hk hk'
  · intro i b g hb hg
    obtain ⟨k, hk, hvk⟩ := key i b hb
    exact (o.row k b _ hvk (playsTo_get (sel_lt hk))).ne h8 (by decide) hg
def bestP (x y : Int) (f : List (List Int)) (k : Nat) : Bool := decide (valP x y f k = localV x y f)
def bestL (x y : Int) (f : List (List Int)) : List (List Int) := selR (x.toNat + y.toNat) (bestP x y f) (2 ^ (x.toNat + y.toNat))
def bestD (x y : Int) (f : List (List Int)) : List (List Int) := if funcB x y f then bestL x y f else []
theorem bestD_size (x y : Int) (f : List (List Int)) : (bestD x y f).length + sumLen (bestD x y f) ≤ 4194304 := by
  unfold bestD
  split
  · rename_i h
    obtain ⟨⟨hx0, hx1⟩, hy0, hy1⟩ := sizesB_iff.1 (funcB_iff.1 h).1
    have hM := (pow_M x.toNat y.toNat (by omega) (by omega)).2
    have h1 := sumLen_bound (bestL x y f) 6 (fun j rs hj => by
      unfold bestL selR at hj
      rw [List.getElem?_map] at hj
      obtain ⟨c, _, rfl⟩ := Option.map_eq_some_iff.1 hj
      rw [bitsTo_len]; omega)
    have h2 : (bestL x y f).length ≤ 64 := by
      unfold bestL; rw [selR_len]; exact Nat.le_trans (sel_len _ _) hM
    omega
  · simp [sumLen]

set_option maxRecDepth 100000 in
set_option maxHeartbeats 3200000 in
theorem implBestPlays_any (x y : Int) (vf : Value) (f : List (List Int)) (w : World) (rf : RdII w vf f) :
    Calls Try.prog 21 #[.int .i64 x, .int .i64 y, vf] w (RowsRes w (bestD x y f) (funcB x y f)) := by
  obtain ⟨af, cf, rfl⟩ : ∃ a c, vf = .slice a f.length c := by obtain ⟨a, _, _, c, hv, _⟩ := rf; exact ⟨a, c, hv⟩
  go_enter Try.func21, Try.ntmps21
  go_wp2_with fail
  refine (isFunctional_any x y _ f _ rf).mono ?_
  rintro e w0 ⟨rfl, rfl⟩
  rcases Bool.eq_false_or_eq_true (funcB x y f) with hf | hf
  · skip
    have HF := Lib.hid hf
    have HD := Lib.hid (show bestD x y f = bestL x y f by unfold bestD; rw [hf]; rfl)
    have hs := (funcB_iff.1 hf).1
    obtain ⟨⟨hx0, hx1⟩, hy0, hy1⟩ := sizesB_iff.1 hs
    obtain ⟨X, rfl⟩ := Int.eq_ofNat_of_zero_le (show 0 ≤ x by omega)
    obtain ⟨Y, rfl⟩ := Int.eq_ofNat_of_zero_le (show 0 ≤ y by omega)
    obtain ⟨hM1, hM64⟩ := pow_M X Y (by omega) (by omega)
    rw [hf]
    have hE := OwnII.empty 31 3 w
    go_wp2_with fail
    refine (localValue_any X Y _ f HF.out _ (rf.kept (Nat.le_refl _) (by repeat' (first | with_reducible exact Below.refl _ _ | with_reducible assumption | with_reducible apply Below.alloc | with_reducible apply Below.setCell | with_reducible apply Below.drew | exact Nat.le_refl _ | omega | (simp only [World.size_alloc, World.size_setCell]; omega))))).mono ?_
    rintro e w1 ⟨rfl, b1⟩
    have B1 : Below w.heap.size w w1 := Below.trans (by repeat' (first | with_reducible exact Below.refl _ _ | with_reducible assumption | with_reducible apply Below.alloc | with_reducible apply Below.setCell | with_reducible apply Below.drew | exact Nat.le_refl _ | omega | (simp only [World.size_alloc, World.size_setCell]; omega))) (b1.mono (by first | exact Nat.le_refl _ | omega | (simp only [World.size_alloc, World.size_setCell]; omega)))
    have hz1 := b1.size
    replace hE := (hE.kept b1 (by simp only [World.size_alloc]; omega)).weaken (hi' := w1.heap.size) (Nat.le_refl _) (by simp only [World.size_alloc] at hz1; omega)
    clear b1
    go_wp2_with fail
    refine (plays_any X Y ⟨by omega, by omega⟩ ⟨by omega, by omega⟩ _).mono ?_
    rintro e wb ⟨a, c, vs, rfl, oP, bb⟩
    have Bb := B1.trans (bb.mono B1.size)
    have hl1 : w.heap.size ≤ w1.heap.size := B1.size
    replace hE := (hE.kept bb (Nat.le_refl _)).weaken (hi' := wb.heap.size) (Nat.le_refl _) bb.size
    obtain ⟨g, rfl, hg, hgl, hP⟩ := plays_path oP hM1
    have hLB : bestL X Y f = selR (X + Y) (bestP X Y f) (2 ^ (X + Y)) := rfl
    obtain ⟨p, hp⟩ : ∃ p, p = bestP X Y f := ⟨_, rfl⟩
    obtain ⟨L, hL⟩ : ∃ L, L = localV X Y f := ⟨_, rfl⟩
    rw [← hp] at hLB
    rw [playsTo_len]
    generalize 2 ^ (X + Y) = M at *
    have HP := Lib.hid hP
    have HLB := Lib.hid hLB
    have HPP := Lib.hid hp
    have HLL0 := Lib.hid hL
    rw [← hL]
    clear hP hLB hp hL
    go_wp2
    go_loopw [26, 8] (fun s so wr => ∃ n : Nat, n ≤ M ∧ s = .int .i64 n ∧ ∃ a8 c8 k8, so = .slice a8 k8 c8 ∧ k8 = (sel p n).length ∧ ((sel p n = [] ∧ a8 = some ⟨w.heap.size, 0, none⟩ ∧ c8 = 0) ∨ OwnV 31 wb.heap.size wr.heap.size wr (.slice a8 k8 c8) (selV vs p n)) ∧ Below wb.heap.size wb wr) (fun s _ _ => M - (intOf s).toNat)
    case atStart => exact ⟨0, by omega, rfl, _, _, _, rfl, rfl, Or.inl ⟨rfl, rfl, rfl⟩, Below.refl _ _⟩
    case round =>
      obtain ⟨n, hn, rfl, a8, c8, k8, rfl, hk8, hO8, hB⟩ := hrel
      have HK8 := Lib.hid hk8
      have HO8 := Lib.hid hO8
      clear hk8 hO8
      by_cases hlt : n < M
      · obtain ⟨a2, c2, hvn, hc, hr⟩ := HP.out n hlt
        have hc' := keepCell hB hc
        have hbits := bitsTo_bits (X + Y) n ((X : Int) + (Y : Int)) (by omega)
        have hcon := playWorth_any X Y _ f _ _ HF.out hbits wr (rf.kept (Nat.le_refl _) (Bb.trans (hB.mono Bb.size))) (hr.kept (Nat.le_refl _) hB)
        have HC := Lib.hid hcon
        clear hcon
        obtain ⟨z, hz⟩ : ∃ z, z = valP X Y f n := ⟨_, rfl⟩
        have hz2 : playW X Y f (bitsTo (X + Y) n (X + Y)) = z := by rw [hz]; rfl
        have HZ := Lib.hid hz
        have HZ2 := Lib.hid hz2
        have HVN := Lib.hid hvn
        have HPE := Lib.hid (show p n = decide (z = L) by rw [HPP.out, hz, HLL0.out]; rfl)
        clear hz hz2 hvn hc hr
        have HC2 := HC
        rw [HZ2.out] at HC2
        go_wp2_with fail
        refine HC2.out.mono ?_
        rintro e wd ⟨rfl, hd⟩
        have hbd : Below wr.heap.size wr wd := hd.below _
        have hBn := hB.trans (hd.below _)
        by_cases he : z = L
        · have hez : (z == L) = true := by simp [he]
          have HS := Lib.hid (show p n = true by rw [HPE.out, decide_eq_true he])
          clear he
          have hl8 : k8 ≤ 64 := by rw [HK8.out]; exact Nat.le_trans (sel_len _ _) (by omega)
          rcases HO8.out with ⟨h0, rfl, rfl⟩ | hO
          · obtain rfl : k8 = 0 := by rw [HK8.out, h0]; rfl
            have HE0 := Lib.hid h0
            clear h0
            skip
            go_wp2_with (at_builtin; refine append1_first rfl _ _ 22 31 rfl Try.underlying22 Try.infoInts rfl rfl rfl (by omega) ?_)
            intro a9 c9 w9 hO9 hb9
            have hB9 := hBn.trans (hb9.mono hBn.size)
            have hsv : [Value.slice a2 (X + Y) c2] = selV vs p (n + 1) := by rw [← selV_yes HS.out HVN.out]; unfold selV; rw [HE0.out]; rfl
            rw [hsv] at hO9
            have hx1 : 0 + 1 = (sel p (n + 1)).length := by rw [sel_yes HS.out, HE0.out]; rfl
            have HX1 := Lib.hid hx1
            clear hsv hx1
            go_wp2
            go_roundw
            case rel => exact ⟨n + 1, by omega, by go_num, a9, c9, _, rfl, HX1.out, Or.inr (hO9.weaken hBn.size (Nat.le_refl _)), hB9⟩
            case measure => simp [intOf]; omega
          · have hO2 := hO.kept hbd (Nat.le_refl _)
            have hll : (selV vs p n).length = k8 := by rw [selV_len]; exact HK8.out.symm
            have HLL := Lib.hid hll
            have hz9 := hBn.size
            clear hll hO
            skip
            go_wp2_with (at_builtin; refine append1_own rfl _ _ 22 31 rfl Try.underlying22 Try.infoInts rfl hO2 rfl rfl rfl (by rw [HLL.out]; omega) (by omega) (by omega) ?_)
            intro a9 c9 w9 hO9 hg9
            have hB9 := hBn.grown hg9 (by omega) (fun g hg => (hO2.lt g hg).1)
            rw [selV_yes HS.out HVN.out, HLL.out] at hO9
            have hx1 : (selV vs p n).length + 1 = (sel p (n + 1)).length := by rw [sel_yes HS.out, selV_len]; simp
            have HX1 := Lib.hid hx1
            clear hx1 hO2
            go_wp2
            go_roundw
            case rel => exact ⟨n + 1, by omega, by go_num, a9, c9, _, rfl, HX1.out, Or.inr (by rw [HLL.out]; exact hO9), hB9⟩
            case measure => simp [intOf]; omega
        · have hez : (z == L) = false := by simp [he]
          have HS := Lib.hid (show p n = false by rw [HPE.out, decide_eq_false he])
          clear he
          go_wp2
          go_roundw
          case rel => exact ⟨n + 1, by omega, by go_num, a8, c8, _, rfl, by rw [sel_no HS.out]; exact HK8.out, by
            rcases HO8.out with ⟨h0, h1, h2⟩ | hO
            · exact Or.inl ⟨by rw [sel_no HS.out]; exact h0, h1, h2⟩
            · refine Or.inr ?_
              have := (hO.kept hbd (Nat.le_refl _)).weaken (Nat.le_refl _) hbd.size
              unfold selV at this ⊢
              rw [sel_no HS.out]
              exact this, hBn⟩
          case measure => simp [intOf]; omega
      · obtain rfl : n = M := by omega
        go_wp2
        go_ret2
        rw [HD.out, HF.out]
        have hlen : (bestL X Y f).length = k8 := by rw [HLB.out, selR_len]; exact HK8.out.symm
        rcases HO8.out with ⟨h0, rfl, rfl⟩ | hO
        · have hnil : bestL X Y f = [] := by rw [HLB.out]; unfold selR; rw [h0]; rfl
          have hk0 : k8 = 0 := by rw [HK8.out, h0]; rfl
          subst hk0
          rw [hnil]
          exact ⟨_, _, _, rfl, (hE.kept hB (Nat.le_refl _)).weaken (Nat.le_refl _) hB.size, Bb.trans (hB.mono Bb.size)⟩
        · refine ⟨a8, c8, selV vs p n, by rw [hlen]; rfl, ?_, Bb.trans (hB.mono Bb.size)⟩
          rw [hlen, HLB.out]
          exact ownII_sel (oP.kept hB (Nat.le_refl _)) hO hl1 Bb.size hB.size (Nat.le_refl _)
  · have HF := Lib.hid hf
    have HD := Lib.hid (show bestD x y f = [] by unfold bestD; rw [hf]; rfl)
    rw [hf]
    clear hf
    go_wp2
    go_ret2
    rw [HD.out, HF.out]
    exact RowsRes.zero (Below.refl _ _)

set_option maxRecDepth 100000 in
set_option maxHeartbeats 3200000 in
theorem specBestPlays_any (x y : Int) (vf : Value) (f : List (List Int)) (w : World) (rf : RdII w vf f) :
    Calls Try.prog 20 #[.int .i64 x, .int .i64 y, vf] w (RowsRes w (bestD x y f) (funcB x y f)) := by
  obtain ⟨af, cf, rfl⟩ : ∃ a c, vf = .slice a f.length c := by obtain ⟨a, _, _, c, hv, _⟩ := rf; exact ⟨a, c, hv⟩
  go_enter Try.func20, Try.ntmps20
  go_wp2_with fail
  refine (l3Asks_any x y _ f _ (rf.kept (Nat.le_refl _) (by repeat' (first | with_reducible exact Below.refl _ _ | with_reducible assumption | with_reducible apply Below.alloc | with_reducible apply Below.setCell | with_reducible apply Below.drew | exact Nat.le_refl _ | omega | (simp only [World.size_alloc, World.size_setCell]; omega))))).mono ?_
  rintro e w0 ⟨rfl, rfl⟩
  rcases Bool.eq_false_or_eq_true (funcB x y f) with hf | hf
  · skip
    have HF := Lib.hid hf
    have HD := Lib.hid (show bestD x y f = bestL x y f by unfold bestD; rw [hf]; rfl)
    have hs := (funcB_iff.1 hf).1
    obtain ⟨⟨hx0, hx1⟩, hy0, hy1⟩ := sizesB_iff.1 hs
    obtain ⟨X, rfl⟩ := Int.eq_ofNat_of_zero_le (show 0 ≤ x by omega)
    obtain ⟨Y, rfl⟩ := Int.eq_ofNat_of_zero_le (show 0 ≤ y by omega)
    obtain ⟨hM1, hM64⟩ := pow_M X Y (by omega) (by omega)
    rw [hf]
    have hE := OwnII.empty 31 3 w
    go_wp2_with fail
    refine (l2Plays_any X Y ⟨by omega, by omega⟩ ⟨by omega, by omega⟩ _).mono ?_
    rintro e w1 ⟨a, c, vs, rfl, oP, b1⟩
    have B1 : Below w.heap.size w w1 := Below.trans (by repeat' (first | with_reducible exact Below.refl _ _ | with_reducible assumption | with_reducible apply Below.alloc | with_reducible apply Below.setCell | with_reducible apply Below.drew | exact Nat.le_refl _ | omega | (simp only [World.size_alloc, World.size_setCell]; omega))) (b1.mono (by first | exact Nat.le_refl _ | omega | (simp only [World.size_alloc, World.size_setCell]; omega)))
    have hz1 := b1.size
    replace hE := (hE.kept b1 (by simp only [World.size_alloc]; omega)).weaken (hi' := w1.heap.size) (Nat.le_refl _) (by simp only [World.size_alloc] at hz1; omega)
    replace oP := oP.weaken (lo' := w.heap.size) (by simp only [World.size_alloc]; omega) (Nat.le_refl _)
    clear b1
    go_wp2_with fail
    refine (l3Value_any X Y _ f HF.out _ (rf.kept (Nat.le_refl _) B1)).mono ?_
    rintro e wb ⟨rfl, bb⟩
    have Bb := B1.trans (bb.mono B1.size)
    have hl1 : w.heap.size ≤ w.heap.size := Nat.le_refl _
    replace hE := (hE.kept bb (Nat.le_refl _)).weaken (hi' := wb.heap.size) (Nat.le_refl _) bb.size
    replace oP := (oP.kept bb (Nat.le_refl _)).weaken (hi' := wb.heap.size) (Nat.le_refl _) bb.size
    obtain ⟨g, rfl, hg, hgl, hP⟩ := plays_path oP hM1
    have hLB : bestL X Y f = selR (X + Y) (bestP X Y f) (2 ^ (X + Y)) := rfl
    obtain ⟨p, hp⟩ : ∃ p, p = bestP X Y f := ⟨_, rfl⟩
    obtain ⟨L, hL⟩ : ∃ L, L = localV X Y f := ⟨_, rfl⟩
    rw [← hp] at hLB
    rw [playsTo_len]
    generalize 2 ^ (X + Y) = M at *
    have HP := Lib.hid hP
    have HLB := Lib.hid hLB
    have HPP := Lib.hid hp
    have HLL0 := Lib.hid hL
    rw [← hL]
    clear hP hLB hp hL
    go_wp2
    go_loopw [11, 8] (fun s so wr => ∃ n : Nat, n ≤ M ∧ s = .int .i64 n ∧ ∃ a8 c8 k8, so = .slice a8 k8 c8 ∧ k8 = (sel p n).length ∧ ((sel p n = [] ∧ a8 = some ⟨w.heap.size, 0, none⟩ ∧ c8 = 0) ∨ OwnV 31 wb.heap.size wr.heap.size wr (.slice a8 k8 c8) (selV vs p n)) ∧ Below wb.heap.size wb wr) (fun s _ _ => M - (intOf s).toNat)
    case atStart => exact ⟨0, by omega, rfl, _, _, _, rfl, rfl, Or.inl ⟨rfl, rfl, rfl⟩, Below.refl _ _⟩
    case round =>
      obtain ⟨n, hn, rfl, a8, c8, k8, rfl, hk8, hO8, hB⟩ := hrel
      have HK8 := Lib.hid hk8
      have HO8 := Lib.hid hO8
      clear hk8 hO8
      by_cases hlt : n < M
      · obtain ⟨a2, c2, hvn, hc, hr⟩ := HP.out n hlt
        have hc' := keepCell hB hc
        have hbits := bitsTo_bits (X + Y) n ((X : Int) + (Y : Int)) (by omega)
        have hbox := l2PlayBox_any X Y _ _ 1 hs hbits wr (hr.kept (Nat.le_refl _) hB)
        have HC := Lib.hid hbox
        have HBI := Lib.hid hbits
        clear hbox
        obtain ⟨z, hz⟩ : ∃ z, z = valP X Y f n := ⟨_, rfl⟩
        have hz2 : playW X Y f (bitsTo (X + Y) n (X + Y)) = z := by rw [hz]; rfl
        have HZ := Lib.hid hz
        have HZ2 := Lib.hid hz2
        have HVN := Lib.hid hvn
        have HPE := Lib.hid (show p n = decide (z = L) by rw [HPP.out, hz, HLL0.out]; rfl)
        clear hz hz2 hvn hc hr
        go_wp2_with fail
        refine HC.out.mono ?_
        rintro e wc ⟨ac, cc, vc, rfl, oc, bc⟩
        have hB2 := hB.trans (bc.mono hB.size)
        have hw := l2Worth_any _ f (.slice ac ((X : Int).toNat * (Y : Int).toNat) cc) (boxOf X Y 1 (playN X (bitsTo (X + Y) n (X + Y)) 1)) HF.out (playRows_box hs HBI.out) wc (rf.kept (Nat.le_refl _) (Bb.trans (hB2.mono Bb.size))) oc.rdII
        rw [playW_box, HZ2.out] at hw
        have HW := Lib.hid hw
        clear hw oc
        go_wp2_with fail
        refine HW.out.mono ?_
        rintro e wd ⟨rfl, bd⟩
        have hb3 : Below wr.heap.size wr wd := bc.trans (bd.mono bc.size)
        have hBn := hB2.trans (bd.mono hB2.size)
        have hc9 := keepCell hb3 hc'
        clear bc bd
        by_cases he : z = L
        · have hez : (z == L) = true := by simp [he]
          have HS := Lib.hid (show p n = true by rw [HPE.out, decide_eq_true he])
          clear he
          have hl8 : k8 ≤ 64 := by rw [HK8.out]; exact Nat.le_trans (sel_len _ _) (by omega)
          rcases HO8.out with ⟨h0, rfl, rfl⟩ | hO
          · obtain rfl : k8 = 0 := by rw [HK8.out, h0]; rfl
            have HE0 := Lib.hid h0
            clear h0
            skip
            go_wp2_with (at_builtin; refine append1_first rfl _ _ 22 31 rfl Try.underlying22 Try.infoInts rfl rfl rfl (by omega) ?_)
            intro a9 c9 w9 hO9 hb9
            have hB9 := hBn.trans (hb9.mono hBn.size)
            have hsv : [Value.slice a2 (X + Y) c2] = selV vs p (n + 1) := by rw [← selV_yes HS.out HVN.out]; unfold selV; rw [HE0.out]; rfl
            rw [hsv] at hO9
            have hx1 : 0 + 1 = (sel p (n + 1)).length := by rw [sel_yes HS.out, HE0.out]; rfl
            have HX1 := Lib.hid hx1
            clear hsv hx1
            go_wp2
            go_roundw
            case rel => exact ⟨n + 1, by omega, by go_num, a9, c9, _, rfl, HX1.out, Or.inr (hO9.weaken hBn.size (Nat.le_refl _)), hB9⟩
            case measure => simp [intOf]; omega
          · have hO2 := hO.kept hb3 (Nat.le_refl _)
            have hll : (selV vs p n).length = k8 := by rw [selV_len]; exact HK8.out.symm
            have HLL := Lib.hid hll
            have hz9 := hBn.size
            clear hll hO
            skip
            go_wp2_with (at_builtin; refine append1_own rfl _ _ 22 31 rfl Try.underlying22 Try.infoInts rfl hO2 rfl rfl rfl (by rw [HLL.out]; omega) (by omega) (by omega) ?_)
            intro a9 c9 w9 hO9 hg9
            have hB9 := hBn.grown hg9 (by omega) (fun g hg => (hO2.lt g hg).1)
            rw [selV_yes HS.out HVN.out, HLL.out] at hO9
            have hx1 : (selV vs p n).length + 1 = (sel p (n + 1)).length := by rw [sel_yes HS.out, selV_len]; simp
            have HX1 := Lib.hid hx1
            clear hx1 hO2
            go_wp2
            go_roundw
            case rel => exact ⟨n + 1, by omega, by go_num, a9, c9, _, rfl, HX1.out, Or.inr (by rw [HLL.out]; exact hO9), hB9⟩
            case measure => simp [intOf]; omega
        · have hez : (z == L) = false := by simp [he]
          have HS := Lib.hid (show p n = false by rw [HPE.out, decide_eq_false he])
          clear he
          go_wp2
          go_roundw
          case rel => exact ⟨n + 1, by omega, by go_num, a8, c8, _, rfl, by rw [sel_no HS.out]; exact HK8.out, by
            rcases HO8.out with ⟨h0, h1, h2⟩ | hO
            · exact Or.inl ⟨by rw [sel_no HS.out]; exact h0, h1, h2⟩
            · refine Or.inr ?_
              have := (hO.kept hb3 (Nat.le_refl _)).weaken (Nat.le_refl _) hb3.size
              unfold selV at this ⊢
              rw [sel_no HS.out]
              exact this, hBn⟩
          case measure => simp [intOf]; omega
      · obtain rfl : n = M := by omega
        go_wp2
        go_ret2
        rw [HD.out, HF.out]
        have hlen : (bestL X Y f).length = k8 := by rw [HLB.out, selR_len]; exact HK8.out.symm
        rcases HO8.out with ⟨h0, rfl, rfl⟩ | hO
        · have hnil : bestL X Y f = [] := by rw [HLB.out]; unfold selR; rw [h0]; rfl
          have hk0 : k8 = 0 := by rw [HK8.out, h0]; rfl
          subst hk0
          rw [hnil]
          exact ⟨_, _, _, rfl, (hE.kept hB (Nat.le_refl _)).weaken (Nat.le_refl _) hB.size, Bb.trans (hB.mono Bb.size)⟩
        · refine ⟨a8, c8, selV vs p n, by rw [hlen]; rfl, ?_, Bb.trans (hB.mono Bb.size)⟩
          rw [hlen, HLB.out]
          exact ownII_sel (oP.kept hB (Nat.le_refl _)) hO hl1 Bb.size hB.size (Nat.le_refl _)
  · have HF := Lib.hid hf
    have HD := Lib.hid (show bestD x y f = [] by unfold bestD; rw [hf]; rfl)
    rw [hf]
    clear hf
    go_wp2
    go_ret2
    rw [HD.out, HF.out]
    exact ⟨_, _, [], rfl, (OwnII.empty 31 3 w).weaken (Nat.le_refl _) (by rw [World.size_alloc]; omega), (by repeat' (first | with_reducible exact Below.refl _ _ | with_reducible assumption | with_reducible apply Below.alloc | with_reducible apply Below.setCell | with_reducible apply Below.drew | exact Nat.le_refl _ | omega | (simp only [World.size_alloc, World.size_setCell]; omega)))⟩

end Go.Proofs.Ytbleeakcmmpcgaa
