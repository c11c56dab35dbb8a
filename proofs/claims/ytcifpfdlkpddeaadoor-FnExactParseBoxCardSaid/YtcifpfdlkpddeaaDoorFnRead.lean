/- Reading a decimal text: what the reference's l1Read and the program's ParseInt hand back. -/
import Derived.Test.YtcifpfdlkpddeaaDoorFnSeal
import Derived.Lib.AtoiErr
import Derived.Lib.AtoiErrMem
import Derived.Lib.AtoiTie
set_option linter.unusedSimpArgs false
set_option linter.unusedVariables false
namespace Go.Proofs.YtcifpfdlkpddeaaDoor
open Go.RowKit

theorem readI_noTail {l : List UInt8} (h : ∀ m, Lib.decFrom 0 (tailOf l) ≠ some m) : readI l = none := by
  cases hr : readI l with
  | none => rfl
  | some n => exact absurd (readI_shape hr).2.2.2.1 (h _)
theorem readI_tail {l : List UInt8} {m : Nat} (h : Lib.decFrom 0 (tailOf l) = some m) : readI l = keepI l (valI l m) := by
  unfold readI; rw [h]; rfl

set_option maxHeartbeats 2000000 in
theorem l1Read_neg (s : ByteArray) (w : World) (hs : s.size ≤ 1048576) (hneg : (1 < s.size ∧ s.data.toList[0]? = some 45)) :
    Calls Tryd.prog 10 #[.string s] w fun e w' => e = .returned (.tuple #[.int .i64 (readV s), .bool (readOk s)]) ∧ Drw w w' := by
  have hT := tailOf_neg (l := s.data.toList) (by simpa using hneg)
  obtain ⟨hn1, hn2⟩ := hneg
  obtain ⟨t, ht⟩ : ∃ t : ByteArray, s.extract 1 s.size = t := ⟨_, rfl⟩
  have htd : t.data.toList = tailOf s.data.toList := by rw [hT, ← ht]; simp; exact List.take_of_length_le (by simp)
  have hts : (t.size : Int) = s.size - 1 := by rw [← ht]; simp; omega
  have hb0 : s[0] = 45 := by have h0 := byte_get (s := s) (k := 0) (by omega); rw [h0] at hn2; exact Option.some.inj hn2
  have hb1 : ((s[0]).toNat : Int) = 45 := by rw [hb0]; rfl
  have hV : ∀ m : Nat, valI s.data.toList m = -(m : Int) := fun m => by unfold valI; rw [if_pos (by rw [hT]; simp; omega)]
  have H1 : ¬ (1 ≤ t.size ∧ t.size ≤ 6) → readI s.data.toList = none := fun h => by
    cases hr : readI s.data.toList with
    | none => rfl
    | some n =>
      have := readI_shape hr
      rw [← htd] at this
      exact absurd ⟨by simpa using this.1, by simpa using this.2.1⟩ h
  have H2 : (∀ m, Lib.decFrom 0 t.data.toList ≠ some m) → readI s.data.toList = none := fun h => readI_noTail (by rw [← htd]; exact h)
  have H3 : ∀ m, Lib.decFrom 0 t.data.toList = some m → readI s.data.toList = keepI s.data.toList (-(m : Int)) := fun m h => by rw [readI_tail (by rw [← htd]; exact h), hV]
  clear hT hV htd
  clear hb0 hn2
  have hcall := fun W : World => l1In_any (t.size : Int) 1 6 W
  have hsz : (s.extract 1 s.size).size = t.size := by rw [ht]
  by_cases hlen : 1 ≤ t.size ∧ t.size ≤ 6
  · obtain ⟨hl1, hl6⟩ := hlen
    have hin : inB (t.size : Int) 1 6 = true := inB_iff.2 (by omega)
    have hin2 : inB ((s.size : Int) - 1) 1 6 = true := inB_iff.2 (by omega)
    clear H1
    go_enter Tryd.func10, Tryd.ntmps10
    go_wp2_with (go_at_call 24; refine (l1In_any _ _ _ _).mono ?_; rintro e w' ⟨rfl, rfl⟩)
    go_loop [5, 6] (fun n i => ∃ k m : Nat, k ≤ t.size ∧ i = .int .i64 k ∧ n = .int .i64 m ∧ Lib.decFrom 0 (t.data.toList.take k) = some m ∧ m < 10 ^ k) (fun _ i => t.size - (intOf i).toNat)
    case atStart => exact ⟨0, 0, by omega, rfl, rfl, rfl, by decide⟩
    case round =>
      obtain ⟨k, m, hk, rfl, rfl, hdec, hlm⟩ := hrel
      have hm6 : m < 1000000 := Nat.lt_of_lt_of_le hlm (Nat.pow_le_pow_right (by decide) (show k ≤ 6 by omega))
      by_cases hlt : k < t.size
      · have hg := byte_get hlt
        have hby := byte_bound t[k]
        cases hd : Lib.digitVal t[k] with
        | none =>
          have hN := H2 (fun m' h' => by obtain ⟨d, hd'⟩ := Lib.digit_of_decFrom _ _ _ h' k _ hg; rw [hd] at hd'; cases hd')
          have hout := Lib.digitVal_none hd
          have HO := Lib.hid hout
          have HG := Lib.hid hg
          have HD := Lib.hid hdec
          have HN := Lib.hid hN
          clear hout hg hdec hd hN hlm H2 H3
          by_cases hc1 : (t[k].toNat : Int) < 48
          · go_wp2
            go_ret2
            exact ⟨by rw [(read_none HN.out).1, (read_none HN.out).2]; rfl, Drw.refl _⟩
          · have hc2 : (57 : Int) < (t[k].toNat : Int) := by have := HO.out; omega
            clear hc1
            have hc1 : ¬ (t[k].toNat : Int) < 48 := by omega
            go_wp2
            go_ret2
            exact ⟨by rw [(read_none HN.out).1, (read_none HN.out).2]; rfl, Drw.refl _⟩
        | some d =>
          obtain ⟨q1, q2, q3⟩ := Lib.digitVal_eq hd
          have hnext := Lib.decFrom_take t.data.toList k 0 m _ d hdec hg hd
          have hpow : m * 10 + d < 10 ^ (k + 1) := by rw [Nat.pow_succ]; omega
          have q4 : ¬ (t[k].toNat : Int) < 48 := by omega
          have q5 : ¬ (57 : Int) < (t[k].toNat : Int) := by omega
          have q6 : (t[k].toNat : Int) - 48 = (d : Int) := by omega
          have q7 : IntKind.u8.wrap (d : Int) = (d : Int) := IntWalk.u8_in _ (by omega)
          have q8 : IntKind.i64.wrap (d : Int) = (d : Int) := wrapIn _ (by omega) (by omega)
          have q9 : d ≤ 9 := by omega
          have HX := Lib.hid hnext
          have HP := Lib.hid hpow
          have HD := Lib.hid hdec
          clear hnext hg hdec hd q1 q2 q3 hpow hlm H2 H3
          go_wp2
          go_round
          case rel => exact ⟨k + 1, m * 10 + d, by omega, by go_num, by go_num, HX.out, HP.out⟩
          case measure => simp [intOf]; omega
      · have hkt : k = t.size := by omega
        rw [hkt, List.take_of_length_le (by simp)] at hdec
        have hv := H3 m hdec
        clear hdec hlm H2 H3
        have C := fun W => l1Num_any (-(m : Int)) W (by omega) (by omega)
        have hLs := Lib.itoa_length_le (-(m : Int)) (by omega) (by omega)
        by_cases hc : Lib.itoa (-(m : Int)) = s.data.toList
        · have hr : readI s.data.toList = some (-(m : Int)) := by rw [hv]; unfold keepI; rw [if_pos ⟨inB_iff.2 (by omega), hc⟩]
          have es : (ByteArray.mk (Lib.itoa (-(m : Int))).toArray) = s := by rw [hc]
          rw [es] at C
          have HR := Lib.hid hr
          clear hv hc es hr hLs
          go_wp2_with (go_at_call 25; refine (C _).mono ?_; rintro e w' ⟨rfl, hd⟩)
          go_ret2
          exact ⟨by rw [(read_some HR.out).1, (read_some HR.out).2]; rfl, by assumption⟩
        · have hr : readI s.data.toList = none := by rw [hv]; unfold keepI; rw [if_neg (fun h => hc h.2)]
          have es : ((Lib.itoa (-(m : Int))) == s.toList) = false := by rw [beq_eq_false_iff_ne, ByteArray.toList_eq]; exact hc
          have HR := Lib.hid hr
          clear hv hc hr hLs
          generalize Lib.itoa (-(m : Int)) = D at *
          go_wp2_with (go_at_call 25; refine (C _).mono ?_; rintro e w' ⟨rfl, hd⟩)
          go_ret2
          exact ⟨by rw [(read_none HR.out).1, (read_none HR.out).2]; rfl, by assumption⟩
  · have hr := H1 hlen
    have hin : inB (t.size : Int) 1 6 = false := inB_not.2 (by omega)
    have hin2 : inB ((s.size : Int) - 1) 1 6 = false := inB_not.2 (by omega)
    clear H1 H2 H3 hlen
    rw [(read_none hr).1, (read_none hr).2]
    clear hr
    go_enter Tryd.func10, Tryd.ntmps10
    go_wp2_with (go_at_call 24; refine (l1In_any _ _ _ _).mono ?_; rintro e w' ⟨rfl, rfl⟩)
    go_ret2
    exact ⟨rfl, Drw.refl _⟩

set_option maxHeartbeats 2000000 in
theorem l1Read_pos (s : ByteArray) (w : World) (hs : s.size ≤ 1048576) (hneg : ¬ (1 < s.size ∧ s.data.toList[0]? = some 45)) :
    Calls Tryd.prog 10 #[.string s] w fun e w' => e = .returned (.tuple #[.int .i64 (readV s), .bool (readOk s)]) ∧ Drw w w' := by
  have hT := tailOf_plain (l := s.data.toList) (by simpa using hneg)
  have htd : s.data.toList = tailOf s.data.toList := hT.symm
  have hV : ∀ m : Nat, valI s.data.toList m = (m : Int) := fun m => by unfold valI; rw [if_neg (by rw [hT]; omega)]
  have H1 : ¬ (1 ≤ s.size ∧ s.size ≤ 6) → readI s.data.toList = none := fun h => by
    cases hr : readI s.data.toList with
    | none => rfl
    | some n =>
      have := readI_shape hr
      rw [← htd] at this
      exact absurd ⟨by simpa using this.1, by simpa using this.2.1⟩ h
  have H2 : (∀ m, Lib.decFrom 0 s.data.toList ≠ some m) → readI s.data.toList = none := fun h => readI_noTail (by rw [← htd]; exact h)
  have H3 : ∀ m, Lib.decFrom 0 s.data.toList = some m → readI s.data.toList = keepI s.data.toList ((m : Int)) := fun m h => by rw [readI_tail (by rw [← htd]; exact h), hV]
  clear hT hV htd
  by_cases hw1 : 1 < s.size
  · have hw2 : ¬ s[0] = 45 := fun e => hneg ⟨hw1, by rw [byte_get (by omega), e]⟩
    have hw3 : ((s[0]).toNat : Int) ≠ 45 := fun e => hw2 (UInt8.toNat_inj.1 (by simpa using Int.ofNat.inj (by simpa using e)))
    have hw4 : (((s[0]).toNat : Int) == 45) = false := by rw [beq_eq_false_iff_ne]; exact hw3
    clear hneg hw2 hw3
    by_cases hlen : 1 ≤ s.size ∧ s.size ≤ 6
    · obtain ⟨hl1, hl6⟩ := hlen
      have hin : inB (s.size : Int) 1 6 = true := inB_iff.2 (by omega)
      clear H1
      go_enter Tryd.func10, Tryd.ntmps10
      go_wp2_with (go_at_call 24; refine (l1In_any _ _ _ _).mono ?_; rintro e w' ⟨rfl, rfl⟩)
      go_loop [5, 6] (fun n i => ∃ k m : Nat, k ≤ s.size ∧ i = .int .i64 k ∧ n = .int .i64 m ∧ Lib.decFrom 0 (s.data.toList.take k) = some m ∧ m < 10 ^ k) (fun _ i => s.size - (intOf i).toNat)
      case atStart => exact ⟨0, 0, by omega, rfl, rfl, rfl, by decide⟩
      case round =>
        obtain ⟨k, m, hk, rfl, rfl, hdec, hlm⟩ := hrel
        have hm6 : m < 1000000 := Nat.lt_of_lt_of_le hlm (Nat.pow_le_pow_right (by decide) (show k ≤ 6 by omega))
        by_cases hlt : k < s.size
        · have hg := byte_get hlt
          have hby := byte_bound s[k]
          cases hd : Lib.digitVal s[k] with
          | none =>
            have hN := H2 (fun m' h' => by obtain ⟨d, hd'⟩ := Lib.digit_of_decFrom _ _ _ h' k _ hg; rw [hd] at hd'; cases hd')
            have hout := Lib.digitVal_none hd
            have HO := Lib.hid hout
            have HG := Lib.hid hg
            have HD := Lib.hid hdec
            have HN := Lib.hid hN
            clear hout hg hdec hd hN hlm H2 H3
            by_cases hc1 : (s[k].toNat : Int) < 48
            · go_wp2
              go_ret2
              exact ⟨by rw [(read_none HN.out).1, (read_none HN.out).2]; rfl, Drw.refl _⟩
            · have hc2 : (57 : Int) < (s[k].toNat : Int) := by have := HO.out; omega
              clear hc1
              have hc1 : ¬ (s[k].toNat : Int) < 48 := by omega
              go_wp2
              go_ret2
              exact ⟨by rw [(read_none HN.out).1, (read_none HN.out).2]; rfl, Drw.refl _⟩
          | some d =>
            obtain ⟨q1, q2, q3⟩ := Lib.digitVal_eq hd
            have hnext := Lib.decFrom_take s.data.toList k 0 m _ d hdec hg hd
            have hpow : m * 10 + d < 10 ^ (k + 1) := by rw [Nat.pow_succ]; omega
            have q4 : ¬ (s[k].toNat : Int) < 48 := by omega
            have q5 : ¬ (57 : Int) < (s[k].toNat : Int) := by omega
            have q6 : (s[k].toNat : Int) - 48 = (d : Int) := by omega
            have q7 : IntKind.u8.wrap (d : Int) = (d : Int) := IntWalk.u8_in _ (by omega)
            have q8 : IntKind.i64.wrap (d : Int) = (d : Int) := wrapIn _ (by omega) (by omega)
            have q9 : d ≤ 9 := by omega
            have HX := Lib.hid hnext
            have HP := Lib.hid hpow
            have HD := Lib.hid hdec
            clear hnext hg hdec hd q1 q2 q3 hpow hlm H2 H3
            go_wp2
            go_round
            case rel => exact ⟨k + 1, m * 10 + d, by omega, by go_num, by go_num, HX.out, HP.out⟩
            case measure => simp [intOf]; omega
        · have hkt : k = s.size := by omega
          rw [hkt, List.take_of_length_le (by simp)] at hdec
          have hv := H3 m hdec
          clear hdec hlm H2 H3
          have C := fun W => l1Num_any (m : Int) W (by omega) (by omega)
          have hLs := Lib.itoa_length_le (m : Int) (by omega) (by omega)
          by_cases hc : Lib.itoa (m : Int) = s.data.toList
          · have hr : readI s.data.toList = some (m : Int) := by rw [hv]; unfold keepI; rw [if_pos ⟨inB_iff.2 (by omega), hc⟩]
            have es : (ByteArray.mk (Lib.itoa (m : Int)).toArray) = s := by rw [hc]
            rw [es] at C
            have HR := Lib.hid hr
            clear hv hc es hr hLs
            go_wp2_with (go_at_call 25; refine (C _).mono ?_; rintro e w' ⟨rfl, hd⟩)
            go_ret2
            exact ⟨by rw [(read_some HR.out).1, (read_some HR.out).2]; rfl, by assumption⟩
          · have hr : readI s.data.toList = none := by rw [hv]; unfold keepI; rw [if_neg (fun h => hc h.2)]
            have es : ((Lib.itoa (m : Int)) == s.toList) = false := by rw [beq_eq_false_iff_ne, ByteArray.toList_eq]; exact hc
            have HR := Lib.hid hr
            clear hv hc hr hLs
            generalize Lib.itoa (m : Int) = D at *
            go_wp2_with (go_at_call 25; refine (C _).mono ?_; rintro e w' ⟨rfl, hd⟩)
            go_ret2
            exact ⟨by rw [(read_none HR.out).1, (read_none HR.out).2]; rfl, by assumption⟩
    · have hr := H1 hlen
      have hin : inB (s.size : Int) 1 6 = false := inB_not.2 (by omega)
      clear H1 H2 H3 hlen
      rw [(read_none hr).1, (read_none hr).2]
      clear hr
      go_enter Tryd.func10, Tryd.ntmps10
      go_wp2_with (go_at_call 24; refine (l1In_any _ _ _ _).mono ?_; rintro e w' ⟨rfl, rfl⟩)
      go_ret2
      exact ⟨rfl, Drw.refl _⟩
  · clear hneg
    by_cases hlen : 1 ≤ s.size ∧ s.size ≤ 6
    · obtain ⟨hl1, hl6⟩ := hlen
      have hin : inB (s.size : Int) 1 6 = true := inB_iff.2 (by omega)
      clear H1
      go_enter Tryd.func10, Tryd.ntmps10
      go_wp2_with (go_at_call 24; refine (l1In_any _ _ _ _).mono ?_; rintro e w' ⟨rfl, rfl⟩)
      go_loop [5, 6] (fun n i => ∃ k m : Nat, k ≤ s.size ∧ i = .int .i64 k ∧ n = .int .i64 m ∧ Lib.decFrom 0 (s.data.toList.take k) = some m ∧ m < 10 ^ k) (fun _ i => s.size - (intOf i).toNat)
      case atStart => exact ⟨0, 0, by omega, rfl, rfl, rfl, by decide⟩
      case round =>
        obtain ⟨k, m, hk, rfl, rfl, hdec, hlm⟩ := hrel
        have hm6 : m < 1000000 := Nat.lt_of_lt_of_le hlm (Nat.pow_le_pow_right (by decide) (show k ≤ 6 by omega))
        by_cases hlt : k < s.size
        · have hg := byte_get hlt
          have hby := byte_bound s[k]
          cases hd : Lib.digitVal s[k] with
          | none =>
            have hN := H2 (fun m' h' => by obtain ⟨d, hd'⟩ := Lib.digit_of_decFrom _ _ _ h' k _ hg; rw [hd] at hd'; cases hd')
            have hout := Lib.digitVal_none hd
            have HO := Lib.hid hout
            have HG := Lib.hid hg
            have HD := Lib.hid hdec
            have HN := Lib.hid hN
            clear hout hg hdec hd hN hlm H2 H3
            by_cases hc1 : (s[k].toNat : Int) < 48
            · go_wp2
              go_ret2
              exact ⟨by rw [(read_none HN.out).1, (read_none HN.out).2]; rfl, Drw.refl _⟩
            · have hc2 : (57 : Int) < (s[k].toNat : Int) := by have := HO.out; omega
              clear hc1
              have hc1 : ¬ (s[k].toNat : Int) < 48 := by omega
              go_wp2
              go_ret2
              exact ⟨by rw [(read_none HN.out).1, (read_none HN.out).2]; rfl, Drw.refl _⟩
          | some d =>
            obtain ⟨q1, q2, q3⟩ := Lib.digitVal_eq hd
            have hnext := Lib.decFrom_take s.data.toList k 0 m _ d hdec hg hd
            have hpow : m * 10 + d < 10 ^ (k + 1) := by rw [Nat.pow_succ]; omega
            have q4 : ¬ (s[k].toNat : Int) < 48 := by omega
            have q5 : ¬ (57 : Int) < (s[k].toNat : Int) := by omega
            have q6 : (s[k].toNat : Int) - 48 = (d : Int) := by omega
            have q7 : IntKind.u8.wrap (d : Int) = (d : Int) := IntWalk.u8_in _ (by omega)
            have q8 : IntKind.i64.wrap (d : Int) = (d : Int) := wrapIn _ (by omega) (by omega)
            have q9 : d ≤ 9 := by omega
            have HX := Lib.hid hnext
            have HP := Lib.hid hpow
            have HD := Lib.hid hdec
            clear hnext hg hdec hd q1 q2 q3 hpow hlm H2 H3
            go_wp2
            go_round
            case rel => exact ⟨k + 1, m * 10 + d, by omega, by go_num, by go_num, HX.out, HP.out⟩
            case measure => simp [intOf]; omega
        · have hkt : k = s.size := by omega
          rw [hkt, List.take_of_length_le (by simp)] at hdec
          have hv := H3 m hdec
          clear hdec hlm H2 H3
          have C := fun W => l1Num_any (m : Int) W (by omega) (by omega)
          have hLs := Lib.itoa_length_le (m : Int) (by omega) (by omega)
          by_cases hc : Lib.itoa (m : Int) = s.data.toList
          · have hr : readI s.data.toList = some (m : Int) := by rw [hv]; unfold keepI; rw [if_pos ⟨inB_iff.2 (by omega), hc⟩]
            have es : (ByteArray.mk (Lib.itoa (m : Int)).toArray) = s := by rw [hc]
            rw [es] at C
            have HR := Lib.hid hr
            clear hv hc es hr hLs
            go_wp2_with (go_at_call 25; refine (C _).mono ?_; rintro e w' ⟨rfl, hd⟩)
            go_ret2
            exact ⟨by rw [(read_some HR.out).1, (read_some HR.out).2]; rfl, by assumption⟩
          · have hr : readI s.data.toList = none := by rw [hv]; unfold keepI; rw [if_neg (fun h => hc h.2)]
            have es : ((Lib.itoa (m : Int)) == s.toList) = false := by rw [beq_eq_false_iff_ne, ByteArray.toList_eq]; exact hc
            have HR := Lib.hid hr
            clear hv hc hr hLs
            generalize Lib.itoa (m : Int) = D at *
            go_wp2_with (go_at_call 25; refine (C _).mono ?_; rintro e w' ⟨rfl, hd⟩)
            go_ret2
            exact ⟨by rw [(read_none HR.out).1, (read_none HR.out).2]; rfl, by assumption⟩
    · have hr := H1 hlen
      have hin : inB (s.size : Int) 1 6 = false := inB_not.2 (by omega)
      clear H1 H2 H3 hlen
      rw [(read_none hr).1, (read_none hr).2]
      clear hr
      go_enter Tryd.func10, Tryd.ntmps10
      go_wp2_with (go_at_call 24; refine (l1In_any _ _ _ _).mono ?_; rintro e w' ⟨rfl, rfl⟩)
      go_ret2
      exact ⟨rfl, Drw.refl _⟩

theorem l1Read_any (s : ByteArray) (w : World) (hs : s.size ≤ 1048576) :
    Calls Tryd.prog 10 #[.string s] w fun e w' => e = .returned (.tuple #[.int .i64 (readV s), .bool (readOk s)]) ∧ Drw w w' := by
  by_cases h : 1 < s.size ∧ s.data.toList[0]? = some 45
  · exact l1Read_neg s w hs h
  · exact l1Read_pos s w hs h

/-- The library's variable for texts that are no numbers holds an error. -/
def ErrS (w : World) : Prop := ∃ (tp : TypeId) (p : Value), w.var? Tryd.prog "strconv.ErrSyntax" = some #[.iface tp p]
theorem Tryd.gErrS : Tryd.prog.globalNamed "strconv.ErrSyntax" = some 1 := by kernel_rfl
theorem ErrS.stays {w w' : World} (h : ErrS w) (hb : Below w.heap.size w w') : ErrS w' := by
  obtain ⟨tp, p, h⟩ := h
  exact ⟨tp, p, by
    unfold World.var? at h ⊢
    rw [Tryd.gErrS] at h ⊢
    simp only [Option.bind_some] at h ⊢
    have hlt : 1 < w.heap.size := by
      rcases Nat.lt_or_ge 1 w.heap.size with h' | h'
      · exact h'
      · simp [Array.getElem?_eq_none h'] at h
    rw [hb.block _ hlt]
    exact h⟩

theorem atoi_any (s : ByteArray) (hs : s.size ≤ 7) (w : World) (he : ErrS w) :
    Calls Tryd.prog 29 #[.string s] w fun e w' => ((∃ n, Lib.atoi s.data.toList = some n ∧ e = .returned (.tuple #[.int .i64 n, .nilIface])) ∨ (Lib.atoi s.data.toList = none ∧ ∃ t p, e = .returned (.tuple #[.int .i64 0, .iface t p]))) ∧ Below w.heap.size w w' := by
  cases h : Lib.atoi s.data.toList with
  | some n =>
    refine (Tryd.strconv_Atoi s n (by omega) h w).mono ?_
    rintro e w' ⟨he, t, rfl⟩
    exact ⟨Or.inl ⟨n, rfl, he⟩, Lib.bytesWorld_below _ _ _⟩
  | none =>
    obtain ⟨tp, p, hv⟩ := he
    have hall : Lib.atoiAll s.data.toList = Lib.NumEnd.syntax := by rw [Lib.atoiAll_short _ (by simp; omega), h]; rfl
    refine (Tryd.strconv_Atoi_syntax_var s (by omega) hall tp p w hv).mono ?_
    rintro e w' ⟨N, he, _, _, hb⟩
    exact ⟨Or.inr ⟨rfl, _, _, he⟩, hb⟩

set_option maxHeartbeats 1000000 in
theorem implParseInt_any (s : ByteArray) (w : World) (hs : s.size ≤ 1048576) (ht : Tab w) (he : ErrS w) :
    Calls Tryd.prog 16 #[.string s] w fun e w' => e = .returned (.tuple #[.int .i64 (readV s), .bool (readOk s)]) ∧ Below w.heap.size w w' := by
  by_cases h7 : (7 : Int) < s.size
  · have hr : readI s.data.toList = none := by
      cases hr : readI s.data.toList with
      | none => rfl
      | some n =>
        have := (readI_shape hr).2.2.1
        simp at this
        omega
    rw [(read_none hr).1, (read_none hr).2]
    clear hr
    go_enter Tryd.func16, Tryd.ntmps16
    go_wp2
    go_ret2
    exact ⟨rfl, Below.refl _ _⟩
  · have C := atoi_any s (by omega) w he
    go_enter Tryd.func16, Tryd.ntmps16
    go_wp2_with fail
    refine C.mono ?_
    rintro e w1 ⟨hres, hb1⟩
    have ht1 := ht.stays hb1
    have hsz := hb1.size
    rcases hres with ⟨n, hat, rfl⟩ | ⟨hat, t, p, rfl⟩
    · have hr := readI_atoi hat
      rcases Bool.eq_false_or_eq_true (inB n (-999999) 999999) with h1 | h1
      · obtain ⟨a, b⟩ := inB_iff.1 h1
        have C2 := itoa_any n w1 (by omega) (by omega) ht1
        by_cases hc : Lib.itoa n = s.data.toList
        · have hr2 : readI s.data.toList = some n := by rw [hr, h1, hc]; simp
          have es : (ByteArray.mk (Lib.itoa n).toArray) = s := by rw [hc]
          rw [es] at C2
          have HR := Lib.hid hr2
          clear hr hr2 hc es hat
          go_wp2_with (first | (go_at_call 15; refine (within_any _ _ _ _).mono ?_; rintro e w' ⟨rfl, rfl⟩) | (go_at_call 30; refine C2.mono ?_; rintro e w2 ⟨rfl, hb2⟩))
          go_ret2
          exact ⟨by rw [(read_some HR.out).1, (read_some HR.out).2]; rfl, hb1.trans (hb2.mono hsz)⟩
        · have hr2 : readI s.data.toList = none := by rw [hr, h1]; simp [hc]
          have es : (Lib.itoa n == s.toList) = false := by rw [beq_eq_false_iff_ne, ByteArray.toList_eq]; exact hc
          have HR := Lib.hid hr2
          clear hr hr2 hc hat
          generalize Lib.itoa n = D at *
          go_wp2_with (first | (go_at_call 15; refine (within_any _ _ _ _).mono ?_; rintro e w' ⟨rfl, rfl⟩) | (go_at_call 30; refine C2.mono ?_; rintro e w2 ⟨rfl, hb2⟩))
          go_ret2
          exact ⟨by rw [(read_none HR.out).1, (read_none HR.out).2]; rfl, hb1.trans (hb2.mono hsz)⟩
      · have hr2 : readI s.data.toList = none := by rw [hr, h1]; simp
        have HR := Lib.hid hr2
        clear hr hr2 hat
        go_wp2_with (go_at_call 15; refine (within_any _ _ _ _).mono ?_; rintro e w' ⟨rfl, rfl⟩)
        go_ret2
        exact ⟨by rw [(read_none HR.out).1, (read_none HR.out).2]; rfl, hb1⟩
    · have hr2 := readI_atoi_none hat
      have HR := Lib.hid hr2
      clear hr2 hat
      go_wp2
      go_ret2
      exact ⟨by rw [(read_none HR.out).1, (read_none HR.out).2]; rfl, hb1⟩
end Go.Proofs.YtcifpfdlkpddeaaDoor
