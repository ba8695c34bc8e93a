/-
  The functions of services compute what their words say.
  The functions of services compute what their words say, continued.
  The program's best choice of jobs computes what its words say.
-/
import Derived.Test.YtlofnkkokcihnaaCarPR
import Derived.Test.YtlofnkkokcihnaaGV
namespace Go.Proofs.Ytlofnkkokcihnaa
open Go.Lite

/-! ### Bits -/
theorem wrap_u64 {x : Int} (h1 : 0 ≤ x) (h2 : x < 18446744073709551616) : IntKind.wrap .u64 x = x := by
  unfold IntKind.wrap
  simp [IntKind.signed, IntKind.bits]
  omega
theorem fdiv_pow (s i : Nat) : Int.fdiv (s : Int) (2 ^ i) = ((s / 2 ^ i : Nat) : Int) := by
  rw [Int.fdiv_eq_ediv_of_nonneg _ (Int.pow_nonneg (by omega))]
  simp
theorem and_one (x : Nat) : (BitVec.toNat (BitVec.ofInt 64 (x : Int) &&& BitVec.ofInt 64 1)) = x % 2 := by
  rw [BitVec.toNat_and, BitVec.ofInt_natCast, BitVec.toNat_ofNat]
  have : BitVec.toNat (BitVec.ofInt 64 1) = 1 := by decide
  rw [this, Nat.and_one_is_mod]
  omega
theorem bit_eq (s i : Nat) (hi : i ≤ 60) : IntKind.wrap IntKind.u64 ((BitVec.toNat (BitVec.ofInt (IntKind.bits IntKind.u64) (Int.fdiv (s : Int) (2 ^ min i (IntKind.bits IntKind.u64))) &&& BitVec.ofInt (IntKind.bits IntKind.u64) 1) : Nat) : Int) = if s.testBit i then 1 else 0 := by
  have e : IntKind.bits IntKind.u64 = 64 := rfl
  rw [e, Nat.min_eq_left (by omega), fdiv_pow, and_one]
  rw [Nat.testBit_eq_decide_div_mod_eq]
  by_cases h : s / 2 ^ i % 2 = 1
  · rw [h, decide_eq_true rfl]; decide
  · have : s / 2 ^ i % 2 = 0 := by omega
    rw [this]; decide
theorem bit_one (s i : Nat) (hi : i ≤ 60) : (IntKind.wrap IntKind.u64 ((BitVec.toNat (BitVec.ofInt (IntKind.bits IntKind.u64) (Int.fdiv (s : Int) (2 ^ min i (IntKind.bits IntKind.u64))) &&& BitVec.ofInt (IntKind.bits IntKind.u64) 1) : Nat) : Int) == 1) = s.testBit i := by
  rw [bit_eq s i hi]; cases s.testBit i <;> rfl
theorem bit_zero (s i : Nat) (hi : i ≤ 60) : (IntKind.wrap IntKind.u64 ((BitVec.toNat (BitVec.ofInt (IntKind.bits IntKind.u64) (Int.fdiv (s : Int) (2 ^ min i (IntKind.bits IntKind.u64))) &&& BitVec.ofInt (IntKind.bits IntKind.u64) 1) : Nat) : Int) == 0) = !s.testBit i := by
  rw [bit_eq s i hi]; cases s.testBit i <;> rfl
theorem rest_ne (s i : Nat) (hi : i ≤ 60) : (Int.fdiv (s : Int) (2 ^ min i (IntKind.bits IntKind.u64)) != 0) = decide (2 ^ i ≤ s) := by
  have e : IntKind.bits IntKind.u64 = 64 := rfl
  rw [e, Nat.min_eq_left (by omega), fdiv_pow]
  have hp : 0 < 2 ^ i := Nat.two_pow_pos i
  by_cases h : 2 ^ i ≤ s
  · have : 0 < s / 2 ^ i := Nat.div_pos h hp
    rw [decide_eq_true h]
    exact bne_iff_ne.2 (by omega)
  · have : s / 2 ^ i = 0 := Nat.div_eq_of_lt (by omega)
    rw [decide_eq_false h, this]; rfl
theorem no_bits {s i : Nat} (h : ¬ 2 ^ i ≤ s) : ∀ k j, i ≤ j → bitsFrom s j k = []
  | 0, _, _ => rfl
  | k + 1, j, hj => by
    have : s.testBit j = false := Nat.testBit_lt_two_pow (Nat.lt_of_lt_of_le (by omega) (Nat.pow_le_pow_right (by omega) hj))
    simp only [bitsFrom, this, Bool.false_eq_true, if_false]
    exact no_bits h k (j + 1) (by omega)

/-! ### Jobs -/
theorem ok28_2 (n : Nat) : LoopSim C n 28 (loopOf C.P 28 2) (mkL l28_2 G28_2) := by
  refine loop_of hC (sp := sp28) (lp := lp28) trivial [] (by kernel_rfl) rfl (fun k hk => by cases hk) (by kernel_rfl) (fun ds => (((ds.getD 0 default).L.length : Int) - (ds.getD 1 default).I).toNat) fun ds rr h => ?_
  unfold G28_2 at h
  split at h
  · rename_i l i
    obtain ⟨hp, h⟩ := need_some h
    rw [yes_iff] at hp
    obtain ⟨h1, h2, h3⟩ := hp
    have hl : lim = 9223372036854775808 := rfl
    refine ⟨by rw [fuelC]; simp; omega, ?_⟩
    rw [show roundT C (mkTab sp28 lp28) 28 (loopOf C.P 28 2) l28_2 [l, i] = _ from t28_2 l i]
    obtain ⟨k, hk⟩ : ∃ k : Nat, i.I = k := ⟨i.I.toNat, by omega⟩
    simp only [hk, Int.toNat_natCast] at h h3 ⊢
    refine rd_if (fun hlt => ?_) fun hge => rd_out (all_end h (by omega))
    have hkl : k < l.L.length := by omega
    obtain ⟨s1, s2⟩ := all_step h hkl
    have e : lx (l.L.getD k []) 3 = ((l.L.getD k []).getD (0 + 1 + 1 + 1) default).L := rfl
    refine rd_dec ⟨by omega, by omega⟩ (rd_if (fun c => rd_out (s1 ?_)) fun c => ?_)
    · exact decide_eq_false (by rw [e]; omega)
    · rw [wrap_succ (by omega)]
      exact rd_again ((need_yes ⟨h1, by simp only [I_i]; omega, by simp only [I_i, L_l]; omega⟩).trans (s2 (decide_eq_true (by rw [e]; omega)))) (show ((l.L.length : Int) - ((k + 1 : Nat) : Int)).toNat < ((l.L.length : Int) - i.I).toNat by omega)
  · cases h
theorem ok28 (n : Nat) : FnOK C (n + 1) 28 (mkF s28 G28) := by
  refine fn_of hC (sp := sp28) (lp := lp28) trivial (by kernel_rfl) [2] (by kernel_rfl) (by kernel_rfl) (fun k hk L hL => by simp at hk; subst hk; cases hL; exact ok28_2 n) fun ds rr h => ?_
  unfold G28 at h
  split at h
  · rename_i l
    obtain ⟨hp, h⟩ := need_some h
    rw [yes_iff] at hp
    refine (congrArg T.run (t28 l)).trans ?_
    rw [← h]
    simp only [Int.toNat_zero, Nat.sub_zero]
    unfold needsOk
    refine go_yes ⟨hp, by omega, by omega⟩ (go_ite (fun c => ?_) fun c => by simp [c])
    by_cases h30 : l.L.length ≤ 30
    · have : (l.L.length : Int) ≤ 30 := by omega
      simp [c, h30, this]
    · have : ¬ (l.L.length : Int) ≤ 30 := by omega
      simp [h30, this]
  · cases h
theorem ok60_7 (n : Nat) : LoopSim C (n + 1) 60 (loopOf C.P 60 7) (mkL l60_7 G60_7) := by
  refine loop_of hC (sp := sp60) (lp := lp60) ⟨ok47 n, trivial⟩ [] (by kernel_rfl) rfl (fun k hk => by cases hk) (by kernel_rfl) (fun ds => ((ds.getD 6 default).I - (ds.getD 7 default).I).toNat) fun ds rr h => ?_
  unfold G60_7 at h
  split at h
  · rename_i l i l' m i' ns q k a b c d
    obtain ⟨hp, h⟩ := need_some h
    rw [yes_iff] at hp
    obtain ⟨h1, h2, h3, h4, h5, h6, h7⟩ := hp
    refine ⟨by rw [fuelC]; simp; omega, ?_⟩
    rw [show roundT C (mkTab sp60 lp60) 60 (loopOf C.P 60 7) l60_7 [l, i, l', m, i', ns, q, k, a, b, c, d] = _ from t60_7 l i l' m i' ns q k a b c d]
    obtain ⟨x, hx⟩ : ∃ x : Nat, k.I = x := ⟨k.I.toNat, by omega⟩
    have w0 : IntKind.i64.wrap (i.I - 1) = i.I - 1 := wrap_id (by omega) (by omega)
    simp only [hx, h1, h2, w0, Int.toNat_natCast, ix_def] at h h7 ⊢
    refine rd_if (fun hlt => ?_) fun hge => rd_out (all_end h (by omega))
    have hkl : x < ns.L.length := by omega
    obtain ⟨s1, s2⟩ := all_step h hkl
    have hμ : ((ns.L.length : Int) - ((x + 1 : Nat) : Int)).toNat < (q.I - k.I).toNat := by omega
    rw [wrap_succ (by omega)]
    have again := fun hh => rd_again (μ := fun ds => ((ds.getD 6 default).I - (ds.getD 7 default).I).toNat) (ds := [l, i, l', m, i', ns, q, k, a, b, c, d]) (G := G60_7) (r := rr) (ds' := [.l l.L, .i i.I, .l l'.L, .i m.I, .i i'.I, .l ns.L, .i ns.L.length, .i (x + 1 : Nat), .i a.I, .i b.I, .b c.B, .l ns.L]) ((need_yes ⟨rfl, rfl, h3, h4, h5, by simp only [I_i]; omega, by simp only [I_i]; omega⟩).trans (s2 hh)) hμ
    refine rd_dec ⟨by omega, by omega⟩ (rd_not (fun c1 => rd_out (s1 ?_)) fun c1 => rd_if (fun c2 => ?_) fun c2 => ?_)
    · unfold needJ; rw [c1, Bool.false_and]
    · have w1 : IntKind.i64.wrap ((x : Int) - 1) = (x : Int) - 1 := wrap_id (by omega) (by omega)
      rw [w1, show ((x : Int) - 1).toNat = x - 1 by omega]
      refine rd_dec ⟨by omega, by omega⟩ (rd_if (fun c3 => rd_out (s1 ?_)) fun c3 => again ?_)
      · unfold needJ
        rw [decide_eq_false (show ¬ x = 0 by omega), decide_eq_false (show ¬ ix (ns.L.getD (x - 1) []) 0 < ix (ns.L.getD x []) 0 by omega)]
        simp
      · unfold needJ
        rw [c1, decide_eq_true (show ix (ns.L.getD (x - 1) []) 0 < ix (ns.L.getD x []) 0 by omega)]
        simp
    · refine again ?_
      unfold needJ
      rw [c1, decide_eq_true (show x = 0 by omega)]
      simp
  · cases h
theorem ok60_2 (n : Nat) : LoopSim C (n + 1) 60 (loopOf C.P 60 2) (mkL l60_2 G60_2) := by
  refine loop_of hC (sp := sp60) (lp := lp60) ⟨ok47 n, trivial⟩ [7] (by kernel_rfl) (by kernel_rfl) (fun k hk L hL => by simp at hk; subst hk; cases hL; exact ok60_7 n) (by kernel_rfl) (fun ds => ((ds.getD 2 default).I - (ds.getD 3 default).I).toNat) fun ds rr h => ?_
  unfold G60_2 at h
  split at h
  · rename_i l l' m i
    obtain ⟨hp, h⟩ := need_some h
    rw [yes_iff] at hp
    obtain ⟨h1, h2, h3, h4, h5⟩ := hp
    have hn := h1
    simp only [needsOk, Bool.and_eq_true, decide_eq_true_eq, allFrom_iff, fewNeeds] at hn
    refine ⟨by rw [fuelC]; simp; omega, ?_⟩
    rw [show roundT C (mkTab sp60 lp60) 60 (loopOf C.P 60 2) l60_2 [l, l', m, i] = _ from t60_2 l l' m i]
    obtain ⟨x, hx⟩ : ∃ x : Nat, i.I = x := ⟨i.I.toNat, by omega⟩
    simp only [hx, h2, h3, Int.toNat_natCast, ix_def, lx_def, Nat.zero_add, Nat.reduceAdd, Int.toNat_zero, Nat.sub_zero] at h h5 ⊢
    refine rd_if (fun hlt => ?_) fun hge => rd_out (all_end h (by omega))
    have hkl : x < l.L.length := by omega
    obtain ⟨s1, s2⟩ := all_step h hkl
    have hns := hn.1 x (Nat.zero_le _) (by omega)
    refine rd_dec ⟨by omega, by omega⟩ (rd_not (fun c1 => rd_out (s1 ?_)) fun c1 => rd_not (fun c2 => rd_out (s1 ?_)) fun c2 => rd_yes ⟨by trivial, by trivial, hns, by omega, by omega, by omega, by omega⟩ (rd_ite (fun c3 => ?_) fun c3 => rd_out (s1 ?_)))
    · unfold jobAt jobP; rw [c1]; simp
    · unfold jobAt jobP; rw [c2]; simp
    · rw [wrap_succ (by omega)]
      exact rd_again ((need_yes ⟨h1, rfl, rfl, by simp only [I_i]; omega, by simp only [I_i]; omega⟩).trans (s2 (by unfold jobAt jobP; rw [c1, c2, c3]; rfl))) (show ((l.L.length : Int) - ((x + 1 : Nat) : Int)).toNat < (m.I - i.I).toNat by omega)
    · unfold jobAt; rw [c3]; simp
  · cases h
theorem ok60 (n : Nat) : FnOK C (n + 2) 60 (mkF s60 G60) := by
  refine fn_of hC (sp := sp60) (lp := lp60) ⟨ok47 n, trivial⟩ (by kernel_rfl) [2] (by kernel_rfl) (by kernel_rfl) (fun k hk L hL => by simp at hk; subst hk; cases hL; exact ok60_2 n) fun ds rr h => ?_
  unfold G60 at h
  split at h
  · rename_i l
    obtain ⟨hp, h⟩ := need_some h
    rw [yes_iff] at hp
    refine (congrArg T.run (t60 l)).trans ?_
    rw [← h]
    simp only [Int.toNat_zero, Nat.sub_zero]
    unfold jobsOk
    refine go_yes ⟨hp, by trivial, by trivial, by omega, by omega⟩ (go_ite (fun c => ?_) fun c => by simp [c])
    by_cases h30 : l.L.length ≤ 20
    · have : (l.L.length : Int) ≤ 20 := by omega
      simp [c, h30, this]
    · have : ¬ (l.L.length : Int) ≤ 20 := by omega
      simp [h30, this]
  · cases h

/-! ### Comparing lists -/
theorem ok103 (n : Nat) : FnOK C (n + 1) 103 (mkF s103 G103) := by
  refine fn_of hC (sp := sp103) (lp := lp103) trivial (by kernel_rfl) [] (by kernel_rfl) rfl (fun k hk => by cases hk) fun ds rr h => ?_
  unfold G103 at h
  split at h
  · rename_i x
    refine (congrArg T.run (t103 x)).trans ?_
    rw [← h]
    simp
  · cases h
theorem ok89 (n : Nat) : FnOK C (n + 2) 89 (mkF s89 G89) := by
  refine fn_of hC (sp := sp89) (lp := lp89) ⟨ok103 n, trivial⟩ (by kernel_rfl) [] (by kernel_rfl) rfl (fun k hk => by cases hk) fun ds rr h => ?_
  unfold G89 at h
  split at h
  · rename_i x y
    refine (congrArg T.run (t89 x y)).trans ?_
    rw [← h]
    unfold cmpI
    refine go_false rfl (go_false rfl (go_if (fun c => by simp [c]) fun c => go_if (fun c2 => ?_) fun c2 => ?_))
    · rw [if_neg c, if_pos c2]
    · rw [if_neg c, if_neg c2]
  · cases h
theorem ok62_2 (n : Nat) : LoopSim C (n + 2) 62 (loopOf C.P 62 2) (mkL l62_2 G62_2) := by
  refine loop_of hC (sp := sp62) (lp := lp62) ⟨ok89 n, trivial⟩ [] (by kernel_rfl) rfl (fun k hk => by cases hk) (by kernel_rfl) (fun ds => ((ds.getD 3 default).I - (ds.getD 4 default).I).toNat) fun ds rr h => ?_
  unfold G62_2 at h
  split at h
  · rename_i a b a' m i
    obtain ⟨hp, h⟩ := need_some h
    rw [yes_iff] at hp
    obtain ⟨h1, h2, h3, h4, h5, h6⟩ := hp
    have hb : big = 4611686018427387904 := rfl
    refine ⟨by rw [fuelC]; simp; omega, ?_⟩
    rw [show roundT C (mkTab sp62 lp62) 62 (loopOf C.P 62 2) l62_2 [a, b, a', m, i] = _ from t62_2 a b a' m i]
    obtain ⟨x, hx⟩ : ∃ x : Nat, i.I = x := ⟨i.I.toNat, by omega⟩
    simp only [hx, h3, h4, Int.toNat_natCast, ix_def] at h h6 ⊢
    refine rd_if (fun hlt => ?_) fun hge => ?_
    · have hkl : x < a.L.length := by omega
      rw [show a.L.length - x = (a.L.length - (x + 1)) + 1 by omega] at h
      refine rd_dec ⟨by omega, by omega⟩ (rd_if (fun c => ?_) fun c => rd_dec ⟨by omega, by omega⟩ (rd_ite (fun c2 => ?_) fun c2 => ?_))
      · have e : cmpFrom a.L b.L x ((a.L.length - (x + 1)) + 1) = 1 := by simp only [cmpFrom]; rw [if_pos (show b.L.length ≤ x by omega)]
        rw [e] at h
        exact rd_out h
      · have c2' := ne_of_bne c2
        have e : cmpFrom a.L b.L x ((a.L.length - (x + 1)) + 1) = cmpI (ix (a.L.getD x []) 0) (ix (b.L.getD x []) 0) := by simp only [cmpFrom]; rw [if_neg (show ¬ b.L.length ≤ x by omega), if_pos c2']
        rw [e, run_ite, if_neg (fun hh => c2' (of_decide_eq_true hh))] at h
        exact rd_out h
      · have c2' := eq_of_bne c2
        have e : cmpFrom a.L b.L x ((a.L.length - (x + 1)) + 1) = cmpFrom a.L b.L (x + 1) (a.L.length - (x + 1)) := by simp only [cmpFrom]; rw [if_neg (show ¬ b.L.length ≤ x by omega), if_neg (fun hh => hh c2')]
        rw [e] at h
        rw [wrap_succ (by omega)]
        exact rd_again ((need_yes ⟨h1, h2, rfl, rfl, by simp only [I_i]; omega, by simp only [I_i]; omega⟩).trans h) (show ((a.L.length : Int) - ((x + 1 : Nat) : Int)).toNat < (m.I - i.I).toNat by omega)
    · rw [show a.L.length - x = 0 by omega] at h
      exact rd_out h
  · cases h
theorem ok62 (n : Nat) : FnOK C (n + 3) 62 (mkF s62 G62) := by
  refine fn_of hC (sp := sp62) (lp := lp62) ⟨ok89 n, trivial⟩ (by kernel_rfl) [2] (by kernel_rfl) (by kernel_rfl) (fun k hk L hL => by simp at hk; subst hk; cases hL; exact ok62_2 n) fun ds rr h => ?_
  unfold G62 at h
  split at h
  · rename_i a b
    obtain ⟨hp, h⟩ := need_some h
    rw [yes_iff] at hp
    refine (congrArg T.run (t62 a b)).trans ?_
    rw [← h]
    simp only [Int.toNat_zero, Nat.sub_zero]
    unfold cmpL
    refine go_yes ⟨hp.1, hp.2, by trivial, by trivial, by omega, by omega⟩ (go_if (fun c => go_if (fun c2 => ?_) fun c2 => ?_) fun c => ?_)
    · rw [if_neg (fun hh => hh c), if_pos (show a.L.length < b.L.length by omega)]
    · rw [if_neg (fun hh => hh c), if_neg (show ¬ a.L.length < b.L.length by omega)]
    · rw [if_pos c]
  · cases h
end Go.Proofs.Ytlofnkkokcihnaa

namespace Go.Proofs.Ytlofnkkokcihnaa
open Go.Lite

theorem bits_len {s : Nat} : ∀ k i, (bitsFrom s i k).length ≤ k
  | 0, _ => Nat.le_refl _
  | k + 1, i => by
    have := bits_len (s := s) k (i + 1)
    simp only [bitsFrom]
    split
    · simp only [List.length_cons]; omega
    · omega
set_option maxRecDepth 100000 in
theorem bytes3' : Try.prog.types[3].bytes = 8 := by have := bytes3; omega
set_option maxRecDepth 100000 in
theorem ok63_3 (n : Nat) : LoopSim C n 63 (loopOf C.P 63 3) (mkL l63_3 G63_3) := by
  refine loop_of hC (sp := sp63) (lp := lp63) trivial [] (by kernel_rfl) rfl (fun k hk => by cases hk) (by kernel_rfl) (fun ds => if ds.length = 3 then (21 - (ds.getD 2 default).I).toNat else (21 - (ds.getD 3 default).I).toNat) fun ds rr h => ?_
  unfold G63_3 at h
  split at h
  · rename_i j s i
    obtain ⟨hp, h'⟩ := need_some h
    clear h
    rw [yes_iff] at hp
    obtain ⟨rfl, h1, h2, h3, h4⟩ := hp
    have h := h'
    clear h'
    refine ⟨by rw [fuelC]; simp; omega, ?_⟩
    rw [show roundT C (mkTab sp63 lp63) 63 (loopOf C.P 63 3) l63_3 [.i 0, s, i] = _ from t63_3_0 s i]
    obtain ⟨x, hx⟩ : ∃ x : Nat, i.I = x := ⟨i.I.toNat, by omega⟩
    obtain ⟨y, hy⟩ : ∃ y : Nat, s.I = y := ⟨s.I.toNat, by omega⟩
    simp only [hx, hy, Int.toNat_natCast, rest_ne y x (by omega), bit_one y x (by omega)] at h h2 h4 ⊢
    have hμ : (21 - ((x + 1 : Nat) : Int)).toNat < (21 - i.I).toNat := by omega
    refine rd_need (by simp) (rd_if (fun c => ?_) fun c => ?_)
    · have hx20 : x < 20 := Classical.byContradiction fun hh => by
        have : 2 ^ 20 ≤ 2 ^ x := Nat.pow_le_pow_right (by omega) (by omega)
        omega
      rw [show 20 - x = (20 - (x + 1)) + 1 by omega] at h
      simp only [bitsFrom] at h
      rw [wrap_succ (by omega)]
      refine rd_need (by simp) (rd_ite (fun b => ?_) fun b => ?_)
      · simp only [b, if_true, List.isEmpty_cons] at h
        refine rd_need rfl (rd_false rfl (rd_need rfl (rd_again ?_ hμ)))
        refine (need_yes ⟨rfl, by simp only [I_i]; omega, by simp only [I_i]; omega, by simp only [I_i]; omega, by simp only [I_i]; omega, rfl, by simp only [L_l, I_i, List.length_singleton]; omega⟩).trans ?_
        simp only [I_i, L_l, Int.toNat_natCast, List.length_singleton]
        rw [Nat.add_comm]
        exact h
      · simp only [b, Bool.false_eq_true, if_false] at h
        refine rd_again ?_ hμ
        refine (need_yes ⟨rfl, by simp only [I_i]; omega, by simp only [I_i]; omega, by simp only [I_i]; omega, by simp only [I_i]; omega⟩).trans ?_
        simp only [I_i, Int.toNat_natCast]
        exact h
    · rw [no_bits c _ x (Nat.le_refl _)] at h
      exact rd_out h
  · rename_i j s m i row
    obtain ⟨hp, h'⟩ := need_some h
    clear h
    rw [yes_iff] at hp
    obtain ⟨rfl, h1, h2, h3, h4, h5, h6⟩ := hp
    have h := h'
    clear h'
    refine ⟨by rw [fuelC]; simp; omega, ?_⟩
    rw [show roundT C (mkTab sp63 lp63) 63 (loopOf C.P 63 3) l63_3 [.i 1, s, m, i, row] = _ from t63_3_1 s m i row]
    obtain ⟨x, hx⟩ : ∃ x : Nat, i.I = x := ⟨i.I.toNat, by omega⟩
    obtain ⟨y, hy⟩ : ∃ y : Nat, s.I = y := ⟨s.I.toNat, by omega⟩
    have e1 : ∀ c : List D, List.take 1 [c] = [c] := fun _ => rfl
    have e2 : List.take row.L.length row.L = row.L := List.take_length
    simp only [hx, hy, h5, Int.toNat_natCast, rest_ne y x (by omega), bit_one y x (by omega), e1, e2, List.length_singleton] at h h2 h4 ⊢
    have hμ : (21 - ((x + 1 : Nat) : Int)).toNat < (21 - i.I).toNat := by omega
    refine rd_need (by simp) (rd_if (fun c => ?_) fun c => ?_)
    · have hx20 : x < 20 := Classical.byContradiction fun hh => by
        have : 2 ^ 20 ≤ 2 ^ x := Nat.pow_le_pow_right (by omega) (by omega)
        omega
      rw [show 20 - x = (20 - (x + 1)) + 1 by omega] at h
      simp only [bitsFrom] at h
      rw [wrap_succ (by omega)]
      refine rd_need (by simp) (rd_ite (fun b => ?_) fun b => ?_)
      · simp only [b, if_true] at h
        refine rd_need rfl (rd_false rfl (rd_dec ⟨by omega, by omega, by rw [bytes3']; omega⟩ (rd_again ?_ hμ)))
        refine (need_yes ⟨rfl, by simp only [I_i]; omega, by simp only [I_i]; omega, by simp only [I_i]; omega, by simp only [I_i]; omega, by simp [D.L, D.I], by simp only [L_l, I_i, List.length_append, List.length_singleton]; omega⟩).trans ?_
        simp only [I_i, L_l, Int.toNat_natCast, List.length_append, List.length_singleton, List.append_assoc]
        have : (row.L.length + 1 + (bitsFrom y (x + 1) (20 - (x + 1))).length) = (row.L.length + ((x : Int) :: bitsFrom y (x + 1) (20 - (x + 1))).length) := by simp only [List.length_cons]; omega
        rw [this]
        exact h
      · simp only [b, Bool.false_eq_true, if_false] at h
        refine rd_again ?_ hμ
        refine (need_yes ⟨rfl, by simp only [I_i]; omega, by simp only [I_i]; omega, by simp only [I_i]; omega, by simp only [I_i]; omega, rfl, by simp only [L_l, I_i]; omega⟩).trans ?_
        simp only [I_i, L_l, Int.toNat_natCast]
        exact h
    · rw [no_bits c _ x (Nat.le_refl _)] at h
      simp only [List.length_nil, Nat.add_zero, mkI, List.map_nil, List.append_nil] at h
      exact rd_out h
  · cases h
theorem ok63 (n : Nat) : FnOK C (n + 1) 63 (mkF s63 G63) := by
  refine fn_of hC (sp := sp63) (lp := lp63) trivial (by kernel_rfl) [3] (by kernel_rfl) (by kernel_rfl) (fun k hk L hL => by simp at hk; subst hk; cases hL; exact ok63_3 n) fun ds rr h => ?_
  unfold G63 at h
  split at h
  · rename_i s
    obtain ⟨hp, h⟩ := need_some h
    rw [yes_iff] at hp
    refine (congrArg T.run (t63 s)).trans ?_
    simp only [Int.toNat_zero, Nat.sub_zero, Int.toNat_natCast]
    exact go_yes ⟨by trivial, hp.1, hp.2, by omega, by omega⟩ h
  · cases h

/-! ### Worth -/
theorem jobs_of {l : List (List D)} (h : jobsOk l = true) : l.length ≤ 20 ∧ ∀ i, i < l.length → ((0 ≤ ix (l.getD i []) 0 ∧ ix (l.getD i []) 0 ≤ 1000) ∧ (0 ≤ ix (l.getD i []) 1 ∧ ix (l.getD i []) 1 ≤ 1000000)) ∧ (lx (l.getD i []) 3).length ≤ 20 ∧
    ∀ k, k < (lx (l.getD i []) 3).length → 0 ≤ ix ((lx (l.getD i []) 3).getD k []) 0 ∧ ix ((lx (l.getD i []) 3).getD k []) 0 ≤ (i : Int) - 1 ∧ (k = 0 ∨ ix ((lx (l.getD i []) 3).getD (k - 1) []) 0 < ix ((lx (l.getD i []) 3).getD k []) 0) := by
  simp only [jobsOk, Bool.and_eq_true, decide_eq_true_eq, allFrom_iff] at h
  refine ⟨h.2, fun i hi => ?_⟩
  have h1 := h.1 i (Nat.zero_le _) (by omega)
  simp only [jobAt, jobP, Bool.and_eq_true, Lite.within_iff, allFrom_iff, needJ, Bool.or_eq_true, decide_eq_true_eq] at h1
  have h2 : ∀ k, k < (lx (l.getD i []) 3).length → 0 ≤ ix ((lx (l.getD i []) 3).getD k []) 0 ∧ ix ((lx (l.getD i []) 3).getD k []) 0 ≤ (i : Int) - 1 ∧ (k = 0 ∨ ix ((lx (l.getD i []) 3).getD (k - 1) []) 0 < ix ((lx (l.getD i []) 3).getD k []) 0) := fun k hk => by
    have := h1.2 k (Nat.zero_le _) (by omega)
    exact ⟨this.1.1, this.1.2, this.2⟩
  have h3 : ∀ k, k < (lx (l.getD i []) 3).length → (k : Int) ≤ ix ((lx (l.getD i []) 3).getD k []) 0 := by
    intro k
    induction k with
    | zero => intro hk; exact (h2 0 hk).1
    | succ k ih =>
      intro hk
      have := ih (by omega)
      rcases (h2 (k + 1) hk).2.2 with e | e
      · omega
      · simp only [Nat.add_sub_cancel] at e; omega
  refine ⟨h1.1, ?_, h2⟩
  have hlen : (lx (l.getD i []) 3).length = 0 ∨ 0 < (lx (l.getD i []) 3).length := by omega
  rcases hlen with e | e
  · omega
  · have a := h3 ((lx (l.getD i []) 3).length - 1) (by omega)
    have b := (h2 ((lx (l.getD i []) 3).length - 1) (by omega)).2.1
    omega
theorem ok64_9 (n : Nat) : LoopSim C n 64 (loopOf C.P 64 9) (mkL l64_9 G64_9) := by
  refine loop_of hC (sp := sp64) (lp := lp64) trivial [] (by kernel_rfl) rfl (fun k hk => by cases hk) (by kernel_rfl) (fun ds => ((ds.getD 8 default).I - (ds.getD 9 default).I).toNat) fun ds rr h => ?_
  unfold G64_9 at h
  split at h
  · rename_i m s v t l n' i ns q k a b c d
    obtain ⟨hp, h⟩ := need_some h
    rw [yes_iff] at hp
    obtain ⟨h1, h2, h3, h4, h5, h6, h7⟩ := hp
    refine ⟨by rw [fuelC]; simp; omega, ?_⟩
    rw [show roundT C (mkTab sp64 lp64) 64 (loopOf C.P 64 9) l64_9 [m, s, v, t, l, n', i, ns, q, k, a, b, c, d] = _ from t64_9 m s v t l n' i ns q k a b c d]
    obtain ⟨x, hx⟩ : ∃ x : Nat, k.I = x := ⟨k.I.toNat, by omega⟩
    obtain ⟨y, hy⟩ : ∃ y : Nat, s.I = y := ⟨s.I.toNat, by omega⟩
    simp only [hx, hy, h3, Int.toNat_natCast, ix_def] at h h2 h5 ⊢
    refine rd_if (fun hlt => ?_) fun hge => rd_out (all_end h (by omega))
    have hkl : x < ns.L.length := by omega
    obtain ⟨s1, s2⟩ := all_step h hkl
    have hw := allFrom_iff.1 h7 x (Nat.zero_le _) (by omega)
    rw [Lite.within_iff] at hw
    rw [bit_zero y (ix (ns.L.getD x []) 0).toNat (by omega)]
    refine rd_dec ⟨by omega, by omega⟩ (rd_need (by rw [decide_eq_false (by omega)]; rfl) (rd_not (fun c1 => rd_out (s1 c1)) fun c1 => ?_))
    rw [wrap_succ (by omega)]
    exact rd_again ((need_yes ⟨by simp only [I_i]; omega, by simp only [I_i]; omega, rfl, by simp only [I_i]; omega, by simp only [I_i]; omega, h6, h7⟩).trans (s2 c1)) (show ((ns.L.length : Int) - ((x + 1 : Nat) : Int)).toNat < (q.I - k.I).toNat by omega)
  · cases h
theorem ok64_3 (n : Nat) : LoopSim C n 64 (loopOf C.P 64 3) (mkL l64_3 G64_3) := by
  refine loop_of hC (sp := sp64) (lp := lp64) trivial [9] (by kernel_rfl) (by kernel_rfl) (fun k hk L hL => by simp at hk; subst hk; cases hL; exact ok64_9 n) (by kernel_rfl) (fun ds => ((ds.getD 5 default).I - (ds.getD 6 default).I).toNat) fun ds rr h => ?_
  unfold G64_3 at h
  split at h
  · rename_i m s v t l n' i
    obtain ⟨hp, h⟩ := need_some h
    rw [yes_iff] at hp
    obtain ⟨h1, h2, h3, h4, h5, h6, h7, h8, h9, h10⟩ := hp
    obtain ⟨j1, j2⟩ := jobs_of h1
    refine ⟨by rw [fuelC]; simp; omega, ?_⟩
    rw [show roundT C (mkTab sp64 lp64) 64 (loopOf C.P 64 3) l64_3 [m, s, v, t, l, n', i] = _ from t64_3 m s v t l n' i]
    obtain ⟨x, hx⟩ : ∃ x : Nat, i.I = x := ⟨i.I.toNat, by omega⟩
    obtain ⟨y, hy⟩ : ∃ y : Nat, s.I = y := ⟨s.I.toNat, by omega⟩
    simp only [hx, hy, h4, Int.toNat_natCast, Int.toNat_zero, Nat.sub_zero, ix_def, lx_def, bx_def, Nat.zero_add, Nat.reduceAdd] at h h3 h6 h8 h10 ⊢
    refine rd_if (fun hlt => ?_) fun hge => ?_
    · have hkl : x < l.L.length := by omega
      obtain ⟨q1, q2, q3⟩ := j2 x hkl
      rw [show l.L.length - x = (l.L.length - (x + 1)) + 1 by omega] at h
      simp only [worthFrom] at h
      rw [bit_zero y x (by omega), wrap_succ (by omega)]
      have hμ : ((l.L.length : Int) - ((x + 1 : Nat) : Int)).toNat < (n'.I - i.I).toNat := by omega
      refine rd_dec ⟨by omega, by omega⟩ (rd_need (by rw [decide_eq_false (by omega)]; rfl) (rd_not (fun c1 => rd_ite (fun c2 => ?_) fun c2 => ?_) fun c1 => ?_))
      · simp only [c1, c2, Bool.false_eq_true, if_false, if_true] at h
        exact rd_out h
      · simp only [c1, c2, Bool.false_eq_true, if_false] at h
        exact rd_again ((need_yes ⟨h1, by simp only [I_i]; omega, by simp only [I_i]; omega, rfl, by simp only [I_i]; omega, by simp only [I_i]; omega, h7, by simp only [I_i]; omega, h9, by simp only [I_i]; omega⟩).trans h) hμ
      · simp only [c1, if_true] at h
        refine rd_yes ⟨by omega, by omega, by trivial, by omega, by omega, by omega, allFrom_iff.2 fun k _ hk => Lite.within_iff.2 (by have := q3 k (by omega); omega)⟩ (rd_ite (fun c2 => ?_) fun c2 => ?_)
        · simp only [c2, if_true] at h
          have w1 : IntKind.i64.wrap (v.I + ix (l.L.getD x []) 1) = v.I + ix (l.L.getD x []) 1 := wrap_id (by omega) (by omega)
          have w2 : IntKind.i64.wrap (t.I + ix (l.L.getD x []) 0) = t.I + ix (l.L.getD x []) 0 := wrap_id (by omega) (by omega)
          rw [w1, w2]
          exact rd_again ((need_yes ⟨h1, by simp only [I_i]; omega, by simp only [I_i]; omega, rfl, by simp only [I_i]; omega, by simp only [I_i]; omega, by simp only [I_i]; omega, by simp only [I_i]; omega, by simp only [I_i]; omega, by simp only [I_i]; omega⟩).trans h) hμ
        · simp only [c2, Bool.false_eq_true, if_false] at h
          exact rd_out h
    · rw [show l.L.length - x = 0 by omega] at h
      exact rd_out h
  · cases h
theorem worth_fail {l : List (List D)} {s : Nat} : ∀ k i v t, (worthFrom l s i k v t).2.2 = false → (worthFrom l s i k v t).1 = 0 ∧ (worthFrom l s i k v t).2.1 = 0
  | 0, _, _, _ => fun h => by cases h
  | k + 1, i, v, t => by
    simp only [worthFrom]
    split
    · split
      · exact worth_fail k _ _ _
      · exact fun _ => ⟨rfl, rfl⟩
    · split
      · exact fun _ => ⟨rfl, rfl⟩
      · exact worth_fail k _ _ _
theorem ok64 (n : Nat) : FnOK C (n + 1) 64 (mkF s64 G64) := by
  refine fn_of hC (sp := sp64) (lp := lp64) trivial (by kernel_rfl) [3] (by kernel_rfl) (by kernel_rfl) (fun k hk L hL => by
    simp at hk; subst hk; cases hL; exact ok64_3 n) fun ds rr h => ?_
  unfold G64 at h
  split at h
  · rename_i l m s
    obtain ⟨hp, h⟩ := need_some h
    rw [yes_iff] at hp
    refine (congrArg T.run (t64 l m s)).trans ?_
    rw [← h]
    simp only [Int.toNat_zero, Nat.sub_zero]
    have e : worthFrom l.L s.I.toNat 0 l.L.length 0 0 = worthOf l.L s.I.toNat := rfl
    simp only [e]
    unfold worthOk
    refine go_yes ⟨hp.1, hp.2.1, hp.2.2, by trivial, by omega, by omega, by omega, by omega, by omega, by omega⟩ (go_ite (fun c => ?_) fun c => ?_)
    · rw [c, Bool.true_and]
    · obtain ⟨e1, e2⟩ := worth_fail _ _ _ _ c
      have e1' : (worthOf l.L s.I.toNat).1 = 0 := e1
      have e2' : (worthOf l.L s.I.toNat).2.1 = 0 := e2
      rw [c, e1', e2', Bool.false_and]
  · cases h

/-! ### The better choice -/
theorem len_bits (s : Nat) : (bitsL s).length ≤ 20 := bits_len 20 0
theorem take_mkI (A : List Int) : (mkI A).take A.length = mkI A := List.take_of_length_le (by rw [len_mkI]; omega)
theorem ok61 (n : Nat) : FnOK C (n + 4) 61 (mkF s61 G61) := by
  refine fn_of hC (sp := sp61) (lp := lp61) ⟨ok63 (n + 2), ok62 n, trivial⟩ (by kernel_rfl) [] (by kernel_rfl) rfl (fun k hk => by cases hk) fun ds rr h => ?_
  unfold G61 at h
  split at h
  · rename_i s v t s' v' t'
    obtain ⟨hp, h⟩ := need_some h
    rw [yes_iff] at hp
    refine (congrArg T.run (t61 s v t s' v' t')).trans ?_
    rw [← h]
    have hb : big = 4611686018427387904 := rfl
    have l1 := len_bits s.I.toNat
    have l2 := len_bits s'.I.toNat
    have n1 : (bitsL s.I.toNat).isEmpty = true → mkI (bitsL s.I.toNat) = [] := fun hh => by rw [List.isEmpty_iff] at hh; rw [hh]; rfl
    have n2 : (bitsL s'.I.toNat).isEmpty = true → mkI (bitsL s'.I.toNat) = [] := fun hh => by rw [List.isEmpty_iff] at hh; rw [hh]; rfl
    simp only [Int.toNat_natCast, take_mkI, len_mkI]
    unfold betterB
    refine go_ite (fun c => ?_) fun c => go_ite (fun c2 => ?_) fun c2 => ?_
    · rw [if_pos (ne_of_bne c)]
    · rw [if_neg (fun hh => hh (eq_of_bne c)), if_pos (ne_of_bne c2)]
    · rw [if_neg (fun hh => hh (eq_of_bne c)), if_neg (fun hh => hh (eq_of_bne c2))]
      refine go_yes ⟨hp.1, hp.2.1⟩ (go_ite (fun c3 => go_yes hp.2.2 (go_ite (fun c4 => go_yes ⟨by simp; omega, by simp; omega⟩ ?_) fun c4 => go_dec (by omega) (go_yes ⟨by simp; omega, by omega⟩ ?_))) fun c3 => go_yes hp.2.2 (go_ite (fun c4 => go_dec (by omega) (go_yes ⟨by omega, by simp; omega⟩ ?_)) fun c4 => go_dec (by omega) (go_dec (by omega) (go_yes ⟨by omega, by omega⟩ rfl))))
      · rw [n1 c3, n2 c4]; rfl
      · rw [n1 c3]
      · rw [n2 c4]
  · cases h
theorem ok65_3 (n : Nat) : LoopSim C (n + 4) 65 (loopOf C.P 65 3) (mkL l65_3 G65_3) := by
  refine loop_of hC (sp := sp65) (lp := lp65) ⟨ok61 n, trivial⟩ [] (by kernel_rfl) rfl (fun k hk => by cases hk) (by kernel_rfl) (fun ds => ((ds.getD 1 default).I - (ds.getD 2 default).I).toNat) fun ds rr h => ?_
  unfold G65_3 at h
  split at h
  · rename_i l m i a b c x y z
    obtain ⟨hp, h⟩ := need_some h
    rw [yes_iff] at hp
    obtain ⟨h1, h2, h3, h4, h5, h6⟩ := hp
    refine ⟨by rw [fuelC]; simp; omega, ?_⟩
    rw [show roundT C (mkTab sp65 lp65) 65 (loopOf C.P 65 3) l65_3 [l, m, i, a, b, c, x, y, z] = _ from t65_3 l m i a b c x y z]
    obtain ⟨k, hk⟩ : ∃ k : Nat, i.I = k := ⟨i.I.toNat, by omega⟩
    have hsx : 0 ≤ x.I ∧ x.I < 1048576 := h5
    have hs0 := h6
    unfold isSet at hs0
    simp only [hk, h2, Int.toNat_natCast, ix_def, Nat.zero_add, Nat.reduceAdd] at h h4 ⊢
    refine rd_if (fun hlt => ?_) fun hge => ?_
    · obtain rfl : k = 0 := by omega
      have e : outR l.L ((0 : Nat) : Int) [x, y, z] = if betterR (l.L.getD 0 []) [x, y, z] then l.L.getD 0 [] else [x, y, z] := by unfold outR; rw [if_pos hlt]
      have eb : betterR (l.L.getD 0 []) [x, y, z] = betterB (ix (l.L.getD 0 []) 0).toNat (ix (l.L.getD 0 []) 1) (ix (l.L.getD 0 []) 2) x.I.toNat y.I z.I := rfl
      rw [e, eb] at h
      have hμ : ((l.L.length : Int) - ((0 + 1 : Nat) : Int)).toNat < (m.I - i.I).toNat := by omega
      have eo : ∀ r : List D, outR l.L ((0 + 1 : Nat) : Int) r = r := fun r => by unfold outR; rw [if_neg (by omega)]
      rw [wrap_succ (by omega)]
      refine rd_dec ⟨by omega, by omega⟩ (rd_yes ⟨hs0.1, hs0.2, hsx.1, hsx.2⟩ (rd_ite (fun c1 => ?_) fun c1 => ?_))
      · rw [c1] at h
        refine rd_again ?_ hμ
        refine (need_yes ⟨h1, rfl, by simp only [I_i]; omega, by simp only [I_i]; omega, hs0, h6⟩).trans ?_
        simp only [L_l, I_i, eo]
        exact h
      · rw [c1] at h
        refine rd_again ?_ hμ
        refine (need_yes ⟨h1, rfl, by simp only [I_i]; omega, by simp only [I_i]; omega, hsx, h6⟩).trans ?_
        simp only [L_l, I_i, eo]
        exact h
    · have eo : ∀ r : List D, outR l.L (k : Int) r = r := fun r => by unfold outR; rw [if_neg (by omega)]
      rw [eo] at h
      exact rd_out h
  · cases h
theorem ok65 (n : Nat) : FnOK C (n + 5) 65 (mkF s65 G65) := by
  refine fn_of hC (sp := sp65) (lp := lp65) ⟨ok61 n, trivial⟩ (by kernel_rfl) [3] (by kernel_rfl) (by kernel_rfl) (fun k hk L hL => by simp at hk; subst hk; cases hL; exact ok65_3 n) fun ds rr h => ?_
  unfold G65 at h
  split at h
  · rename_i l
    obtain ⟨hp, h⟩ := need_some h
    rw [yes_iff] at hp
    obtain ⟨h1, h2, h3, h4⟩ := hp
    refine (congrArg T.run (t65 l)).trans ?_
    rw [← h]
    have e1 : Int.toNat 1 = 1 := rfl
    have e2 : (l.L.drop 1).take (l.L.length - 1) = l.L.drop 1 := List.take_of_length_le (by simp)
    have e3 : (l.L.drop 1).getD 0 [] = l.L.getD 1 [] := by simp [List.getD_eq_getElem?_getD]
    have e4 : (l.L.drop 1).length = l.L.length - 1 := by simp
    simp only [Int.toNat_zero, e1, e2, ix_def, Nat.zero_add, Nat.reduceAdd]
    refine go_dec ⟨by omega, by omega⟩ (go_dec ⟨by omega, by omega⟩ (go_yes ⟨by omega, by trivial, by omega, by omega, h3, by rw [e3]; exact h4⟩ ?_))
    have eo : nrm (outR (l.L.drop 1) 0 [.i (ix (l.L.getD 0 []) 0), .i (ix (l.L.getD 0 []) 1), .i (ix (l.L.getD 0 []) 2)]) = nrm (pickR l.L) := by
      unfold outR pickR
      rw [e3]
      have eb : betterR (l.L.getD 1 []) [.i (ix (l.L.getD 0 []) 0), .i (ix (l.L.getD 0 []) 1), .i (ix (l.L.getD 0 []) 2)] = betterR (l.L.getD 1 []) (l.L.getD 0 []) := rfl
      rw [eb]
      by_cases hl : l.L.length = 2
      · rw [if_pos (by omega), if_pos hl]
        cases betterR (l.L.getD 1 []) (l.L.getD 0 []) <;> rfl
      · rw [if_neg (by omega), if_neg hl]; rfl
    exact congrArg some eo
  · cases h
end Go.Proofs.Ytlofnkkokcihnaa

namespace Go.Proofs.Ytlofnkkokcihnaa
open Go.Lite

set_option maxRecDepth 100000 in
theorem bytes109 : Try.prog.types[109].bytes = 24 := by kernel_rfl
theorem two_pow20 {n : Nat} (h : n ≤ 20) : 2 ^ n ≤ 1048576 := Nat.le_trans (Nat.pow_le_pow_right (by omega) h) (by decide)
theorem set_rowS {s : Nat} (v t : Int) (h : s < 1048576) : isSet (rowS s v t) := ⟨by show (0 : Int) ≤ (s : Int); omega, by show (s : Int) < 1048576; omega⟩
set_option maxRecDepth 100000 in
theorem ok29_6 (n : Nat) (hA : AllOK C n sp29) : LoopSim C n 29 (loopOf C.P 29 6) (mkL l29_6 G29_6) := by
  refine loop_of hC (sp := sp29) (lp := lp29) hA [] (by kernel_rfl) rfl (fun k hk => by cases hk) (by kernel_rfl) (fun ds => if ds.length = 5 then ((ds.getD 3 default).I - (ds.getD 4 default).I).toNat else ((ds.getD 4 default).I - (ds.getD 5 default).I).toNat) fun ds rr h => ?_
  have e1 : ∀ c : List D, List.take 1 [c] = [c] := fun _ => rfl
  have again : ∀ (l : List (List D)) (m : Int) (x : Nat) (p : List D), jobsOk l = true → x < 2 ^ l.length → isSet p → nrm p = p →
      (T.leaf (Ex.exit 0, [D.i 1, D.i 1, D.l [(bestFrom l m (x + 1) (2 ^ l.length - (x + 1)) (some p)).getD []]])).run = some rr →
      (G29_6 [.i 1, .l l, .i m, .i 1, .i (2 ^ l.length : Nat), .i (x + 1 : Nat), .l [[.i (ix p 0), .i (ix p 1), .i (ix p 2)]]]).run = some rr := by
    intro l m x p hj hx hs hn hh
    have e : ([.i (ix p 0), .i (ix p 1), .i (ix p 2)] : List D) = p := hn
    rw [e]
    refine (need_yes ⟨rfl, hj, rfl, by simp only [I_i]; omega, by simp only [I_i]; omega, rfl, ?_, hs⟩).trans ?_
    · simp only [I_i, L_l, Int.toNat_natCast]
      exact hh
    · show [p] = [nrm p]
      rw [hn]
  unfold G29_6 at h
  split at h
  · rename_i j l m q s
    obtain ⟨hp, h'⟩ := need_some h
    clear h
    rw [yes_iff] at hp
    obtain ⟨rfl, h1, h2, h3, h4⟩ := hp
    have h := h'
    clear h'
    have hj := (jobs_of h1).1
    have hpow := two_pow20 hj
    refine ⟨by rw [fuelC]; simp; omega, ?_⟩
    rw [show roundT C (mkTab sp29 lp29) 29 (loopOf C.P 29 6) l29_6 [.i 0, l, m, q, s] = _ from t29_6_0 l m q s]
    obtain ⟨x, hx⟩ : ∃ x : Nat, s.I = x := ⟨s.I.toNat, by omega⟩
    simp only [hx, h2, Int.toNat_natCast, List.length_singleton, e1] at h h4 ⊢
    refine rd_if (fun hlt => ?_) fun hge => ?_
    · have hxl : x < 2 ^ l.L.length := by omega
      have w : IntKind.wrap IntKind.u64 ((x : Int) + 1) = ((x + 1 : Nat) : Int) := by rw [wrap_u64 (by omega) (by omega)]; rfl
      rw [show 2 ^ l.L.length - x = (2 ^ l.L.length - (x + 1)) + 1 by omega] at h
      simp only [bestFrom, bestStep] at h
      rw [w]
      refine rd_yes ⟨h1, by omega, by omega⟩ (rd_ite (fun c => ?_) fun c => ?_)
      · simp only [c, if_true] at h
        have hsome : ∀ k y p, (bestFrom l.L m.I y k (some p)).isSome = true := by
          intro k
          induction k with
          | zero => intro y p; rfl
          | succ k ih =>
            intro y p
            simp only [bestFrom, bestStep]
            split
            · exact ih _ _
            · exact ih _ _
        rw [run_ite, hsome] at h
        have hset := set_rowS (worthOf l.L x).1 (worthOf l.L x).2.1 (show x < 1048576 by omega)
        have hs1 : isSet (List.getD [rowS x (worthOf l.L x).1 (worthOf l.L x).2.1] 1 []) := ⟨by show (0 : Int) ≤ 0; omega, by show (0 : Int) < 1048576; omega⟩
        refine rd_need rfl (rd_false rfl (rd_need rfl (rd_need rfl (rd_yes ⟨by simp, by simp, hset, hs1⟩ (rd_again ?_ ?_)))))
        · exact again l.L m.I x (rowS x (worthOf l.L x).1 (worthOf l.L x).2.1) h1 hxl hset rfl h
        · show (((2 ^ l.L.length : Nat) : Int) - ((x + 1 : Nat) : Int)).toNat < (q.I - s.I).toNat
          omega
      · simp only [c, Bool.false_eq_true, if_false] at h
        refine rd_again ?_ ?_
        · refine (need_yes ⟨rfl, h1, rfl, by simp only [I_i]; omega, by simp only [I_i]; omega⟩).trans ?_
          simp only [I_i, L_l, Int.toNat_natCast]
          exact h
        · show (((2 ^ l.L.length : Nat) : Int) - ((x + 1 : Nat) : Int)).toNat < (q.I - s.I).toNat
          omega
    · rw [show 2 ^ l.L.length - x = 0 by omega] at h
      exact rd_out h
  · rename_i j l m b q s row
    obtain ⟨hp, h'⟩ := need_some h
    clear h
    rw [yes_iff] at hp
    obtain ⟨rfl, h1, h2, h3, h4, h5, h6, h7⟩ := hp
    have h := h'
    clear h'
    have hj := (jobs_of h1).1
    have hpow := two_pow20 hj
    refine ⟨by rw [fuelC]; simp; omega, ?_⟩
    rw [show roundT C (mkTab sp29 lp29) 29 (loopOf C.P 29 6) l29_6 [.i 1, l, m, b, q, s, row] = _ from t29_6_1 l m b q s row]
    obtain ⟨x, hx⟩ : ∃ x : Nat, s.I = x := ⟨s.I.toNat, by omega⟩
    obtain ⟨r, hr⟩ : ∃ r, row.L.getD 0 [] = r := ⟨_, rfl⟩
    rw [hr] at h6 h7 h
    have hrn : nrm r = r := by rw [← hr, h6]; rfl
    rw [hrn] at h6
    rw [h6]
    have e2 : Int.toNat 1 = 1 := rfl
    simp only [hx, h2, h5, e2, Int.toNat_natCast, List.length_singleton, e1, List.singleton_append] at h h4 ⊢
    refine rd_if (fun hlt => ?_) fun hge => ?_
    · have hxl : x < 2 ^ l.L.length := by omega
      have w : IntKind.wrap IntKind.u64 ((x : Int) + 1) = ((x + 1 : Nat) : Int) := by rw [wrap_u64 (by omega) (by omega)]; rfl
      rw [show 2 ^ l.L.length - x = (2 ^ l.L.length - (x + 1)) + 1 by omega] at h
      simp only [bestFrom, bestStep] at h
      rw [w]
      have hμ : (((2 ^ l.L.length : Nat) : Int) - ((x + 1 : Nat) : Int)).toNat < (q.I - s.I).toNat := by omega
      refine rd_yes ⟨h1, by omega, by omega⟩ (rd_ite (fun c => ?_) fun c => ?_)
      · simp only [c, if_true] at h
        have hset := set_rowS (worthOf l.L x).1 (worthOf l.L x).2.1 (show x < 1048576 by omega)
        obtain ⟨p, hp⟩ : ∃ p, (if betterR (rowS x (worthOf l.L x).1 (worthOf l.L x).2.1) r then rowS x (worthOf l.L x).1 (worthOf l.L x).2.1 else r) = p := ⟨_, rfl⟩
        have hpick : pickR [r, rowS x (worthOf l.L x).1 (worthOf l.L x).2.1] = p := by rw [← hp]; rfl
        have hps : isSet p := by rw [← hp]; split <;> assumption
        have hpn : nrm p = p := by rw [← hp]; split; rfl; exact hrn
        rw [hp] at h
        refine rd_need rfl (rd_false rfl (rd_dec ⟨by simp, by simp, by rw [bytes109]; simp⟩ (rd_dec (by simp) (rd_yes ⟨by simp, by simp, h7, hset⟩ (rd_again ?_ hμ)))))
        have hpick' : pickR (List.take (1 + 1) [r, [D.i (x : Int), D.i (worthOf l.L x).1, D.i (worthOf l.L x).2.1]]) = p := hpick
        simp only [hpick']
        exact again l.L m.I x p h1 hxl hps hpn h
      · simp only [c, Bool.false_eq_true, if_false] at h
        refine rd_again ?_ hμ
        refine (need_yes ⟨rfl, h1, rfl, by simp only [I_i]; omega, by simp only [I_i]; omega, rfl, ?_, h7⟩).trans ?_
        · simp only [I_i, L_l, Int.toNat_natCast]
          exact h
        · show [r] = [nrm r]
          rw [hrn]
    · rw [show 2 ^ l.L.length - x = 0 by omega] at h
      exact rd_out h
  · cases h
theorem best_set {l : List (List D)} {m : Int} : ∀ k s b, s + k ≤ 1048576 → (∀ r, b = some r → isSet r) → ∀ r, bestFrom l m s k b = some r → isSet r
  | 0, _, _, _, h, r, hr => h r hr
  | k + 1, s, b, hk, h, r, hr => by
    simp only [bestFrom] at hr
    refine best_set k (s + 1) _ (by omega) (fun q hq => ?_) r hr
    unfold bestStep at hq
    split at hq
    · simp only [Option.some.injEq] at hq
      subst hq
      split
      · exact set_rowS _ _ (by omega)
      · split
        · exact set_rowS _ _ (by omega)
        · exact h _ rfl
    · exact h q hq
set_option maxRecDepth 100000 in
theorem ok29 (n : Nat) (hA : AllOK C n sp29) : FnOK C (n + 1) 29 (mkF s29 G29) := by
  refine fn_of hC (sp := sp29) (lp := lp29) hA (by kernel_rfl) [6] (by kernel_rfl) (by kernel_rfl) (fun k hk L hL => by simp at hk; subst hk; cases hL; exact ok29_6 n hA) fun ds rr h => ?_
  unfold G29 at h
  split at h
  · rename_i l m
    obtain ⟨hp, h⟩ := need_some h
    rw [yes_iff] at hp
    refine (congrArg T.run (t29 l m)).trans ?_
    refine go_yes hp (go_not (fun c => ?_) fun c => go_not (fun c2 => ?_) fun c2 => ?_)
    · rw [run_ite, c, Bool.false_and] at h; exact h
    · rw [run_ite, c2, Bool.and_false] at h; exact h
    · rw [run_ite, c, c2, Bool.true_and] at h
      have hj := (jobs_of c).1
      have hpow := two_pow20 hj
      have hp0 : 1 ≤ 2 ^ l.L.length := Nat.one_le_two_pow
      have w : IntKind.wrap IntKind.u64 (1 * 2 ^ min (Int.toNat (l.L.length : Int)) (IntKind.bits IntKind.u64)) = ((2 ^ l.L.length : Nat) : Int) := by
        have e : IntKind.bits IntKind.u64 = 64 := rfl
        rw [e, Int.toNat_natCast, Nat.min_eq_left (by omega), Int.one_mul]
        have : (2 : Int) ^ l.L.length = ((2 ^ l.L.length : Nat) : Int) := by simp
        rw [this]
        exact wrap_u64 (by omega) (by omega)
      have eb : bestFrom l.L m.I (Int.toNat 0) (2 ^ l.L.length - Int.toNat 0) none = bestAll l.L m.I := rfl
      rw [w]
      simp only [eb, ix_def]
      refine go_need rfl (go_yes ⟨by trivial, c, by trivial, by omega, by omega⟩ (go_ite (fun b => ?_) fun b => ?_))
      · have h' : (T.ite (bestAll l.L m.I).isSome (T.ite (bitsL (ix ((bestAll l.L m.I).getD []) 0).toNat).isEmpty (T.leaf [D.i 0, D.i 0]) (T.leaf [D.i 1, D.i (bitsL (ix ((bestAll l.L m.I).getD []) 0).toNat).length, D.i 0, D.l (mkI (bitsL (ix ((bestAll l.L m.I).getD []) 0).toNat))])) (T.leaf [D.i 0, D.i 5])).run = some rr := h
        rw [run_ite, b] at h'
        obtain ⟨r, hr⟩ := Option.isSome_iff_exists.1 b
        have hset : isSet ((bestAll l.L m.I).getD []) := by
          rw [hr]
          exact best_set _ 0 none (by omega) (fun r hr => by cases hr) r hr
        refine go_false rfl (go_need rfl (go_need rfl (go_yes hset ?_)))
        simp only [Int.toNat_natCast]
        exact h'
      · have h' : (T.ite (bestAll l.L m.I).isSome (T.ite (bitsL (ix ((bestAll l.L m.I).getD []) 0).toNat).isEmpty (T.leaf [D.i 0, D.i 0]) (T.leaf [D.i 1, D.i (bitsL (ix ((bestAll l.L m.I).getD []) 0).toNat).length, D.i 0, D.l (mkI (bitsL (ix ((bestAll l.L m.I).getD []) 0).toNat))])) (T.leaf [D.i 0, D.i 5])).run = some rr := h
        rw [run_ite, b] at h'
        exact go_true rfl h'
  · cases h
end Go.Proofs.Ytlofnkkokcihnaa
