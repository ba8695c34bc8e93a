/-
  The functions of fuel compute what their words say, as far as it is safe.
-/
import Derived.Test.YtlofnkkokcihnaaCarPA
import Derived.Test.YtlofnkkokcihnaaCarTreeS
namespace Go.Proofs.Ytlofnkkokcihnaa
open Go.Lite

theorem out_ok {G : List D → T (Ex × List D)} {μ : List D → Nat} {ds : List D} {r : Ex × List D} {X : Option Rd} (h : X = some (.out r.1 r.2)) : RdOK G μ ds r X := ⟨_, h, .inr rfl⟩
theorem again_ok {G : List D → T (Ex × List D)} {μ : List D → Nat} {ds ds' : List D} {r : Ex × List D} {X : Option Rd} (h : X = some (.again ds')) (h1 : (G ds').run = some r) (h2 : μ ds' < μ ds) : RdOK G μ ds r X := ⟨_, h, .inl ⟨_, rfl, h1, h2⟩⟩
theorem ok88 (n : Nat) : FnOK C (n + 2) 88 (mkF s88 G88) := by
  refine fn_of hC (sp := sp88) (lp := lp88) ⟨ok47 n, trivial⟩ (by kernel_rfl) [] (by kernel_rfl) rfl (fun k hk => by cases hk) fun ds r h => ?_
  unfold G88 at h
  split at h
  · rename_i a b c
    rw [← h]
    refine (congrArg T.run (t88 a b c)).trans ?_
    simp only [run_ite, run_leaf, legP]
    grind
  · cases h
theorem ok102_2 (n : Nat) : LoopSim C (n + 2) 102 (loopOf C.P 102 2) (mkL l102_2 G102_2) := by
  refine loop_of hC (sp := sp102) (lp := lp102) ⟨ok88 n, trivial⟩ [] (by kernel_rfl) rfl (fun k hk => by cases hk) (by kernel_rfl) (fun ds => ((ds.getD 1 default).I - (ds.getD 2 default).I).toNat) fun ds r h => ?_
  unfold G102_2 at h
  split at h
  · rename_i l m i
    obtain ⟨hp, h⟩ := need_some h
    rw [yes_iff] at hp
    obtain ⟨h1, h2, h3, h4⟩ := hp
    have hb : big = 4611686018427387904 := rfl
    refine ⟨by rw [fuelC]; simp; omega, ?_⟩
    rw [show roundT C (mkTab sp102 lp102) 102 (loopOf C.P 102 2) l102_2 [l, m, i] = _ from t102_2 l m i]
    obtain ⟨k, hk⟩ : ∃ k : Nat, i.I = k := ⟨i.I.toNat, by omega⟩
    simp only [run_ite, run_need, run_leaf, hk, h2, Int.toNat_natCast] at h h4 ⊢
    refine first_loop (p := fun j => !legAt l.L j) (i := k) (len := l.L.length) [D.l l.L, D.i l.L.length, D.i (k + 1 : Nat)] h ?_ ?_
    · simp only [wrap_succ (show k < 9223372036854775807 by omega), ix_def, Nat.zero_add, legAt, legOk]
      grind
    · intro hlt hp hh
      refine ⟨Eq.trans (need_yes (p := _) (t := _) ?_) hh, ?_⟩
      · simp only [I_i, L_l]
        exact ⟨h1, trivial, by omega, by omega⟩
      · show ((l.L.length : Int) - ((k + 1 : Nat) : Int)).toNat < (m.I - i.I).toNat
        omega
  · cases h
theorem ok102 (n : Nat) : FnOK C (n + 3) 102 (mkF s102 G102) := by
  refine fn_of hC (sp := sp102) (lp := lp102) ⟨ok88 n, trivial⟩ (by kernel_rfl) [2] (by kernel_rfl) (by kernel_rfl) (fun k hk L hL => by simp at hk; subst hk; cases hL; exact ok102_2 n) fun ds r h => ?_
  unfold G102 at h
  split at h
  · rename_i l
    obtain ⟨hp, h⟩ := need_some h
    rw [yes_iff] at hp
    rw [← h]
    refine (congrArg T.run (t102 l)).trans ?_
    refine (need_yes ⟨hp, by omega, by omega, by omega⟩).trans ?_
    simp only [run_ite, run_leaf, Int.toNat_zero, Nat.sub_zero]
    split
    · rfl
    · rename_i hc
      have : ¬ firstFrom (fun j => !legAt l.L j) 0 l.L.length ≥ 0 := fun hh => hc (decide_eq_true hh)
      rw [firstFrom_neg (by omega)]
  · cases h
theorem ok87 (n : Nat) : FnOK C (n + 4) 87 (mkF s87 G87) := by
  refine fn_of hC (sp := sp87) (lp := lp87) ⟨ok102 n, ok88 (n + 1), trivial⟩ (by kernel_rfl) [] (by kernel_rfl) rfl (fun k hk => by cases hk) fun ds r h => ?_
  unfold G87 at h
  split at h
  · rename_i l
    rw [← h]
    refine (congrArg T.run (t87 l)).trans ?_
    rw [firstFrom_all]
    simp only [Bool.not_not]
  · cases h
theorem ok58 (n : Nat) : FnOK C (n + 5) 58 (mkF s58 G58) := by
  refine fn_of hC (sp := sp58) (lp := lp58) ⟨ok47 (n + 3), ok87 n, trivial⟩ (by kernel_rfl) [] (by kernel_rfl) rfl (fun k hk => by cases hk) fun ds r h => ?_
  unfold G58 at h
  split at h
  · rename_i t r s l
    obtain ⟨hp, h⟩ := need_some h
    rw [yes_iff] at hp
    rw [← h]
    refine (congrArg T.run (t58 t r s l)).trans ?_
    simp only [run_ite, run_need, run_leaf, tankOk, yes_true hp, if_true]
    grind
  · cases h
theorem ok59_3 (n : Nat) : LoopSim C n 59 (loopOf C.P 59 3) (mkL l59_3 G59_3) := by
  refine loop_of hC (sp := sp59) (lp := lp59) trivial [] (by kernel_rfl) rfl (fun k hk => by cases hk) (by kernel_rfl) (fun ds => ((ds.getD 6 default).I - (ds.getD 7 default).I).toNat) fun ds r h => ?_
  unfold G59_3 at h
  split at h
  · rename_i t r0 am lo hi l m i
    obtain ⟨hp, h⟩ := need_some h
    rw [yes_iff] at hp
    obtain ⟨⟨h11, h12, h13, h14, h15⟩, h2, ⟨h31, h32, h33⟩, h4, h5, h6⟩ := hp
    have hb : big = 4611686018427387904 := rfl
    refine ⟨by rw [fuelC]; simp; omega, ?_⟩
    rw [show roundT C (mkTab sp59 lp59) 59 (loopOf C.P 59 3) l59_3 [t, r0, am, lo, hi, l, m, i] = _ from t59_3 t r0 am lo hi l m i]
    obtain ⟨k, hk⟩ : ∃ k : Nat, i.I = k := ⟨i.I.toNat, by omega⟩
    simp only [run_ite, run_need, run_leaf, hk, h4, Int.toNat_natCast] at h h6 ⊢
    by_cases hlt : k < l.L.length
    · have hl := allFrom_iff.1 h15 k (Nat.zero_le _) (by omega)
      have ha := allFrom_iff.1 h2 k (Nat.zero_le _) (by omega)
      simp only [amOk, Lite.within_iff] at ha
      simp only [legAt, legOk, legP, Bool.and_eq_true, Lite.within_iff, decide_eq_true_eq] at hl
      obtain ⟨m', hm⟩ : ∃ m', l.L.length - k = m' + 1 := ⟨l.L.length - k - 1, by omega⟩
      have hm' : l.L.length - (k + 1) = m' := by omega
      have d1 : decide ((0 : Int) ≤ (k : Int) ∧ (k : Int) < (l.L.length : Int)) = true := decide_eq_true ⟨by omega, by omega⟩
      have d2 : decide ((0 : Int) ≤ (k : Int) ∧ (k : Int) < (am.L.length : Int)) = true := decide_eq_true ⟨by omega, by omega⟩
      have d0 : decide ((k : Int) < (l.L.length : Int)) = true := decide_eq_true (by omega)
      simp only [hm, safeFrom] at h
      simp only [d0, d1, d2, if_true, ix_def, Nat.zero_add, wrap_succ (show k < 9223372036854775807 by omega)]
      simp only [wrap_id (x := hi.I + ix (am.L.getD k []) 0) (by omega) (by omega), wrap_id (x := lo.I + ix (am.L.getD k []) 0) (by omega) (by omega), wrap_id (x := lo.I + ix (am.L.getD k []) 0 - ix (l.L.getD k []) 1) (by omega) (by omega), wrap_id (x := hi.I + ix (am.L.getD k []) 0 - ix (l.L.getD k []) 0) (by omega) (by omega)]
      by_cases c1 : hi.I + ix (am.L.getD k []) 0 > t.I
      · simp only [c1, if_true, Bool.false_eq_true, if_false, Option.some.injEq] at h
        simp only [c1, decide_true, if_true]
        subst h
        exact out_ok rfl
      · by_cases c2 : lo.I + ix (am.L.getD k []) 0 - ix (l.L.getD k []) 1 < r0.I
        · simp only [c1, c2, if_true, Bool.false_eq_true, if_false, Option.some.injEq] at h
          simp only [c1, c2, decide_true, decide_false, if_true, Bool.false_eq_true, if_false]
          subst h
          exact out_ok rfl
        · simp only [c1, c2, decide_false, Bool.false_eq_true, if_false] at h ⊢
          refine again_ok rfl ?_ ?_
          · refine (need_yes ⟨⟨h11, h12, h13, h14, h15⟩, h2, ⟨by simp only [I_i]; omega, by simp only [I_i]; omega, by simp only [I_i]; omega⟩, by simp only [I_i, L_l], by simp only [I_i]; omega, by simp only [I_i]; omega⟩).trans ?_
            simp only [I_i, L_l, Int.toNat_natCast, hm', run_ite, run_leaf]
            exact h
          · show ((l.L.length : Int) - ((k + 1 : Nat) : Int)).toNat < (m.I - i.I).toNat
            omega
    · rw [show l.L.length - k = 0 by omega] at h
      simp only [safeFrom, if_true, Option.some.injEq] at h
      subst h
      rw [if_neg (by simpa using hlt)]
      exact out_ok rfl
  · cases h
theorem ok59 (n : Nat) : FnOK C (n + 1) 59 (mkF s59 G59) := by
  refine fn_of hC (sp := sp59) (lp := lp59) trivial (by kernel_rfl) [3] (by kernel_rfl) (by kernel_rfl) (fun k hk L hL => by simp at hk; subst hk; cases hL; exact ok59_3 n) fun ds r h => ?_
  unfold G59 at h
  split at h
  · rename_i t r0 s l am
    obtain ⟨hp, h⟩ := need_some h
    rw [yes_iff] at hp
    rw [← h]
    refine (congrArg T.run (t59 t r0 s l am)).trans ?_
    refine (need_yes ⟨hp.1, hp.2.1, hp.2.2, rfl, by omega, by omega⟩).trans ?_
    simp only [run_ite, run_leaf, Int.toNat_zero, Nat.sub_zero]
    split <;> rename_i hc <;> simp [hc]
  · cases h
theorem ok32_4 (n : Nat) : LoopSim C (n + 5) 32 (loopOf C.P 32 4) (mkL l32_4 G32_4) := by
  refine loop_of hC (sp := sp32) (lp := lp32) ⟨ok58 n, ok47 (n + 4), ok59 (n + 4), trivial⟩ [] (by kernel_rfl) rfl (fun k hk => by cases hk) (by kernel_rfl) (fun ds => ((ds.getD 6 default).I - (ds.getD 7 default).I).toNat) fun ds r h => ?_
  unfold G32_4 at h
  split at h
  · rename_i t r0 s l am a2 m i
    obtain ⟨hp, h⟩ := need_some h
    rw [yes_iff] at hp
    obtain ⟨h1, h2, h3, h4, h5, h6⟩ := hp
    have hb : big = 4611686018427387904 := rfl
    refine ⟨by rw [fuelC]; simp; omega, ?_⟩
    rw [show roundT C (mkTab sp32 lp32) 32 (loopOf C.P 32 4) l32_4 [t, r0, s, l, am, a2, m, i] = _ from t32_4 t r0 s l am a2 m i]
    obtain ⟨k, hk⟩ : ∃ k : Nat, i.I = k := ⟨i.I.toNat, by omega⟩
    simp only [run_ite, run_need, run_leaf, hk, h1, h4, Int.toNat_natCast] at h h6 ⊢
    refine all_loop (p := amOk l.L am.L) (i := k) (len := am.L.length) [D.i t.I, D.i r0.I, D.i s.I, D.l l.L, D.l am.L, D.l am.L, D.i am.L.length, D.i (k + 1 : Nat)] h ?_ ?_
    · simp only [amOk, wrap_succ (show k < 9223372036854775807 by omega), ix_def, Nat.zero_add]
      grind
    · intro hlt hp hh
      refine ⟨Eq.trans (need_yes (p := _) (t := _) ?_) hh, ?_⟩
      · simp only [I_i, L_l]
        exact ⟨trivial, h2, h3, trivial, by omega, by omega⟩
      · show ((am.L.length : Int) - ((k + 1 : Nat) : Int)).toNat < (m.I - i.I).toNat
        omega
  · cases h
theorem ok32 (n : Nat) : FnOK C (n + 6) 32 (mkF s32 G32) := by
  refine fn_of hC (sp := sp32) (lp := lp32) ⟨ok58 n, ok47 (n + 4), ok59 (n + 4), trivial⟩ (by kernel_rfl) [4] (by kernel_rfl) (by kernel_rfl) (fun k hk L hL => by simp at hk; subst hk; cases hL; exact ok32_4 n) fun ds r h => ?_
  unfold G32 at h
  split at h
  · rename_i t r0 s l am
    obtain ⟨hp, h⟩ := need_some h
    rw [yes_iff] at hp
    rw [← h]
    refine (congrArg T.run (t32 t r0 s l am)).trans ?_
    simp only [run_ite, run_need, run_leaf, yes_true hp.1, if_true, Int.toNat_zero, Nat.sub_zero, yes_iff]
    have e1 : ((am.L.length : Int) = l.L.length) ↔ am.L.length = l.L.length := Int.ofNat_inj
    by_cases c1 : tankOk t.I r0.I s.I l.L = true
    · have c1' := c1
      simp only [tankOk, Bool.and_eq_true, Lite.within_iff, decide_eq_true_eq] at c1'
      have hpre : am.L.length = l.L.length → tankPre t.I r0.I l.L am.L := fun he => ⟨by omega, by omega, he, by omega, c1'.2⟩
      have hbd : bounds t.I s.I s.I := ⟨by omega, by omega, by omega⟩
      by_cases hlen : am.L.length = l.L.length
      · have hpr := hpre hlen
        simp only [hlen, c1]
        by_cases c2 : allFrom (amOk l.L am.L) 0 l.L.length = true
        · simp [c2, hpr, hbd, hp.1, yes_iff]
        · simp [c2, hp.1]
      · simp [hlen, c1, e1]
    · simp [c1]
  · cases h
theorem ok26_4 (n : Nat) : LoopSim C (n + 1) 26 (loopOf C.P 26 4) (mkL l26_4 G26_4) := by
  refine loop_of hC (sp := sp26) (lp := lp26) ⟨ok50 n, trivial⟩ [] (by kernel_rfl) rfl (fun k hk => by cases hk) (by kernel_rfl) (fun ds => (((ds.getD 0 default).L.length : Int) - (ds.getD 1 default).I).toNat) fun ds r h => ?_
  unfold G26_4 at h
  split at h
  · rename_i l i
    obtain ⟨hp, h⟩ := need_some h
    rw [yes_iff] at hp
    obtain ⟨h1, h2, h3⟩ := hp
    have hb : big = 4611686018427387904 := rfl
    refine ⟨by rw [fuelC]; simp; omega, ?_⟩
    rw [show roundT C (mkTab sp26 lp26) 26 (loopOf C.P 26 4) l26_4 [l, i] = _ from t26_4 l i]
    obtain ⟨k, hk⟩ : ∃ k : Nat, i.I = k := ⟨i.I.toNat, by omega⟩
    simp only [run_ite, run_need, run_leaf, hk, Int.toNat_natCast] at h h3 ⊢
    refine all_loop (p := legAt l.L) (i := k) (len := l.L.length) [D.l l.L, D.i (k + 1 : Nat)] h ?_ ?_
    · simp only [wrap_succ (show k < 9223372036854775807 by omega), ix_def, Nat.zero_add, legAt, legOk, legP, within]
      grind
    · intro hlt hp hh
      refine ⟨Eq.trans (need_yes (p := _) (t := _) ?_) hh, ?_⟩
      · simp only [I_i, L_l]
        exact ⟨h1, by omega, by omega⟩
      · show ((l.L.length : Int) - ((k + 1 : Nat) : Int)).toNat < ((l.L.length : Int) - i.I).toNat
        omega
  · cases h
theorem ok26 (n : Nat) : FnOK C (n + 2) 26 (mkF s26 G26) := by
  refine fn_of hC (sp := sp26) (lp := lp26) ⟨ok50 n, trivial⟩ (by kernel_rfl) [4] (by kernel_rfl) (by kernel_rfl) (fun k hk L hL => by simp at hk; subst hk; cases hL; exact ok26_4 n) fun ds r h => ?_
  unfold G26 at h
  split at h
  · rename_i t r0 s l
    rw [← h]
    refine (congrArg T.run (t26 t r0 s l)).trans ?_
    have hb : big = 4611686018427387904 := rfl
    simp only [run_ite, run_need, run_leaf, tankOk, yes_iff, Int.toNat_zero, Nat.sub_zero]
    grind
  · cases h
theorem ok33_5 (n : Nat) : LoopSim C (n + 1) 33 (loopOf C.P 33 5) (mkL l33_5 G33_5) := by
  refine loop_of hC (sp := sp33) (lp := lp33) ⟨ok50 n, trivial⟩ [] (by kernel_rfl) rfl (fun k hk => by cases hk) (by kernel_rfl) (fun ds => (((ds.getD 2 default).L.length : Int) - (ds.getD 6 default).I).toNat) fun ds r h => ?_
  unfold G33_5 at h
  split at h
  · rename_i t r0 l am lo hi i
    obtain ⟨hp, h⟩ := need_some h
    rw [yes_iff] at hp
    obtain ⟨⟨h11, h12, h13, h14, h15⟩, ⟨h31, h32, h33⟩, h5, h6⟩ := hp
    have hb : big = 4611686018427387904 := rfl
    refine ⟨by rw [fuelC]; simp; omega, ?_⟩
    rw [show roundT C (mkTab sp33 lp33) 33 (loopOf C.P 33 5) l33_5 [t, r0, l, am, lo, hi, i] = _ from t33_5 t r0 l am lo hi i]
    obtain ⟨k, hk⟩ : ∃ k : Nat, i.I = k := ⟨i.I.toNat, by omega⟩
    simp only [run_ite, run_need, run_leaf, hk, Int.toNat_natCast] at h h6 ⊢
    by_cases hlt : k < l.L.length
    · have hl := allFrom_iff.1 h15 k (Nat.zero_le _) (by omega)
      simp only [legAt, legOk, legP, Bool.and_eq_true, Lite.within_iff, decide_eq_true_eq] at hl
      obtain ⟨m', hm⟩ : ∃ m', l.L.length - k = m' + 1 := ⟨l.L.length - k - 1, by omega⟩
      have hm' : l.L.length - (k + 1) = m' := by omega
      have d1 : decide ((0 : Int) ≤ (k : Int) ∧ (k : Int) < (l.L.length : Int)) = true := decide_eq_true ⟨by omega, by omega⟩
      have d2 : decide ((0 : Int) ≤ (k : Int) ∧ (k : Int) < (am.L.length : Int)) = true := decide_eq_true ⟨by omega, by omega⟩
      have d0 : decide ((k : Int) < (l.L.length : Int)) = true := decide_eq_true (by omega)
      simp only [hm, refSafeFrom] at h
      simp only [d0, d1, d2, if_true, ix_def, Nat.zero_add, wrap_succ (show k < 9223372036854775807 by omega)]
      by_cases c0 : amOk l.L am.L k = true
      · have ha := c0
        simp only [amOk, Lite.within_iff] at ha
        have c0' : within (ix (am.L.getD k []) 0) 0 (ix (l.L.getD k []) 2) = true := c0
        simp only [c0, Bool.not_true, Bool.false_eq_true, if_false] at h
        simp only [show (0 + 1 + 1 : Nat) = 2 from rfl, c0', Bool.not_true, Bool.false_eq_true, if_false]
        simp only [wrap_id (x := hi.I + ix (am.L.getD k []) 0) (by omega) (by omega), wrap_id (x := lo.I + ix (am.L.getD k []) 0) (by omega) (by omega), wrap_id (x := lo.I + ix (am.L.getD k []) 0 - ix (l.L.getD k []) 1) (by omega) (by omega), wrap_id (x := hi.I + ix (am.L.getD k []) 0 - ix (l.L.getD k []) 0) (by omega) (by omega)]
        by_cases c1 : hi.I + ix (am.L.getD k []) 0 > t.I
        · simp only [c1, if_true, Bool.false_eq_true, if_false, Option.some.injEq] at h
          simp only [c1, decide_true, if_true]
          subst h
          exact out_ok rfl
        · by_cases c2 : lo.I + ix (am.L.getD k []) 0 - ix (l.L.getD k []) 1 < r0.I
          · simp only [c1, c2, if_true, Bool.false_eq_true, if_false, Option.some.injEq] at h
            simp only [c1, c2, decide_true, decide_false, if_true, Bool.false_eq_true, if_false]
            subst h
            exact out_ok rfl
          · simp only [c1, c2, decide_false, Bool.false_eq_true, if_false] at h ⊢
            refine again_ok rfl ?_ ?_
            · refine (need_yes ⟨⟨h11, h12, h13, h14, h15⟩, ⟨by simp only [I_i]; omega, by simp only [I_i]; omega, by simp only [I_i]; omega⟩, by simp only [I_i]; omega, by simp only [I_i, L_l]; omega⟩).trans ?_
              simp only [I_i, L_l, Int.toNat_natCast, hm', run_ite, run_leaf]
              exact h
            · show ((l.L.length : Int) - ((k + 1 : Nat) : Int)).toNat < ((l.L.length : Int) - i.I).toNat
              omega
      · have c0' : within (ix (am.L.getD k []) 0) 0 (ix (l.L.getD k []) 2) = false := by simpa [amOk] using c0
        have c0'' : amOk l.L am.L k = false := by simpa using c0
        simp only [c0'', Bool.not_false, if_true, Bool.false_eq_true, if_false, Option.some.injEq] at h
        subst h
        simp only [show (0 + 1 + 1 : Nat) = 2 from rfl, c0', Bool.not_false, if_true]
        exact out_ok rfl
    · rw [show l.L.length - k = 0 by omega] at h
      simp only [refSafeFrom, if_true, Option.some.injEq] at h
      subst h
      rw [if_neg (by simpa using hlt)]
      exact out_ok rfl
  · cases h
theorem ok33 (n : Nat) : FnOK C (n + 2) 33 (mkF s33 G33) := by
  refine fn_of hC (sp := sp33) (lp := lp33) ⟨ok50 n, trivial⟩ (by kernel_rfl) [5] (by kernel_rfl) (by kernel_rfl) (fun k hk L hL => by simp at hk; subst hk; cases hL; exact ok33_5 n) fun ds r h => ?_
  unfold G33 at h
  split at h
  · rename_i t r0 s l am
    obtain ⟨hp, h⟩ := need_some h
    rw [yes_iff] at hp
    rw [← h]
    refine (congrArg T.run (t33 t r0 s l am)).trans ?_
    have e1 : ((am.L.length : Int) = l.L.length) ↔ am.L.length = l.L.length := Int.ofNat_inj
    have hpre : am.L.length = l.L.length → tankPre t.I r0.I l.L am.L := fun he => ⟨hp.1, hp.2.1, he, hp.2.2.1, hp.2.2.2.1⟩
    simp only [run_ite, run_need, run_leaf, yes_iff, Int.toNat_zero, Nat.sub_zero]
    by_cases hlen : am.L.length = l.L.length
    · have hpr := hpre hlen
      simp [hlen, hpr, hp.2.2.2.2, yes_iff]
      split <;> rename_i hc <;> simp [hc]
    · simp [hlen, e1]
  · cases h
theorem ok34_3 (n : Nat) : LoopSim C n 34 (loopOf C.P 34 3) (mkL l34_3 G34_3) := by
  refine loop_of hC (sp := sp34) (lp := lp34) trivial [] (by kernel_rfl) rfl (fun k hk => by cases hk) (by kernel_rfl) (fun ds => (((ds.getD 0 default).L.length : Int) - (ds.getD 2 default).I).toNat) fun ds r h => ?_
  unfold G34_3 at h
  split at h
  · rename_i l s i
    obtain ⟨hp, h⟩ := need_some h
    rw [yes_iff] at hp
    obtain ⟨h1, h2, h3, h4, h5, h6⟩ := hp
    have hb : big = 4611686018427387904 := rfl
    refine ⟨by rw [fuelC]; simp; omega, ?_⟩
    rw [show roundT C (mkTab sp34 lp34) 34 (loopOf C.P 34 3) l34_3 [l, s, i] = _ from t34_3 l s i]
    obtain ⟨k, hk⟩ : ∃ k : Nat, i.I = k := ⟨i.I.toNat, by omega⟩
    simp only [run_ite, run_need, run_leaf, hk, Int.toNat_natCast] at h h4 h5 h6 ⊢
    by_cases hlt : k < l.L.length
    · have ha := allFrom_iff.1 h2 k (Nat.zero_le _) (by omega)
      simp only [Lite.within_iff] at ha
      rw [show l.L.length - k = (l.L.length - (k + 1)) + 1 by omega] at h
      simp only [sumFrom, ← Int.add_assoc] at h
      rw [if_pos (decide_eq_true (by omega)), if_pos (decide_eq_true ⟨by omega, by omega⟩)]
      simp only [wrap_succ (show k < 9223372036854775807 by omega), ix_def]
      rw [wrap_id (x := s.I + ix (l.L.getD k []) 0) (by omega) (by omega)]
      refine again_ok rfl ?_ ?_
      · refine (need_yes ⟨h1, h2, by simp only [I_i]; omega, by simp only [I_i, L_l]; omega, by simp only [I_i]; omega, by simp only [I_i]; omega⟩).trans ?_
        simp only [I_i, L_l, Int.toNat_natCast, run_leaf]
        exact h
      · show ((l.L.length : Int) - ((k + 1 : Nat) : Int)).toNat < ((l.L.length : Int) - i.I).toNat
        omega
    · rw [show l.L.length - k = 0 by omega] at h
      simp only [sumFrom, Int.add_zero, Option.some.injEq] at h
      subst h
      rw [if_neg (by simpa using hlt)]
      exact out_ok rfl
  · cases h
theorem ok34 (n : Nat) : FnOK C (n + 1) 34 (mkF s34 G34) := by
  refine fn_of hC (sp := sp34) (lp := lp34) trivial (by kernel_rfl) [3] (by kernel_rfl) (by kernel_rfl) (fun k hk L hL => by simp at hk; subst hk; cases hL; exact ok34_3 n) fun ds r h => ?_
  unfold G34 at h
  split at h
  · rename_i l
    obtain ⟨hp, h⟩ := need_some h
    rw [yes_iff] at hp
    rw [← h]
    refine (congrArg T.run (t34 l)).trans ?_
    refine (need_yes ⟨hp.1, hp.2, by omega, by omega, by omega, by omega⟩).trans ?_
    simp only [run_leaf, Int.toNat_zero, Nat.sub_zero, Int.zero_add]
  · cases h
theorem ok24_4 (n : Nat) : LoopSim C n 24 (loopOf C.P 24 4) (mkL l24_4 G24_4) := by
  refine loop_of hC (sp := sp24) (lp := lp24) trivial [] (by kernel_rfl) rfl (fun k hk => by cases hk) (by kernel_rfl) (fun ds => (((ds.getD 0 default).L.length : Int) - (ds.getD 2 default).I).toNat) fun ds r h => ?_
  unfold G24_4 at h
  split at h
  · rename_i a b i
    obtain ⟨hp, h⟩ := need_some h
    rw [yes_iff] at hp
    obtain ⟨h1, h2, h3, h4⟩ := hp
    have hb : big = 4611686018427387904 := rfl
    refine ⟨by rw [fuelC]; simp; omega, ?_⟩
    rw [show roundT C (mkTab sp24 lp24) 24 (loopOf C.P 24 4) l24_4 [a, b, i] = _ from t24_4 a b i]
    obtain ⟨k, hk⟩ : ∃ k : Nat, i.I = k := ⟨i.I.toNat, by omega⟩
    simp only [run_ite, run_need, run_leaf, hk, Int.toNat_natCast] at h h4 ⊢
    refine all_loop (p := sameAt a.L b.L) (i := k) (len := a.L.length) [D.l a.L, D.l b.L, D.i (k + 1 : Nat)] h ?_ ?_
    · simp only [wrap_succ (show k < 9223372036854775807 by omega), ix_def, sameAt]
      grind
    · intro hlt hp hh
      refine ⟨Eq.trans (need_yes (p := _) (t := _) ?_) hh, ?_⟩
      · simp only [I_i, L_l]
        exact ⟨h1, h2, by omega, by omega⟩
      · show ((a.L.length : Int) - ((k + 1 : Nat) : Int)).toNat < ((a.L.length : Int) - i.I).toNat
        omega
  · cases h
theorem ok24 (n : Nat) : FnOK C (n + 1) 24 (mkF s24 G24) := by
  refine fn_of hC (sp := sp24) (lp := lp24) trivial (by kernel_rfl) [4] (by kernel_rfl) (by kernel_rfl) (fun k hk L hL => by simp at hk; subst hk; cases hL; exact ok24_4 n) fun ds r h => ?_
  unfold G24 at h
  split at h
  · rename_i a b
    obtain ⟨hp, h⟩ := need_some h
    rw [yes_iff] at hp
    rw [← h]
    refine (congrArg T.run (t24 a b)).trans ?_
    have e1 : ((a.L.length : Int) = b.L.length) ↔ a.L.length = b.L.length := Int.ofNat_inj
    simp only [run_ite, run_need, run_leaf, yes_iff, Int.toNat_zero, Nat.sub_zero, sameL]
    grind
  · cases h
end Go.Proofs.Ytlofnkkokcihnaa
