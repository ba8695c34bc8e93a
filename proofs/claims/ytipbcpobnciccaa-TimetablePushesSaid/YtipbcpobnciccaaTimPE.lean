/-
  The law of timetables and proofs holds for every input.
-/
import Derived.Test.YtipbcpobnciccaaTimPD
import Derived.Test.YtipbcpobnciccaaTimTreeE
import Derived.Test.YtipbcpobnciccaaKnown
import Derived.Test.YtipbcpobnciccaaTimetableKeepsOver
namespace Go.Proofs.Ytipbcpobnciccaa
open Go.Lite
set_option maxRecDepth 100000
theorem kept_all {n : Int} {l t : List (List D)} {j : Nat} (h : j < l.length) : keptF (allL n l) t j = keptF l t j := by
  unfold keptF lkW lkT lkF
  rw [allL_get1 h]
theorem keeps_eq {n : Int} {l t : List (List D)} (ht : ∀ j, j < t.length → rg t j ≤ 1099511627776) : keepsB n l t = keepsR n l t := by
  rw [Bool.eq_iff_iff]
  unfold keepsB keepsR
  simp only [Bool.and_eq_true, decide_eq_true_eq, allFrom_iff, beq_iff_eq]
  constructor
  · rintro ⟨e, p1, z, kk⟩
    refine ⟨e, z, fun j h1 h2 => ?_, fun j h1 h2 => ?_⟩
    · unfold timeB
      rw [Bool.and_eq_true, decide_eq_true_eq, decide_eq_true_eq]
      have := of_decide_eq_false (bnot_t (p1 j h1 h2))
      exact ⟨by omega, ht j (by omega)⟩
    · have := kk j h1 (by rw [len_allL]; omega)
      rw [kept_all (by omega)] at this
      exact this
  · rintro ⟨e, z, p1, kk⟩
    have hpos : ∀ j, j < t.length → 0 ≤ rg t j := fun j hj => by
      have := p1 j (Nat.zero_le _) (by omega)
      unfold timeB at this
      rw [Bool.and_eq_true, decide_eq_true_eq, decide_eq_true_eq] at this
      exact this.1
    refine ⟨e, fun j h1 h2 => ?_, z, fun j h1 h2 => ?_⟩
    · have := hpos j (by omega)
      rw [decide_eq_false (by omega)]
      rfl
    · rw [len_allL] at h2
      by_cases hj : j < l.length
      · rw [kept_all hj]
        exact kk j h1 (by omega)
      · obtain ⟨i, rfl⟩ : ∃ i, j = l.length + i := ⟨j - l.length, by omega⟩
        unfold keptF lkW lkT lkF
        rw [allL_get2 (by omega)]
        simp only [ix, List.getD_cons_zero, List.getD_cons_succ, D.I, decide_eq_true_eq, Int.toNat_natCast, Int.toNat_zero, z]
        have := hpos i (by omega)
        omega
theorem few_lt {n : Int} {l : List (List D)} (h : fewB n l = true) : l.length < big := by
  unfold fewB at h
  simp only [Bool.and_eq_true, Bool.or_eq_true, decide_eq_true_eq] at h
  rw [big_eq]
  omega
theorem rg_lt {t : List (List D)} (h : ∀ c ∈ t, WfC [.int .i64] c 0) (j : Nat) : rg t j < 9223372036854775808 := by
  by_cases hj : j < t.length
  · have h1 := h (t.getD j []) (by rw [List.getD_eq_getElem?_getD, List.getElem?_eq_getElem hj]; exact List.getElem_mem hj)
    simp only [WfC, WfK] at h1
    have h2 : (Lit.int .i64 (rg t j)).wf = true := h1.1
    unfold Lit.wf at h2
    simp [IntKind.min, IntKind.max, IntKind.signed, IntKind.bits] at h2
    omega
  · rw [rg_ge (by omega)]
    omega
set_option maxRecDepth 100000 in
theorem law7 (a b c d : D) (hc : ∀ j, rg c.L j < 9223372036854775808) : (fnT C tab7 7 s7 [a, b, c, d]).run = some [D.b true] := by
  have hbig := big_eq
  refine (congrArg T.run (t7 a b c d)).trans ?_
  refine go_not (fun _ => rfl) fun hf => ?_
  have hb := few_lt hf
  refine go_if (fun _ => rfl) fun c60 => go_if (fun _ => rfl) fun d60 => go_yes ⟨hb, by omega, hc⟩ (go_yes hb (go_yes hb (go_not (fun hn => ?_) fun hn => ?_)))
  · exact go_notF (by rw [hn, Bool.false_and]) (go_notF (by rw [hn, Bool.false_and]) rfl)
  · have hp : netP a.I b.L := hn
    refine go_yes ⟨by omega, by omega, by omega⟩ (go_ite (fun h5 => ?_) fun _ => rfl)
    simp only [Int.toNat_zero, Nat.sub_zero, allFrom_iff, decide_eq_true_eq] at h5
    refine go_yes hp (go_true ?_ (go_yes hp (go_true ?_ rfl)))
    · rw [hn, Bool.true_and, keeps_eq (fun j hj => h5 j (Nat.zero_le _) (by omega))]
      exact beq_self_eq_true _
    · rw [hn, Bool.true_and]
      exact beq_self_eq_true _
theorem ok16 : FnOK C 12 16 (mkF s16 G16) := by
  intro args v hb h avs hv
  unfold mkF at h
  split at h
  · rename_i ds hds
    have ha : args = [] := by
      cases args with
      | nil => rfl
      | cons x y => simp [s16, fitsVs] at hds
    subst ha
    simp only [VRL] at hv
    subst hv
    simp only [s16, fitsVs, Option.some.injEq] at hds
    subst hds
    simp only [G16, T.run_map, run_leaf, Option.map_some, Option.some.injEq] at h
    obtain ⟨rfl, rfl⟩ := Prod.mk.inj h
    exact ⟨_, _, known0, rfl, rfl, fun i => by cases i <;> exact trivial⟩
  · cases h
theorem ok7_8 : LoopSim C 12 7 (loopOf C.P 7 8) (mkL l7_8 G7_8) := by
  refine loop_ofK hC (sp := sp7) (lp := lp7) (sw := sw7) ⟨ok15 11, ok16, ok31 6, ok30 6, ok18 10, ok32 10, ok29 9, trivial⟩ trivial 0 [] (by kernel_rfl) rfl (fun k hk => by cases hk) (by kernel_rfl) (fun ds => (((ds.getD 2 default).L.length : Int) - (ds.getD 6 default).I).toNat) fun ds rr h => ?_
  unfold G7_8 at h
  split at h
  · rename_i n l t c k p i
    obtain ⟨hp, h⟩ := need_some h
    rw [yes_iff] at hp
    obtain ⟨h1, h2, h3⟩ := hp
    have hb := big_eq
    refine ⟨by rw [fuelC]; simp; omega, ?_⟩
    rw [show roundTK C (mkTab sp7 lp7 sw7) 7 (loopOf C.P 7 8) 0 l7_8 [n, l, t, c, k, p, i] = _ from t7_8 n l t c k p i]
    obtain ⟨q, hq⟩ : ∃ q : Nat, i.I = q := ⟨i.I.toNat, by omega⟩
    simp only [hq, Int.toNat_natCast, rg_def] at h h3 ⊢
    refine rd_if (fun hlt => ?_) fun hge => rd_out (all_end h (by omega))
    have hql : q < t.L.length := by omega
    obtain ⟨s1, s2⟩ := all_step h hql
    refine rd_dec ⟨by omega, by omega⟩ (rd_if (fun c => rd_out (s1 (decide_eq_false (by omega)))) fun c => ?_)
    rw [wrap_succ (by omega)]
    exact rd_again ((need_yes ⟨h1, by simp only [I_i]; omega, by simp only [I_i, L_l]; omega⟩).trans (s2 (decide_eq_true (by omega)))) (show ((t.L.length : Int) - ((q + 1 : Nat) : Int)).toNat < ((t.L.length : Int) - i.I).toNat by omega)
  · cases h
theorem kinds7 : [3, 22, 25, 25].flatMap (kindsL C.P) = [.int .i64, .ro [.int .i64, .int .i64, .int .i64], .ro [.int .i64], .ro [.int .i64]] := by kernel_rfl
set_option maxRecDepth 100000 in
theorem timetableKeeps_law : timetableKeepsLaw := fun xs hx =>
  law_true_wf hC (sp := sp7) (lp := lp7) (n := 12) ⟨ok15 11, ok16, ok31 6, ok30 6, ok18 10, ok32 10, ok29 9, trivial⟩ (by kernel_rfl) [8] (by kernel_rfl) (by kernel_rfl) (fun k hk L hL => by simp at hk; subst hk; cases hL; exact ok7_8)
    (ts := [3, 22, 25, 25]) (ks := s7.args) (by kernel_rfl) (of_decide_eq_true (by kernel_rfl)) (m := 4) (by kernel_rfl) (fun ds hl hw => by
      match ds, hl with
      | [a, b, c, d], _ =>
        rw [kinds7] at hw
        simp only [WfC, WfK] at hw
        exact law7 a b c d (rg_lt hw.2.2.1.2)) 12 xs hx
theorem timetable_keeps : Rows.TimetableKeepsSaid := timetableKeeps_over timetableKeeps_law
end Go.Proofs.Ytipbcpobnciccaa
