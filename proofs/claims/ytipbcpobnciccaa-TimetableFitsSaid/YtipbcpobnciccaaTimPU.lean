/-
  Tables that keep a plan: the program's check answers as its word says.
-/
import Derived.Test.YtipbcpobnciccaaTimTreeU
import Derived.Test.YtipbcpobnciccaaTimPS
namespace Go.Proofs.Ytipbcpobnciccaa
open Go.Lite
set_option maxRecDepth 100000

theorem ok44_5 (n : Nat) : LoopSim C (n + 7) 44 (loopOf C.P 44 5) (mkL l44_5 G44_5) := by
  refine loop_ofK hC (sp := sp44) (lp := lp44) (sw := sw44) ⟨ok41 (n + 1), ok70 n, ok48 (n + 6), ok73 (n + 6), trivial⟩ trivial 0 [] (by kernel_rfl) rfl (fun k hk => by cases hk) (by kernel_rfl) (fun ds => ((ds.getD 2 default).I - (ds.getD 3 default).I).toNat) fun ds rr h => ?_
  unfold G44_5 at h
  split at h
  · rename_i r w m j c f w' du cl op ch
    obtain ⟨hp, h⟩ := need_some h
    rw [yes_iff] at hp
    obtain ⟨hT, hw, hr, hm, hi0, hi1⟩ := hp
    have hT' : okT c.I f.I w.L du.L cl.L op.L ch.L := hT
    have hb := big_eq
    obtain ⟨hpl, hfit⟩ := hT
    obtain ⟨⟨hd1, hd2⟩, ⟨hc1, hc2⟩, ⟨ho1, ho2⟩, hh1, -⟩ := fitH_of hfit
    have hlen := (plan_of hpl).2.1
    have hcar := (plan_of hpl).1
    refine ⟨by rw [fuelC]; simp; omega, ?_⟩
    rw [show roundTK C (mkTab sp44 lp44 sw44) 44 (loopOf C.P 44 5) 0 l44_5 [r, w, m, j, c, f, w', du, cl, op, ch] = _ from t44_5 r w m j c f w' du cl op ch]
    obtain ⟨k, hk⟩ : ∃ k : Nat, j.I = k := ⟨j.I.toNat, by omega⟩
    simp only [hk, hr, hm, hw, Int.toNat_natCast, Nat.reduceAdd, ix_def, bx_def, lx_def, within_dec] at h hi0 hi1 ⊢
    refine rd_if (fun hlt => ?_) fun hge => rd_out (all_end h (by omega))
    obtain ⟨s1, s2⟩ := all_step h (by omega : k < w.L.length)
    have hmu : ((w.L.length : Int) - ((k + 1 : Nat) : Int)).toNat < (m.I - j.I).toNat := by omega
    have hkl : k < w.L.length := by omega
    have d0 : 0 ≤ ix (du.L.getD k []) 0 ∧ ix (du.L.getD k []) 0 ≤ 1000000000 := hd2 k (by omega)
    have d1 : 0 ≤ ix (du.L.getD (k + 1) []) 0 ∧ ix (du.L.getD (k + 1) []) 0 ≤ 1000000000 := hd2 (k + 1) (by omega)
    have c0 : 0 ≤ ix (cl.L.getD k []) 0 ∧ ix (cl.L.getD k []) 0 ≤ 1000000000 := hc2 k (by omega)
    have o0 : 0 ≤ ix (op.L.getD k []) 0 ∧ ix (op.L.getD k []) 0 ≤ 1000000000 := ho2 k (by omega)
    have w0 := wayC_of (way_of hpl hkl).1
    have sp0 := span_of hpl hkl
    have hs2 : bothB c.I w.L du.L cl.L op.L ch.L k = true → (G44_5 [.i (w.L.length : Int), .l w.L, .i (w.L.length : Int), .i ((k + 1 : Nat) : Int), .i c.I, .i f.I, .l w.L, .l du.L, .l cl.L, .l op.L, .l ch.L]).run = some rr := fun h' =>
      (need_yes ⟨hT', rfl, rfl, rfl, by simp only [I_i]; omega, by simp only [I_i, L_l]; omega⟩).trans (s2 h')
    have e0 : ∀ {b : Bool}, nextB c.I w.L du.L k = b → bothB c.I w.L du.L cl.L op.L ch.L k = (b && restB c.I w.L du.L cl.L op.L ch.L k) := fun e => by unfold bothB; rw [e]
    have r0 : ∀ b : Bool, decide (ix (cl.L.getD k []) 0 ≤ ix (du.L.getD k []) 0 - ix (w.L.getD k []) 1 ∧ ix (du.L.getD k []) 0 + busyF c.I (w.L.getD k []) ≤ ix (op.L.getD k []) 0) = b →
        (true && restB c.I w.L du.L cl.L op.L ch.L k) = (b && choB (lx (w.L.getD k []) 7) (ix (cl.L.getD k []) 0) (ix (op.L.getD k []) 0) (ix (ch.L.getD k []) 0)) := fun b e => by rw [← e]; rfl
    have n1 : k + 1 < w.L.length ∧ bx (w.L.getD (k + 1) []) 4 = true → nextB c.I w.L du.L k = decide (ix (du.L.getD k []) 0 + ix (w.L.getD k []) 0 + spanF c.I (w.L.getD k []) + ix (w.L.getD (k + 1) []) 5 ≤ ix (du.L.getD (k + 1) []) 0 ∧ ix (du.L.getD (k + 1) []) 0 ≤ ix (du.L.getD k []) 0 + ix (w.L.getD k []) 0 + spanF c.I (w.L.getD k []) + ix (w.L.getD (k + 1) []) 6) :=
      fun h => by unfold nextB; rw [if_pos h]; rfl
    have n2 : ¬ (k + 1 < w.L.length ∧ bx (w.L.getD (k + 1) []) 4 = true) → nextB c.I w.L du.L k = decide (ix (du.L.getD (k + 1) []) 0 = ix (du.L.getD k []) 0 + ix (w.L.getD k []) 0) :=
      fun h => by unfold nextB; rw [if_neg h]; rfl
    have hbusy : busyF c.I (w.L.getD k []) = spanF c.I (w.L.getD k []) + ix (w.L.getD k []) 0 + ix (w.L.getD k []) 2 := rfl
    have hw1 : IntKind.i64.wrap ((k : Int) + 1) = ((k + 1 : Nat) : Int) := wrap_succ (by omega)
    have hcm : IntKind.i64.wrap (c.I - 1) = c.I - 1 := wrap_id (by omega) (by omega)
    have hspan : (c.I - 1) * ix (w.L.getD k []) 3 = spanF c.I (w.L.getD k []) := rfl
    have hspan2 : IntKind.i64.wrap (spanF c.I (w.L.getD k [])) = spanF c.I (w.L.getD k []) := wrap_id (by omega) (by omega)
    have hsum : IntKind.i64.wrap (ix (du.L.getD k []) 0 + ix (w.L.getD k []) 0) = ix (du.L.getD k []) 0 + ix (w.L.getD k []) 0 := wrap_id (by omega) (by omega)
    have hsub : IntKind.i64.wrap (ix (du.L.getD k []) 0 - ix (w.L.getD k []) 1) = ix (du.L.getD k []) 0 - ix (w.L.getD k []) 1 := wrap_id (by omega) (by omega)
    have ha1 : IntKind.i64.wrap (ix (du.L.getD k []) 0 + busyF c.I (w.L.getD k [])) = ix (du.L.getD k []) 0 + busyF c.I (w.L.getD k []) := wrap_id (by omega) (by omega)
    have hb1 : IntKind.i64.wrap (ix (op.L.getD k []) 0 - ix (cl.L.getD k []) 0) = ix (op.L.getD k []) 0 - ix (cl.L.getD k []) 0 := wrap_id (by omega) (by omega)
    have hl1 : IntKind.i64.wrap (((lx (w.L.getD k []) 7).length : Int) - 1) = ((lx (w.L.getD k []) 7).length : Int) - 1 := wrap_id (by omega) (by omega)
    have hs3 : IntKind.i64.wrap (ix (du.L.getD k []) 0 + ix (w.L.getD k []) 0 + spanF c.I (w.L.getD k [])) = ix (du.L.getD k []) 0 + ix (w.L.getD k []) 0 + spanF c.I (w.L.getD k []) := wrap_id (by omega) (by omega)
    simp only [hw1, hcm, hspan, hspan2, hsum, hsub, ha1, hb1, hl1, hs3, Int.toNat_natCast]
    refine rd_dec (by omega) (rd_dec (by omega) (rd_dec (by omega) (rd_if (fun a1 => ?_) fun a1 => ?_)))
    · have a1 : k + 1 < w.L.length := by omega
      refine rd_dec (by omega) (rd_ite (fun a2 => ?_) fun a2 => ?_)
      · have w1 := wayC_of (way_of hpl a1).1
        have hs4 : IntKind.i64.wrap (ix (du.L.getD k []) 0 + ix (w.L.getD k []) 0 + spanF c.I (w.L.getD k []) + ix (w.L.getD (k + 1) []) 5) = ix (du.L.getD k []) 0 + ix (w.L.getD k []) 0 + spanF c.I (w.L.getD k []) + ix (w.L.getD (k + 1) []) 5 := wrap_id (by omega) (by omega)
        have hs5 : IntKind.i64.wrap (ix (du.L.getD k []) 0 + ix (w.L.getD k []) 0 + spanF c.I (w.L.getD k []) + ix (w.L.getD (k + 1) []) 6) = ix (du.L.getD k []) 0 + ix (w.L.getD k []) 0 + spanF c.I (w.L.getD k []) + ix (w.L.getD (k + 1) []) 6 := wrap_id (by omega) (by omega)
        simp only [hs4, hs5]
        refine rd_dec (by omega) (rd_dec (by omega) (rd_not (fun a3 => rd_out (s1 (by rw [e0 ((n1 ⟨a1, a2⟩).trans a3)]; rfl))) fun a3 => ?_))
        have e1 := e0 ((n1 ⟨a1, a2⟩).trans a3)
        refine rd_dec (by omega) (rd_dec (by omega) (rd_if (fun k1 => rd_out (s1 (by rw [e1, r0 _ (decide_eq_false (by omega))]; rfl))) fun k1 => rd_dec (by omega) (rd_dec (by omega) (rd_yes ⟨hpl, by omega, by omega⟩ (rd_if (fun k2 => rd_out (s1 (by rw [e1, r0 _ (decide_eq_false (by omega))]; rfl))) fun k2 => rd_dec (by omega) ?_)))))
        have e2 := e1.trans (r0 true (decide_eq_true (by omega)))
        rw [Bool.true_and] at e2
        rw [e2] at s1 hs2
        unfold choB at s1 hs2
        refine rd_ite (fun k3 => ?_) fun k3 => ?_
        · have k3 : (lx (w.L.getD k []) 7).length = 0 := by have := eq_of_beq k3; omega
          rw [if_pos k3] at s1 hs2
          exact rd_ite (fun k4 => rd_out (s1 (decide_eq_false (bne_t k4)))) fun k4 => rd_again (hs2 (decide_eq_true (bne_f k4))) hmu
        · have k3 : ¬ (lx (w.L.getD k []) 7).length = 0 := fun e => by rw [e] at k3; exact absurd k3 (by decide)
          rw [if_neg k3] at s1 hs2
          refine rd_not (fun k4 => rd_out (s1 ?_)) fun k4 => ?_
          · have k4 := of_decide_eq_false k4
            exact decide_eq_false fun h => k4 h.1
          · have k4 := of_decide_eq_true k4
            exact rd_dec (by omega) (rd_dec (by omega) (rd_if (fun k5 => rd_out (s1 (decide_eq_false (by omega)))) fun k5 => rd_dec (by omega) (rd_if (fun k6 => rd_out (s1 (decide_eq_false (by omega)))) fun k6 => rd_dec (by omega) (rd_dec (by omega)
              (rd_if (fun k7 => rd_out (s1 (decide_eq_false (by omega)))) fun k7 => rd_again (hs2 (decide_eq_true (by omega))) hmu)))))
      · have n3 := n2 (fun h => by rw [h.2] at a2; cases a2)
        refine rd_ite (fun a3 => rd_out (s1 (by rw [e0 (n3.trans (decide_eq_false (bne_t a3)))]; rfl))) fun a3 => ?_
        have e1 := e0 (n3.trans (decide_eq_true (bne_f a3)))
        refine rd_dec (by omega) (rd_dec (by omega) (rd_if (fun k1 => rd_out (s1 (by rw [e1, r0 _ (decide_eq_false (by omega))]; rfl))) fun k1 => rd_dec (by omega) (rd_dec (by omega) (rd_yes ⟨hpl, by omega, by omega⟩ (rd_if (fun k2 => rd_out (s1 (by rw [e1, r0 _ (decide_eq_false (by omega))]; rfl))) fun k2 => rd_dec (by omega) ?_)))))
        have e2 := e1.trans (r0 true (decide_eq_true (by omega)))
        rw [Bool.true_and] at e2
        rw [e2] at s1 hs2
        unfold choB at s1 hs2
        refine rd_ite (fun k3 => ?_) fun k3 => ?_
        · have k3 : (lx (w.L.getD k []) 7).length = 0 := by have := eq_of_beq k3; omega
          rw [if_pos k3] at s1 hs2
          exact rd_ite (fun k4 => rd_out (s1 (decide_eq_false (bne_t k4)))) fun k4 => rd_again (hs2 (decide_eq_true (bne_f k4))) hmu
        · have k3 : ¬ (lx (w.L.getD k []) 7).length = 0 := fun e => by rw [e] at k3; exact absurd k3 (by decide)
          rw [if_neg k3] at s1 hs2
          refine rd_not (fun k4 => rd_out (s1 ?_)) fun k4 => ?_
          · have k4 := of_decide_eq_false k4
            exact decide_eq_false fun h => k4 h.1
          · have k4 := of_decide_eq_true k4
            exact rd_dec (by omega) (rd_dec (by omega) (rd_if (fun k5 => rd_out (s1 (decide_eq_false (by omega)))) fun k5 => rd_dec (by omega) (rd_if (fun k6 => rd_out (s1 (decide_eq_false (by omega)))) fun k6 => rd_dec (by omega) (rd_dec (by omega)
              (rd_if (fun k7 => rd_out (s1 (decide_eq_false (by omega)))) fun k7 => rd_again (hs2 (decide_eq_true (by omega))) hmu)))))
    · have n3 := n2 (fun h => by omega)
      refine rd_ite (fun a3 => rd_out (s1 (by rw [e0 (n3.trans (decide_eq_false (bne_t a3)))]; rfl))) fun a3 => ?_
      have e1 := e0 (n3.trans (decide_eq_true (bne_f a3)))
      refine rd_dec (by omega) (rd_dec (by omega) (rd_if (fun k1 => rd_out (s1 (by rw [e1, r0 _ (decide_eq_false (by omega))]; rfl))) fun k1 => rd_dec (by omega) (rd_dec (by omega) (rd_yes ⟨hpl, by omega, by omega⟩ (rd_if (fun k2 => rd_out (s1 (by rw [e1, r0 _ (decide_eq_false (by omega))]; rfl))) fun k2 => rd_dec (by omega) ?_)))))
      have e2 := e1.trans (r0 true (decide_eq_true (by omega)))
      rw [Bool.true_and] at e2
      rw [e2] at s1 hs2
      unfold choB at s1 hs2
      refine rd_ite (fun k3 => ?_) fun k3 => ?_
      · have k3 : (lx (w.L.getD k []) 7).length = 0 := by have := eq_of_beq k3; omega
        rw [if_pos k3] at s1 hs2
        exact rd_ite (fun k4 => rd_out (s1 (decide_eq_false (bne_t k4)))) fun k4 => rd_again (hs2 (decide_eq_true (bne_f k4))) hmu
      · have k3 : ¬ (lx (w.L.getD k []) 7).length = 0 := fun e => by rw [e] at k3; exact absurd k3 (by decide)
        rw [if_neg k3] at s1 hs2
        refine rd_not (fun k4 => rd_out (s1 ?_)) fun k4 => ?_
        · have k4 := of_decide_eq_false k4
          exact decide_eq_false fun h => k4 h.1
        · have k4 := of_decide_eq_true k4
          exact rd_dec (by omega) (rd_dec (by omega) (rd_if (fun k5 => rd_out (s1 (decide_eq_false (by omega)))) fun k5 => rd_dec (by omega) (rd_if (fun k6 => rd_out (s1 (decide_eq_false (by omega)))) fun k6 => rd_dec (by omega) (rd_dec (by omega)
            (rd_if (fun k7 => rd_out (s1 (decide_eq_false (by omega)))) fun k7 => rd_again (hs2 (decide_eq_true (by omega))) hmu)))))
  · cases h
theorem ok44 (n : Nat) : FnOK C (n + 8) 44 (mkF s44 G44) := by
  refine fn_ofS hC (sp := sp44) (lp := lp44) (sw := sw44) ⟨ok41 (n + 1), ok70 n, ok48 (n + 6), ok73 (n + 6), trivial⟩ trivial (by kernel_rfl) [5] (by kernel_rfl) (by kernel_rfl) (fun k hk L hL => by simp at hk; subst hk; cases hL; exact ok44_5 n) fun ds rr h => ?_
  unfold G44 at h
  split at h
  · rename_i c f w du cl op ch
    obtain ⟨hp, h⟩ := need_some h
    rw [yes_iff] at hp
    obtain ⟨g1, g2, g3, g4⟩ := hp
    have hb := big_eq
    refine (congrArg T.run (t44 c f w du cl op ch)).trans ?_
    rw [← h]
    unfold fitsP
    cases hpl : planB c.I f.I w.L with
    | false => exact go_true rfl rfl
    | true =>
    have hlen := (plan_of hpl).2.1
    simp only [Int.toNat_zero, Nat.sub_zero, ix_def]
    rw [wrap_succ (by omega), Bool.true_and]
    have e1 : fitH f.I du.L cl.L op.L ch.L w.L.length = (timedB du.L (((w.L.length + 1 : Nat) : Int)) && (timedB cl.L w.L.length && (timedB op.L w.L.length && decide (ch.L.length = w.L.length ∧ f.I ≤ ix (du.L.getD 0 []) 0)))) := rfl
    refine go_false rfl (go_yes g1 (go_not (fun k1 => by rw [e1, k1]; rfl) fun k1 => go_yes g2 (go_not (fun k2 => by rw [e1, k1, k2]; rfl) fun k2 => go_yes g3 (go_not (fun k3 => by rw [e1, k1, k2, k3]; rfl) fun k3 => ?_))))
    rw [k1, k2, k3, Bool.true_and, Bool.true_and, Bool.true_and] at e1
    have hd1 := (timed_of k1).1
    refine go_ite (fun k4 => ?_) fun k4 => go_dec (by omega) (go_if (fun k5 => ?_) fun k5 => ?_)
    · have k4 := bne_t k4
      rw [e1, decide_eq_false (show ¬ (ch.L.length = w.L.length ∧ f.I ≤ ix (du.L.getD 0 []) 0) by omega)]; rfl
    · rw [e1, decide_eq_false (show ¬ (ch.L.length = w.L.length ∧ f.I ≤ ix (du.L.getD 0 []) 0) by omega)]; rfl
    · have k4 := bne_f k4
      have hfit : fitH f.I du.L cl.L op.L ch.L w.L.length = true := by rw [e1]; exact decide_eq_true (by omega)
      rw [hfit, Bool.true_and]
      have e3 : (fun j => nextB c.I w.L du.L j && restB c.I w.L du.L cl.L op.L ch.L j) = bothB c.I w.L du.L cl.L op.L ch.L := rfl
      rw [e3]
      exact go_yes ⟨⟨hpl, hfit⟩, by first | trivial | omega, by first | trivial | omega, by first | trivial | omega, by first | trivial | omega, by omega⟩ (go_ite (fun k6 => by rw [k6]) fun k6 => by rw [k6])
  · cases h
end Go.Proofs.Ytipbcpobnciccaa
