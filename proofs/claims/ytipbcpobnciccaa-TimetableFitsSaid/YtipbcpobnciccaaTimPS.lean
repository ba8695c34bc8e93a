/-
  Plans and tables: the document's checks answer as their words say.
-/
import Derived.Test.YtipbcpobnciccaaTimTreeS
import Derived.Test.YtipbcpobnciccaaTimPR
namespace Go.Proofs.Ytipbcpobnciccaa
open Go.Lite
set_option maxRecDepth 100000

theorem timed_of {l : List (List D)} {n : Int} (h : timedB l n = true) : (l.length : Int) = n ∧ ∀ k, k < l.length → 0 ≤ rg l k ∧ rg l k ≤ 1000000000 := by
  unfold timedB at h
  rw [Bool.and_eq_true, decide_eq_true_iff, allFrom_iff] at h
  exact ⟨h.1, fun k hk => of_decide_eq_true (h.2 k (Nat.zero_le _) (by omega))⟩
theorem fitH_of {f : Int} {du cl op ch : List (List D)} {r : Nat} (h : fitH f du cl op ch r = true) : (du.length = r + 1 ∧ ∀ k, k < du.length → 0 ≤ rg du k ∧ rg du k ≤ 1000000000) ∧ (cl.length = r ∧ ∀ k, k < cl.length → 0 ≤ rg cl k ∧ rg cl k ≤ 1000000000) ∧
    (op.length = r ∧ ∀ k, k < op.length → 0 ≤ rg op k ∧ rg op k ≤ 1000000000) ∧ ch.length = r ∧ f ≤ rg du 0 := by
  unfold fitH at h
  rw [Bool.and_eq_true, Bool.and_eq_true, Bool.and_eq_true, decide_eq_true_iff] at h
  obtain ⟨h1, h2, h3, h4, h5⟩ := h
  obtain ⟨a1, a2⟩ := timed_of h1
  obtain ⟨b1, b2⟩ := timed_of h2
  obtain ⟨c1, c2⟩ := timed_of h3
  exact ⟨⟨by omega, a2⟩, ⟨by omega, b2⟩, ⟨by omega, c2⟩, h4, h5⟩
theorem ok26_12 (n : Nat) : LoopSim C (n + 1) 26 (loopOf C.P 26 12) (mkL l26_12 G26_12) := by
  refine loop_ofK hC (sp := sp26) (lp := lp26) (sw := sw26) ⟨ok54 n, trivial⟩ trivial 0 [] (by kernel_rfl) rfl (fun k hk => by cases hk) (by kernel_rfl) (fun ds => (((ds.getD 12 default).L.length : Int) - (ds.getD 1 default).I).toNat) fun ds rr h => ?_
  unfold G26_12 at h
  split at h
  · rename_i i j c f w e1 e2 e3 e4 e5 e6 e7 l
    obtain ⟨hp, h⟩ := need_some h
    rw [yes_iff] at hp
    obtain ⟨hl, hi0, hi1⟩ := hp
    have hb := big_eq
    refine ⟨by rw [fuelC]; simp; omega, ?_⟩
    rw [show roundTK C (mkTab sp26 lp26 sw26) 26 (loopOf C.P 26 12) 0 l26_12 [i, j, c, f, w, e1, e2, e3, e4, e5, e6, e7, l] = _ from t26_12 i j c f w e1 e2 e3 e4 e5 e6 e7 l]
    obtain ⟨k, hk⟩ : ∃ k : Nat, j.I = k := ⟨j.I.toNat, by omega⟩
    simp only [hk, Int.toNat_natCast, Nat.reduceAdd, ix_def, within_dec] at h hi0 hi1 ⊢
    refine rd_if (fun hlt => ?_) fun hge => rd_out (all_end h (by omega))
    obtain ⟨s1, s2⟩ := all_step h (by omega : k < l.L.length)
    have e0 : hourB l.L k = decide ((0 ≤ ix (l.L.getD k []) 0 ∧ ix (l.L.getD k []) 0 ≤ ix (l.L.getD k []) 1) ∧ ix (l.L.getD k []) 1 ≤ 200000 ∧ 0 ≤ ix (l.L.getD k []) 2 ∧ ix (l.L.getD k []) 2 ≤ 200000) := rfl
    rw [e0] at s1 s2
    refine rd_dec (by omega) (rd_not (fun c1 => rd_out (s1 ?_)) fun c1 => rd_if (fun c2 => rd_out (s1 (decide_eq_false (by omega)))) fun c2 => rd_not (fun c3 => rd_out (s1 ?_)) fun c3 => ?_)
    · have c1 := of_decide_eq_false c1
      exact decide_eq_false (by omega)
    · have c3 := of_decide_eq_false c3
      exact decide_eq_false (by omega)
    · have c1 := of_decide_eq_true c1
      have c3 := of_decide_eq_true c3
      rw [wrap_succ (by omega)]
      exact rd_again ((need_yes ⟨hl, by simp only [I_i]; omega, by simp only [I_i, L_l]; omega⟩).trans (s2 (decide_eq_true (by omega)))) (show ((l.L.length : Int) - ((k + 1 : Nat) : Int)).toNat < ((l.L.length : Int) - j.I).toNat by omega)
  · cases h
theorem ok26_4 (n : Nat) : LoopSim C (n + 1) 26 (loopOf C.P 26 4) (mkL l26_4 G26_4) := by
  refine loop_ofK hC (sp := sp26) (lp := lp26) (sw := sw26) ⟨ok54 n, trivial⟩ trivial 0 [12] (by kernel_rfl) (by kernel_rfl) (fun k hk L hL => by simp at hk; subst hk; cases hL; exact ok26_12 n) (by kernel_rfl) (fun ds => (((ds.getD 3 default).L.length : Int) - (ds.getD 0 default).I).toNat) fun ds rr h => ?_
  unfold G26_4 at h
  split at h
  · rename_i i a b w
    obtain ⟨hp, h⟩ := need_some h
    rw [yes_iff] at hp
    obtain ⟨hl, hi0, hi1⟩ := hp
    have hb := big_eq
    refine ⟨by rw [fuelC]; simp; omega, ?_⟩
    rw [show roundTK C (mkTab sp26 lp26 sw26) 26 (loopOf C.P 26 4) 0 l26_4 [i, a, b, w] = _ from t26_4 i a b w]
    obtain ⟨k, hk⟩ : ∃ k : Nat, i.I = k := ⟨i.I.toNat, by omega⟩
    simp only [hk, Int.toNat_natCast, Int.toNat_zero, Nat.sub_zero, Nat.reduceAdd, ix_def, bx_def, lx_def, within_dec] at h hi0 hi1 ⊢
    refine rd_if (fun hlt => ?_) fun hge => rd_out (all_end h (by omega))
    obtain ⟨s1, s2⟩ := all_step h (by omega : k < w.L.length)
    have e0 : wayL w.L k = (wayC (w.L.getD k []) && (grpC (w.L.getD k []) (k == 0) (ix (w.L.getD (k - 1) []) 3) && hours (lx (w.L.getD k []) 7))) := rfl
    rw [e0] at s1 s2
    have hmu : ((w.L.length : Int) - ((k + 1 : Nat) : Int)).toNat < ((w.L.length : Int) - i.I).toNat := by omega
    have f1 : ¬ ((1 ≤ ix (w.L.getD k []) 0 ∧ ix (w.L.getD k []) 0 ≤ 1000) ∧ (0 ≤ ix (w.L.getD k []) 1 ∧ ix (w.L.getD k []) 1 ≤ 600) ∧ (0 ≤ ix (w.L.getD k []) 2 ∧ ix (w.L.getD k []) 2 ≤ 600) ∧ (1 ≤ ix (w.L.getD k []) 3 ∧ ix (w.L.getD k []) 3 ≤ 60) ∧
        (0 ≤ ix (w.L.getD k []) 5 ∧ ix (w.L.getD k []) 5 ≤ ix (w.L.getD k []) 6) ∧ ix (w.L.getD k []) 6 ≤ 1000 ∧ (lx (w.L.getD k []) 7).length ≤ 10) → some (Ex.ret, [D.b false]) = some rr := fun h => s1 (by rw [show wayC (w.L.getD k []) = false from decide_eq_false h]; rfl)
    refine rd_dec (by omega) (rd_not (fun c1 => ?_) fun c1 => rd_not (fun c2 => ?_) fun c2 => rd_not (fun c3 => ?_) fun c3 => rd_not (fun c4 => ?_) fun c4 => rd_if (fun c5 => rd_out (f1 (by omega))) fun c5 => rd_not (fun c6 => ?_) fun c6 => rd_if (fun c7 => rd_out (f1 (by omega))) fun c7 => ?_)
    · have c1 := of_decide_eq_false c1
      exact rd_out (f1 (by omega))
    · have c2 := of_decide_eq_false c2
      exact rd_out (f1 (by omega))
    · have c3 := of_decide_eq_false c3
      exact rd_out (f1 (by omega))
    · have c4 := of_decide_eq_false c4
      exact rd_out (f1 (by omega))
    · have c6 := of_decide_eq_false c6
      exact rd_out (f1 (by omega))
    · have c1 := of_decide_eq_true c1
      have c2 := of_decide_eq_true c2
      have c3 := of_decide_eq_true c3
      have c4 := of_decide_eq_true c4
      have c6 := of_decide_eq_true c6
      rw [show wayC (w.L.getD k []) = true from decide_eq_true (by omega), Bool.true_and] at s1 s2
      have f2 : grpC (w.L.getD k []) (k == 0) (ix (w.L.getD (k - 1) []) 3) = false → some (Ex.ret, [D.b false]) = some rr := fun h => s1 (by rw [h]; rfl)
      have f3 : grpC (w.L.getD k []) (k == 0) (ix (w.L.getD (k - 1) []) 3) = true → (allFrom (hourB (lx (w.L.getD k []) 7)) 0 (lx (w.L.getD k []) 7).length = false → some (Ex.ret, [D.b false]) = some rr) ∧
          (allFrom (hourB (lx (w.L.getD k []) 7)) 0 (lx (w.L.getD k []) 7).length = true → (G26_4 [.i ((k + 1 : Nat) : Int), .i a.I, .i b.I, .l w.L]).run = some rr) := fun h => by
        rw [h, Bool.true_and] at s1 s2
        exact ⟨s1, fun h' => (need_yes ⟨hl, by simp only [I_i]; omega, by simp only [I_i, L_l]; omega⟩).trans (s2 h')⟩
      rw [wrap_succ (by omega)]
      refine rd_ite (fun k0 => ?_) fun k0 => ?_
      · have k0 : k = 0 := by have := eq_of_beq k0; omega
        subst k0
        cases hb4 : bx (w.L.getD 0 []) 4 with
        | true => exact rd_true rfl (rd_out (f2 (by unfold grpC; rw [hb4]; rfl)))
        | false =>
          have g1 : ∀ q : Bool, decide (ix (w.L.getD 0 []) 5 = 0 ∧ ix (w.L.getD 0 []) 6 = 0) = q → grpC (w.L.getD 0 []) (0 == 0) (ix (w.L.getD (0 - 1) []) 3) = q := fun q e => by
            unfold grpC
            rw [hb4, e]
            cases q <;> rfl
          refine rd_false rfl (rd_true rfl (rd_ite (fun k1 => rd_out (f2 (g1 _ (decide_eq_false fun h => bne_t k1 h.1)))) fun k1 => rd_ite (fun k2 => rd_out (f2 (g1 _ (decide_eq_false fun h => bne_t k2 h.2)))) fun k2 => rd_neg (by omega) ?_))
          obtain ⟨f4, f5⟩ := f3 (g1 _ (decide_eq_true ⟨bne_f k1, bne_f k2⟩))
          exact rd_yes ⟨by omega, by first | trivial | omega, by omega⟩ (rd_ite (fun q => rd_again (f5 q) hmu) fun q => rd_out (f4 q))
      · have k0 : k ≠ 0 := by
          rintro rfl
          cases k0
        have k0' : (k == 0) = false := beq_eq_false_iff_ne.2 k0
        have hw1 : IntKind.i64.wrap ((k : Int) - 1) = ((k - 1 : Nat) : Int) := by rw [wrap_id (by omega) (by omega)]; omega
        rw [hw1]
        cases hb4 : bx (w.L.getD k []) 4 with
        | true =>
          obtain ⟨f4, f5⟩ := f3 (by unfold grpC; rw [hb4, k0']; rfl)
          exact rd_false rfl (rd_yes ⟨by omega, by first | trivial | omega, by omega⟩ (rd_ite (fun q => rd_again (f5 q) hmu) fun q => rd_out (f4 q)))
        | false =>
          have g1 : ∀ q : Bool, decide (ix (w.L.getD k []) 5 = 0 ∧ ix (w.L.getD k []) 6 = 0) = q → grpC (w.L.getD k []) (k == 0) (ix (w.L.getD (k - 1) []) 3) = (q && decide (ix (w.L.getD k []) 3 = ix (w.L.getD (k - 1) []) 3)) := fun q e => by
            unfold grpC
            rw [hb4, e, k0']
            rfl
          refine rd_true rfl (rd_ite (fun k1 => rd_out (f2 (by rw [g1 _ (decide_eq_false fun h => bne_t k1 h.1)]; rfl))) fun k1 => rd_ite (fun k2 => rd_out (f2 (by rw [g1 _ (decide_eq_false fun h => bne_t k2 h.2)]; rfl))) fun k2 => rd_pos (by omega) (rd_dec (by omega) ?_))
          have g2 := g1 _ (decide_eq_true ⟨bne_f k1, bne_f k2⟩)
          rw [Bool.true_and] at g2
          rw [Int.toNat_natCast]
          refine rd_ite (fun k3 => rd_out (f2 (by rw [g2]; exact decide_eq_false (bne_t k3)))) fun k3 => ?_
          obtain ⟨f4, f5⟩ := f3 (by rw [g2]; exact decide_eq_true (bne_f k3))
          exact rd_yes ⟨by omega, by first | trivial | omega, by omega⟩ (rd_ite (fun q => rd_again (f5 q) hmu) fun q => rd_out (f4 q))
  · cases h
theorem ok26 (n : Nat) : FnOK C (n + 2) 26 (mkF s26 G26) := by
  refine fn_ofS hC (sp := sp26) (lp := lp26) (sw := sw26) ⟨ok54 n, trivial⟩ trivial (by kernel_rfl) [4] (by kernel_rfl) (by kernel_rfl) (fun k hk L hL => by simp at hk; subst hk; cases hL; exact ok26_4 n) fun ds rr h => ?_
  unfold G26 at h
  split at h
  · rename_i c f w
    refine (congrArg T.run (t26 c f w)).trans ?_
    rw [← h]
    have hH : ∀ b : Bool, planH c.I f.I w.L = b → planB c.I f.I w.L = (b && allFrom (wayL w.L) 0 w.L.length) := fun b e => by unfold planB; rw [e]
    have f1 : ¬ ((1 ≤ c.I ∧ c.I ≤ 200) ∧ (1 ≤ w.L.length ∧ w.L.length ≤ 60) ∧ 0 ≤ f.I ∧ f.I ≤ 100000) → planB c.I f.I w.L = false := fun h => hH false (decide_eq_false h)
    simp only [within_dec, Int.toNat_zero, Nat.sub_zero]
    refine go_not (fun c1 => ?_) fun c1 => go_not (fun c2 => ?_) fun c2 => go_not (fun c3 => ?_) fun c3 => ?_
    · have c1 := of_decide_eq_false c1
      rw [f1 (by omega)]
    · have c2 := of_decide_eq_false c2
      rw [f1 (by omega)]
    · have c3 := of_decide_eq_false c3
      rw [f1 (by omega)]
    · have c1 := of_decide_eq_true c1
      have c2 := of_decide_eq_true c2
      have c3 := of_decide_eq_true c3
      rw [hH true (decide_eq_true (by omega)), Bool.true_and]
      exact go_yes ⟨by omega, by first | trivial | omega, by omega⟩ (go_ite (fun c => by rw [c]) fun c => by rw [c])
  · cases h
theorem ok27_5 (n : Nat) : LoopSim C (n + 2) 27 (loopOf C.P 27 5) (mkL l27_5 G27_5) := by
  refine loop_ofK hC (sp := sp27) (lp := lp27) (sw := sw27) ⟨ok59 n, ok60 (n + 1), ok54 (n + 1), trivial⟩ trivial 0 [] (by kernel_rfl) rfl (fun k hk => by cases hk) (by kernel_rfl) (fun ds => ((ds.getD 0 default).I + 1 - (ds.getD 1 default).I).toNat) fun ds rr h => ?_
  unfold G27_5 at h
  split at h
  · rename_i r j c f w du cl op ch
    obtain ⟨hp, h⟩ := need_some h
    rw [yes_iff] at hp
    obtain ⟨hT, hr, hi0, hi1⟩ := hp
    have hb := big_eq
    have hT' : okT c.I f.I w.L du.L cl.L op.L ch.L := hT
    obtain ⟨hpl, hfit⟩ := hT
    obtain ⟨⟨hd1, hd2⟩, -⟩ := fitH_of hfit
    have hlen := (plan_of hpl).2.1
    refine ⟨by rw [fuelC]; simp; omega, ?_⟩
    rw [show roundTK C (mkTab sp27 lp27 sw27) 27 (loopOf C.P 27 5) 0 l27_5 [r, j, c, f, w, du, cl, op, ch] = _ from t27_5 r j c f w du cl op ch]
    obtain ⟨k, hk⟩ : ∃ k : Nat, j.I = k := ⟨j.I.toNat, by omega⟩
    simp only [hk, hr, Int.toNat_natCast, Nat.reduceAdd, ix_def, bx_def, within_dec] at h hi0 hi1 ⊢
    refine rd_if (fun hlt => ?_) fun hge => rd_out (all_end h (by omega))
    obtain ⟨s1, s2⟩ := all_step h (by omega : k < w.L.length + 1)
    have hmu : ((w.L.length : Int) + 1 - ((k + 1 : Nat) : Int)).toNat < (r.I + 1 - j.I).toNat := by omega
    have hs2 : nextR c.I w.L du.L k = true → (G27_5 [.i (w.L.length : Int), .i ((k + 1 : Nat) : Int), .i c.I, .i f.I, .l w.L, .l du.L, .l cl.L, .l op.L, .l ch.L]).run = some rr := fun h' =>
      (need_yes ⟨hT', rfl, by simp only [I_i]; omega, by simp only [I_i]; omega⟩).trans (s2 h')
    rw [wrap_succ (by omega)]
    cases k with
    | zero => exact rd_true rfl (rd_again (hs2 rfl) hmu)
    | succ k =>
      have hw1 : IntKind.i64.wrap (((k + 1 : Nat) : Int) - 1) = (k : Int) := by rw [wrap_id (by omega) (by omega)]; omega
      have e0 : nextR c.I w.L du.L (k + 1) = nextB c.I w.L du.L k := rfl
      have e1 : k + 1 < w.L.length ∧ bx (w.L.getD (k + 1) []) 4 = true → nextR c.I w.L du.L (k + 1) = decide (ix (du.L.getD k []) 0 + ix (w.L.getD k []) 0 + spanF c.I (w.L.getD k []) + ix (w.L.getD (k + 1) []) 5 ≤ ix (du.L.getD (k + 1) []) 0 ∧ ix (du.L.getD (k + 1) []) 0 ≤ ix (du.L.getD k []) 0 + ix (w.L.getD k []) 0 + spanF c.I (w.L.getD k []) + ix (w.L.getD (k + 1) []) 6) :=
        fun h => by rw [e0]; unfold nextB; rw [if_pos h]; rfl
      have e2 : ¬ (k + 1 < w.L.length ∧ bx (w.L.getD (k + 1) []) 4 = true) → nextR c.I w.L du.L (k + 1) = decide (ix (du.L.getD (k + 1) []) 0 = ix (du.L.getD k []) 0 + ix (w.L.getD k []) 0) :=
        fun h => by rw [e0]; unfold nextB; rw [if_neg h]; rfl
      have hkl : k < w.L.length := by omega
      have d0 : 0 ≤ ix (du.L.getD k []) 0 ∧ ix (du.L.getD k []) 0 ≤ 1000000000 := hd2 k (by omega)
      have w0 := wayC_of (way_of hpl hkl).1
      have sp0 := span_of hpl hkl
      simp only [hw1, Int.toNat_natCast]
      have hsum : IntKind.i64.wrap (ix (du.L.getD k []) 0 + ix (w.L.getD k []) 0) = ix (du.L.getD k []) 0 + ix (w.L.getD k []) 0 := wrap_id (by omega) (by omega)
      refine rd_false (beq_eq_false_iff_ne.2 (by omega)) (rd_dec (by omega) (rd_dec (by omega) (rd_ite (fun k1 => ?_) fun k1 => ?_)))
      · have k1 : k + 1 = w.L.length := by have := eq_of_beq k1; omega
        have e3 := e2 (fun h => by omega)
        rw [hsum]
        exact rd_dec (by omega) (rd_ite (fun k2 => rd_out (s1 (by rw [e3]; exact decide_eq_false (bne_t k2)))) fun k2 => rd_again (hs2 (by rw [e3]; exact decide_eq_true (bne_f k2))) hmu)
      · have k1 : k + 1 < w.L.length := by
          have : k + 1 ≠ w.L.length := fun e => by rw [e] at k1; exact absurd (beq_self_eq_true _) (by rw [k1]; decide)
          omega
        refine rd_dec (by omega) (rd_not (fun k2 => ?_) fun k2 => ?_)
        · have e3 := e2 (fun h => by rw [h.2] at k2; cases k2)
          rw [hsum]
          exact rd_dec (by omega) (rd_ite (fun k3 => rd_out (s1 (by rw [e3]; exact decide_eq_false (bne_t k3)))) fun k3 => rd_again (hs2 (by rw [e3]; exact decide_eq_true (bne_f k3))) hmu)
        · have e3 := e1 ⟨k1, k2⟩
          have w1 := wayC_of (way_of hpl k1).1
          have hs3 : IntKind.i64.wrap (ix (du.L.getD k []) 0 + ix (w.L.getD k []) 0 + spanF c.I (w.L.getD k [])) = ix (du.L.getD k []) 0 + ix (w.L.getD k []) 0 + spanF c.I (w.L.getD k []) := wrap_id (by omega) (by omega)
          have hs4 : IntKind.i64.wrap (ix (du.L.getD k []) 0 + ix (w.L.getD k []) 0 + spanF c.I (w.L.getD k []) + ix (w.L.getD (k + 1) []) 5) = ix (du.L.getD k []) 0 + ix (w.L.getD k []) 0 + spanF c.I (w.L.getD k []) + ix (w.L.getD (k + 1) []) 5 := wrap_id (by omega) (by omega)
          have hs5 : IntKind.i64.wrap (ix (du.L.getD k []) 0 + ix (w.L.getD k []) 0 + spanF c.I (w.L.getD k []) + ix (w.L.getD (k + 1) []) 6) = ix (du.L.getD k []) 0 + ix (w.L.getD k []) 0 + spanF c.I (w.L.getD k []) + ix (w.L.getD (k + 1) []) 6 := wrap_id (by omega) (by omega)
          simp only [hsum, hs3, hs4, hs5]
          refine rd_dec (by omega) (rd_yes ⟨hpl, by omega, by omega⟩ (rd_dec (by omega) (rd_yes ⟨hpl, by omega, by omega⟩ (rd_dec (by omega) (rd_not (fun k3 => rd_out (s1 ?_)) fun k3 => rd_again (hs2 ?_) hmu)))))
          · rw [e3]; exact k3
          · rw [e3]; exact k3
  · cases h
theorem ok27_15 (n : Nat) : LoopSim C (n + 2) 27 (loopOf C.P 27 15) (mkL l27_15 G27_15) := by
  refine loop_ofK hC (sp := sp27) (lp := lp27) (sw := sw27) ⟨ok59 n, ok60 (n + 1), ok54 (n + 1), trivial⟩ trivial 0 [] (by kernel_rfl) rfl (fun k hk => by cases hk) (by kernel_rfl) (fun ds => ((ds.getD 0 default).I - (ds.getD 1 default).I).toNat) fun ds rr h => ?_
  unfold G27_15 at h
  split at h
  · rename_i r j c f w du cl op ch
    obtain ⟨hp, h⟩ := need_some h
    rw [yes_iff] at hp
    obtain ⟨hT, hr, hi0, hi1⟩ := hp
    have hT' : okT c.I f.I w.L du.L cl.L op.L ch.L := hT
    have hb := big_eq
    obtain ⟨hpl, hfit⟩ := hT
    obtain ⟨⟨hd1, hd2⟩, ⟨hc1, hc2⟩, ⟨ho1, ho2⟩, hh1, -⟩ := fitH_of hfit
    have hlen := (plan_of hpl).2.1
    refine ⟨by rw [fuelC]; simp; omega, ?_⟩
    rw [show roundTK C (mkTab sp27 lp27 sw27) 27 (loopOf C.P 27 15) 0 l27_15 [r, j, c, f, w, du, cl, op, ch] = _ from t27_15 r j c f w du cl op ch]
    obtain ⟨k, hk⟩ : ∃ k : Nat, j.I = k := ⟨j.I.toNat, by omega⟩
    simp only [hk, hr, Int.toNat_natCast, Nat.reduceAdd, ix_def, lx_def, within_dec] at h hi0 hi1 ⊢
    refine rd_if (fun hlt => ?_) fun hge => rd_out (all_end h (by omega))
    obtain ⟨s1, s2⟩ := all_step h (by omega : k < w.L.length)
    have hmu : ((w.L.length : Int) - ((k + 1 : Nat) : Int)).toNat < (r.I - j.I).toNat := by omega
    have hkl : k < w.L.length := by omega
    have d0 : 0 ≤ ix (du.L.getD k []) 0 ∧ ix (du.L.getD k []) 0 ≤ 1000000000 := hd2 k (by omega)
    have c0 : 0 ≤ ix (cl.L.getD k []) 0 ∧ ix (cl.L.getD k []) 0 ≤ 1000000000 := hc2 k (by omega)
    have o0 : 0 ≤ ix (op.L.getD k []) 0 ∧ ix (op.L.getD k []) 0 ≤ 1000000000 := ho2 k (by omega)
    have w0 := wayC_of (way_of hpl hkl).1
    have sp0 := span_of hpl hkl
    have hs2 : restB c.I w.L du.L cl.L op.L ch.L k = true → (G27_15 [.i (w.L.length : Int), .i ((k + 1 : Nat) : Int), .i c.I, .i f.I, .l w.L, .l du.L, .l cl.L, .l op.L, .l ch.L]).run = some rr := fun h' =>
      (need_yes ⟨hT', rfl, by simp only [I_i]; omega, by simp only [I_i]; omega⟩).trans (s2 h')
    have e0 : ∀ b : Bool, decide (ix (cl.L.getD k []) 0 ≤ ix (du.L.getD k []) 0 - ix (w.L.getD k []) 1 ∧ ix (du.L.getD k []) 0 + (spanF c.I (w.L.getD k []) + ix (w.L.getD k []) 0 + ix (w.L.getD k []) 2) ≤ ix (op.L.getD k []) 0) = b →
        restB c.I w.L du.L cl.L op.L ch.L k = (b && choB (lx (w.L.getD k []) 7) (ix (cl.L.getD k []) 0) (ix (op.L.getD k []) 0) (ix (ch.L.getD k []) 0)) := fun b e => by rw [← e]; rfl
    have hsub : IntKind.i64.wrap (ix (du.L.getD k []) 0 - ix (w.L.getD k []) 1) = ix (du.L.getD k []) 0 - ix (w.L.getD k []) 1 := wrap_id (by omega) (by omega)
    have ha1 : IntKind.i64.wrap (ix (du.L.getD k []) 0 + spanF c.I (w.L.getD k [])) = ix (du.L.getD k []) 0 + spanF c.I (w.L.getD k []) := wrap_id (by omega) (by omega)
    have ha2 : IntKind.i64.wrap (ix (du.L.getD k []) 0 + spanF c.I (w.L.getD k []) + ix (w.L.getD k []) 0) = ix (du.L.getD k []) 0 + spanF c.I (w.L.getD k []) + ix (w.L.getD k []) 0 := wrap_id (by omega) (by omega)
    have ha3 : IntKind.i64.wrap (ix (du.L.getD k []) 0 + spanF c.I (w.L.getD k []) + ix (w.L.getD k []) 0 + ix (w.L.getD k []) 2) = ix (du.L.getD k []) 0 + spanF c.I (w.L.getD k []) + ix (w.L.getD k []) 0 + ix (w.L.getD k []) 2 := wrap_id (by omega) (by omega)
    have hb1 : IntKind.i64.wrap (ix (op.L.getD k []) 0 - ix (cl.L.getD k []) 0) = ix (op.L.getD k []) 0 - ix (cl.L.getD k []) 0 := wrap_id (by omega) (by omega)
    have hl1 : IntKind.i64.wrap (((lx (w.L.getD k []) 7).length : Int) - 1) = ((lx (w.L.getD k []) 7).length : Int) - 1 := wrap_id (by omega) (by omega)
    simp only [hsub, ha1, ha2, ha3, hb1, hl1]
    rw [wrap_succ (by omega)]
    refine rd_dec (by omega) (rd_dec (by omega) (rd_dec (by omega) (rd_if (fun k1 => rd_out (s1 (by rw [e0 _ (decide_eq_false (by omega))]; rfl))) fun k1 => rd_dec (by omega) (rd_dec (by omega) (rd_yes ⟨hpl, by omega, by omega⟩ (rd_if (fun k2 => rd_out (s1 (by rw [e0 _ (decide_eq_false (by omega))]; rfl))) fun k2 => ?_))))))
    have e1 := e0 true (decide_eq_true (by omega))
    rw [Bool.true_and] at e1
    rw [e1] at s1 hs2
    unfold choB at s1 hs2
    refine rd_ite (fun k3 => ?_) fun k3 => ?_
    · have k3 : (lx (w.L.getD k []) 7).length = 0 := by have := eq_of_beq k3; omega
      rw [if_pos k3] at s1 hs2
      exact rd_dec (by omega) (rd_ite (fun k4 => rd_out (s1 (decide_eq_false (bne_t k4)))) fun k4 => rd_again (hs2 (decide_eq_true (bne_f k4))) hmu)
    · have k3 : ¬ (lx (w.L.getD k []) 7).length = 0 := fun e => by rw [e] at k3; exact absurd k3 (by decide)
      rw [if_neg k3] at s1 hs2
      refine rd_dec (by omega) (rd_not (fun k4 => rd_out (s1 ?_)) fun k4 => ?_)
      · have k4 := of_decide_eq_false k4
        exact decide_eq_false fun h => k4 h.1
      · have k4 := of_decide_eq_true k4
        exact rd_dec (by omega) (rd_dec (by omega) (rd_dec (by omega) (rd_if (fun k5 => rd_out (s1 (decide_eq_false (by omega)))) fun k5 => rd_dec (by omega) (rd_if (fun k6 => rd_out (s1 (decide_eq_false (by omega)))) fun k6 => rd_dec (by omega) (rd_dec (by omega)
          (rd_if (fun k7 => rd_out (s1 (decide_eq_false (by omega)))) fun k7 => rd_again (hs2 (decide_eq_true (by omega))) hmu))))))
  · cases h
theorem ok27 (n : Nat) : FnOK C (n + 3) 27 (mkF s27 G27) := by
  refine fn_ofS hC (sp := sp27) (lp := lp27) (sw := sw27) ⟨ok59 n, ok60 (n + 1), ok54 (n + 1), trivial⟩ trivial (by kernel_rfl) [5, 15] (by kernel_rfl) (by kernel_rfl) (fun k hk L hL => by
    simp at hk
    rcases hk with rfl | rfl
    · cases hL; exact ok27_5 n
    · cases hL; exact ok27_15 n) fun ds rr h => ?_
  unfold G27 at h
  split at h
  · rename_i c f w du cl op ch
    obtain ⟨hp, h⟩ := need_some h
    rw [yes_iff] at hp
    obtain ⟨hpl, g1, g2, g3, g4⟩ := hp
    have hlen := (plan_of hpl).2.1
    have hb := big_eq
    refine (congrArg T.run (t27 c f w du cl op ch)).trans ?_
    rw [← h]
    simp only [Int.toNat_zero, Nat.sub_zero, ix_def]
    rw [wrap_succ (by omega)]
    have hF : ∀ b : Bool, fitH f.I du.L cl.L op.L ch.L w.L.length = b → fitsR c.I f.I w.L du.L cl.L op.L ch.L = (b && (allFrom (nextR c.I w.L du.L) 0 (w.L.length + 1) && allFrom (restB c.I w.L du.L cl.L op.L ch.L) 0 w.L.length)) := fun b e => by unfold fitsR; rw [e]
    have e1 : fitH f.I du.L cl.L op.L ch.L w.L.length = (timedB du.L (((w.L.length + 1 : Nat) : Int)) && (timedB cl.L w.L.length && (timedB op.L w.L.length && decide (ch.L.length = w.L.length ∧ f.I ≤ ix (du.L.getD 0 []) 0)))) := rfl
    refine go_yes g1 (go_not (fun k1 => by rw [hF false (by rw [e1, k1]; rfl)]; rfl) fun k1 => go_yes g2 (go_not (fun k2 => by rw [hF false (by rw [e1, k1, k2]; rfl)]; rfl) fun k2 => go_yes g3 (go_not (fun k3 => by rw [hF false (by rw [e1, k1, k2, k3]; rfl)]; rfl) fun k3 => ?_)))
    rw [k1, k2, k3, Bool.true_and, Bool.true_and, Bool.true_and] at e1
    have hd1 := (timed_of k1).1
    refine go_ite (fun k4 => ?_) fun k4 => go_dec (by omega) (go_if (fun k5 => ?_) fun k5 => ?_)
    · have k4 := bne_t k4
      rw [hF false (by rw [e1]; exact decide_eq_false (by omega))]; rfl
    · rw [hF false (by rw [e1]; exact decide_eq_false (by omega))]; rfl
    · have k4 := bne_f k4
      have hfit : fitH f.I du.L cl.L op.L ch.L w.L.length = true := by rw [e1]; exact decide_eq_true (by omega)
      rw [hF true hfit, Bool.true_and]
      refine go_yes ⟨⟨hpl, hfit⟩, by first | trivial | omega, by first | trivial | omega, by omega⟩ (go_ite (fun k6 => go_yes ⟨⟨hpl, hfit⟩, by first | trivial | omega, by first | trivial | omega, by omega⟩ (go_ite (fun k7 => by rw [k6, k7]; rfl) fun k7 => by rw [k6, k7]; rfl)) fun k6 => by rw [k6]; rfl)
  · cases h
theorem ok38 (n : Nat) : FnOK C (n + 8) 38 (mkF s38 G38) := by
  refine fn_ofS hC (sp := sp38) (lp := lp38) (sw := sw38) ⟨ok41 (n + 1), ok70 n, ok48 (n + 6), trivial⟩ trivial (by kernel_rfl) [] (by kernel_rfl) rfl (fun k hk => by cases hk) fun ds rr h => ?_
  unfold G38 at h
  split at h
  · rename_i c f w du q1 q2 q3 car at'
    obtain ⟨hp, h⟩ := need_some h
    rw [yes_iff] at hp
    have hb := big_eq
    refine (congrArg T.run (t38 c f w du q1 q2 q3 car at')).trans ?_
    rw [← h]
    unfold dueB
    simp only [within_dec, ix_def, Nat.reduceAdd]
    cases hpl : planB c.I f.I w.L with
    | false => exact go_true rfl rfl
    | true =>
      have hlen := plan_of hpl
      have hl1 : IntKind.i64.wrap ((w.L.length : Int) - 1) = (w.L.length : Int) - 1 := wrap_id (by omega) (by omega)
      have hc1 : IntKind.i64.wrap (c.I - 1) = c.I - 1 := wrap_id (by omega) (by omega)
      have hl2 : IntKind.i64.wrap ((w.L.length : Int) + 1) = (w.L.length : Int) + 1 := wrap_id (by omega) (by omega)
      simp only [hl1, hl2, hc1]
      refine go_false rfl (go_yes hp (go_not (fun k1 => by rw [k1]; rfl) fun k1 => ?_))
      obtain ⟨hd1, hd2⟩ := timed_of k1
      rw [k1, Bool.true_and]
      refine go_not (fun k2 => ?_) fun k2 => go_not (fun k3 => ?_) fun k3 => ?_
      · have k2 := of_decide_eq_false k2
        rw [decide_eq_false (show ¬ ((0 ≤ car.I ∧ car.I ≤ c.I - 1) ∧ 0 ≤ at'.I ∧ at'.I ≤ (w.L.length : Int) - 1) by omega)]; rfl
      · have k3 := of_decide_eq_false k3
        rw [decide_eq_false (show ¬ ((0 ≤ car.I ∧ car.I ≤ c.I - 1) ∧ 0 ≤ at'.I ∧ at'.I ≤ (w.L.length : Int) - 1) by omega)]; rfl
      · have k2 := of_decide_eq_true k2
        have k3 := of_decide_eq_true k3
        rw [decide_eq_true (show (0 ≤ car.I ∧ car.I ≤ c.I - 1) ∧ 0 ≤ at'.I ∧ at'.I ≤ (w.L.length : Int) - 1 by omega)]
        have d0 : 0 ≤ ix (du.L.getD at'.I.toNat []) 0 ∧ ix (du.L.getD at'.I.toNat []) 0 ≤ 1000000000 := hd2 _ (by omega)
        have w0 := wayC_of (way_of hpl (k := at'.I.toNat) (by omega)).1
        have hm : 0 ≤ car.I * ix (w.L.getD at'.I.toNat []) 3 ∧ car.I * ix (w.L.getD at'.I.toNat []) 3 ≤ 12000 := by
          constructor
          · exact Int.mul_nonneg (by omega) (by omega)
          · have := Int.mul_le_mul (show car.I ≤ 200 by omega) (show ix (w.L.getD at'.I.toNat []) 3 ≤ 60 by omega) (by omega) (by omega)
            omega
        refine go_dec (by omega) (go_dec (by omega) (go_dec (by omega) ?_))
        unfold dueF rg
        rw [wrap_id (x := car.I * ix (w.L.getD at'.I.toNat []) 3) (by omega) (by omega), wrap_id (x := ix (du.L.getD at'.I.toNat []) 0 + car.I * ix (w.L.getD at'.I.toNat []) 3) (by omega) (by omega), wrap_id (by omega) (by omega)]
        rfl
  · cases h
end Go.Proofs.Ytipbcpobnciccaa
