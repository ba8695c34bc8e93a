/-
  What is yielded from a place.
-/
import Derived.Test.YtgmefblkmidglaaResPA
namespace Go.Proofs.Ytgmefblkmidglaa
open Go.Lite
set_option maxRecDepth 100000
theorem entF_okS {l : List (List D)} {c : Int} (hl : okC l) : ∀ (k i : Nat) (s : Int), okS s → okS (entF l c i k s)
  | 0, _, _, h => h
  | k + 1, i, s, h => by
    simp only [entF]
    split
    · exact entF_okS hl k _ _ (okS_of hl)
    · exact entF_okS hl k _ _ h
theorem nextF_step {r : List (List D)} {v t : Int} {j : Nat} (hj : j < r.length) : nextF r v t j (r.length - j) = if ix (r.getD j []) 0 = v then [.i (ix (r.getD j []) 1), .i (entW (r.getD j []) t + ix (r.getD j []) 2)] :: nextF r v t (j + 1) (r.length - (j + 1)) else nextF r v t (j + 1) (r.length - (j + 1)) := by
  rw [show r.length - j = (r.length - (j + 1)) + 1 by omega]
  rfl
theorem ok75_1 (q n : Nat) : LoopSimY C (n + 1) 2 75 (loopOf C.P 75 1) (some y75) q (mkLY 2 l75_1 (G75_1 q)) := by
  refine loop_ofY hC (sp := sp75) (lp := lp75 q) (sw := sw75) (Y := y75) (yOK_mk _ _ _) ⟨ok51 n, trivial⟩ trivial 2 [] (by kernel_rfl) rfl (by kernel_rfl) (fun k hk => by cases hk) (by kernel_rfl) (fun ds => ((ds.getD 2 default).I - (ds.getD 3 default).I).toNat) fun ds rr h => ?_
  unfold G75_1 at h
  split at h
  · rename_i g r m i v t
    obtain ⟨hp, h⟩ := need_some h
    rw [yes_iff] at hp
    obtain ⟨hr, ht, hm, hi0, hi1, hg⟩ := hp
    have hrl := hr.1
    refine ⟨by rw [fuelC]; simp; omega, ?_⟩
    rw [show roundTY C (mkTabY sp75 (lp75 q) sw75 y75 q) 75 (loopOf C.P 75 1) 2 l75_1 [g, r, m, i, v, t] = _ from t75_1 q g r m i v t]
    obtain ⟨j, hj⟩ : ∃ j : Nat, i.I = j := ⟨i.I.toNat, by omega⟩
    have hq : (tab75 q).q = q := rfl
    simp only [hj, hm, Int.toNat_natCast, ix_def, lx_def, Nat.reduceAdd, hq] at h hi0 hi1 ⊢
    have hnext : ∀ {G' : List (List D)}, G'.length ≤ q → ((T.ite (decide (q < G'.length + (nextF r.L v.I t.I (j + 1) (r.L.length - (j + 1))).length)) (T.leaf (Ex.ret, [D.l (G' ++ (nextF r.L v.I t.I (j + 1) (r.L.length - (j + 1))).take (q + 1 - G'.length)), D.i v.I, D.i t.I]))
        (T.leaf (Ex.exit 0, [D.l (G' ++ nextF r.L v.I t.I (j + 1) (r.L.length - (j + 1))), D.i v.I, D.i t.I]))).run = some rr) → j < r.L.length → (G75_1 q [D.l G', D.l r.L, D.i (r.L.length : Int), D.i ((j + 1 : Nat) : Int), D.i v.I, D.i t.I]).run = some rr := fun {G'} hG' h hlt => by
      refine (need_yes ⟨hr, ht, by simp only [I_i, L_l], by simp only [I_i]; omega, by simp only [I_i, L_l]; omega, hG'⟩).trans ?_
      simp only [I_i, L_l, Int.toNat_natCast]
      exact h
    have hmu : j < r.L.length → ((r.L.length : Int) - ((j + 1 : Nat) : Int)).toNat < (m.I - i.I).toNat := fun _ => by rw [hj, hm]; omega
    refine rd_if (fun hlt => ?_) fun hge => ?_
    · have hlt : j < r.L.length := by omega
      rw [nextF_step hlt] at h
      obtain ⟨hs, hc⟩ := hr.2 j hlt
      have he := entF_okS (c := ix (r.L.getD j []) 2) hc (lx (r.L.getD j []) 3).length 0 t.I ht
      unfold okS okT at *
      rw [wrap_succ (by omega)]
      refine rd_dec (by omega) (rd_ite (fun c1 => ?_) fun c1 => ?_)
      · rw [beq_iff_eq] at c1
        rw [if_pos c1] at h
        simp only [List.length_cons] at h
        rw [wrap_id (by omega) (by omega)]
        refine rd_yes ⟨hs, ht, hc⟩ (rd_ite (fun c2 => ?_) fun c2 => ?_)
        · rw [Bool.not_not] at c2
          have c2 : g.L.length = q := by simpa using c2
          rw [run_ite, if_pos (by simp; omega)] at h
          rw [show q + 1 - g.L.length = 1 by omega] at h
          exact rd_out h
        · rw [Bool.not_not] at c2
          have c2 : g.L.length ≠ q := by
            have : ¬ (g.L.length == q) = true := by rw [show (g.L.length == q) = false from c2]; simp
            simpa using this
          refine rd_again (hnext (by simp; omega) ?_ hlt) (hmu hlt)
          simp only [List.length_append, List.length_cons, List.length_nil, List.append_nil, List.append_assoc, List.cons_append, List.nil_append]
          rw [show q + 1 - g.L.length = (q + 1 - (g.L.length + (0 + 1))) + 1 by omega, List.take_succ_cons] at h
          rw [show g.L.length + (0 + 1) + (nextF r.L v.I t.I (j + 1) (r.L.length - (j + 1))).length = g.L.length + ((nextF r.L v.I t.I (j + 1) (r.L.length - (j + 1))).length + 1) by omega]
          exact h
      · rw [beq_eq_false_iff_ne] at c1
        rw [if_neg c1] at h
        exact rd_again (hnext hg h hlt) (hmu hlt)
    · rw [show r.L.length - j = 0 by omega] at h
      simp only [nextF, List.length_nil, List.append_nil] at h
      rw [run_ite] at h
      split at h
      · rename_i hc
        have := of_decide_eq_true hc
        omega
      · exact rd_out h
  · cases h
theorem ok75 (n : Nat) : IterOK C (n + 2) 75 y75 (mkFY s75 G75) := by
  refine iter_of hC (sp := sp75) (lp := lp75) (sw := sw75) (Y := y75) (yOK_mk _ _ _) ⟨ok51 n, trivial⟩ trivial (by kernel_rfl) [1] (by kernel_rfl) (by kernel_rfl) (by kernel_rfl) (fun q k hk L hL => by
    simp at hk; subst hk; cases hL; exact ok75_1 q n) fun ds L h q => ?_
  unfold G75 at h
  split at h
  · rename_i n' r v t
    obtain ⟨hp, h⟩ := need_some h
    rw [yes_iff] at hp
    cases h
    refine (congrArg T.run (t75 q n' r v t)).trans (go_yes ⟨hp.1, hp.2, rfl, by omega, by omega, by simp⟩ (go_if (fun c => ?_) fun c => ?_))
    · simp only [List.nil_append, List.length_nil, Nat.sub_zero, run_leaf]
      rfl
    · have c : ¬ q < (nextF r.L v.I t.I 0 r.L.length).length := fun h => c (by simpa using h)
      simp only [List.nil_append, run_leaf]
      rw [List.take_of_length_le (by omega)]
      rfl
  · cases h
end Go.Proofs.Ytgmefblkmidglaa
