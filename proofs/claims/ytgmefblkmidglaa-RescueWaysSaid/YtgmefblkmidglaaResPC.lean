/-
  Searches and arrivals compute what their words say.
-/
import Derived.Test.YtgmefblkmidglaaResPB
import Derived.Test.YtgmefblkmidglaaResTreeB
namespace Go.Proofs.Ytgmefblkmidglaa
open Go.Lite
set_option maxRecDepth 100000
theorem ok73_3 (n : Nat) : LoopSim C (n + 4) 73 (loopOf C.P 73 3) (mkL l73_3 G73_3) := by
  refine loop_ofR hC (sp := sp73) (lp := lp73) (sw := sw73) (rg := rg73) ⟨ok123 (n + 3), trivial⟩ ⟨ok93 (n + 1), ok74 (n + 3), ok127 n, trivial⟩ 0 [] [] (by kernel_rfl) rfl (by kernel_rfl) rfl (fun k hk => by cases hk) (fun k hk => by cases hk) (by kernel_rfl) (fun ds => ((ds.getD 2 default).I - (ds.getD 3 default).I).toNat) fun ds rr h => ?_
  unfold G73_3 at h
  split at h
  · rename_i a r m i x y k l
    obtain ⟨hp, h⟩ := need_some h
    rw [yes_iff] at hp
    obtain ⟨hm, hk, hi0, hi1, hm2⟩ := hp
    refine ⟨by rw [fuelC]; simp; omega, ?_⟩
    rw [show roundTK C (mkTabR sp73 lp73 sw73 rg73) 73 (loopOf C.P 73 3) 0 l73_3 [a, r, m, i, x, y, k, l] = _ from t73_3 a r m i x y k l]
    obtain ⟨j, hj⟩ : ∃ j : Nat, i.I = j := ⟨i.I.toNat, by omega⟩
    simp only [hj, hm, Int.toNat_natCast, upd1, rs_def] at h hi0 hi1 hm2 ⊢
    refine rd_if (fun hlt => ?_) fun hge => ?_
    · rw [wrap_succ (by omega)]
      rw [show k.I.toNat - j = (k.I.toNat - (j + 1)) + 1 by omega] at h
      refine rd_dec (by omega) (rd_dec (by omega) (rd_again ((need_yes ⟨by simp only [I_i, Int.toNat_natCast], by simp only [I_i, L_l, Int.toNat_natCast, len_rs]; exact hk, by simp only [I_i]; omega, by simp only [I_i]; omega, by simp only [I_i]; omega⟩).trans ?_) ?_))
      · simp only [I_i, L_l, Int.toNat_natCast]
        exact h
      · show ((k.I.toNat : Int) - ((j + 1 : Nat) : Int)).toNat < (m.I - i.I).toNat
        rw [hj, hm]; omega
    · rw [show k.I.toNat - j = 0 by omega] at h
      exact rd_out h
  · cases h
theorem rel_len : ∀ (L : List (List D)) (s : Sr), (relF L s).o.length = s.o.length
  | [], _ => rfl
  | e :: es, s => by
    simp only [relF]
    split
    · rw [rel_len es, len_rs]
    · exact rel_len es s
theorem len_push (l : List (List D)) {n : Nat} (v t : Int) (h : n ≤ l.length) : (pushR l n v t).length = n + 1 := by
  unfold pushR
  rw [len_up, List.length_append, List.length_take]
  simp
  omega
theorem rel_q : ∀ (L : List (List D)) (s : Sr), s.k ≤ s.q.length → (relF L s).k ≤ (relF L s).q.length ∧ (relF L s).k ≤ s.k + L.length
  | [], s, h => ⟨h, Nat.le_refl _⟩
  | e :: es, s, h => by
    simp only [relF]
    split
    · have := rel_q es ⟨rs s.o (ix e 0).toNat (ix e 1), s.k + 1, pushR s.q s.k (ix e 0) (ix e 1)⟩ (by rw [len_push _ _ _ h]; exact Nat.le_refl _)
      simp only at this
      simp only [List.length_cons]
      omega
    · have := rel_q es s h
      simp only [List.length_cons]
      omega
theorem head75 (e : List D) : y75.head e = y75.head [e.getD 0 default, e.getD 1 default] := by
  match e with
  | [] => rfl
  | [_] => rfl
  | _ :: _ :: _ => rfl
theorem fold73 (L : List (List D)) : ∀ (ds : List D) (rr : Ex × List D), (G73_14 L ds).run = some rr → FoldR (fun ds el => (roundRT C tab73 73 (rangeOf C.P 73 14) 0 5 [2, 6, 7, 9, 51] h73_14 y75 ds el).run) y75.give (fun a b => headA h73_14 a = headA h73_14 b) ds L rr.1 rr.2 := by
  induction L with
  | nil =>
    intro ds rr h
    unfold G73_14 at h
    split at h
    · rename_i a r a' r' m o k q
      obtain ⟨-, h⟩ := need_some h
      cases h
      exact .nil (by rfl)
    · cases h
  | cons e es ih =>
    intro ds rr h
    unfold G73_14 at h
    split at h
    · rename_i a r a' r' m o k q
      obtain ⟨hp, h⟩ := need_some h
      rw [yes_iff] at hp
      obtain ⟨h1, h2, h3, h4⟩ := hp
      simp only [List.length_cons] at h3
      obtain ⟨e1, e2⟩ := h4 e List.mem_cons_self
      have h5 : ∀ x ∈ es, 0 ≤ ix x 0 ∧ ix x 0 < (m.I.toNat : Int) := fun x hx => h4 x (List.mem_cons_of_mem _ hx)
      have key : ∀ (i j : D), i.I = ix e 0 → j.I = ix e 1 → ∃ ds', (roundRT C tab73 73 (rangeOf C.P 73 14) 0 5 [2, 6, 7, 9, 51] h73_14 y75 [a, r, a', r', m, o, k, q] [i, j]).run = some (.again ds', []) ∧ (G73_14 es ds').run = some rr := by
        intro i j hi hj
        have ht := congrArg T.run (t73_r14 a r a' r' m o k q i j)
        rw [ht]
        simp only [hi, hj, Int.toNat_natCast, upd1, rs_def, rg_def]
        by_cases hc : ix e 1 < rg o.L (ix e 0).toNat
        · have hrel : relF (e :: es) (mkSr o k q) = relF es ⟨rs o.L (ix e 0).toNat (ix e 1), k.I.toNat + 1, pushR q.L k.I.toNat (ix e 0) (ix e 1)⟩ := by
            simp only [relF]
            exact if_pos hc
          rw [hrel] at h
          refine ⟨_, go_dec ⟨e1, e2⟩ (go_dec (by omega) (go_pos hc (go_dec ⟨e1, e2⟩ (go_dec (by omega) (go_yes ⟨h2, by omega⟩ rfl))))), ?_⟩
          refine (need_yes ⟨by simp only [I_i, L_l, Int.toNat_natCast, len_rs]; exact h1, by simp only [I_i, L_l, Int.toNat_natCast]; rw [len_push _ _ _ h2]; exact Nat.le_refl _, by simp only [I_i, Int.toNat_natCast]; omega, by simp only [I_i, Int.toNat_natCast]; exact h5⟩).trans ?_
          simp only [mkSr, I_i, L_l, Int.toNat_natCast]
          exact h
        · have hrel : relF (e :: es) (mkSr o k q) = relF es (mkSr o k q) := by
            simp only [relF]
            exact if_neg hc
          rw [hrel] at h
          refine ⟨_, go_dec ⟨e1, e2⟩ (go_dec (by omega) (go_neg hc rfl)), ?_⟩
          refine (need_yes ⟨by simp only [I_i, L_l, Int.toNat_natCast]; exact h1, by simp only [I_i, L_l, Int.toNat_natCast]; exact h2, by simp only [I_i, Int.toNat_natCast]; omega, by simp only [I_i, Int.toNat_natCast]; exact h5⟩).trans ?_
          simp only [mkSr, I_i, L_l, Int.toNat_natCast] at h ⊢
          exact h
      obtain ⟨ds', k1, k2⟩ := key (e.getD 0 default) (e.getD 1 default) rfl rfl
      refine .again (x' := []) (ds' := ds') ?_ (fun h => by cases h) (ih _ _ k2)
      have : roundRT C tab73 73 (rangeOf C.P 73 14) 0 5 [2, 6, 7, 9, 51] h73_14 y75 [a, r, a', r', m, o, k, q] e = roundRT C tab73 73 (rangeOf C.P 73 14) 0 5 [2, 6, 7, 9, 51] h73_14 y75 [a, r, a', r', m, o, k, q] [e.getD 0 default, e.getD 1 default] := by
        unfold roundRT
        rw [head75 e]
      rw [this]
      exact k1
    · cases h
theorem ok73_14 (n : Nat) : CodeSim C (n + 4) 0 73 (rangeOf C.P 73 14).code none 0 (rangeS 0 [2, 6, 7, 9, 51] (rangeOf C.P 73 14).1 it73_14 h73_14 G73_14) :=
  range_of hC (sp := sp73) (lp := lp73) (sw := sw73) (rg := rg73) (Y := y75) (yOK_mk _ _ _) ⟨ok123 (n + 3), trivial⟩ ⟨ok93 (n + 1), ok74 (n + 3), ok127 n, trivial⟩ 14 0 5 [] (by kernel_rfl) rfl (by kernel_rfl) (by exact ⟨by kernel_rfl, by kernel_rfl⟩) (fun k hk => by cases hk)
    (by kernel_rfl) (by kernel_rfl) (it := it73_14) ⟨ok75 (n + 2), trivial⟩ fun L ds rr h => fold73 L ds rr h
/-- Steps that end. -/
theorem ends_uniq {m : Nat} {r : List (List D)} : ∀ {f g : Nat} {s : Sr}, endsS m r f s → endsS m r g s → f = g
  | 0, 0, _, _, _ => rfl
  | 0, g + 1, s, h, h' => absurd h h'.1
  | f + 1, 0, s, h, h' => absurd h' h.1
  | f + 1, g + 1, s, h, h' => by rw [ends_uniq h.2.2 h'.2.2]
theorem lenS_eq {m : Nat} {r : List (List D)} {f : Nat} {s : Sr} (h : endsS m r f s) : lenS m r s = f := ends_uniq (Classical.epsilon_spec (p := fun f => endsS m r f s) ⟨f, h⟩) h
theorem resS_eq {m : Nat} {r : List (List D)} {f : Nat} {s : Sr} (h : endsS m r f s) : resS m r s = runSr r f s := by unfold resS; rw [lenS_eq h]
theorem halt_zero {m : Nat} {r : List (List D)} {s : Sr} (hk : s.k = 0) : resS m r s = s.o ∧ lenS m r s = 0 := by
  have : endsS m r 0 s := hk
  exact ⟨resS_eq this, lenS_eq this⟩
theorem halt_step {m : Nat} {r : List (List D)} {s : Sr} (h : haltS m r s) (hk : s.k ≠ 0) : needS m r s ∧ haltS m r (stepS r s) ∧ resS m r s = resS m r (stepS r s) ∧ lenS m r (stepS r s) < lenS m r s ∧ lenS m r s < 9223372036854775808 := by
  obtain ⟨f, hf, he⟩ := h
  cases f with
  | zero => exact absurd he hk
  | succ f =>
    have he' := he
    obtain ⟨-, h1, h2⟩ := he
    exact ⟨h1, ⟨f, by omega, h2⟩, by rw [resS_eq he', resS_eq h2]; rfl, by rw [lenS_eq he', lenS_eq h2]; omega, by rw [lenS_eq he']; exact hf⟩
theorem next_mem {r : List (List D)} {v t : Int} : ∀ (k i : Nat) {e : List D}, e ∈ nextF r v t i k → ∃ j, i ≤ j ∧ j < i + k ∧ ix e 0 = ix (r.getD j []) 1 ∧ ix (r.getD j []) 0 = v ∧ ix e 1 = entW (r.getD j []) t + ix (r.getD j []) 2
  | 0, _, _, h => by cases h
  | k + 1, i, e, h => by
    simp only [nextF] at h
    split at h
    · rename_i hc
      rcases List.mem_cons.1 h with rfl | h
      · exact ⟨i, Nat.le_refl _, by omega, rfl, hc, rfl⟩
      · obtain ⟨j, h1, h2, h3⟩ := next_mem k (i + 1) h
        exact ⟨j, by omega, by omega, h3⟩
    · obtain ⟨j, h1, h2, h3⟩ := next_mem k (i + 1) h
      exact ⟨j, by omega, by omega, h3⟩
theorem next_len {r : List (List D)} {v t : Int} : ∀ (k i : Nat), (nextF r v t i k).length ≤ k
  | 0, _ => Nat.le_refl _
  | k + 1, i => by
    simp only [nextF]
    have := next_len (r := r) (v := v) (t := t) k (i + 1)
    split
    · simp only [List.length_cons]; omega
    · omega
theorem ok73_9 (n : Nat) : LoopSim C (n + 4) 73 (loopOf C.P 73 9) (mkL l73_9 G73_9) := by
  refine loop_ofR hC (sp := sp73) (lp := lp73) (sw := sw73) (rg := rg73) ⟨ok123 (n + 3), trivial⟩ ⟨ok93 (n + 1), ok74 (n + 3), ok127 n, trivial⟩ 0 [] [14] (by kernel_rfl) rfl (by kernel_rfl) (by kernel_rfl) (fun k hk => by cases hk)
    (fun k hk L hL => by simp at hk; subst hk; cases hL; exact ok73_14 n) (by kernel_rfl) (fun ds => lenS (ds.getD 2 default).I.toNat (ds.getD 1 default).L (mkSr (ds.getD 3 default) (ds.getD 4 default) (ds.getD 5 default))) fun ds rr h => ?_
  unfold G73_9 at h
  split at h
  · rename_i a r m o k q
    obtain ⟨hp, h⟩ := need_some h
    rw [yes_iff] at hp
    have hlt : lenS m.I.toNat r.L (mkSr o k q) < 9223372036854775808 := by
      by_cases hk : (mkSr o k q).k = 0
      · rw [(halt_zero hk).2]; omega
      · exact (halt_step hp hk).2.2.2.2
    refine ⟨by rw [fuelC]; exact Nat.lt_trans hlt (by omega), ?_⟩
    rw [show roundTK C (mkTabR sp73 lp73 sw73 rg73) 73 (loopOf C.P 73 9) 0 l73_9 [a, r, m, o, k, q] = _ from t73_9 a r m o k q]
    simp only [Int.toNat_natCast, rg_def]
    by_cases hk : k.I.toNat = 0
    · rw [(halt_zero (m := m.I.toNat) (r := r.L) (s := mkSr o k q) hk).1] at h
      refine rd_dec (by omega) (rd_neg (by rw [hk]; simp) (rd_out h))
    · obtain ⟨hN, h1, h2, h3, -⟩ := halt_step hp hk
      obtain ⟨n1, n2, n3, n4, n5, n6, n7, n8⟩ := hN
      rw [h2] at h
      generalize hS : mkSr o k q = S at *
      have hSk : S.k = k.I.toNat := by rw [← hS]; rfl
      have hSq : S.q = q.L := by rw [← hS]; rfl
      have hSo : S.o = o.L := by rw [← hS]; rfl
      have hV : ix ((popR q.L k.I.toNat).getD (k.I.toNat - 1) []) 0 = takeV S := by unfold takeV; rw [hSk, hSq]
      have hT : ix ((popR q.L k.I.toNat).getD (k.I.toNat - 1) []) 1 = takeT S := by unfold takeT; rw [hSk, hSq]
      simp only [hV, hT]
      rw [hSq, hSk] at n1
      rw [hSk] at n2
      rw [hSo] at n3
      have hlt1 : (List.take k.I.toNat q.L).length = k.I.toNat := by rw [List.length_take]; omega
      refine rd_dec n1 (rd_pos (by rw [hlt1]; omega) (rd_yes ⟨by omega, n1, by omega⟩ (rd_dec n4 (rd_dec (by omega) (rd_if (fun c => ?_) fun c => ?_)))))
      · have hst : stepS r.L S = mkSr (D.l o.L) (D.i ((k.I.toNat - 1 : Nat) : Int)) (D.l (popR q.L k.I.toNat)) := by
          unfold stepS
          rw [if_pos (by rw [hSo]; exact c), hSo, hSk, hSq]
          rfl
        refine rd_again ((need_yes (by rw [← hst]; exact h1)).trans ?_) (by
          show lenS m.I.toNat r.L (mkSr (D.l o.L) (D.i ((k.I.toNat - 1 : Nat) : Int)) (D.l (popR q.L k.I.toNat))) < lenS m.I.toNat r.L (mkSr o k q)
          rw [← hst, hS]; exact h3)
        rw [← hst]
        exact h
      · have hst : stepS r.L S = relF (nextF r.L (takeV S) (takeT S) 0 r.L.length) (mkSr (D.l o.L) (D.i ((k.I.toNat - 1 : Nat) : Int)) (D.l (popR q.L k.I.toNat))) := by
          unfold stepS
          rw [if_neg (by rw [hSo]; exact c), hSo, hSk, hSq]
          rfl
        have hnl := next_len (r := r.L) (v := takeV S) (t := takeT S) r.L.length 0
        refine rd_yes ⟨n6, n5⟩ (rd_yes ⟨n3, by rw [len_pop]; omega, by omega, fun e he => ?_⟩ ?_)
        · obtain ⟨j, -, hj, e1, -⟩ := next_mem _ _ he
          rw [e1]
          exact n8 j (by omega)
        · have hmk : ∀ s : Sr, mkSr (D.l s.o) (D.i (s.k : Int)) (D.l s.q) = s := fun s => by simp only [mkSr, I_i, L_l, Int.toNat_natCast]
          rw [← hst]
          refine rd_again ((need_yes (by simp only [I_i, L_l, Int.toNat_natCast, hmk]; exact h1)).trans ?_) (by
            show lenS m.I.toNat r.L (mkSr (D.l (stepS r.L S).o) (D.i ((stepS r.L S).k : Int)) (D.l (stepS r.L S).q)) < lenS m.I.toNat r.L (mkSr o k q)
            rw [hmk, hS]; exact h3)
          simp only [I_i, L_l, Int.toNat_natCast, hmk]
          exact h
  · cases h
theorem fill_len (v : Int) : ∀ (k i : Nat) (l : List (List D)), (fillF v i k l).length = l.length
  | 0, _, _ => rfl
  | k + 1, i, l => by simp only [fillF]; rw [fill_len v k, len_rs]
theorem fill_app (v : Int) : ∀ (k : Nat) (a : List (List D)), fillF v a.length k (a ++ List.replicate k [.i 0]) = a ++ List.replicate k [.i v]
  | 0, a => by simp [fillF]
  | k + 1, a => by
    simp only [fillF]
    have : rs (a ++ List.replicate (k + 1) [D.i 0]) a.length v = (a ++ [[D.i v]]) ++ List.replicate k [D.i 0] := by
      unfold rs
      rw [List.replicate_succ, List.set_append_right _ _ (Nat.le_refl _), Nat.sub_self, List.set_cons_zero, List.append_assoc]
      rfl
    rw [this]
    have h2 := fill_app v k (a ++ [[D.i v]])
    rw [List.length_append, List.length_singleton] at h2
    rw [h2, List.replicate_succ, List.append_assoc]
    rfl
theorem fill_all (v : Int) (n : Nat) : fillF v 0 n (List.replicate n [.i 0]) = List.replicate n [.i v] := by
  have := fill_app v n []
  simpa using this
theorem ok73 (n : Nat) : FnOK C (n + 5) 73 (mkF s73 G73) := by
  have hby : Try.prog.types[3].bytes = 8 := by kernel_rfl
  refine fn_ofR hC (sp := sp73) (lp := lp73) (sw := sw73) (rg := rg73) ⟨ok123 (n + 3), trivial⟩ ⟨ok93 (n + 1), ok74 (n + 3), ok127 n, trivial⟩ (by kernel_rfl) [3, 9] [] (by kernel_rfl) (by kernel_rfl) (by kernel_rfl) rfl (fun k hk L hL => by
    simp at hk; rcases hk with rfl | rfl <;> cases hL
    · exact ok73_3 n
    · exact ok73_9 n) (fun k hk => by cases hk) fun ds r h => ?_
  unfold G73 at h
  split at h
  · rename_i m v t a r'
    obtain ⟨hp, h⟩ := need_some h
    rw [yes_iff] at hp
    obtain ⟨h0, h1, h2, h3, h4⟩ := hp
    refine (congrArg T.run (t73 m v t a r')).trans ?_
    have hz : (0 : Int).toNat = 0 := rfl
    simp only [List.length_replicate, Int.toNat_natCast, hz, Nat.sub_zero, fill_all, upd1, rs_def]
    have hm : (m.I.toNat : Int) = m.I := by omega
    refine go_need (by rw [hby]; simp; omega) (go_yes ⟨trivial, Nat.le_refl _, by omega, by omega, by omega⟩ (go_dec (by omega) (go_need (by simp; omega) (go_yes h4 ?_))))
    rw [hm]
    exact h
  · cases h
theorem run_len {r : List (List D)} : ∀ (f : Nat) (s : Sr), (runSr r f s).length = s.o.length
  | 0, _ => rfl
  | f + 1, s => by
    simp only [runSr]
    rw [run_len f]
    unfold stepS
    split
    · rfl
    · exact rel_len _ _
theorem none_len : ∀ (k i : Nat) (l : List (List D)), (noneF i k l).length = l.length
  | 0, _, _ => rfl
  | k + 1, i, l => by
    simp only [noneF]
    rw [none_len k]
    split
    · exact len_rs _ _ _
    · rfl
theorem ok46_3 (n : Nat) : LoopSim C (n + 5) 46 (loopOf C.P 46 3) (mkL l46_3 G46_3) := by
  refine loop_ofK hC (sp := sp46) (lp := lp46) (sw := sw46) ⟨ok73 n, trivial⟩ ⟨ok74 (n + 4), trivial⟩ 0 [] (by kernel_rfl) rfl (fun k hk => by cases hk) (by kernel_rfl) (fun ds => ((ds.getD 2 default).I - (ds.getD 3 default).I).toNat) fun ds rr h => ?_
  unfold G46_3 at h
  split at h
  · rename_i m m2 k i l
    obtain ⟨hp, h⟩ := need_some h
    rw [yes_iff] at hp
    obtain ⟨h1, h2, h3, hi0, hi1, h4⟩ := hp
    refine ⟨by rw [fuelC]; simp; omega, ?_⟩
    rw [show roundTK C (mkTab sp46 lp46 sw46) 46 (loopOf C.P 46 3) 0 l46_3 [m, m2, k, i, l] = _ from t46_3 m m2 k i l]
    obtain ⟨j, hj⟩ : ∃ j : Nat, i.I = j := ⟨i.I.toNat, by omega⟩
    simp only [hj, h1, h2, Int.toNat_natCast, upd1, rs_def, rg_def] at h hi0 hi1 h4 ⊢
    refine rd_if (fun hlt => ?_) fun hge => ?_
    · rw [wrap_succ (by omega)]
      rw [show m.I.toNat - j = (m.I.toNat - (j + 1)) + 1 by omega] at h
      simp only [noneF] at h
      have hmu : ((m.I.toNat : Int) - ((j + 1 : Nat) : Int)).toNat < (k.I - i.I).toNat := by rw [hj, h1]; omega
      refine rd_dec (by omega) (rd_dec (by omega) (rd_ite (fun c => ?_) fun c => ?_))
      · rw [beq_iff_eq] at c
        rw [if_pos c] at h
        refine rd_dec (by omega) (rd_dec (by omega) (rd_again ((need_yes ⟨by simp only [I_i, Int.toNat_natCast], by simp only [I_i, Int.toNat_natCast], by simp only [I_i, L_l, Int.toNat_natCast, len_rs]; exact h3, by simp only [I_i]; omega, by simp only [I_i]; omega, by simp only [I_i]; omega⟩).trans ?_) hmu))
        simp only [I_i, L_l, Int.toNat_natCast]
        exact h
      · rw [beq_eq_false_iff_ne] at c
        rw [if_neg c] at h
        refine rd_again ((need_yes ⟨by simp only [I_i, Int.toNat_natCast], by simp only [I_i, Int.toNat_natCast], by simp only [I_i, L_l, Int.toNat_natCast]; exact h3, by simp only [I_i]; omega, by simp only [I_i]; omega, by simp only [I_i]; omega⟩).trans ?_) hmu
        simp only [I_i, L_l, Int.toNat_natCast]
        exact h
    · rw [show m.I.toNat - j = 0 by omega] at h
      exact rd_out h
  · cases h
theorem len_start (n v t : Int) : (startS n v t).o.length = n.toNat := by simp [startS, len_rs]
theorem res_len {m : Nat} {r : List (List D)} {s : Sr} : (resS m r s).length = s.o.length := run_len _ _
theorem ok46 (n : Nat) : FnOK C (n + 6) 46 (mkF s46 G46) := by
  refine fn_ofS hC (sp := sp46) (lp := lp46) (sw := sw46) ⟨ok73 n, trivial⟩ ⟨ok74 (n + 4), trivial⟩ (by kernel_rfl) [3] (by kernel_rfl) (by kernel_rfl) (fun k hk L hL => by
    simp at hk; subst hk; cases hL; exact ok46_3 n) fun ds r h => ?_
  unfold G46 at h
  split at h
  · rename_i m r' v t
    obtain ⟨hp, h⟩ := need_some h
    rw [yes_iff] at hp
    obtain ⟨h0, h1, h2, h3, h4⟩ := hp
    refine (congrArg T.run (t46 m r' v t)).trans ?_
    have hz : (0 : Int).toNat = 0 := rfl
    simp only [Int.toNat_natCast, hz, Nat.sub_zero]
    have hm : (m.I.toNat : Int) = m.I := by omega
    refine go_yes ⟨h0, h1, h2, h3, h4⟩ (go_yes ⟨trivial, trivial, by rw [res_len, len_start]; exact Nat.le_refl _, by omega, by omega, by omega⟩ ?_)
    rw [hm]
    exact h
  · cases h
end Go.Proofs.Ytgmefblkmidglaa
