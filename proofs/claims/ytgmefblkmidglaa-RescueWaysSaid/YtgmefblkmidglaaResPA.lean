/-
  Roads, heaps and what is yielded from a place: the functions compute what their words say.
-/
import Derived.Test.YtgmefblkmidglaaResTreeA
namespace Go.Proofs.Ytgmefblkmidglaa
open Go.Lite
set_option maxRecDepth 100000
theorem ok45 (n : Nat) : FnOK C (n + 1) 45 (mkF s45 G45) := by
  refine fn_ofS hC (sp := sp45) (lp := lp45) (sw := sw45) trivial trivial (by kernel_rfl) [] (by kernel_rfl) rfl (fun k hk => by cases hk) fun ds r h => ?_
  unfold G45 at h
  split at h
  · rename_i a b c
    cases h
    refine (congrArg T.run (t45 a b c)).trans (go_if (fun h1 => ?_) fun h1 => ?_)
    · rw [within_dec]
      simp only [run_leaf, show (b.I ≤ a.I ∧ a.I ≤ c.I) ↔ a.I ≤ c.I from ⟨fun h => h.2, fun h => ⟨h1, h⟩⟩]
    · rw [within_dec, decide_eq_false (fun h => h1 h.1)]
      rfl
  · cases h

/-! ### When a road can be entered -/
theorem entF_step {l : List (List D)} {c s : Int} {j : Nat} (hj : j < l.length) : entF l c j (l.length - j) s = entF l c (j + 1) (l.length - (j + 1)) (if s + c > ix (l.getD j []) 0 ∧ s < ix (l.getD j []) 1 then ix (l.getD j []) 1 else s) := by
  rw [show l.length - j = (l.length - (j + 1)) + 1 by omega]
  rfl
theorem okS_of {l : List (List D)} {j : Nat} (h : okC l) : okS (ix (l.getD j []) 1) := by
  have := h.2 j
  unfold okS
  omega
theorem ok51_2 (n : Nat) : LoopSim C n 51 (loopOf C.P 51 2) (mkL l51_2 G51_2) := by
  refine loop_ofK hC (sp := sp51) (lp := lp51) (sw := sw51) trivial trivial 0 [] (by kernel_rfl) rfl (fun k hk => by cases hk) (by kernel_rfl) (fun ds => ((ds.getD 2 default).I - (ds.getD 3 default).I).toNat) fun ds rr h => ?_
  unfold G51_2 at h
  split at h
  · rename_i s l m i a b c l2
    obtain ⟨hp, h⟩ := need_some h
    rw [yes_iff] at hp
    obtain ⟨hc, hs, hl, hm, hi0, hi1⟩ := hp
    have hb := big_eq
    have hll := hl.1
    refine ⟨by rw [fuelC]; simp; omega, ?_⟩
    rw [show roundTK C (mkTab sp51 lp51 sw51) 51 (loopOf C.P 51 2) 0 l51_2 [s, l, m, i, a, b, c, l2] = _ from t51_2 s l m i a b c l2]
    obtain ⟨j, hj⟩ : ∃ j : Nat, i.I = j := ⟨i.I.toNat, by omega⟩
    simp only [hj, hm, Int.toNat_natCast, ix_def] at h hi0 hi1 ⊢
    have hcj := hl.2 j
    unfold okS at hs
    unfold okT at hc
    refine rd_if (fun hlt => ?_) fun hge => ?_
    · rw [entF_step (by omega)] at h
      rw [wrap_id (by omega) (by omega), wrap_succ (by omega)]
      refine rd_dec (by omega) (rd_if (fun c1 => rd_if (fun c2 => ?_) fun c2 => ?_) fun c1 => ?_)
      · rw [if_pos ⟨c1, c2⟩] at h
        refine rd_again ((need_yes ⟨hc, okS_of hl, hl, by simp only [I_i, L_l], by simp only [I_i]; omega, by simp only [I_i, L_l]; omega⟩).trans ?_) ?_
        · exact h
        · show ((l.L.length : Int) - ((j + 1 : Nat) : Int)).toNat < (m.I - i.I).toNat
          rw [hj, hm]; omega
      · rw [if_neg (fun h => c2 h.2)] at h
        refine rd_again ((need_yes ⟨hc, hs, hl, by simp only [I_i, L_l], by simp only [I_i]; omega, by simp only [I_i, L_l]; omega⟩).trans ?_) ?_
        · exact h
        · show ((l.L.length : Int) - ((j + 1 : Nat) : Int)).toNat < (m.I - i.I).toNat
          rw [hj, hm]; omega
      · rw [if_neg (fun h => c1 h.1)] at h
        refine rd_again ((need_yes ⟨hc, hs, hl, by simp only [I_i, L_l], by simp only [I_i]; omega, by simp only [I_i, L_l]; omega⟩).trans ?_) ?_
        · exact h
        · show ((l.L.length : Int) - ((j + 1 : Nat) : Int)).toNat < (m.I - i.I).toNat
          rw [hj, hm]; omega
    · rw [show l.L.length - j = 0 by omega] at h
      exact rd_out h
  · cases h
theorem ok51 (n : Nat) : FnOK C (n + 1) 51 (mkF s51 G51) := by
  refine fn_ofS hC (sp := sp51) (lp := lp51) (sw := sw51) trivial trivial (by kernel_rfl) [2] (by kernel_rfl) (by kernel_rfl) (fun k hk L hL => by
    simp at hk; subst hk; cases hL; exact ok51_2 n) fun ds r h => ?_
  unfold G51 at h
  split at h
  · rename_i a b c l s
    obtain ⟨hp, h⟩ := need_some h
    rw [yes_iff] at hp
    obtain ⟨hc, hs, hl⟩ := hp
    refine (congrArg T.run (t51 a b c l s)).trans (go_yes ⟨hc, hs, hl, rfl, by omega, by omega⟩ ?_)
    exact h
  · cases h

/-! ### Heaps -/
theorem ok123 (n : Nat) : FnOK C (n + 1) 123 (mkF s123 G123) := by
  refine fn_ofS hC (sp := sp123) (lp := lp123) (sw := sw123) trivial trivial (by kernel_rfl) [] (by kernel_rfl) rfl (fun k hk => by cases hk) fun ds r h => ?_
  unfold G123 at h
  split at h
  · rename_i l
    exact (congrArg T.run (t123 l)).trans h
  · cases h
theorem ok124 (n : Nat) : FnOK C (n + 1) 124 (mkF s124 G124) := by
  refine fn_ofS hC (sp := sp124) (lp := lp124) (sw := sw124) trivial trivial (by kernel_rfl) [] (by kernel_rfl) rfl (fun k hk => by cases hk) fun ds r h => ?_
  unfold G124 at h
  split at h
  · rename_i l i j
    obtain ⟨hp, h⟩ := need_some h
    rw [yes_iff] at hp
    exact (congrArg T.run (t124 l i j)).trans (go_dec hp.1 (go_dec hp.2 h))
  · cases h
theorem len_swap (l : List (List D)) (i j : Nat) : (swapR l i j).length = l.length := by simp [swapR]
theorem getD_set {l : List (List D)} {i k : Nat} {c : List D} (hi : i < l.length) : (l.set i c).getD k [] = if k = i then c else l.getD k [] := by
  simp only [List.getD_eq_getElem?_getD, List.getElem?_set]
  by_cases e : k = i
  · subst e; simp [hi]
  · rw [if_neg (fun h => e h.symm), if_neg e]
theorem ok126 (n : Nat) : FnOKW C (n + 1) 126 (mkFW s126 G126) := by
  refine fn_ofW hC (sp := sp126) (lp := lp126) (sw := sw126) trivial trivial (by kernel_rfl) [] (by kernel_rfl) rfl (fun k hk => by cases hk) fun ds r h => ?_
  unfold G126 at h
  split at h
  · rename_i m i j l
    obtain ⟨hp, h⟩ := need_some h
    rw [yes_iff] at hp
    obtain ⟨h1, h2, h3⟩ := hp
    refine (congrArg T.run (t126 m i j l)).trans (go_dec h2 (go_dec (by omega) (go_dec h1 (go_dec (by omega) (go_dec h1 (go_dec (by omega) (go_dec h2 (go_dec (by rw [List.length_set]; omega) ?_))))))))
    simp only [upd2]
    exact h
  · cases h
theorem ok131 (n : Nat) : FnOKW C (n + 1) 131 (mkFW s131 G131) := by
  refine fn_ofW hC (sp := sp131) (lp := lp131) (sw := sw131) trivial trivial (by kernel_rfl) [] (by kernel_rfl) rfl (fun k hk => by cases hk) fun ds r h => ?_
  unfold G131 at h
  split at h
  · rename_i m l
    obtain ⟨hp, h⟩ := need_some h
    rw [yes_iff] at hp
    obtain ⟨h1, h2, h3⟩ := hp
    refine (congrArg T.run (t131 m l)).trans ?_
    rw [wrap_id (by omega) (by omega), show ((m.I.toNat : Int) - 1) = ((m.I.toNat - 1 : Nat) : Int) by omega]
    simp only [Int.toNat_natCast]
    exact go_need (by simp; omega) (go_need (by simp; omega) (go_need (by simp; omega) h))
  · cases h
theorem ok125 (n : Nat) : FnOKW C (n + 1) 125 (mkFW s125 G125) := by
  have hby : Try.prog.types[116].bytes = 16 := by kernel_rfl
  refine fn_ofW hC (sp := sp125) (lp := lp125) (sw := sw125) trivial trivial (by kernel_rfl) [] (by kernel_rfl) rfl (fun k hk => by cases hk) fun ds r h => ?_
  unfold G125 at h
  split at h
  · rename_i v t m l
    obtain ⟨hp, h⟩ := need_some h
    rw [yes_iff] at hp
    obtain ⟨h1, h2⟩ := hp
    refine (congrArg T.run (t125 v t m l)).trans (go_need rfl (go_false rfl (go_dec ⟨h1, by simp; omega, by rw [hby]; simp; omega⟩ h)))
  · cases h
theorem ok74 (n : Nat) : FnOKW C (n + 1) 74 (mkFW s74 G74) := by
  refine fn_ofW hC (sp := sp74) (lp := lp74) (sw := sw74) trivial trivial (by kernel_rfl) [] (by kernel_rfl) rfl (fun k hk => by cases hk) fun ds r h => ?_
  unfold G74 at h
  split at h
  · rename_i v t m l
    exact (congrArg T.run (t74 v t m l)).trans h
  · cases h
theorem upF_more : ∀ (j f : Nat) (l : List (List D)), j + 1 ≤ f → upF f l j = upF (j + 1) l j := by
  intro j
  induction j using Nat.strongRecOn with
  | _ j ih =>
    intro f l hf
    obtain ⟨f, rfl⟩ : ∃ g, f = g + 1 := ⟨f - 1, by omega⟩
    simp only [upF]
    split
    · rfl
    · rename_i hc
      rw [not_or] at hc
      have hlt : (j - 1) / 2 < j := by omega
      rw [ih _ hlt f _ (by omega), ih _ hlt j _ (by omega)]
theorem half_eq {j : Nat} (hj : j < 2199023255552) : IntKind.wrap .i64 (Int.tdiv (IntKind.wrap .i64 ((j : Int) - 1)) 2) = (((j - 1) / 2 : Nat) : Int) := by
  rw [wrap_id (x := (j : Int) - 1) (by omega) (by omega)]
  cases j with
  | zero => rfl
  | succ j =>
    rw [show ((j + 1 : Nat) : Int) - 1 = (j : Int) by omega, show j + 1 - 1 = j by omega, Int.tdiv_eq_ediv_of_nonneg (by omega)]
    rw [wrap_id (by omega) (by omega)]
    omega
theorem at_take {l : List (List D)} {n i : Nat} (hi : i < n) : atR (l.take n) i = atR l i := by
  unfold atR
  simp only [List.getD_eq_getElem?_getD, List.getElem?_take, if_pos hi]
theorem ok101_0 (n : Nat) : LoopSimK C (n + 1) 2 101 (loopOf C.P 101 0) (mkLK 2 l101_0 G101_0) := by
  refine loop_ofK hC (sp := sp101) (lp := lp101) (sw := sw101) ⟨ok124 n, trivial⟩ ⟨ok126 n, trivial⟩ 2 [] (by kernel_rfl) rfl (fun k hk => by cases hk) (by kernel_rfl) (fun ds => (ds.getD 0 default).I.toNat) fun ds rr h => ?_
  unfold G101_0 at h
  split at h
  · rename_i i m l
    obtain ⟨hp, h⟩ := need_some h
    rw [yes_iff] at hp
    obtain ⟨h0, h1, h2, h3⟩ := hp
    refine ⟨by rw [fuelC]; simp; omega, ?_⟩
    rw [show roundTK C (mkTab sp101 lp101 sw101) 101 (loopOf C.P 101 0) 2 l101_0 [i, m, l] = _ from t101_0 i m l]
    obtain ⟨j, hj⟩ : ∃ j : Nat, i.I = j := ⟨i.I.toNat, by omega⟩
    rw [hj, half_eq (by omega)]
    simp only [hj, Int.toNat_natCast] at h h1 ⊢
    have ht : (l.L.take m.I.toNat).length = m.I.toNat := by rw [List.length_take]; omega
    have hl1 : j < m.I.toNat := by omega
    have hl2 : (j - 1) / 2 < m.I.toNat := by omega
    simp only [at_take hl1, at_take hl2]
    simp only [upF] at h
    refine rd_need rfl (rd_ite (fun c1 => ?_) fun c1 => ?_)
    · rw [beq_iff_eq] at c1
      rw [if_pos (.inl (by omega))] at h
      exact rd_out h
    · rw [beq_eq_false_iff_ne] at c1
      refine rd_dec h2 (rd_yes (by rw [ht]; omega) (rd_not (fun c2 => ?_) fun c2 => ?_))
      · have c2 := of_decide_eq_false c2
        rw [if_pos (.inr c2)] at h
        exact rd_out h
      · have c2 := of_decide_eq_true c2
        rw [if_neg (by rw [not_or]; exact ⟨by omega, fun h => h c2⟩)] at h
        refine rd_yes ⟨by omega, by omega, h2⟩ (rd_again ((need_yes ⟨by simp only [I_i]; omega, by simp only [I_i, Int.toNat_natCast]; omega, by simp only [I_i, L_l, Int.toNat_natCast, len_swap]; omega, by simp only [I_i, Int.toNat_natCast]; omega⟩).trans ?_) ?_)
        · simp only [I_i, L_l, Int.toNat_natCast]
          rw [← upF_more _ j _ (by omega)]
          exact h
        · simp only [List.getD_cons_zero, I_i, hj]; omega
  · cases h
theorem ok101 (n : Nat) : FnOKW C (n + 2) 101 (mkFW s101 G101) := by
  refine fn_ofW hC (sp := sp101) (lp := lp101) (sw := sw101) ⟨ok124 n, trivial⟩ ⟨ok126 n, trivial⟩ (by kernel_rfl) [0] (by kernel_rfl) (by kernel_rfl) (fun k hk L hL => by
    simp at hk; subst hk; cases hL; exact ok101_0 n) fun ds r h => ?_
  unfold G101 at h
  split at h
  · rename_i j m l
    obtain ⟨hp, h⟩ := need_some h
    rw [yes_iff] at hp
    refine (congrArg T.run (t101 j m l)).trans ?_
    simp only [Int.toNat_natCast]
    exact go_yes hp h
  · cases h
theorem downF_more (m : Nat) : ∀ (d i f : Nat) (l : List (List D)), m - i ≤ d → d + 1 ≤ f → downF f l m i = downF (d + 1) l m i
  | 0, i, f, l, hd, hf => by
    obtain ⟨f, rfl⟩ : ∃ g, f = g + 1 := ⟨f - 1, by omega⟩
    simp only [downF]
    rw [if_pos (.inl (by omega)), if_pos (.inl (by omega))]
  | d + 1, i, f, l, hd, hf => by
    obtain ⟨f, rfl⟩ : ∃ g, f = g + 1 := ⟨f - 1, by omega⟩
    show downF (f + 1) l m i = downF ((d + 1) + 1) l m i
    rw [downF, downF]
    split
    · rfl
    · rename_i hc
      rw [not_or] at hc
      have : kidR l m i = 2 * i + 1 ∨ kidR l m i = 2 * i + 2 := by unfold kidR; split <;> simp
      exact downF_more m d _ f _ (by omega) (by omega)
theorem kid_lt {l : List (List D)} {m i : Nat} (h : 2 * i + 1 < m) : kidR l m i < m ∧ i < kidR l m i := by
  unfold kidR
  split
  · rename_i hc; omega
  · omega
theorem ok129_2 (n : Nat) : LoopSimK C (n + 1) 2 129 (loopOf C.P 129 2) (mkLK 2 l129_2 G129_2) := by
  refine loop_ofK hC (sp := sp129) (lp := lp129) (sw := sw129) ⟨ok124 n, trivial⟩ ⟨ok126 n, trivial⟩ 2 [] (by kernel_rfl) rfl (fun k hk => by cases hk) (by kernel_rfl) (fun ds => ((ds.getD 1 default).I - (ds.getD 2 default).I).toNat) fun ds rr h => ?_
  unfold G129_2 at h
  split at h
  · rename_i s m i n' l
    obtain ⟨hp, h⟩ := need_some h
    rw [yes_iff] at hp
    obtain ⟨h0, h1, h2, h3, h4⟩ := hp
    refine ⟨by rw [fuelC]; simp; omega, ?_⟩
    rw [show roundTK C (mkTab sp129 lp129 sw129) 129 (loopOf C.P 129 2) 2 l129_2 [s, m, i, n', l] = _ from t129_2 s m i n' l]
    obtain ⟨j, hj⟩ : ∃ j : Nat, i.I = j := ⟨i.I.toNat, by omega⟩
    obtain ⟨k, hk⟩ : ∃ k : Nat, m.I = k := ⟨m.I.toNat, by omega⟩
    have e1 : IntKind.wrap .i64 (2 * (j : Int)) = ((2 * j : Nat) : Int) := by rw [wrap_id (by omega) (by omega)]; omega
    have e2 : IntKind.wrap .i64 (((2 * j : Nat) : Int) + 1) = ((2 * j + 1 : Nat) : Int) := wrap_succ (by omega)
    have e3 : IntKind.wrap .i64 (((2 * j + 1 : Nat) : Int) + 1) = ((2 * j + 2 : Nat) : Int) := wrap_succ (by omega)
    simp only [hj, hk, Int.toNat_natCast] at h h1 h2
    simp only [hj, hk, e1, e2, e3, Int.toNat_natCast]
    have ht : (l.L.take n'.I.toNat).length = n'.I.toNat := by rw [List.length_take]; omega
    rw [downF] at h
    refine rd_if (fun c1 => ?_) fun c1 => rd_if (fun c2 => absurd c2 (by omega)) fun _ => ?_
    · rw [if_pos (.inl (by omega))] at h
      exact rd_out h
    · have hstep : ∀ q : Nat, kidR l.L k j = q → q < k → j < q → (atR l.L q < atR l.L j → (G129_2 [D.i s.I, D.i (k : Int), D.i (q : Int), D.i (n'.I.toNat : Int), D.l (swapR l.L j q)]).run = some rr) ∧ (¬ atR l.L q < atR l.L j → some (Ex.exit 0, [D.i s.I, D.i (j : Int), D.i (n'.I.toNat : Int), D.l l.L]) = some rr) := by
        intro q hq hqk hjq
        rw [hq] at h
        refine ⟨fun c => ?_, fun c => ?_⟩
        · rw [if_neg (by rw [not_or]; exact ⟨by omega, fun h => h c⟩)] at h
          refine (need_yes ⟨by simp only [I_i]; omega, by simp only [I_i]; omega, by simp only [I_i, Int.toNat_natCast]; omega, by simp only [I_i, L_l, Int.toNat_natCast, len_swap]; omega, by simp only [I_i, Int.toNat_natCast]; omega⟩).trans ?_
          simp only [I_i, L_l, Int.toNat_natCast]
          rw [downF_more k (k - 1) q (k + 1) _ (by omega) (by omega), show k - 1 + 1 = k by omega]
          exact h
        · rw [if_pos (.inr c)] at h
          exact h
      have hend : ∀ q : Nat, q < k → j < q → (((k : Int)) - (q : Int)).toNat < (m.I - i.I).toNat := fun q h1 h2 => by rw [hj, hk]; omega
      refine rd_if (fun c3 => ?_) fun c3 => ?_
      · simp only [at_take (show 2 * j + 2 < n'.I.toNat by omega), at_take (show 2 * j + 1 < n'.I.toNat by omega), at_take (show j < n'.I.toNat by omega)]
        refine rd_dec h3 (rd_yes (by rw [ht]; omega) (rd_ite (fun c4 => ?_) fun c4 => ?_))
        · have c4 := of_decide_eq_true c4
          obtain ⟨z1, z2⟩ := hstep (2 * j + 2) (by unfold kidR; rw [if_pos ⟨by omega, c4⟩]) (by omega) (by omega)
          refine rd_dec h3 (rd_yes (by rw [ht]; omega) (rd_not (fun c5 => rd_out (z2 (of_decide_eq_false c5))) fun c5 => rd_yes ⟨by omega, by omega, h3⟩ (rd_again (z1 (of_decide_eq_true c5)) (hend _ (by omega) (by omega)))))
        · have c4 := of_decide_eq_false c4
          obtain ⟨z1, z2⟩ := hstep (2 * j + 1) (by unfold kidR; rw [if_neg (fun h => c4 h.2)]) (by omega) (by omega)
          refine rd_dec h3 (rd_yes (by rw [ht]; omega) (rd_not (fun c5 => rd_out (z2 (of_decide_eq_false c5))) fun c5 => rd_yes ⟨by omega, by omega, h3⟩ (rd_again (z1 (of_decide_eq_true c5)) (hend _ (by omega) (by omega)))))
      · simp only [at_take (show 2 * j + 1 < n'.I.toNat by omega), at_take (show j < n'.I.toNat by omega)]
        obtain ⟨z1, z2⟩ := hstep (2 * j + 1) (by unfold kidR; rw [if_neg (fun h => c3 (by omega))]) (by omega) (by omega)
        refine rd_dec h3 (rd_yes (by rw [ht]; omega) (rd_not (fun c5 => rd_out (z2 (of_decide_eq_false c5))) fun c5 => rd_yes ⟨by omega, by omega, h3⟩ (rd_again (z1 (of_decide_eq_true c5)) (hend _ (by omega) (by omega)))))
  · cases h
theorem ok129 (n : Nat) : FnOKW C (n + 2) 129 (mkFW s129 G129) := by
  refine fn_ofW hC (sp := sp129) (lp := lp129) (sw := sw129) ⟨ok124 n, trivial⟩ ⟨ok126 n, trivial⟩ (by kernel_rfl) [2] (by kernel_rfl) (by kernel_rfl) (fun k hk L hL => by
    simp at hk; subst hk; cases hL; exact ok129_2 n) fun ds r h => ?_
  unfold G129 at h
  split at h
  · rename_i s m k l
    obtain ⟨hp, h⟩ := need_some h
    rw [yes_iff] at hp
    refine (congrArg T.run (t129 s m k l)).trans ?_
    simp only [Int.toNat_natCast]
    exact go_yes hp h
  · cases h
theorem len_down (m : Nat) : ∀ (f : Nat) (l : List (List D)) (i : Nat), (downF f l m i).1.length = l.length
  | 0, _, _ => rfl
  | f + 1, l, i => by
    simp only [downF]
    split
    · rfl
    · rw [len_down m f, len_swap]
theorem len_up : ∀ (f : Nat) (l : List (List D)) (j : Nat), (upF f l j).length = l.length
  | 0, _, _ => rfl
  | f + 1, l, j => by
    simp only [upF]
    split
    · rfl
    · rw [len_up f, len_swap]
theorem len_pop (l : List (List D)) (n : Nat) : (popR l n).length = l.length := by rw [popR, len_down, len_swap]
theorem ok93 (n : Nat) : FnOKW C (n + 3) 93 (mkFW s93 G93) := by
  refine fn_ofW hC (sp := sp93) (lp := lp93) (sw := sw93) ⟨ok123 (n + 1), trivial⟩ ⟨ok101 n, ok125 (n + 1), trivial⟩ (by kernel_rfl) [] (by kernel_rfl) rfl (fun k hk => by cases hk) fun ds r h => ?_
  unfold G93 at h
  split at h
  · rename_i v t m l
    obtain ⟨hp, h⟩ := need_some h
    rw [yes_iff] at hp
    obtain ⟨h1, h2⟩ := hp
    refine (congrArg T.run (t93 v t m l)).trans ?_
    simp only [Int.toNat_natCast]
    have hlen : (l.L.take m.I.toNat ++ [[D.i v.I, D.i t.I]]).length = m.I.toNat + 1 := by rw [List.length_append, List.length_take]; simp; omega
    have ht : (List.take (m.I.toNat + 1) (l.L.take m.I.toNat ++ [[D.i v.I, D.i t.I]])).length = m.I.toNat + 1 := by rw [List.length_take, hlen]; omega
    simp only [ht, hlen]
    rw [wrap_id (by omega) (by omega), show ((m.I.toNat + 1 : Nat) : Int) - 1 = (m.I.toNat : Int) by omega]
    simp only [Int.toNat_natCast]
    exact go_yes ⟨h1, h2⟩ (go_need (by simp) (go_yes ⟨by omega, by omega, by omega, by omega⟩ h))
  · cases h
theorem ok128 (n : Nat) : FnOKW C (n + 3) 128 (mkFW s128 G128) := by
  refine fn_ofW hC (sp := sp128) (lp := lp128) (sw := sw128) ⟨ok123 (n + 1), trivial⟩ ⟨ok129 n, ok126 (n + 1), ok131 (n + 1), trivial⟩ (by kernel_rfl) [] (by kernel_rfl) rfl (fun k hk => by cases hk) fun ds r h => ?_
  unfold G128 at h
  split at h
  · rename_i m l
    obtain ⟨hp, h⟩ := need_some h
    rw [yes_iff] at hp
    obtain ⟨h1, h2, h3⟩ := hp
    refine (congrArg T.run (t128 m l)).trans ?_
    simp only [Int.toNat_natCast]
    have ht : (List.take m.I.toNat l.L).length = m.I.toNat := by rw [List.length_take]; omega
    simp only [ht]
    rw [wrap_id (by omega) (by omega), show (m.I.toNat : Int) - 1 = ((m.I.toNat - 1 : Nat) : Int) by omega]
    simp only [Int.toNat_natCast]
    have hm : m.I.toNat - 1 + 1 = m.I.toNat := by omega
    simp only [hm]
    refine go_need (by simp; omega) (go_yes ⟨by omega, by omega, h2⟩ (go_yes ⟨by omega, by omega, by omega, by rw [len_swap]; omega, by omega⟩ (go_yes ⟨h1, by rw [len_down, len_swap]; omega, h3⟩ ?_)))
    exact h
  · cases h
theorem ok127 (n : Nat) : FnOKW C (n + 4) 127 (mkFW s127 G127) := by
  refine fn_ofW hC (sp := sp127) (lp := lp127) (sw := sw127) trivial ⟨ok128 n, trivial⟩ (by kernel_rfl) [] (by kernel_rfl) rfl (fun k hk => by cases hk) fun ds r h => ?_
  unfold G127 G128 at h
  split at h
  · rename_i m l
    obtain ⟨hp, h⟩ := need_some h
    rw [yes_iff] at hp
    refine (congrArg T.run (t127 m l)).trans ?_
    simp only [Int.toNat_natCast]
    exact go_yes hp h
  · cases h
end Go.Proofs.Ytgmefblkmidglaa
