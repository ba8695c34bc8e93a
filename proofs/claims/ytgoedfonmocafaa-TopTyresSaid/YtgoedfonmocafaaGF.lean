/-
  Part and Reverse: their loops.
  Reverse: its loops.
  Part and Reverse compute what their words say.
  Reverse computes what its words say.
  Tyres on roads, plainly: a reversed road has the same stretches the other way round.
-/
import Derived.Test.YtgoedfonmocafaaGD
import Derived.Test.YtgoedfonmocafaaGC
import Derived.Test.YtgoedfonmocafaaGE
namespace Go.Proofs.Ytgoedfonmocafaa
open Go.Lite
set_option maxRecDepth 100000
theorem partC_step {a b : Int} {c : List (List D)} {k : Nat} (hk : k < c.length) : partC a b (c.drop k) = cutC a b (c.getD k []) ++ partC a b (c.drop (k + 1)) := by
  have e : c[k] = c.getD k [] := by simp [List.getD_eq_getElem?_getD, hk]
  unfold partC
  rw [List.drop_eq_getElem_cons hk, List.flatMap_cons, e]
theorem partC_end {a b : Int} {c : List (List D)} {k : Nat} (hk : c.length ≤ k) : partC a b (c.drop k) = [] := by rw [List.drop_eq_nil_of_le hk]; rfl
theorem partJ_step {a b : Int} {c : List (List D)} {k : Nat} (hk : k < c.length) : partJ a b (c.drop k) = cutJ a b (c.getD k []) ++ partJ a b (c.drop (k + 1)) := by
  have e : c[k] = c.getD k [] := by simp [List.getD_eq_getElem?_getD, hk]
  unfold partJ
  rw [List.drop_eq_getElem_cons hk, List.flatMap_cons, e]
theorem partJ_end {a b : Int} {c : List (List D)} {k : Nat} (hk : c.length ≤ k) : partJ a b (c.drop k) = [] := by rw [List.drop_eq_nil_of_le hk]; rfl
theorem updF_step {g : List D → List D} {l : List (List D)} {k : Nat} (hk : k < l.length) : updF g k (l.length - k) l = updF g (k + 1) (l.length - (k + 1)) (l.set k (g (l.getD k []))) := by
  rw [show l.length - k = (l.length - (k + 1)) + 1 by omega]
  rfl
theorem updF_end {g : List D → List D} {l : List (List D)} {k : Nat} (hk : l.length ≤ k) : updF g k (l.length - k) l = l := by
  rw [show l.length - k = 0 by omega]
  rfl
theorem updF_length {g : List D → List D} : ∀ (k i : Nat) (l : List (List D)), (updF g i k l).length = l.length
  | 0, _, _ => rfl
  | k + 1, i, l => by simp only [updF, updF_length k, List.length_set]
theorem revL_length {can : List D → List D} : ∀ (h i j : Nat) (l : List (List D)), (revL can h i j l).length = l.length
  | 0, _, _, _ => rfl
  | h + 1, i, j, l => by simp only [revL, revL_length h, List.length_set]
theorem revR_length {can : List D → List D} (l : List (List D)) : (revR can l).length = l.length := revL_length _ _ _ _
theorem take1 (x : List D) : List.take 1 [x] = [x] := rfl
theorem set2 {l : List (List D)} {k : Nat} {x : List D} {g : List D → List D} (hk : k < l.length) : (l.set k x).set k (g ((l.set k x).getD k [])) = l.set k (g x) := by
  have e : (l.set k x).getD k [] = x := by simp [List.getD_eq_getElem?_getD, hk]
  rw [e, List.set_set]
theorem ok18_16 (n : Nat) : LoopSim C (n + 4) 18 (loopOf C.P 18 16) (mkL l18_16 G18_16) := by
  refine loop_ofR hC (sp := sp18) (lp := lp18) (sw := sw18) (rg := rg18) ⟨ok51 n, ok53 (n + 3), ok55 (n + 3), trivial⟩ ⟨ok52 (n + 2), ok54 (n + 3), trivial⟩ 0 [] [] (by kernel_rfl) rfl (by kernel_rfl) rfl (fun k hk => by cases hk) (fun k hk => by cases hk) (by kernel_rfl) (fun ds => ((ds.getD 2 default).I - (ds.getD 3 default).I).toNat) fun ds rr h => ?_
  unfold G18_16 at h
  split at h
  · rename_i z q m i p c j a b s o
    obtain ⟨hp, h⟩ := need_some h
    rw [yes_iff] at hp
    obtain ⟨hz, h1, h2, h3, h4, h5, h6⟩ := hp
    refine ⟨by rw [fuelC]; simp; omega, ?_⟩
    rw [roundTK_head (j := z) (n := 0) hz (by decide), show roundTK C (mkTabR sp18 lp18 sw18 rg18) 18 (loopOf C.P 18 16) 0 l18_16 [.i 0, q, m, i, p, c, j, a, b, s, o] = _ from t18_16_0 q m i p c j a b s o]
    obtain ⟨k, hk⟩ : ∃ k : Nat, i.I = k := ⟨i.I.toNat, by omega⟩
    simp only [h1, h2, h6, hk, Int.toNat_natCast, ix_def, Nat.reduceAdd] at h h3 h4 ⊢
    refine rd_if (fun hlt => ?_) fun hge => ?_
    · have hlt : k < c.L.length := by omega
      rw [partC_step hlt] at h
      rw [wrap_succ (by omega)]
      have hmu : ((c.L.length : Int) - ((k + 1 : Nat) : Int)).toNat < (m.I - i.I).toNat := by omega
      refine rd_dec (by omega) (rd_ite (fun w1 => rd_need rfl (rd_false rfl (rd_need rfl ?_))) fun w1 => ?_)
      · rw [show cutC a.I b.I (c.L.getD k []) = [[.i (IntKind.i64.wrap (ix (c.L.getD k []) 0 - a.I)), .i (ix (c.L.getD k []) 1)]] from if_pos w1] at h
        refine rd_again ((need_yes ⟨rfl, rfl, rfl, by simp only [I_i]; omega, by simp only [I_i]; omega, h5, rfl, rfl, by simp only [L_l, I_i, List.length_cons, List.length_nil]; omega⟩).trans ?_) hmu
        simp only [List.cons_append, List.nil_append, List.isEmpty_cons, run_ite, run_leaf, Bool.false_eq_true, if_false] at h ⊢
        exact h
      · rw [show cutC a.I b.I (c.L.getD k []) = [] from if_neg (by rw [w1]; decide), List.nil_append] at h
        refine rd_again ((need_yes ⟨rfl, rfl, rfl, by simp only [I_i]; omega, by simp only [I_i]; omega, h5, rfl⟩).trans ?_) hmu
        exact h
    · rw [partC_end (by omega)] at h
      exact rd_out h
  · rename_i z q m i p c j a b s t o u
    obtain ⟨hp, h⟩ := need_some h
    rw [yes_iff] at hp
    obtain ⟨hz, h1, h2, h3, h4, h5, h6, h7, h8⟩ := hp
    refine ⟨by rw [fuelC]; simp; omega, ?_⟩
    rw [roundTK_head (j := z) (n := 1) hz (by decide), show roundTK C (mkTabR sp18 lp18 sw18 rg18) 18 (loopOf C.P 18 16) 0 l18_16 [.i 1, q, m, i, p, c, j, a, b, s, t, o, u] = _ from t18_16_1 q m i p c j a b s t o u]
    obtain ⟨k, hk⟩ : ∃ k : Nat, i.I = k := ⟨i.I.toNat, by omega⟩
    simp only [h1, h2, h6, h7, hk, Int.toNat_natCast, ix_def, Nat.reduceAdd, List.take_length, List.length_cons, List.length_nil, take1, bytes121] at h h3 h4 ⊢
    refine rd_if (fun hlt => ?_) fun hge => ?_
    · have hlt : k < c.L.length := by omega
      rw [partC_step hlt] at h
      rw [wrap_succ (by omega)]
      have hmu : ((c.L.length : Int) - ((k + 1 : Nat) : Int)).toNat < (m.I - i.I).toNat := by omega
      refine rd_dec (by omega) (rd_ite (fun w1 => rd_need rfl (rd_false rfl (rd_dec (by omega) ?_))) fun w1 => ?_)
      · rw [show cutC a.I b.I (c.L.getD k []) = [[.i (IntKind.i64.wrap (ix (c.L.getD k []) 0 - a.I)), .i (ix (c.L.getD k []) 1)]] from if_pos w1, ← List.append_assoc] at h
        refine rd_again ((need_yes ⟨rfl, rfl, rfl, by simp only [I_i]; omega, by simp only [I_i]; omega, h5, rfl, by simp only [I_i, L_l, List.length_append, List.length_cons, List.length_nil], by simp only [L_l, I_i, List.length_append, List.length_cons, List.length_nil]; omega⟩).trans ?_) hmu
        exact h
      · rw [show cutC a.I b.I (c.L.getD k []) = [] from if_neg (by rw [w1]; decide), List.nil_append] at h
        refine rd_again ((need_yes ⟨rfl, rfl, rfl, by simp only [I_i]; omega, by simp only [I_i]; omega, h5, rfl, rfl, by simp only [L_l, I_i]; omega⟩).trans ?_) hmu
        exact h
    · rw [partC_end (by omega), List.append_nil] at h
      exact rd_out h
  · cases h
theorem ok18_23 (n : Nat) : LoopSim C (n + 4) 18 (loopOf C.P 18 23) (mkL l18_23 G18_23) := by
  refine loop_ofR hC (sp := sp18) (lp := lp18) (sw := sw18) (rg := rg18) ⟨ok51 n, ok53 (n + 3), ok55 (n + 3), trivial⟩ ⟨ok52 (n + 2), ok54 (n + 3), trivial⟩ 0 [] [] (by kernel_rfl) rfl (by kernel_rfl) rfl (fun k hk => by cases hk) (fun k hk => by cases hk) (by kernel_rfl) (fun ds => ((ds.getD 2 default).I - (ds.getD 3 default).I).toNat) fun ds rr h => ?_
  unfold G18_23 at h
  split at h
  · rename_i z q m i a b s o
    obtain ⟨hp, h⟩ := need_some h
    rw [yes_iff] at hp
    obtain ⟨hz, h2, h3, h4, h5, h6⟩ := hp
    refine ⟨by rw [fuelC]; simp; omega, ?_⟩
    rw [roundTK_head (j := z) (n := 0) hz (by decide), show roundTK C (mkTabR sp18 lp18 sw18 rg18) 18 (loopOf C.P 18 23) 0 l18_23 [.i 0, q, m, i, a, b, s, o] = _ from t18_23_0 q m i a b s o]
    obtain ⟨k, hk⟩ : ∃ k : Nat, i.I = k := ⟨i.I.toNat, by omega⟩
    simp only [h2, h6, hk, Int.toNat_natCast, ix_def, Nat.reduceAdd] at h h3 h4 ⊢
    refine rd_if (fun hlt => ?_) fun hge => ?_
    · have hlt : k < q.L.length := by omega
      rw [partJ_step hlt] at h
      rw [wrap_succ (by omega)]
      have hmu : ((q.L.length : Int) - ((k + 1 : Nat) : Int)).toNat < (m.I - i.I).toNat := by omega
      refine rd_dec (by omega) (rd_ite (fun w1 => rd_need rfl (rd_false rfl (rd_need rfl ?_))) fun w1 => ?_)
      · rw [show cutJ a.I b.I (q.L.getD k []) = [[.i (IntKind.i64.wrap (ix (q.L.getD k []) 0 - a.I)), .i (ix (q.L.getD k []) 1), .i (ix (q.L.getD k []) 2)]] from if_pos w1] at h
        refine rd_again ((need_yes ⟨.inr ⟨rfl, by simp only [L_l, I_i, List.length_cons, List.length_nil]; omega⟩, rfl, by simp only [I_i]; omega, by simp only [I_i]; omega, h5, rfl, rfl⟩).trans ?_) hmu
        simp only [List.cons_append, List.nil_append, List.isEmpty_cons, run_ite, run_leaf, Bool.false_eq_true, if_false] at h ⊢
        exact h
      · rw [show cutJ a.I b.I (q.L.getD k []) = [] from if_neg (by rw [w1]; decide), List.nil_append] at h
        refine rd_again ((need_yes ⟨rfl, rfl, by simp only [I_i]; omega, by simp only [I_i]; omega, h5, rfl⟩).trans ?_) hmu
        exact h
    · rw [partJ_end (by omega)] at h
      exact rd_out h
  · rename_i z q m i a b s t o u
    obtain ⟨hp, h⟩ := need_some h
    rw [yes_iff] at hp
    obtain ⟨hz, h2, h3, h4, h5, h6, h7⟩ := hp
    rcases hz with hz | ⟨hz, h8⟩
    · refine ⟨by rw [fuelC]; simp; omega, ?_⟩
      rw [roundTK_head (j := z) (n := 1) hz (by decide), show roundTK C (mkTabR sp18 lp18 sw18 rg18) 18 (loopOf C.P 18 23) 0 l18_23 [.i 1, q, m, i, a, b, s, t, o, u] = _ from t18_23_1 q m i a b s t o u]
      obtain ⟨k, hk⟩ : ∃ k : Nat, i.I = k := ⟨i.I.toNat, by omega⟩
      rw [hz, run_ite, if_pos (by simp)] at h
      simp only [ h2, h6, h7, hk, Int.toNat_natCast, ix_def, Nat.reduceAdd] at h h3 h4 ⊢
      refine rd_if (fun hlt => ?_) fun hge => ?_
      · have hlt : k < q.L.length := by omega
        rw [partJ_step hlt] at h
        rw [wrap_succ (by omega)]
        have hmu : ((q.L.length : Int) - ((k + 1 : Nat) : Int)).toNat < (m.I - i.I).toNat := by omega
        refine rd_dec (by omega) (rd_ite (fun w1 => rd_need rfl (rd_false rfl (rd_need rfl ?_))) fun w1 => ?_)
        · rw [show cutJ a.I b.I (q.L.getD k []) = [[.i (IntKind.i64.wrap (ix (q.L.getD k []) 0 - a.I)), .i (ix (q.L.getD k []) 1), .i (ix (q.L.getD k []) 2)]] from if_pos w1] at h
          refine rd_again ((need_yes ⟨rfl, rfl, by simp only [I_i]; omega, by simp only [I_i]; omega, h5, rfl, rfl, rfl, by simp only [L_l, I_i, List.length_cons, List.length_nil]; omega⟩).trans ?_) hmu
          simp only [List.cons_append, List.nil_append, List.isEmpty_cons, run_ite, run_leaf, Bool.false_eq_true, if_false] at h ⊢
          exact h
        · rw [show cutJ a.I b.I (q.L.getD k []) = [] from if_neg (by rw [w1]; decide), List.nil_append] at h
          refine rd_again ((need_yes ⟨.inl rfl, rfl, by simp only [I_i]; omega, by simp only [I_i]; omega, h5, rfl, rfl⟩).trans ?_) hmu
          exact h
      · rw [partJ_end (by omega)] at h
        exact rd_out h
    · refine ⟨by rw [fuelC]; simp; omega, ?_⟩
      rw [roundTK_head (j := z) (n := 2) hz (by decide), show roundTK C (mkTabR sp18 lp18 sw18 rg18) 18 (loopOf C.P 18 23) 0 l18_23 [.i 2, q, m, i, a, b, s, t, o, u] = _ from t18_23_2 q m i a b s t o u]
      obtain ⟨k, hk⟩ : ∃ k : Nat, i.I = k := ⟨i.I.toNat, by omega⟩
      rw [hz, run_ite, if_neg (by simp)] at h
      simp only [ h2, h6, h7, hk, Int.toNat_natCast, ix_def, Nat.reduceAdd, List.take_length, List.length_cons, List.length_nil, take1, bytes123] at h h3 h4 ⊢
      refine rd_if (fun hlt => ?_) fun hge => ?_
      · have hlt : k < q.L.length := by omega
        rw [partJ_step hlt] at h
        rw [wrap_succ (by omega)]
        have hmu : ((q.L.length : Int) - ((k + 1 : Nat) : Int)).toNat < (m.I - i.I).toNat := by omega
        refine rd_dec (by omega) (rd_ite (fun w1 => rd_need rfl (rd_false rfl (rd_dec (by omega) ?_))) fun w1 => ?_)
        · rw [show cutJ a.I b.I (q.L.getD k []) = [[.i (IntKind.i64.wrap (ix (q.L.getD k []) 0 - a.I)), .i (ix (q.L.getD k []) 1), .i (ix (q.L.getD k []) 2)]] from if_pos w1, ← List.append_assoc] at h
          refine rd_again ((need_yes ⟨.inr ⟨rfl, by simp only [L_l, I_i, List.length_append, List.length_cons, List.length_nil]; omega⟩, rfl, by simp only [I_i]; omega, by simp only [I_i]; omega, h5, rfl, by simp only [I_i, L_l, List.length_append, List.length_cons, List.length_nil]⟩).trans ?_) hmu
          exact h
        · rw [show cutJ a.I b.I (q.L.getD k []) = [] from if_neg (by rw [w1]; decide), List.nil_append] at h
          refine rd_again ((need_yes ⟨.inr ⟨rfl, by simp only [L_l, I_i]; omega⟩, rfl, by simp only [I_i]; omega, by simp only [I_i]; omega, h5, rfl, rfl⟩).trans ?_) hmu
          exact h
      · rw [partJ_end (by omega), List.append_nil] at h
        exact rd_out h
  · rename_i z q m i a b s t v o u w
    obtain ⟨hp, h⟩ := need_some h
    rw [yes_iff] at hp
    obtain ⟨hz, h2, h3, h4, h5, h6, h7, h8, h9⟩ := hp
    refine ⟨by rw [fuelC]; simp; omega, ?_⟩
    rw [roundTK_head (j := z) (n := 3) hz (by decide), show roundTK C (mkTabR sp18 lp18 sw18 rg18) 18 (loopOf C.P 18 23) 0 l18_23 [.i 3, q, m, i, a, b, s, t, v, o, u, w] = _ from t18_23_3 q m i a b s t v o u w]
    obtain ⟨k, hk⟩ : ∃ k : Nat, i.I = k := ⟨i.I.toNat, by omega⟩
    simp only [h2, h6, h7, h8, hk, Int.toNat_natCast, ix_def, Nat.reduceAdd, List.take_length, List.length_cons, List.length_nil, take1, bytes123] at h h3 h4 ⊢
    refine rd_if (fun hlt => ?_) fun hge => ?_
    · have hlt : k < q.L.length := by omega
      rw [partJ_step hlt] at h
      rw [wrap_succ (by omega)]
      have hmu : ((q.L.length : Int) - ((k + 1 : Nat) : Int)).toNat < (m.I - i.I).toNat := by omega
      refine rd_dec (by omega) (rd_ite (fun w1 => rd_need rfl (rd_false rfl (rd_dec (by omega) ?_))) fun w1 => ?_)
      · rw [show cutJ a.I b.I (q.L.getD k []) = [[.i (IntKind.i64.wrap (ix (q.L.getD k []) 0 - a.I)), .i (ix (q.L.getD k []) 1), .i (ix (q.L.getD k []) 2)]] from if_pos w1, ← List.append_assoc] at h
        refine rd_again ((need_yes ⟨rfl, rfl, by simp only [I_i]; omega, by simp only [I_i]; omega, h5, rfl, rfl, by simp only [I_i, L_l, List.length_append, List.length_cons, List.length_nil], by simp only [L_l, I_i, List.length_append, List.length_cons, List.length_nil]; omega⟩).trans ?_) hmu
        exact h
      · rw [show cutJ a.I b.I (q.L.getD k []) = [] from if_neg (by rw [w1]; decide), List.nil_append] at h
        refine rd_again ((need_yes ⟨rfl, rfl, by simp only [I_i]; omega, by simp only [I_i]; omega, h5, rfl, rfl, rfl, by simp only [L_l, I_i]; omega⟩).trans ?_) hmu
        exact h
    · rw [partJ_end (by omega), List.append_nil] at h
      exact rd_out h
  · cases h
end Go.Proofs.Ytgoedfonmocafaa

namespace Go.Proofs.Ytgoedfonmocafaa
open Go.Lite
set_option maxRecDepth 100000
theorem getD_set {l : List (List D)} {k : Nat} {x : List D} (hk : k < l.length) : (l.set k x).getD k [] = x := by simp [List.getD_eq_getElem?_getD, hk]
theorem many60 (n : Nat) : FnOKW C (n + 1) 60 (mkFWs [(s60, G60), (s1060, G1060)]) := many_ok ⟨ok60 n, ok1060 n, trivial⟩
theorem many61 (n : Nat) : FnOKW C (n + 1) 61 (mkFWs [(s61, G61), (s1061, G1061)]) := many_ok ⟨ok61 n, ok1061 n, trivial⟩
theorem ok20_10 (n : Nat) : LoopSim C (n + 4) 20 (loopOf C.P 20 10) (mkL l20_10 G20_10) := by
  refine loop_ofK hC (sp := sp20) (lp := lp20) (sw := sw20) ⟨ok51 n, ok53 (n + 3), ok56 (n + 3), ok57 (n + 3), ok58 (n + 3), trivial⟩ ⟨ok52 (n + 2), ok59 (n + 3), many60 (n + 3), many61 (n + 3), trivial⟩ 0 [] (by kernel_rfl) rfl (fun k hk => by cases hk) (by kernel_rfl) (fun ds => ((ds.getD 2 default).I - (ds.getD 3 default).I).toNat) fun ds rr h => ?_
  unfold G20_10 at h
  split at h
  · rename_i z n m i s o
    obtain ⟨hp, h⟩ := need_some h
    rw [yes_iff] at hp
    obtain ⟨hz, h6, h1, h2, h3, h4⟩ := hp
    refine ⟨by rw [fuelC]; simp; omega, ?_⟩
    rw [roundTK_head (j := z) (n := 0) hz (by decide), show roundTK C (mkTab sp20 lp20 sw20) 20 (loopOf C.P 20 10) 0 l20_10 [.i 0, n, m, i, s, o] = _ from t20_10_0 n m i s o]
    obtain ⟨k, hk⟩ : ∃ k : Nat, i.I = k := ⟨i.I.toNat, by omega⟩
    simp only [h6, h1, hk, Int.toNat_natCast, ix_def, Nat.reduceAdd, lenD] at h h2 h3 ⊢
    refine rd_if (fun hlt => ?_) fun hge => ?_
    · have hlt : k < o.L.length := by omega
      rw [updF_step hlt] at h
      rw [wrap_succ (by omega)]
      have hmu : ((o.L.length : Int) - ((k + 1 : Nat) : Int)).toNat < (m.I - i.I).toNat := by omega
      repeat refine rd_dec (by omega) ?_
      refine rd_again ((need_yes ⟨rfl, by simp only [I_i, L_l, List.length_set], by simp only [I_i, L_l, List.length_set], by simp only [I_i]; omega, by simp only [I_i, L_l, List.length_set]; omega, by simp only [L_l, List.length_set]; omega⟩).trans ?_) hmu
      simp only [L_l, I_i, Int.toNat_natCast, List.length_set, lenD]
      exact h
    · rw [updF_end (by omega)] at h
      exact rd_out h
  · rename_i z n m i s t o u
    obtain ⟨hp, h⟩ := need_some h
    rw [yes_iff] at hp
    obtain ⟨hz, h6, h7, h1, h2, h3, h4⟩ := hp
    rcases hz with hz | hz
    · refine ⟨by rw [fuelC]; simp; omega, ?_⟩
      rw [roundTK_head (j := z) (n := 1) hz (by decide), show roundTK C (mkTab sp20 lp20 sw20) 20 (loopOf C.P 20 10) 0 l20_10 [.i 1, n, m, i, s, t, o, u] = _ from t20_10_1 n m i s t o u]
      obtain ⟨k, hk⟩ : ∃ k : Nat, i.I = k := ⟨i.I.toNat, by omega⟩
      simp only [hz, h6, h7, h1, hk, Int.toNat_natCast, ix_def, Nat.reduceAdd, lenD] at h h2 h3 ⊢
      refine rd_if (fun hlt => ?_) fun hge => ?_
      · have hlt : k < o.L.length := by omega
        rw [updF_step hlt] at h
        rw [wrap_succ (by omega)]
        have hmu : ((o.L.length : Int) - ((k + 1 : Nat) : Int)).toNat < (m.I - i.I).toNat := by omega
        repeat refine rd_dec (by omega) ?_
        refine rd_again ((need_yes ⟨.inl rfl, by simp only [I_i, L_l, List.length_set], rfl, by simp only [I_i, L_l, List.length_set], by simp only [I_i]; omega, by simp only [I_i, L_l, List.length_set]; omega, by simp only [L_l, List.length_set]; omega⟩).trans ?_) hmu
        simp only [L_l, I_i, Int.toNat_natCast, List.length_set, lenD]
        exact h
      · rw [updF_end (by omega)] at h
        exact rd_out h
    · refine ⟨by rw [fuelC]; simp; omega, ?_⟩
      rw [roundTK_head (j := z) (n := 2) hz (by decide), show roundTK C (mkTab sp20 lp20 sw20) 20 (loopOf C.P 20 10) 0 l20_10 [.i 2, n, m, i, s, t, o, u] = _ from t20_10_2 n m i s t o u]
      obtain ⟨k, hk⟩ : ∃ k : Nat, i.I = k := ⟨i.I.toNat, by omega⟩
      simp only [hz, h6, h7, h1, hk, Int.toNat_natCast, ix_def, Nat.reduceAdd, lenD] at h h2 h3 ⊢
      refine rd_if (fun hlt => ?_) fun hge => ?_
      · have hlt : k < o.L.length := by omega
        rw [updF_step hlt] at h
        rw [wrap_succ (by omega)]
        have hmu : ((o.L.length : Int) - ((k + 1 : Nat) : Int)).toNat < (m.I - i.I).toNat := by omega
        repeat refine rd_dec (by omega) ?_
        refine rd_again ((need_yes ⟨.inr rfl, by simp only [I_i, L_l, List.length_set], rfl, by simp only [I_i, L_l, List.length_set], by simp only [I_i]; omega, by simp only [I_i, L_l, List.length_set]; omega, by simp only [L_l, List.length_set]; omega⟩).trans ?_) hmu
        simp only [L_l, I_i, Int.toNat_natCast, List.length_set, lenD]
        exact h
      · rw [updF_end (by omega)] at h
        exact rd_out h
  · rename_i z n m i s t v o u w
    obtain ⟨hp, h⟩ := need_some h
    rw [yes_iff] at hp
    obtain ⟨hz, h6, h7, h8, h1, h2, h3, h4⟩ := hp
    refine ⟨by rw [fuelC]; simp; omega, ?_⟩
    rw [roundTK_head (j := z) (n := 3) hz (by decide), show roundTK C (mkTab sp20 lp20 sw20) 20 (loopOf C.P 20 10) 0 l20_10 [.i 3, n, m, i, s, t, v, o, u, w] = _ from t20_10_3 n m i s t v o u w]
    obtain ⟨k, hk⟩ : ∃ k : Nat, i.I = k := ⟨i.I.toNat, by omega⟩
    simp only [h6, h7, h8, h1, hk, Int.toNat_natCast, ix_def, Nat.reduceAdd, lenD] at h h2 h3 ⊢
    refine rd_if (fun hlt => ?_) fun hge => ?_
    · have hlt : k < o.L.length := by omega
      rw [updF_step hlt] at h
      rw [wrap_succ (by omega)]
      have hmu : ((o.L.length : Int) - ((k + 1 : Nat) : Int)).toNat < (m.I - i.I).toNat := by omega
      repeat refine rd_dec (by omega) ?_
      refine rd_again ((need_yes ⟨rfl, by simp only [I_i, L_l, List.length_set], rfl, rfl, by simp only [I_i, L_l, List.length_set], by simp only [I_i]; omega, by simp only [I_i, L_l, List.length_set]; omega, by simp only [L_l, List.length_set]; omega⟩).trans ?_) hmu
      simp only [L_l, I_i, Int.toNat_natCast, List.length_set, lenD]
      exact h
    · rw [updF_end (by omega)] at h
      exact rd_out h
  · cases h
theorem ok20_15 (n : Nat) : LoopSim C (n + 4) 20 (loopOf C.P 20 15) (mkL l20_15 G20_15) := by
  refine loop_ofK hC (sp := sp20) (lp := lp20) (sw := sw20) ⟨ok51 n, ok53 (n + 3), ok56 (n + 3), ok57 (n + 3), ok58 (n + 3), trivial⟩ ⟨ok52 (n + 2), ok59 (n + 3), many60 (n + 3), many61 (n + 3), trivial⟩ 0 [] (by kernel_rfl) rfl (fun k hk => by cases hk) (by kernel_rfl) (fun ds => ((ds.getD 2 default).I - (ds.getD 3 default).I).toNat) fun ds rr h => ?_
  unfold G20_15 at h
  split at h
  · rename_i z n m i s o
    obtain ⟨hp, h⟩ := need_some h
    rw [yes_iff] at hp
    obtain ⟨hz, h6, h1, h2⟩ := hp
    refine ⟨by rw [fuelC]; simp; omega, ?_⟩
    rw [roundTK_head (j := z) (n := 0) hz (by decide), show roundTK C (mkTab sp20 lp20 sw20) 20 (loopOf C.P 20 15) 0 l20_15 [.i 0, n, m, i, s, o] = _ from t20_15_0 n m i s o]
    refine rd_neg (by omega) ?_
    simp only [h6, Int.toNat_natCast]
    exact rd_out h
  · rename_i z n m i s t o u
    obtain ⟨hp, h⟩ := need_some h
    rw [yes_iff] at hp
    obtain ⟨hz, h6, h7⟩ := hp
    rcases hz with ⟨hz, h1, h2⟩ | ⟨hz, h1, h2, h3, h4⟩
    · refine ⟨by rw [fuelC]; simp; omega, ?_⟩
      rw [roundTK_head (j := z) (n := 1) hz (by decide), show roundTK C (mkTab sp20 lp20 sw20) 20 (loopOf C.P 20 15) 0 l20_15 [.i 1, n, m, i, s, t, o, u] = _ from t20_15_1 n m i s t o u]
      rw [hz, run_ite, if_pos (by simp)] at h
      refine rd_neg (by omega) ?_
      simp only [h6, h7, Int.toNat_natCast]
      exact rd_out h
    · refine ⟨by rw [fuelC]; simp; omega, ?_⟩
      rw [roundTK_head (j := z) (n := 2) hz (by decide), show roundTK C (mkTab sp20 lp20 sw20) 20 (loopOf C.P 20 15) 0 l20_15 [.i 2, n, m, i, s, t, o, u] = _ from t20_15_2 n m i s t o u]
      obtain ⟨k, hk⟩ : ∃ k : Nat, i.I = k := ⟨i.I.toNat, by omega⟩
      rw [hz, run_ite, if_neg (by simp)] at h
      simp only [h6, h7, h1, hk, Int.toNat_natCast, ix_def, Nat.reduceAdd, lenD] at h h2 h3 ⊢
      refine rd_if (fun hlt => ?_) fun hge => ?_
      · have hlt : k < u.L.length := by omega
        rw [updF_step hlt] at h
        rw [wrap_succ (by omega)]
        have hmu : ((u.L.length : Int) - ((k + 1 : Nat) : Int)).toNat < (m.I - i.I).toNat := by omega
        repeat refine rd_dec (by omega) ?_
        refine rd_again ((need_yes ⟨.inr ⟨rfl, by simp only [I_i, L_l, List.length_set], by simp only [I_i]; omega, by simp only [I_i, L_l, List.length_set]; omega, by simp only [L_l, List.length_set]; omega⟩, rfl, by simp only [I_i, L_l, List.length_set]⟩).trans ?_) hmu
        rw [run_ite, if_neg (by simp [D.I])]
        simp only [L_l, I_i, Int.toNat_natCast, List.length_set, lenD]
        exact h
      · rw [updF_end (by omega)] at h
        exact rd_out h
  · rename_i z n m i s t v o u w
    obtain ⟨hp, h⟩ := need_some h
    rw [yes_iff] at hp
    obtain ⟨hz, h6, h7, h8, h1, h2, h3, h4⟩ := hp
    refine ⟨by rw [fuelC]; simp; omega, ?_⟩
    rw [roundTK_head (j := z) (n := 3) hz (by decide), show roundTK C (mkTab sp20 lp20 sw20) 20 (loopOf C.P 20 15) 0 l20_15 [.i 3, n, m, i, s, t, v, o, u, w] = _ from t20_15_3 n m i s t v o u w]
    obtain ⟨k, hk⟩ : ∃ k : Nat, i.I = k := ⟨i.I.toNat, by omega⟩
    simp only [h6, h7, h8, h1, hk, Int.toNat_natCast, ix_def, Nat.reduceAdd, lenD] at h h2 h3 ⊢
    refine rd_if (fun hlt => ?_) fun hge => ?_
    · have hlt : k < u.L.length := by omega
      rw [updF_step hlt] at h
      rw [wrap_succ (by omega)]
      have hmu : ((u.L.length : Int) - ((k + 1 : Nat) : Int)).toNat < (m.I - i.I).toNat := by omega
      repeat refine rd_dec (by omega) ?_
      refine rd_again ((need_yes ⟨rfl, rfl, by simp only [I_i, L_l, List.length_set], rfl, by simp only [I_i, L_l, List.length_set], by simp only [I_i]; omega, by simp only [I_i, L_l, List.length_set]; omega, by simp only [L_l, List.length_set]; omega⟩).trans ?_) hmu
      simp only [L_l, I_i, Int.toNat_natCast, List.length_set, lenD]
      exact h
    · rw [updF_end (by omega)] at h
      exact rd_out h
  · cases h
theorem ok20_20 (n : Nat) : LoopSim C (n + 4) 20 (loopOf C.P 20 20) (mkL l20_20 G20_20) := by
  refine loop_ofK hC (sp := sp20) (lp := lp20) (sw := sw20) ⟨ok51 n, ok53 (n + 3), ok56 (n + 3), ok57 (n + 3), ok58 (n + 3), trivial⟩ ⟨ok52 (n + 2), ok59 (n + 3), many60 (n + 3), many61 (n + 3), trivial⟩ 0 [] (by kernel_rfl) rfl (fun k hk => by cases hk) (by kernel_rfl) (fun ds => ((ds.getD 2 default).I - (ds.getD 3 default).I).toNat) fun ds rr h => ?_
  unfold G20_20 at h
  split at h
  · rename_i z n m i s o
    obtain ⟨hp, h⟩ := need_some h
    rw [yes_iff] at hp
    obtain ⟨hz, h6, h1, h2⟩ := hp
    refine ⟨by rw [fuelC]; simp; omega, ?_⟩
    rw [roundTK_head (j := z) (n := 0) hz (by decide), show roundTK C (mkTab sp20 lp20 sw20) 20 (loopOf C.P 20 20) 0 l20_20 [.i 0, n, m, i, s, o] = _ from t20_20_0 n m i s o]
    refine rd_neg (by omega) ?_
    simp only [h6, Int.toNat_natCast]
    exact rd_out h
  · rename_i z n m i s t o u
    obtain ⟨hp, h⟩ := need_some h
    rw [yes_iff] at hp
    obtain ⟨hz, h6, h7⟩ := hp
    rcases hz with ⟨hz, h1, h2⟩ | ⟨hz, h1, h2, h3, h4⟩
    · refine ⟨by rw [fuelC]; simp; omega, ?_⟩
      rw [roundTK_head (j := z) (n := 2) hz (by decide), show roundTK C (mkTab sp20 lp20 sw20) 20 (loopOf C.P 20 20) 0 l20_20 [.i 2, n, m, i, s, t, o, u] = _ from t20_20_2 n m i s t o u]
      rw [hz, run_ite, if_pos (by simp)] at h
      refine rd_neg (by omega) ?_
      simp only [h6, h7, Int.toNat_natCast]
      exact rd_out h
    · refine ⟨by rw [fuelC]; simp; omega, ?_⟩
      rw [roundTK_head (j := z) (n := 1) hz (by decide), show roundTK C (mkTab sp20 lp20 sw20) 20 (loopOf C.P 20 20) 0 l20_20 [.i 1, n, m, i, s, t, o, u] = _ from t20_20_1 n m i s t o u]
      obtain ⟨k, hk⟩ : ∃ k : Nat, i.I = k := ⟨i.I.toNat, by omega⟩
      rw [hz, run_ite, if_neg (by simp)] at h
      simp only [h6, h7, h1, hk, Int.toNat_natCast, ix_def, Nat.reduceAdd, List.length_set, lenD] at h h2 h3 ⊢
      refine rd_if (fun hlt => ?_) fun hge => ?_
      · have hlt : k < u.L.length := by omega
        rw [updF_step hlt] at h
        rw [wrap_succ (by omega), getD_set hlt, List.set_set]
        have hmu : ((u.L.length : Int) - ((k + 1 : Nat) : Int)).toNat < (m.I - i.I).toNat := by omega
        repeat refine rd_dec (by omega) ?_
        refine rd_again ((need_yes ⟨.inr ⟨rfl, by simp only [I_i, L_l, List.length_set], by simp only [I_i]; omega, by simp only [I_i, L_l, List.length_set]; omega, by simp only [L_l, List.length_set]; omega⟩, rfl, by simp only [I_i, L_l, List.length_set]⟩).trans ?_) hmu
        rw [run_ite, if_neg (by simp [D.I])]
        simp only [L_l, I_i, Int.toNat_natCast, List.length_set, lenD]
        exact h
      · rw [updF_end (by omega)] at h
        exact rd_out h
  · rename_i z n m i s t v o u w
    obtain ⟨hp, h⟩ := need_some h
    rw [yes_iff] at hp
    obtain ⟨hz, h6, h7, h8, h1, h2, h3, h4⟩ := hp
    refine ⟨by rw [fuelC]; simp; omega, ?_⟩
    rw [roundTK_head (j := z) (n := 3) hz (by decide), show roundTK C (mkTab sp20 lp20 sw20) 20 (loopOf C.P 20 20) 0 l20_20 [.i 3, n, m, i, s, t, v, o, u, w] = _ from t20_20_3 n m i s t v o u w]
    obtain ⟨k, hk⟩ : ∃ k : Nat, i.I = k := ⟨i.I.toNat, by omega⟩
    simp only [h6, h7, h8, h1, hk, Int.toNat_natCast, ix_def, Nat.reduceAdd, List.length_set, lenD] at h h2 h3 ⊢
    refine rd_if (fun hlt => ?_) fun hge => ?_
    · have hlt : k < w.L.length := by omega
      rw [updF_step hlt] at h
      rw [wrap_succ (by omega), getD_set hlt, List.set_set]
      have hmu : ((w.L.length : Int) - ((k + 1 : Nat) : Int)).toNat < (m.I - i.I).toNat := by omega
      repeat refine rd_dec (by omega) ?_
      refine rd_again ((need_yes ⟨rfl, rfl, rfl, by simp only [I_i, L_l, List.length_set], by simp only [I_i, L_l, List.length_set], by simp only [I_i]; omega, by simp only [I_i, L_l, List.length_set]; omega, by simp only [L_l, List.length_set]; omega⟩).trans ?_) hmu
      simp only [L_l, I_i, Int.toNat_natCast, List.length_set, lenD]
      exact h
    · rw [updF_end (by omega)] at h
      exact rd_out h
  · cases h
end Go.Proofs.Ytgoedfonmocafaa

namespace Go.Proofs.Ytgoedfonmocafaa
open Go.Lite
set_option maxRecDepth 100000
theorem kk18 {z n p c j a b : D} (hz : z.I = 0) (x : List D) : (headA h18_11 [z, n, p, c, j, a, b]).h.length + (y98.head x).2.length = 5 := by
  rw [headA_head _ hz (by decide)]
  rfl
theorem kk18' {z n p c j a b s o : D} (hz : z.I = 1) (x : List D) : (headA h18_11 [z, n, p, c, j, a, b, s, o]).h.length + (y98.head x).2.length = 6 := by
  rw [headA_head _ hz (by decide)]
  rfl
theorem cutY_mk {a b g h i j k l : Int} : cutY a b [.i g, .i h, .i i, .i j, .i k, .i l] = if maxI g a < minI (g + h) b then [[.i (minI (g + h) b - maxI g a), .i i, .i j, .i k, .i l]] else [] := rfl
theorem fold18 (L : List (List D)) : ∀ (ds : List D) (rr : Ex × List D), (G18_11 L ds).run = some rr → FoldR (fun ds el => (roundRT C tab18 18 (rangeOf C.P 18 11) 0 ((headA h18_11 ds).h.length + (y98.head el).2.length) [3, 4, 5, 6, 7, 10, 42] h18_11 y98 ds el).run) y98.give (fun a b => headA h18_11 a = headA h18_11 b) ds L rr.1 rr.2 := by
  induction L with
  | nil =>
    intro ds rr h
    unfold G18_11 at h
    split at h
    · obtain ⟨hp, h⟩ := need_some h
      rw [yes_iff] at hp
      exact absurd rfl hp.2.2.1
    · rename_i z n p c j a b s o
      obtain ⟨hp, h⟩ := need_some h
      rw [yes_iff] at hp
      cases h
      refine .nil ?_
      rw [headA_head _ hp.1 (by decide)]
      have e : headA h18_11 [.i 1, n, p, c, j, a, b, s, o] = headA h18_11 [.i 1, .i n.I, .l p.L, .l c.L, .l j.L, .i a.I, .i b.I, .i s.I, .l o.L] := rfl
      rw [e, hp.2.2.1]
      simp only [partY, List.flatMap_nil, List.append_nil]
    · cases h
  | cons x L ih =>
    intro ds rr h
    unfold G18_11 at h
    split at h
    · rename_i z n p c j a b
      obtain ⟨hp, h⟩ := need_some h
      rw [yes_iff] at hp
      obtain ⟨hz, hy, hne, hl, ha, hb⟩ := hp
      have hx := hy x List.mem_cons_self
      have hys : ∀ y ∈ L, yP y := fun y hy' => hy y (List.mem_cons_of_mem _ hy')
      obtain ⟨hx1, hx2, hx3⟩ := hx
      generalize ix x 0 = g at hx1 hx2
      generalize ix x 1 = k at hx1 hx3
      generalize ix x 2 = u at hx1
      generalize ix x 3 = v at hx1
      generalize ix x 4 = w at hx1
      generalize ix x 5 = y at hx1
      subst hx1
      simp only [List.length_cons] at hl
      have hround := congrArg T.run ((roundRT_head (C := C) (tab := tab18) (f := 18) (r := rangeOf C.P 18 11) (k := 0) (kk := 5) (live := [3, 4, 5, 6, 7, 10, 42]) (hs := h18_11) (Y := y98) [n, p, c, j, a, b] [.i g, .i k, .i u, .i v, .i w, .i y] hz (by decide)).trans (t18_r11_0 n p c j a b (.i g) (.i k) (.i u) (.i v) (.i w) (.i y)))
      have w1 : IntKind.i64.wrap (g + k) = g + k := wrap_id (by omega) (by omega)
      simp only [I_i, w1] at hround
      have e0 : partY a.I b.I ([.i g, .i k, .i u, .i v, .i w, .i y] :: L) = cutY a.I b.I [.i g, .i k, .i u, .i v, .i w, .i y] ++ partY a.I b.I L := by simp only [partY, List.flatMap_cons]
      rw [e0, cutY_mk] at h hne
      by_cases hc : maxI g a.I < minI (g + k) b.I
      · rw [if_pos hc] at h
        have w2 : IntKind.i64.wrap (minI (g + k) b.I - maxI g a.I) = minI (g + k) b.I - maxI g a.I := wrap_id (by unfold maxI minI; split <;> split <;> omega) (by unfold maxI minI; split <;> split <;> omega)
        rw [w2] at hround
        refine .again (x' := []) (ds' := [.i 1, .i n.I, .l p.L, .l c.L, .l j.L, .i a.I, .i b.I, .i 1, .l [[.i (minI (g + k) b.I - maxI g a.I), .i u, .i v, .i w, .i y]]]) ?_ (fun h => by cases h) (ih _ _ ?_)
        · simp only [kk18 hz]
          exact hround.trans (go_pos hc (go_need rfl (go_false rfl (go_need rfl rfl))))
        · refine (need_yes ⟨rfl, hys, rfl, by simp only [L_l, List.length_cons, List.length_nil]; omega, ha, hb⟩).trans ?_
          exact h
      · rw [if_neg hc] at h hne
        refine .again (x' := []) (ds' := [.i 0, .i n.I, .l p.L, .l c.L, .l j.L, .i a.I, .i b.I]) ?_ (fun h => by cases h) (ih _ _ ?_)
        · simp only [kk18 hz]
          exact hround.trans (go_neg hc rfl)
        · refine (need_yes ⟨rfl, hys, hne, by omega, ha, hb⟩).trans ?_
          exact h
    · rename_i z n p c j a b s o
      obtain ⟨hp, h⟩ := need_some h
      rw [yes_iff] at hp
      obtain ⟨hz, hy, hs, hl, ha, hb⟩ := hp
      have hx := hy x List.mem_cons_self
      have hys : ∀ y ∈ L, yP y := fun y hy' => hy y (List.mem_cons_of_mem _ hy')
      obtain ⟨hx1, hx2, hx3⟩ := hx
      generalize ix x 0 = g at hx1 hx2
      generalize ix x 1 = k at hx1 hx3
      generalize ix x 2 = u at hx1
      generalize ix x 3 = v at hx1
      generalize ix x 4 = w at hx1
      generalize ix x 5 = y at hx1
      subst hx1
      simp only [List.length_cons] at hl
      have hround := congrArg T.run ((roundRT_head (C := C) (tab := tab18) (f := 18) (r := rangeOf C.P 18 11) (k := 0) (kk := 6) (live := [3, 4, 5, 6, 7, 10, 42]) (hs := h18_11) (Y := y98) [n, p, c, j, a, b, s, o] [.i g, .i k, .i u, .i v, .i w, .i y] hz (by decide)).trans (t18_r11_1 n p c j a b s o (.i g) (.i k) (.i u) (.i v) (.i w) (.i y)))
      have w1 : IntKind.i64.wrap (g + k) = g + k := wrap_id (by omega) (by omega)
      simp only [I_i, w1, hs, Int.toNat_natCast, List.take_length, List.length_cons, List.length_nil, Nat.zero_add, take1, bytes51] at hround
      have e0 : partY a.I b.I ([.i g, .i k, .i u, .i v, .i w, .i y] :: L) = cutY a.I b.I [.i g, .i k, .i u, .i v, .i w, .i y] ++ partY a.I b.I L := by simp only [partY, List.flatMap_cons]
      rw [e0, cutY_mk] at h
      by_cases hc : maxI g a.I < minI (g + k) b.I
      · rw [if_pos hc, ← List.append_assoc] at h
        have w2 : IntKind.i64.wrap (minI (g + k) b.I - maxI g a.I) = minI (g + k) b.I - maxI g a.I := wrap_id (by unfold maxI minI; split <;> split <;> omega) (by unfold maxI minI; split <;> split <;> omega)
        rw [w2] at hround
        refine .again (x' := []) (ds' := [.i 1, .i n.I, .l p.L, .l c.L, .l j.L, .i a.I, .i b.I, .i (o.L.length + 1 : Nat), .l (o.L ++ [[.i (minI (g + k) b.I - maxI g a.I), .i u, .i v, .i w, .i y]])]) ?_ (fun h => by cases h) (ih _ _ ?_)
        · simp only [kk18' hz]
          exact hround.trans (go_pos hc (go_need rfl (go_false rfl (go_dec (by omega) rfl))))
        · refine (need_yes ⟨rfl, hys, by simp only [L_l, I_i, List.length_append, List.length_cons, List.length_nil], by simp only [L_l, List.length_append, List.length_cons, List.length_nil]; omega, ha, hb⟩).trans ?_
          exact h
      · rw [if_neg hc, List.nil_append] at h
        refine .again (x' := []) (ds' := [.i 1, .i n.I, .l p.L, .l c.L, .l j.L, .i a.I, .i b.I, .i o.L.length, .l o.L]) ?_ (fun h => by cases h) (ih _ _ ?_)
        · simp only [kk18' hz]
          exact hround.trans (go_neg hc rfl)
        · refine (need_yes ⟨rfl, hys, rfl, by simp only [L_l]; omega, ha, hb⟩).trans ?_
          exact h
    · cases h
theorem ok18_11 (n : Nat) : CodeSim C (n + 4) 0 18 (rangeOf C.P 18 11).code none 0 (rangeS 0 [3, 4, 5, 6, 7, 10, 42] (rangeOf C.P 18 11).1 it18_11 h18_11 G18_11) :=
  range_of0 hC (sp := sp18) (lp := lp18) (sw := sw18) (rg := rg18) (Y := y98) (yOK_mk _ _ _) ⟨ok51 n, ok53 (n + 3), ok55 (n + 3), trivial⟩ ⟨ok52 (n + 2), ok54 (n + 3), trivial⟩ 11 0 (by exact ⟨by kernel_rfl, by kernel_rfl⟩) (by exact ⟨by kernel_rfl, by kernel_rfl⟩)
    (by kernel_rfl) (by kernel_rfl) (it := it18_11) ⟨ok98 (n + 3), trivial⟩ fun L ds rr h => fold18 L ds rr h
theorem part_ne {p : List (List D)} {a b : Int} : ∀ (k i : Nat) (n : Int), (∀ j, i ≤ j → j < i + k → 1 ≤ ix (p.getD j []) 0) → maxI n a < minI (n + lenFrom p i k) b → partY a b (yldP p i k n) ≠ []
  | 0, i, n, _, h => by
    simp only [lenFrom] at h
    unfold maxI minI at h
    split at h <;> split at h <;> omega
  | k + 1, i, n, hp, h => by
    have h0 := hp i (Nat.le_refl _) (by omega)
    simp only [yldP, partY, List.flatMap_cons, cutY_mk]
    split
    · simp
    · rename_i hc
      rw [List.nil_append]
      refine part_ne k (i + 1) (n + ix (p.getD i []) 0) (fun j x y => hp j (by omega) (by omega)) ?_
      simp only [lenFrom] at h
      unfold maxI minI at h hc ⊢
      repeat' (split at h)
      all_goals repeat' (split at hc)
      all_goals repeat' split
      all_goals omega
theorem road_of {p c j : List (List D)} (h : roadP p c j) : manyP p ∧ c.length ≤ 1000 ∧ j.length ≤ 200 ∧ lenR p ≤ 100000 ∧ p ≠ [] := by
  unfold roadP roadOk sizesOk at h
  simp only [Bool.and_eq_true, decide_eq_true_eq, Lite.within_iff] at h
  obtain ⟨⟨⟨⟨⟨⟨h1, h2⟩, h3⟩, h4⟩, h5⟩, -⟩, -⟩ := h
  refine ⟨⟨by omega, by omega, h4⟩, h2, h3, h5, ?_⟩
  intro e
  rw [e] at h1
  simp at h1
theorem yP_all {p : List (List D)} (hm : manyP p) : ∀ (k i : Nat) (n : Int), i + k ≤ p.length → n = lenFrom p 0 i → ∀ x ∈ yldP p i k n, yP x
  | 0, _, _, _, _, x, hx => by cases hx
  | k + 1, i, n, hi, hn, x, hx => by
    have h1 := piece_rng hm.2.2 (k := i) (by omega)
    simp only [yldP, List.mem_cons] at hx
    rcases hx with rfl | hx
    · have hb := lenFrom_bound (l := p) i 0 fun y a b => (allFrom_iff.1 hm.2.2) y (Nat.zero_le _) (by omega)
      have h2 := hm.2.1
      exact ⟨rfl, by show 0 ≤ n ∧ n ≤ 100000000; omega, by show 0 ≤ ix (p.getD i []) 0; omega, by show ix (p.getD i []) 0 ≤ 5000; omega⟩
    · exact yP_all hm k (i + 1) _ (by omega) (by rw [hn, lenFrom_succ]) x hx
theorem ok18 (n : Nat) : FnOK C (n + 5) 18 (mkF s18 G18) := by
  refine fn_ofR hC (sp := sp18) (lp := lp18) (sw := sw18) (rg := rg18) ⟨ok51 n, ok53 (n + 3), ok55 (n + 3), trivial⟩ ⟨ok52 (n + 2), ok54 (n + 3), trivial⟩ (by kernel_rfl) [16, 23] [11] (by kernel_rfl) (by kernel_rfl) (by kernel_rfl) (by kernel_rfl)
    (fun k hk L hL => by simp at hk; rcases hk with hk | hk <;> subst hk <;> cases hL; exact ok18_16 n; exact ok18_23 n) (fun k hk L hL => by simp at hk; subst hk; cases hL; exact ok18_11 n) fun ds r h => ?_
  unfold G18 at h
  split at h
  · rename_i p c j a b
    obtain ⟨hp, h⟩ := need_some h
    rw [yes_iff] at hp
    obtain ⟨hr, h1, h2, h3⟩ := hp
    obtain ⟨hm, hcl, hjl, hle, hne⟩ := road_of hr
    have hr' : roadOk p.L c.L j.L = true := hr
    have hpy : partY a.I b.I (yldP p.L 0 p.L.length 0) ≠ [] := part_ne _ _ _ (fun j _ hj => (piece_rng hm.2.2 (k := j) (by omega)).1.1) (by
      show maxI 0 a.I < minI (0 + lenR p.L) b.I
      unfold maxI minI
      split <;> split <;> omega)
    have hya := yP_all hm p.L.length 0 0 (by omega) rfl
    have hyl := yldP_length p.L p.L.length 0 0
    have htk : (begR p.L).take (p.L.length + 1) = begR p.L := List.take_of_length_le (by rw [begR_length]; omega)
    have hln : ix ((begR p.L).getD p.L.length []) 0 = lenR p.L := begR_get (Nat.le_refl _)
    have hbl := begR_length p.L
    have hmp := hm.2.1
    refine (congrArg T.run (t18 p c j a b)).trans ?_
    generalize fnT C tab18 18 s18 [p, c, j, a, b] = XX
    simp only [Int.toNat_natCast, htk, hln, List.take_length, Int.toNat_zero, List.drop_zero]
    generalize partY a.I b.I (yldP p.L 0 p.L.length 0) = PY at h hpy ⊢
    refine go_true hr' (go_false rfl (go_yes hm (go_neg (by omega) (go_neg (by omega) (go_dec (by omega) (go_yes ⟨hm, by trivial⟩ (go_neg (by omega) (go_yes ⟨hm, by omega, by trivial⟩ (go_yes ⟨by trivial, hya, hpy, by omega, ⟨by omega, by omega⟩, by omega, by omega⟩ (go_yes ⟨by trivial, by trivial, by trivial, by omega, by omega, hcl, by trivial⟩ ?_))))))))))
    refine go_ite (fun e1 => go_yes ⟨by trivial, by trivial, by omega, by omega, by omega, by trivial⟩ (go_ite (fun e2 => go_dec (by omega) ?_) fun e2 => go_dec (by omega) (go_dec (by omega) ?_))) fun e1 => go_yes ⟨.inl (by trivial), by trivial, by omega, by omega, by omega, by trivial, by trivial⟩ (go_true rfl (go_ite (fun e2 => go_dec (by omega) (go_dec (by omega) ?_)) fun e2 => go_dec (by omega) (go_dec (by omega) (go_dec (by omega) ?_))))
    · rw [List.isEmpty_iff.1 e1, List.isEmpty_iff.1 e2] at h
      exact h
    · rw [List.isEmpty_iff.1 e1] at h
      exact h
    · rw [List.isEmpty_iff.1 e2] at h
      exact h
    · exact h
  · cases h
end Go.Proofs.Ytgoedfonmocafaa

namespace Go.Proofs.Ytgoedfonmocafaa
open Go.Lite
set_option maxRecDepth 100000
theorem crestR_ne {n : Int} {l : List (List D)} (h : l.isEmpty = false) : crestR n l = updF (crestU n) 0 l.length (revR can2 l) := by unfold crestR; rw [h]; rfl
theorem juncR_ne {n : Int} {l : List (List D)} (h : l.isEmpty = false) : juncR n l = updF (juncU n) 0 l.length (revR can3 l) := by unfold juncR; rw [h]; rfl
theorem crestR_e {n : Int} {l : List (List D)} (h : l.isEmpty = true) : crestR n l = [] := by unfold crestR; rw [h]; rfl
theorem juncR_e {n : Int} {l : List (List D)} (h : l.isEmpty = true) : juncR n l = [] := by unfold juncR; rw [h]; rfl
theorem len_ne {l : List (List D)} (h : l.isEmpty = false) : 1 ≤ l.length := by cases l with
  | nil => cases h
  | cons a l => simp
theorem ok20 (n : Nat) : FnOK C (n + 5) 20 (mkF s20 G20) := by
  refine fn_ofS hC (sp := sp20) (lp := lp20) (sw := sw20) ⟨ok51 n, ok53 (n + 3), ok56 (n + 3), ok57 (n + 3), ok58 (n + 3), trivial⟩ ⟨ok52 (n + 2), ok59 (n + 3), many60 (n + 3), many61 (n + 3), trivial⟩ (by kernel_rfl) [10, 15, 20] (by kernel_rfl) (by kernel_rfl)
    (fun k hk L hL => by simp at hk; rcases hk with hk | hk | hk <;> subst hk <;> cases hL; exact ok20_10 n; exact ok20_15 n; exact ok20_20 n) fun ds r h => ?_
  unfold G20 at h
  split at h
  · rename_i p c j
    obtain ⟨hr, h⟩ := need_some h
    rw [yes_iff] at hr
    obtain ⟨hm, hcl, hjl, hle, hne⟩ := road_of hr
    have hr' : roadOk p.L c.L j.L = true := hr
    have htk : (begR p.L).take (p.L.length + 1) = begR p.L := List.take_of_length_le (by rw [begR_length]; omega)
    have hln : ix ((begR p.L).getD p.L.length []) 0 = lenR p.L := begR_get (Nat.le_refl _)
    have hbl := begR_length p.L
    obtain ⟨m1, m2, -⟩ := id hm
    refine (congrArg T.run (t20 p c j)).trans ?_
    generalize fnT C tab20 20 s20 [p, c, j] = XX
    have t1 : ∀ (g : List D → List D) (k i : Nat) (l : List (List D)), (updF g i k l).take l.length = updF g i k l := fun g k i l => List.take_of_length_le (by rw [updF_length]; omega)
    have t2 : ∀ (f : List D → List D) (g : List D → List D) (k i : Nat) (l : List (List D)), (updF g i k (revR f l)).take l.length = updF g i k (revR f l) := fun f g k i l => List.take_of_length_le (by rw [updF_length, revR_length]; omega)
    simp only [Int.toNat_natCast, htk, hln, Int.toNat_zero, Nat.sub_zero, updF_length, revR_length, t2]
    have htr : turnR p.L = updF turnU 0 p.L.length (revR can5 p.L) := rfl
    rw [htr] at h
    refine go_true hr' (go_false rfl (go_yes hm (go_dec (by omega) (go_yes ⟨hm, by trivial⟩ (go_yes ⟨hne, by omega⟩ (go_yes (by omega) ?_))))))
    cases hb : c.L.isEmpty <;> cases hc : j.L.isEmpty
    · have l1 := len_ne hb
      have l2 := len_ne hc
      rw [crestR_ne hb, juncR_ne hc] at h
      refine go_false rfl (go_yes (by omega) (go_false rfl ?_))
      repeat (first | refine go_dec (by omega) ?_ | refine go_yes (by simp [stG, revR_length]; try omega) ?_ | refine go_true rfl ?_ | refine go_false rfl ?_)
      exact h
    · have l1 := len_ne hb
      rw [crestR_ne hb, juncR_e hc] at h
      refine go_false rfl (go_yes (by omega) (go_true rfl ?_))
      repeat (first | refine go_dec (by omega) ?_ | refine go_yes (by simp [stG, revR_length, updF_length]; try omega) ?_ | refine go_true rfl ?_ | refine go_false rfl ?_)
      exact h
    · have l2 := len_ne hc
      rw [crestR_e hb, juncR_ne hc] at h
      refine go_true rfl (go_yes (by omega) (go_false rfl ?_))
      repeat (first | refine go_dec (by omega) ?_ | refine go_yes (by simp [stG, revR_length]; try omega) ?_ | refine go_true rfl ?_ | refine go_false rfl ?_)
      exact h
    · rw [crestR_e hb, juncR_e hc] at h
      refine go_true rfl (go_yes (by omega) (go_true rfl ?_))
      repeat (first | refine go_dec (by omega) ?_ | refine go_yes (by simp [stG, revR_length]; try omega) ?_ | refine go_true rfl ?_ | refine go_false rfl ?_)
      exact h
  · cases h
end Go.Proofs.Ytgoedfonmocafaa

namespace Go.Proofs.Ytgoedfonmocafaa
open Go.Lite
theorem revL_get : ∀ (h i j : Nat) (M : List (List D)), i + j + 1 = M.length → h = (j + 1 - i) / 2 → i ≤ j + 1 → ∀ k, k < M.length → (revL id h i j M).getD k [] = if i ≤ k ∧ k ≤ j then M.getD (M.length - 1 - k) [] else M.getD k []
  | 0, i, j, M, h1, h2, h3, k, hk => by
    simp only [revL]
    split
    · rw [show M.length - 1 - k = k by omega]
    · rfl
  | h + 1, i, j, M, h1, h2, h3, k, hk => by
    have hij : i < j := by omega
    simp only [revL, id]
    have hl : ((M.set i (M.getD j [])).set j (M.getD i [])).length = M.length := by simp
    have ih := revL_get h (i + 1) (j - 1) ((M.set i (M.getD j [])).set j (M.getD i [])) (by rw [hl]; omega) (by omega) (by omega) k (by rw [hl]; exact hk)
    rw [ih, hl]
    have key : ∀ q, q < M.length → ((M.set i (M.getD j [])).set j (M.getD i [])).getD q [] = if q = j then M.getD i [] else if q = i then M.getD j [] else M.getD q [] := fun q hq => by
      simp only [List.getD_eq_getElem?_getD, List.getElem?_set, List.length_set]
      by_cases a : j = q
      · subst a
        simp [hq]
      · rw [if_neg a, if_neg (show ¬ q = j from fun h => a h.symm)]
        by_cases b : i = q
        · subst b
          simp [hq]
        · rw [if_neg b, if_neg (show ¬ q = i from fun h => b h.symm)]
    by_cases c : i + 1 ≤ k ∧ k ≤ j - 1
    · rw [if_pos c, if_pos (by omega), key _ (by omega), if_neg (by omega), if_neg (by omega)]
    · rw [if_neg c, key _ hk]
      by_cases a : k = j
      · subst a
        rw [if_pos rfl, if_pos (by omega), show M.length - 1 - k = i by omega]
      · rw [if_neg a]
        by_cases b : k = i
        · subst b
          rw [if_pos rfl, if_pos (by omega), show M.length - 1 - k = j by omega]
        · rw [if_neg b, if_neg (by omega)]
theorem getD_map {f : List D → List D} {l : List (List D)} {k : Nat} (hk : k < l.length) : (l.map f).getD k [] = f (l.getD k []) := by
  simp [List.getD_eq_getElem?_getD, hk]
theorem revL_map {can f : List D → List D} (hf : ∀ x, f (can x) = f x) : ∀ (h i j : Nat) (l : List (List D)), i + j + 1 = l.length → h = (j + 1 - i) / 2 → i ≤ j + 1 → (revL can h i j l).map f = revL id h i j (l.map f)
  | 0, i, j, l, _, _, _ => rfl
  | h + 1, i, j, l, h1, h2, h3 => by
    have hij : i < j := by omega
    simp only [revL, id]
    rw [revL_map hf h (i + 1) (j - 1) _ (by simp; omega) (by omega) (by omega), List.map_set, List.map_set, hf, hf, getD_map (by omega), getD_map (by omega)]
theorem revR_map {can f : List D → List D} (hf : ∀ x, f (can x) = f x) {l : List (List D)} (hl : 1 ≤ l.length) : (revR can l).map f = (l.map f).reverse := by
  unfold revR
  rw [revL_map hf _ _ _ _ (by omega) (by omega) (by omega)]
  have hm : (l.map f).length = l.length := by simp
  have hr : (revL id (l.length / 2) 0 (l.length - 1) (l.map f)).length = l.length := by rw [revL_length, hm]
  apply List.ext_getElem
  · rw [hr, List.length_reverse, hm]
  · intro k k1 k2
    have hk : k < l.length := by omega
    have := revL_get (l.length / 2) 0 (l.length - 1) (l.map f) (by omega) (by omega) (by omega) k (by omega)
    rw [if_pos (by omega), hm] at this
    rw [List.getElem_reverse]
    simp only [List.getD_eq_getElem?_getD] at this
    rw [List.getElem?_eq_getElem k1, List.getElem?_eq_getElem (by omega)] at this
    simp only [Option.getD_some] at this
    rw [this]
    congr 1
    omega
theorem updF_map {g f : List D → List D} (hf : ∀ x, f (g x) = f x) : ∀ (k i : Nat) (l : List (List D)), i + k ≤ l.length → (updF g i k l).map f = l.map f
  | 0, _, _, _ => rfl
  | k + 1, i, l, h => by
    simp only [updF]
    rw [updF_map hf k (i + 1) _ (by simp; omega), List.map_set, hf]
    apply List.ext_getElem
    · simp
    · intro q q1 q2
      rw [List.getElem_set]
      split
      · rename_i e
        subst e
        have : i < l.length := by omega
        simp [List.getD_eq_getElem?_getD, this]
      · rfl
theorem back_loop {p : List (List D)} {dg : Int} {wt : Bool} (hp : 1 ≤ p.length) : lpL dg wt (turnR p) = (lpL dg wt p).reverse := by
  unfold lpL turnR
  rw [updF_map (g := turnU) (f := lpE dg wt) (fun x => rfl) _ _ _ (by rw [revR_length]; omega), revR_map (can := can5) (fun x => rfl) hp]
theorem turnR_length (p : List (List D)) : (turnR p).length = p.length := by
  unfold turnR
  rw [updF_length, revR_length]
theorem partY_length {a b : Int} : ∀ (L : List (List D)), (partY a b L).length ≤ L.length
  | [] => by simp [partY]
  | x :: L => by
    have := partY_length (a := a) (b := b) L
    have h1 : (cutY a b x).length ≤ 1 := by unfold cutY; split <;> simp
    simp only [partY, List.flatMap_cons, List.length_append, List.length_cons] at this ⊢
    omega
theorem small_comp {dry wet wl : List (List D)} {loss : Int} (h : compoundOk dry wet wl loss = true) : smallRows dry ∧ smallRows wet ∧ wl.length < big := by
  have hb : big = 4611686018427387904 := rfl
  have key : ∀ l : List (List D), rowsOk l = true → l.length ≤ 8 → smallRows l := fun l h hl => ⟨by omega, fun j hj => by
    have := allFrom_iff.1 h j (Nat.zero_le _) (by omega)
    simp only [rowOk, Bool.and_eq_true, Lite.within_iff] at this
    omega⟩
  simp only [compoundOk, Bool.and_eq_true, decide_eq_true_eq, Lite.within_iff] at h
  obtain ⟨⟨⟨⟨⟨⟨h1, h2⟩, h3⟩, h4⟩, h5⟩, h6⟩, h7⟩ := h
  exact ⟨key _ h5 (by omega), key _ h6 (by omega), by omega⟩
end Go.Proofs.Ytgoedfonmocafaa
