/-
  Shapes of arguments, results and loops. Written by program.
  What the functions that push times compute.
  Tables. Written by program.
  What the rounds and the functions come to. Written by program.
  The functions that push times compute what their words say.
-/
import Derived.Test.YtipbcpobnciccaaTimGE
import Derived.Test.YtipbcpobnciccaaTimGD
namespace Go.Proofs.Ytipbcpobnciccaa
open Go.Lite
def s66 : Sig := ⟨[.k (.int .i64)], [(.k .bool, [])]⟩
def s1080 : Sig := ⟨[.k (.ro [.int .i64]), .fn 66 [] []], [(.k (.int .i64), [])]⟩
def l1080_2 : LSig := mkLS [0, 1, 7, 8] [(19, [(0, .k (.ro [.int .i64])), (1, .fn 66 [] []), (7, .k (.int .i64)), (8, .k (.int .i64))], [])] [(.ret, [4], [(19, [(4, .k (.int .i64))], [])]), (.exit 0, [], [(19, [], [])])]
def s1061 : Sig := ⟨[.k (.ro [.int .i64]), .fn 66 [] []], [(.k .bool, [])]⟩
def s35 : Sig := ⟨[.k (.ro [.int .i64]), .k (.int .i64)], [(.k .bool, [])]⟩
def l35_2 : LSig := mkLS [0, 1, 5] [(34, [(0, .k (.ro [.int .i64])), (1, .k (.int .i64)), (5, .k (.int .i64))], [])] [(.ret, [4], [(34, [(4, .k .bool)], [])]), (.exit 0, [0, 1], [(34, [(0, .k (.ro [.int .i64])), (1, .k (.int .i64))], [])])]
def s67 : Sig := ⟨[.k (.ro [.int .i64])], [(.sl 0 1, [.row [.int .i64]]), (.emp 1, [])]⟩
def s34 : Sig := ⟨[.k (.int .i64), .k (.ro [.int .i64, .int .i64, .int .i64]), .k (.ro [.int .i64])], [(.tup [.nils, .k (.int .i64)], []), (.tup [.sl 0 1, .k (.int .i64)], [.row [.int .i64]])]⟩
end Go.Proofs.Ytipbcpobnciccaa

namespace Go.Proofs.Ytipbcpobnciccaa
open Go.Lite
noncomputable section
def inT (t : List (List D)) (j : Nat) : Bool := Lite.within (rg t j) 0 1000000000
def timesB (n : Int) (t : List (List D)) : Bool := allFrom (inT t) 0 t.length && (decide ((t.length : Int) = n) && rg t 0 == 0)
def G66 (ds : List D) : T (List D) := match ds with
  | [x] => .leaf [.b (!Lite.within x.I 0 1000000000)]
  | _ => .fail
def G1080 (ds : List D) : T (List D) := match ds with
  | [l] => .need (yes (l.L.length < big)) (.leaf [.i (firstFrom (fun j => !inT l.L j) 0 l.L.length)])
  | _ => .fail
def G1080_2 (ds : List D) : T (Ex × List D) := match ds with
  | [l, m, i] => .need (yes (l.L.length < big ∧ m.I = l.L.length ∧ 0 ≤ i.I ∧ i.I ≤ l.L.length))
      (.ite (decide (firstFrom (fun j => !inT l.L j) i.I.toNat (l.L.length - i.I.toNat) ≥ 0)) (.leaf (.ret, [.i (firstFrom (fun j => !inT l.L j) i.I.toNat (l.L.length - i.I.toNat))])) (.leaf (.exit 0, [])))
  | _ => .fail
def G1061 (ds : List D) : T (List D) := match ds with
  | [l] => .need (yes (l.L.length < big)) (.leaf [.b (!allFrom (inT l.L) 0 l.L.length)])
  | _ => .fail
def G35 (ds : List D) : T (List D) := match ds with
  | [l, n] => .need (yes (l.L.length < big ∧ 1 ≤ n.I)) (.leaf [.b (timesB n.I l.L)])
  | _ => .fail
def G35_2 (ds : List D) : T (Ex × List D) := match ds with
  | [l, n, i] => .need (yes (l.L.length < big ∧ 0 ≤ i.I ∧ i.I ≤ l.L.length)) (.ite (allFrom (inT l.L) i.I.toNat (l.L.length - i.I.toNat)) (.leaf (.exit 0, [.l l.L, .i n.I])) (.leaf (.ret, [.b false])))
  | _ => .fail
def G34 (ds : List D) : T (List D) := match ds with
  | [n, l, t] => .need (yes (l.L.length < big ∧ t.L.length < big))
      (.ite (netOk n.I l.L && timesB n.I t.L)
        (.ite (decide ((pushR n.I (allL n.I l.L) t.L).2.2 < 0) && rg (pushR n.I (allL n.I l.L) t.L).1 0 == 0) (.leaf [.i 1, .i n.I, .i 0, .l (pushR n.I (allL n.I l.L) t.L).1]) (.leaf [.i 0, .i 5]))
        (.leaf [.i 0, .i 2]))
  | _ => .fail
end
end Go.Proofs.Ytipbcpobnciccaa

namespace Go.Proofs.Ytipbcpobnciccaa
open Go.Lite
noncomputable def sp66 : SpL := [(48, mkF s48 G48)]
noncomputable def lp66 : LpL := []
noncomputable def sw66 : SwL := []
noncomputable def tab66 : Tab := mkTab sp66 lp66 sw66
noncomputable def sp1080 : SpL := [(66, mkF s66 G66)]
noncomputable def lp1080 : LpL := [(2, mkL l1080_2 G1080_2)]
noncomputable def sw1080 : SwL := []
noncomputable def tab1080 : Tab := mkTab sp1080 lp1080 sw1080
noncomputable def sp1061 : SpL := [(80, mkF s1080 G1080), (66, mkF s66 G66)]
noncomputable def lp1061 : LpL := []
noncomputable def sw1061 : SwL := []
noncomputable def tab1061 : Tab := mkTab sp1061 lp1061 sw1061
noncomputable def sp35 : SpL := []
noncomputable def lp35 : LpL := [(2, mkL l35_2 G35_2)]
noncomputable def sw35 : SwL := []
noncomputable def tab35 : Tab := mkTab sp35 lp35 sw35
noncomputable def sp67 : SpL := []
noncomputable def lp67 : LpL := []
noncomputable def sw67 : SwL := []
noncomputable def tab67 : Tab := mkTab sp67 lp67 sw67
noncomputable def sp34 : SpL := [(47, mkF s47 G47), (61, mkF s1061 G1061), (67, mkF s67 Gcl1), (49, mkF s49 G49)]
noncomputable def lp34 : LpL := []
noncomputable def sw34 : SwL := [(68, mkFW s68 G68)]
noncomputable def tab34 : Tab := mkTab sp34 lp34 sw34
end Go.Proofs.Ytipbcpobnciccaa

namespace Go.Proofs.Ytipbcpobnciccaa
open Go.Lite
set_option linter.unusedVariables false
set_option maxRecDepth 100000
theorem t66 (a : D) : fnT C tab66 66 s66 [a] =
  T.leaf [D.b !within (D.I a) (0 : Int) (1000000000 : Int)] := by kernel_rfl
theorem t1080 (a : D) : fnT C tab1080 80 s1080 [a] =
  T.need (yes (List.length (D.L a) < big ∧ (↑(List.length (D.L a)) : Int) = (↑(List.length (D.L a)) : Int) ∧ (0 : Int) ≤ (0 : Int) ∧ (0 : Int) ≤ (↑(List.length (D.L a)) : Int))) (T.ite (decide (firstFrom (fun j => !inT (D.L a) j) (Int.toNat (0 : Int)) (List.length (D.L a) - Int.toNat (0 : Int)) ≥ (0 : Int))) (T.leaf [D.i (firstFrom (fun j => !inT (D.L a) j) (Int.toNat (0 : Int)) (List.length (D.L a) - Int.toNat (0 : Int)))]) (T.leaf [D.i (-1 : Int)])) := by kernel_rfl
theorem t1080_2 (a b c : D) : roundT C tab1080 80 (loopOf C.P 80 2) l1080_2 [a, b, c] =
  T.ite (decide (D.I c < D.I b)) (T.need (decide ((0 : Int) ≤ D.I c ∧ D.I c < (↑(List.length (D.L a)) : Int))) (T.ite (!within (D.I (List.getD (List.getD (D.L a) (Int.toNat (D.I c)) []) 0 default)) (0 : Int) (1000000000 : Int)) (T.leaf (Rd.out Ex.ret [D.i (D.I c)])) (T.leaf (Rd.again [D.l (D.L a), D.i (D.I b), D.i (IntKind.wrap IntKind.i64 (D.I c + (1 : Int)))])))) (T.leaf (Rd.out (Ex.exit 0) [])) := by kernel_rfl
theorem t1061 (a : D) : fnT C tab1061 61 s1061 [a] =
  T.need (yes (List.length (D.L a) < big)) (T.leaf [D.b (decide (firstFrom (fun j => !inT (D.L a) j) 0 (List.length (D.L a)) ≥ (0 : Int)))]) := by kernel_rfl
theorem t35 (a b : D) : fnT C tab35 35 s35 [a, b] =
  T.need (yes (List.length (D.L a) < big ∧ (0 : Int) ≤ (0 : Int) ∧ (0 : Int) ≤ (↑(List.length (D.L a)) : Int))) (T.ite (allFrom (inT (D.L a)) (Int.toNat (0 : Int)) (List.length (D.L a) - Int.toNat (0 : Int))) (T.ite ((↑(List.length (D.L a)) : Int) == D.I b) (T.need (decide ((0 : Int) ≤ (0 : Int) ∧ (0 : Int) < (↑(List.length (D.L a)) : Int))) (T.leaf [D.b (D.I (List.getD (List.getD (D.L a) (Int.toNat (0 : Int)) []) 0 default) == (0 : Int))])) (T.leaf [D.b false])) (T.leaf [D.b false])) := by kernel_rfl
theorem t35_2 (a b c : D) : roundT C tab35 35 (loopOf C.P 35 2) l35_2 [a, b, c] =
  T.ite (decide (D.I c < (↑(List.length (D.L a)) : Int))) (T.need (decide ((0 : Int) ≤ D.I c ∧ D.I c < (↑(List.length (D.L a)) : Int))) (T.ite (decide (D.I (List.getD (List.getD (D.L a) (Int.toNat (D.I c)) []) 0 default) < (0 : Int))) (T.leaf (Rd.out Ex.ret [D.b false])) (T.need (decide ((0 : Int) ≤ D.I c ∧ D.I c < (↑(List.length (D.L a)) : Int))) (T.ite (decide (D.I (List.getD (List.getD (D.L a) (Int.toNat (D.I c)) []) 0 default) > (1000000000 : Int))) (T.leaf (Rd.out Ex.ret [D.b false])) (T.leaf (Rd.again [D.l (D.L a), D.i (D.I b), D.i (IntKind.wrap IntKind.i64 (D.I c + (1 : Int)))])))))) (T.leaf (Rd.out (Ex.exit 0) [D.l (D.L a), D.i (D.I b)])) := by kernel_rfl
theorem t34 (a b c : D) : fnT C tab34 34 s34 [a, b, c] =
  T.need (yes (List.length (D.L b) < big)) (T.ite (!netOk (D.I a) (D.L b)) (T.leaf [D.i (0 : Int), D.i (2 : Int)]) (T.ite ((↑(List.length (D.L c)) : Int) != D.I a) (T.leaf [D.i (0 : Int), D.i (2 : Int)]) (T.need (decide ((0 : Int) ≤ (0 : Int) ∧ (0 : Int) < (↑(List.length (D.L c)) : Int))) (T.ite (D.I (List.getD (List.getD (D.L c) (Int.toNat (0 : Int)) []) 0 default) != (0 : Int)) (T.leaf [D.i (0 : Int), D.i (2 : Int)]) (T.need (yes (List.length (D.L c) < big)) (T.ite (!allFrom (inT (D.L c)) 0 (List.length (D.L c))) (T.leaf [D.i (0 : Int), D.i (2 : Int)]) (T.need (yes (D.L c ≠ [] ∧ List.length (D.L c) ≤ 1073741824)) (T.need (yes (netP (D.I a) (D.L b))) (T.need (decide (Int.toNat (↑(List.length (allL (D.I a) (D.L b))) : Int) ≤ List.length (allL (D.I a) (D.L b)))) (T.need (yes (goodL (D.I a) (List.take (Int.toNat (↑(List.length (allL (D.I a) (D.L b))) : Int)) (allL (D.I a) (D.L b))) ∧ (↑(Int.toNat (↑(List.length (D.L c)) : Int)) : Int) = D.I a ∧ (↑(List.length (D.L c)) : Int) = D.I a ∧ bndR (D.L c) (1099511627776 : Int))) (T.ite (decide ((pushR (D.I a) (List.take (Int.toNat (↑(List.length (allL (D.I a) (D.L b))) : Int)) (allL (D.I a) (D.L b))) (D.L c)).snd.snd ≥ (0 : Int))) (T.leaf [D.i (0 : Int), D.i (5 : Int)]) (T.need (decide ((0 : Int) ≤ (0 : Int) ∧ (0 : Int) < (↑(Int.toNat (↑(List.length (D.L c)) : Int)) : Int))) (T.need (decide (Int.toNat (0 : Int) < List.length (pushR (D.I a) (List.take (Int.toNat (↑(List.length (allL (D.I a) (D.L b))) : Int)) (allL (D.I a) (D.L b))) (D.L c)).fst)) (T.ite (D.I (List.getD (List.getD (pushR (D.I a) (List.take (Int.toNat (↑(List.length (allL (D.I a) (D.L b))) : Int)) (allL (D.I a) (D.L b))) (D.L c)).fst (Int.toNat (0 : Int)) []) 0 default) != (0 : Int)) (T.leaf [D.i (0 : Int), D.i (5 : Int)]) (T.leaf [D.i (1 : Int), D.i (↑(Int.toNat (↑(List.length (D.L c)) : Int)) : Int), D.i (0 : Int), D.l (pushR (D.I a) (List.take (Int.toNat (↑(List.length (allL (D.I a) (D.L b))) : Int)) (allL (D.I a) (D.L b))) (D.L c)).fst]))))))))))))))) := by kernel_rfl
end Go.Proofs.Ytipbcpobnciccaa

namespace Go.Proofs.Ytipbcpobnciccaa
open Go.Lite
set_option maxRecDepth 100000
theorem ok66 (n : Nat) : FnOK C (n + 2) 66 (mkF s66 G66) := by
  refine fn_ofS hC (sp := sp66) (lp := lp66) (sw := sw66) ⟨ok48 n, trivial⟩ trivial (by kernel_rfl) [] (by kernel_rfl) rfl (fun k hk => by cases hk) fun ds rr h => ?_
  unfold G66 at h
  split at h
  · rename_i a
    refine (congrArg T.run (t66 a)).trans ?_
    exact h
  · cases h
theorem ok1080_2 (n : Nat) : LoopSim C (n + 2) 80 (loopOf C.P 80 2) (mkL l1080_2 G1080_2) := by
  refine loop_ofK hC (sp := sp1080) (lp := lp1080) (sw := sw1080) ⟨ok66 n, trivial⟩ trivial 0 [] (by kernel_rfl) rfl (fun k hk => by cases hk) (by kernel_rfl) (fun ds => ((ds.getD 1 default).I - (ds.getD 2 default).I).toNat) fun ds rr h => ?_
  unfold G1080_2 at h
  split at h
  · rename_i l m i
    obtain ⟨hp, h⟩ := need_some h
    rw [yes_iff] at hp
    obtain ⟨h1, h2, h3, h4⟩ := hp
    have hb := big_eq
    refine ⟨by rw [fuelC]; simp; omega, ?_⟩
    rw [show roundTK C (mkTab sp1080 lp1080 sw1080) 80 (loopOf C.P 80 2) 0 l1080_2 [l, m, i] = _ from t1080_2 l m i]
    obtain ⟨k, hk⟩ : ∃ k : Nat, i.I = k := ⟨i.I.toNat, by omega⟩
    
    simp only [hk, h2, Int.toNat_natCast, rg_def] at h h4 ⊢
    refine rd_if (fun hlt => ?_) fun hge => rd_out (first_end h (by omega))
    have hkl : k < l.L.length := by omega
    obtain ⟨s1, s2⟩ := first_step h hkl
    refine rd_dec ⟨by omega, by omega⟩ (rd_ite (fun c => rd_out (s1 c)) fun c => ?_)
    rw [wrap_succ (by omega)]
    exact rd_again ((need_yes ⟨h1, rfl, by simp only [I_i]; omega, by simp only [I_i, L_l]; omega⟩).trans (s2 c)) (show ((l.L.length : Int) - ((k + 1 : Nat) : Int)).toNat < (m.I - i.I).toNat by omega)
  · cases h
theorem ok1080 (n : Nat) : FnOK C (n + 3) 80 (mkF s1080 G1080) := by
  refine fn_ofS hC (sp := sp1080) (lp := lp1080) (sw := sw1080) ⟨ok66 n, trivial⟩ trivial (by kernel_rfl) [2] (by kernel_rfl) (by kernel_rfl) (fun k hk L hL => by simp at hk; subst hk; cases hL; exact ok1080_2 n) fun ds rr h => ?_
  unfold G1080 at h
  split at h
  · rename_i l
    obtain ⟨hp, h⟩ := need_some h
    rw [yes_iff] at hp
    have h1 := hp
    refine (congrArg T.run (t1080 l)).trans ?_
    rw [← h]
    simp only [Int.toNat_zero, Nat.sub_zero]
    refine go_yes ⟨h1, by trivial, by omega, by omega⟩ (go_if (fun c => rfl) fun c => ?_)
    rw [firstFrom_neg (by omega)]
  · cases h
theorem ok1061 (n : Nat) : FnOK C (n + 4) 61 (mkF s1061 G1061) := by
  refine fn_ofS hC (sp := sp1061) (lp := lp1061) (sw := sw1061) ⟨ok1080 n, ok66 (n + 1), trivial⟩ trivial (by kernel_rfl) [] (by kernel_rfl) rfl (fun k hk => by cases hk) fun ds rr h => ?_
  unfold G1061 at h
  split at h
  · rename_i l
    obtain ⟨hp, h⟩ := need_some h
    rw [yes_iff] at hp
    have h1 := hp
    refine (congrArg T.run (t1061 l)).trans ?_
    rw [← h]
    refine go_yes h1 ?_
    rw [firstFrom_all]
    simp only [Bool.not_not]
  · cases h
theorem ok35_2 (n : Nat) : LoopSim C (n + 0) 35 (loopOf C.P 35 2) (mkL l35_2 G35_2) := by
  refine loop_ofK hC (sp := sp35) (lp := lp35) (sw := sw35) trivial trivial 0 [] (by kernel_rfl) rfl (fun k hk => by cases hk) (by kernel_rfl) (fun ds => (((ds.getD 0 default).L.length : Int) - (ds.getD 2 default).I).toNat) fun ds rr h => ?_
  unfold G35_2 at h
  split at h
  · rename_i l n i
    obtain ⟨hp, h⟩ := need_some h
    rw [yes_iff] at hp
    obtain ⟨h1, h2, h3⟩ := hp
    have hb := big_eq
    refine ⟨by rw [fuelC]; simp; omega, ?_⟩
    rw [show roundTK C (mkTab sp35 lp35 sw35) 35 (loopOf C.P 35 2) 0 l35_2 [l, n, i] = _ from t35_2 l n i]
    obtain ⟨k, hk⟩ : ∃ k : Nat, i.I = k := ⟨i.I.toNat, by omega⟩
    
    simp only [hk, Int.toNat_natCast, rg_def] at h h3 ⊢
    refine rd_if (fun hlt => ?_) fun hge => rd_out (all_end h (by omega))
    have hkl : k < l.L.length := by omega
    obtain ⟨s1, s2⟩ := all_step h hkl
    have e0 : inT l.L k = decide (0 ≤ rg l.L k ∧ rg l.L k ≤ 1000000000) := within_dec
    refine rd_dec ⟨by omega, by omega⟩ (rd_if (fun c => rd_out (s1 (by rw [e0]; exact decide_eq_false (by omega)))) fun c => rd_dec ⟨by omega, by omega⟩ (rd_if (fun c2 => rd_out (s1 (by rw [e0]; exact decide_eq_false (by omega)))) fun c2 => ?_))
    rw [wrap_succ (by omega)]
    exact rd_again ((need_yes ⟨h1, by simp only [I_i]; omega, by simp only [I_i, L_l]; omega⟩).trans (s2 (by rw [e0]; exact decide_eq_true (by omega)))) (show ((l.L.length : Int) - ((k + 1 : Nat) : Int)).toNat < ((l.L.length : Int) - i.I).toNat by omega)
  · cases h
theorem ok35 (n : Nat) : FnOK C (n + 1) 35 (mkF s35 G35) := by
  refine fn_ofS hC (sp := sp35) (lp := lp35) (sw := sw35) trivial trivial (by kernel_rfl) [2] (by kernel_rfl) (by kernel_rfl) (fun k hk L hL => by simp at hk; subst hk; cases hL; exact ok35_2 n) fun ds rr h => ?_
  unfold G35 at h
  split at h
  · rename_i l n
    obtain ⟨hp, h⟩ := need_some h
    rw [yes_iff] at hp
    obtain ⟨h1, h2⟩ := hp
    refine (congrArg T.run (t35 l n)).trans ?_
    rw [← h]
    unfold timesB
    simp only [Int.toNat_zero, Nat.sub_zero, rg_def]
    refine go_yes ⟨h1, by omega, by omega⟩ (go_ite (fun c => ?_) fun c => by rw [c, Bool.false_and])
    rw [c, Bool.true_and]
    refine go_ite (fun c2 => ?_) fun c2 => ?_
    · have e : (l.L.length : Int) = n.I := eq_of_beq c2
      refine go_dec ⟨by omega, by omega⟩ ?_
      rw [decide_eq_true e, Bool.true_and]
    · have : ¬ (l.L.length : Int) = n.I := fun e => by rw [e] at c2; simp at c2
      rw [decide_eq_false this, Bool.false_and]
  · cases h
end Go.Proofs.Ytipbcpobnciccaa
