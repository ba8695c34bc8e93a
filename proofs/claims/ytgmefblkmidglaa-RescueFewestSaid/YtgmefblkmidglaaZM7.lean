/-
 What the claim rescue_fewest rests on,part 7.
-/
import Derived.Test.YtgmefblkmidglaaZM6
namespace Go.Proofs.Ytgmefblkmidglaa
open Go.Lite
set_option linter.unusedVariables false
set_option maxRecDepth 100000
theorem t78 (a:D):fnT C tab78 78 s78 [a] =
 T.leaf [D.b (within a.I (0:Int) (65535:Int))]:=by kernel_rfl
theorem t77 (a b c d e f:D):fnT C tab77 77 s77 [a,b,c,d,e,f] =
 T.ite (!within a.I (0:Int) (IntKind.i64.wrap (e.I - (1:Int)))) (T.leaf [D.b true]) (T.ite (!within b.I (0:Int) (65535:Int)) (T.leaf [D.b true]) (T.ite (!within c.I (0:Int) d.I) (T.leaf [D.b true]) (T.leaf [D.b (decide (d.I > (100000:Int)))]))):=by kernel_rfl
theorem t80 (a b c d e:D):fnT C tab80 80 s80 [a,b,c,d,e] =
 T.ite (!within a.I (0:Int) (IntKind.i64.wrap (d.I - (1:Int)))) (T.leaf [D.b true]) (T.ite (!within b.I (0:Int) (65535:Int)) (T.leaf [D.b true]) (T.leaf [D.b !within c.I (0:Int) (10000:Int)])):=by kernel_rfl
theorem t94 (a b c:D):fnT C tab94 94 s94 [a,b,c] =
 T.need (yes (((1:Int) ≤ b.I ∧ b.I ≤ (200:Int)) ∧ a.L.length < big ∧ (a.L.length:Int) = (a.L.length:Int) ∧ (0:Int) ≤ (0:Int) ∧ (0:Int) ≤ (a.L.length:Int))) (T.ite (decide (firstFrom (fun j=>!vehL b.I a.L j) (Int.toNat (0:Int)) (a.L.length - Int.toNat (0:Int)) ≥ (0:Int))) (T.leaf [D.i (firstFrom (fun j=>!vehL b.I a.L j) (Int.toNat (0:Int)) (a.L.length - Int.toNat (0:Int)))]) (T.leaf [D.i (-1:Int)])):=by kernel_rfl
theorem t94_2 (a b c d e:D):roundT C tab94 94 (loopOf C.P 94 2) l94_2 [a,b,c,d,e] =
 T.ite (decide (e.I < d.I)) (T.need (decide ((0:Int) ≤ e.I ∧ e.I < (a.L.length:Int))) (T.need (yes ((1:Int) ≤ b.I ∧ b.I ≤ (200:Int))) (T.ite (!vehB b.I (mk4 (D.i (D.I (List.getD (List.getD a.L e.I.toNat []) 0 default))) (D.i (D.I (List.getD (List.getD a.L e.I.toNat []) (0 + 1) default))) (D.i (D.I (List.getD (List.getD a.L e.I.toNat []) (0 + 1 + 1) default))) (D.i (D.I (List.getD (List.getD a.L e.I.toNat []) (0 + 1 + 1 + 1) default))))) (T.leaf (Rd.out Ex.ret [D.i e.I])) (T.leaf (Rd.again [D.l a.L,D.i b.I,D.l c.L,D.i d.I,D.i (IntKind.i64.wrap (e.I + (1:Int)))]))))) (T.leaf (Rd.out (Ex.exit 0) [])):=by kernel_rfl
theorem t95 (a b c:D):fnT C tab95 95 s95 [a,b,c] =
 T.need (yes (((1:Int) ≤ b.I ∧ b.I ≤ (200:Int)) ∧ a.L.length < big ∧ (a.L.length:Int) = (a.L.length:Int) ∧ (0:Int) ≤ (0:Int) ∧ (0:Int) ≤ (a.L.length:Int))) (T.ite (decide (firstFrom (fun j=>!zonL b.I a.L j) (Int.toNat (0:Int)) (a.L.length - Int.toNat (0:Int)) ≥ (0:Int))) (T.leaf [D.i (firstFrom (fun j=>!zonL b.I a.L j) (Int.toNat (0:Int)) (a.L.length - Int.toNat (0:Int)))]) (T.leaf [D.i (-1:Int)])):=by kernel_rfl
theorem t95_2 (a b c d e:D):roundT C tab95 95 (loopOf C.P 95 2) l95_2 [a,b,c,d,e] =
 T.ite (decide (e.I < d.I)) (T.need (decide ((0:Int) ≤ e.I ∧ e.I < (a.L.length:Int))) (T.need (yes ((1:Int) ≤ b.I ∧ b.I ≤ (200:Int))) (T.ite (!zonB b.I (mk3 (D.i (D.I (List.getD (List.getD a.L e.I.toNat []) 0 default))) (D.i (D.I (List.getD (List.getD a.L e.I.toNat []) (0 + 1) default))) (D.i (D.I (List.getD (List.getD a.L e.I.toNat []) (0 + 1 + 1) default))))) (T.leaf (Rd.out Ex.ret [D.i e.I])) (T.leaf (Rd.again [D.l a.L,D.i b.I,D.l c.L,D.i d.I,D.i (IntKind.i64.wrap (e.I + (1:Int)))]))))) (T.leaf (Rd.out (Ex.exit 0) [])):=by kernel_rfl
theorem t76 (a b c:D):fnT C tab76 76 s76 [a,b,c] =
 T.need (yes (((1:Int) ≤ b.I ∧ b.I ≤ (200:Int)) ∧ a.L.length < big)) (T.leaf [D.b (decide (firstFrom (fun j=>!vehL b.I a.L j) 0 a.L.length ≥ (0:Int)))]):=by kernel_rfl
theorem t79 (a b c:D):fnT C tab79 79 s79 [a,b,c] =
 T.need (yes (((1:Int) ≤ b.I ∧ b.I ≤ (200:Int)) ∧ a.L.length < big)) (T.leaf [D.b (decide (firstFrom (fun j=>!zonL b.I a.L j) 0 a.L.length ≥ (0:Int)))]):=by kernel_rfl
theorem t52 (a b c d e f:D):fnT C tab52 52 s52 [a,b,c,d,e,f] =
 T.ite ((if netB a.I b.L = true then (0:Int) else (2:Int)) != (0:Int)) (T.leaf [D.b false]) (T.ite (decide ((c.L.length:Int) > d.I)) (T.leaf [D.b false]) (T.ite (decide ((e.L.length:Int) > (100:Int))) (T.leaf [D.b false]) (T.ite (!within f.I (0:Int) (100000:Int)) (T.leaf [D.b false]) (T.need (yes (((1:Int) ≤ a.I ∧ a.I ≤ (200:Int)) ∧ c.L.length < big)) (T.ite (!vehs a.I c.L) (T.leaf [D.b false]) (T.need (yes (((1:Int) ≤ a.I ∧ a.I ≤ (200:Int)) ∧ e.L.length < big)) (T.leaf [D.b !!zons a.I e.L]))))))):=by kernel_rfl
theorem t28 (a b:D):fnT C tab28 28 s28 [a,b] =
 T.need (yes (((1:Int) ≤ a.I ∧ a.I ≤ (200:Int)) ∧ b.L.length < big ∧ (0:Int) ≤ (0:Int) ∧ (0:Int) ≤ (b.L.length:Int))) (T.ite (allFrom (vehL a.I b.L) (Int.toNat (0:Int)) (b.L.length - Int.toNat (0:Int))) (T.leaf [D.b true]) (T.leaf [D.b false])):=by kernel_rfl
theorem t28_2 (a b c:D):roundT C tab28 28 (loopOf C.P 28 2) l28_2 [a,b,c] =
 T.ite (decide (c.I < (b.L.length:Int))) (T.need (decide ((0:Int) ≤ c.I ∧ c.I < (b.L.length:Int))) (T.ite (!within (D.I (List.getD (List.getD b.L c.I.toNat []) 0 default)) (0:Int) (IntKind.i64.wrap (a.I - (1:Int)))) (T.leaf (Rd.out Ex.ret [D.b false])) (T.ite (!within (D.I (List.getD (List.getD b.L c.I.toNat []) (0 + 1) default)) (0:Int) (65535:Int)) (T.leaf (Rd.out Ex.ret [D.b false])) (T.ite (decide (D.I (List.getD (List.getD b.L c.I.toNat []) (0 + 1 + 1) default) < (0:Int))) (T.leaf (Rd.out Ex.ret [D.b false])) (T.ite (decide (D.I (List.getD (List.getD b.L c.I.toNat []) (0 + 1 + 1) default) > D.I (List.getD (List.getD b.L c.I.toNat []) (0 + 1 + 1 + 1) default))) (T.leaf (Rd.out Ex.ret [D.b false])) (T.ite (decide (D.I (List.getD (List.getD b.L c.I.toNat []) (0 + 1 + 1 + 1) default) > (100000:Int))) (T.leaf (Rd.out Ex.ret [D.b false])) (T.leaf (Rd.again [D.i a.I,D.l b.L,D.i (IntKind.i64.wrap (c.I + (1:Int)))])))))))) (T.leaf (Rd.out (Ex.exit 0) [])):=by kernel_rfl
theorem t29 (a b:D):fnT C tab29 29 s29 [a,b] =
 T.need (yes (((1:Int) ≤ a.I ∧ a.I ≤ (200:Int)) ∧ b.L.length < big ∧ (0:Int) ≤ (0:Int) ∧ (0:Int) ≤ (b.L.length:Int))) (T.ite (allFrom (zonL a.I b.L) (Int.toNat (0:Int)) (b.L.length - Int.toNat (0:Int))) (T.leaf [D.b (decide ((b.L.length:Int) ≤ (100:Int)))]) (T.leaf [D.b false])):=by kernel_rfl
theorem t29_2 (a b c:D):roundT C tab29 29 (loopOf C.P 29 2) l29_2 [a,b,c] =
 T.ite (decide (c.I < (b.L.length:Int))) (T.need (decide ((0:Int) ≤ c.I ∧ c.I < (b.L.length:Int))) (T.ite (!within (D.I (List.getD (List.getD b.L c.I.toNat []) 0 default)) (0:Int) (IntKind.i64.wrap (a.I - (1:Int)))) (T.leaf (Rd.out Ex.ret [D.b false])) (T.ite (!within (D.I (List.getD (List.getD b.L c.I.toNat []) (0 + 1) default)) (0:Int) (65535:Int)) (T.leaf (Rd.out Ex.ret [D.b false])) (T.ite (!within (D.I (List.getD (List.getD b.L c.I.toNat []) (0 + 1 + 1) default)) (0:Int) (10000:Int)) (T.leaf (Rd.out Ex.ret [D.b false])) (T.leaf (Rd.again [D.i a.I,D.l b.L,D.i (IntKind.i64.wrap (c.I + (1:Int)))])))))) (T.leaf (Rd.out (Ex.exit 0) [D.l b.L])):=by kernel_rfl
set_option maxRecDepth 100000
set_option linter.unusedVariables false
theorem vehB_mk (n:Int) (a b c d:D):vehB n (mk4 a b c d) = decide ((0 ≤ a.I ∧ a.I < n) ∧ (0 ≤ b.I ∧ b.I ≤ 65535) ∧ (0 ≤ c.I ∧ c.I ≤ d.I) ∧ d.I ≤ 100000):=rfl
theorem zonB_mk (n:Int) (a b c:D):zonB n (mk3 a b c) = decide ((0 ≤ a.I ∧ a.I < n) ∧ (0 ≤ b.I ∧ b.I ≤ 65535) ∧ 0 ≤ c.I ∧ c.I ≤ 10000):=rfl
theorem vehL_mk (n:Int) (l:List (List D)) (j:Nat):vehB n (mk4 (.i (ix (l.getD j []) 0)) (.i (ix (l.getD j []) 1)) (.i (ix (l.getD j []) 2)) (.i (ix (l.getD j []) 3))) = vehL n l j:=rfl
theorem zonL_mk (n:Int) (l:List (List D)) (j:Nat):zonB n (mk3 (.i (ix (l.getD j []) 0)) (.i (ix (l.getD j []) 1)) (.i (ix (l.getD j []) 2))) = zonL n l j:=rfl
theorem ok78 (n:Nat):FnOK C (n + 2) 78 (mkF s78 G78):=by
 refine fn_ofS hC (sp:=sp78) (lp:=lp78) (sw:=sw78) ⟨ok45 n,trivial⟩ trivial (by kernel_rfl) [] (by kernel_rfl) rfl (fun k hk=>by cases hk) fun ds r h=>?_
 unfold G78 at h
 split at h
 ·rename_i a
  exact (congrArg T.run (t78 a)).trans h
 ·cases h
theorem ok77 (n:Nat):FnOK C (n + 3) 77 (mkF s77 G77):=by
 refine fn_ofS hC (sp:=sp77) (lp:=lp77) (sw:=sw77) ⟨ok45 (n + 1),ok78 n,trivial⟩ trivial (by kernel_rfl) [] (by kernel_rfl) rfl (fun k hk=>by cases hk) fun ds rr h=>?_
 unfold G77 at h
 split at h
 ·rename_i a b c d m r
  obtain ⟨hp,h⟩:=need_some h
  rw [yes_iff] at hp
  refine (congrArg T.run (t77 a b c d m r)).trans ?_
  rw [← h,vehB_mk,wrap_id (by omega) (by omega)]
  simp only [within_dec]
  refine go_not (fun c1=>?_) fun c1=>go_not (fun c2=>?_) fun c2=>go_not (fun c3=>?_) fun c3=>?_
  ·have c1:=of_decide_eq_false c1
   rw [decide_eq_false (by omega)]; rfl
  ·have c2:=of_decide_eq_false c2
   rw [decide_eq_false (by omega)]; rfl
  ·have c3:=of_decide_eq_false c3
   rw [decide_eq_false (by omega)]; rfl
  ·have c1:=of_decide_eq_true c1
   have c2:=of_decide_eq_true c2
   have c3:=of_decide_eq_true c3
   by_cases c4:d.I > 100000
   ·rw [decide_eq_true c4,decide_eq_false (by omega)]; rfl
   ·rw [decide_eq_false c4,decide_eq_true (by omega)]; rfl
 ·cases h
theorem ok80 (n:Nat):FnOK C (n + 3) 80 (mkF s80 G80):=by
 refine fn_ofS hC (sp:=sp80) (lp:=lp80) (sw:=sw80) ⟨ok45 (n + 1),ok78 n,trivial⟩ trivial (by kernel_rfl) [] (by kernel_rfl) rfl (fun k hk=>by cases hk) fun ds rr h=>?_
 unfold G80 at h
 split at h
 ·rename_i a b c m r
  obtain ⟨hp,h⟩:=need_some h
  rw [yes_iff] at hp
  refine (congrArg T.run (t80 a b c m r)).trans ?_
  rw [← h,zonB_mk,wrap_id (by omega) (by omega)]
  simp only [within_dec]
  refine go_not (fun c1=>?_) fun c1=>go_not (fun c2=>?_) fun c2=>?_
  ·have c1:=of_decide_eq_false c1
   rw [decide_eq_false (by omega)]; rfl
  ·have c2:=of_decide_eq_false c2
   rw [decide_eq_false (by omega)]; rfl
  ·have c1:=of_decide_eq_true c1
   have c2:=of_decide_eq_true c2
   by_cases c4:0 ≤ c.I ∧ c.I ≤ 10000
   ·rw [decide_eq_true c4,decide_eq_true (by omega)]
   ·rw [decide_eq_false c4,decide_eq_false (by omega)]
 ·cases h
theorem first_step' {p:Nat → Bool} {i len:Nat} {ro r:Ex × List D} (h:(T.ite (decide (firstFrom p i (len - i) ≥ 0)) (.leaf (.ret,[.i (firstFrom p i (len - i))])) (.leaf ro)).run = some r) (hlt:i < len) :
    (p i = true → some (Ex.ret,[D.i (i:Int)]) = some r) ∧ (p i = false → (T.ite (decide (firstFrom p (i + 1) (len - (i + 1)) ≥ 0)) (.leaf (.ret,[.i (firstFrom p (i + 1) (len - (i + 1)))])) (.leaf ro)).run = some r):=by
 rw [show len - i = (len - (i + 1)) + 1 by omega] at h
 simp only [firstFrom] at h
 refine ⟨fun hp=>?_,fun hp=>?_⟩
 ·simp only [hp,if_true,run_ite,run_leaf] at h
  rw [if_pos (by simp)] at h
  exact h
 ·simp only [hp,Bool.false_eq_true,if_false] at h
  exact h
theorem first_end' {p:Nat → Bool} {i len:Nat} {ro r:Ex × List D} (h:(T.ite (decide (firstFrom p i (len - i) ≥ 0)) (.leaf (.ret,[.i (firstFrom p i (len - i))])) (.leaf ro)).run = some r) (hge:¬ i < len):some ro = some r:=by
 rw [show len - i = 0 by omega] at h
 simp only [firstFrom,run_ite,run_leaf] at h
 rw [if_neg (by simp)] at h
 exact h
theorem ok94_2 (n:Nat):LoopSim C (n + 3) 94 (loopOf C.P 94 2) (mkL l94_2 G94_2):=by
 refine loop_ofK hC (sp:=sp94) (lp:=lp94) (sw:=sw94) ⟨ok77 n,trivial⟩ trivial 0 [] (by kernel_rfl) rfl (fun k hk=>by cases hk) (by kernel_rfl) (fun ds=>((ds.getD 3 default).I - (ds.getD 4 default).I).toNat) fun ds rr h=>?_
 unfold G94_2 at h
 split at h
 ·rename_i l m r q i
  obtain ⟨hp,h⟩:=need_some h
  rw [yes_iff] at hp
  obtain ⟨hm,hl,hq,hi0,hi1⟩:=hp
  have hb:=big_eq
  refine ⟨by rw [fuelC]; simp; omega,?_⟩
  rw [show roundTK C (mkTab sp94 lp94 sw94) 94 (loopOf C.P 94 2) 0 l94_2 [l,m,r,q,i] = _ from t94_2 l m r q i]
  obtain ⟨k,hk⟩:∃ k:Nat,i.I = k:=⟨i.I.toNat,by omega⟩
  simp only [hk,hq,Int.toNat_natCast,Nat.reduceAdd,ix_def,vehL_mk] at h hi0 hi1 ⊢
  refine rd_if (fun hlt=>?_) fun hge=>rd_out (first_end' h (by omega))
  obtain ⟨s1,s2⟩:=first_step' h (by omega:k < l.L.length)
  refine rd_dec (by omega) (rd_yes hm (rd_ite (fun c=>rd_out (s1 c)) fun c=>?_))
  rw [wrap_succ (by omega)]
  exact rd_again ((need_yes ⟨hm,hl,rfl,by simp only [I_i]; omega,by simp only [I_i,L_l]; omega⟩).trans (s2 c)) (show ((l.L.length:Int) - ((k + 1:Nat):Int)).toNat < (q.I - i.I).toNat by omega)
 ·cases h
theorem ok94 (n:Nat):FnOK C (n + 4) 94 (mkF s94 G94):=by
 refine fn_ofS hC (sp:=sp94) (lp:=lp94) (sw:=sw94) ⟨ok77 n,trivial⟩ trivial (by kernel_rfl) [2] (by kernel_rfl) (by kernel_rfl) (fun k hk L hL=>by simp at hk; subst hk; cases hL; exact ok94_2 n) fun ds rr h=>?_
 unfold G94 at h
 split at h
 ·rename_i l m r
  obtain ⟨hp,h⟩:=need_some h
  rw [yes_iff] at hp
  refine (congrArg T.run (t94 l m r)).trans ?_
  rw [← h]
  simp only [Int.toNat_zero,Nat.sub_zero]
  refine go_yes ⟨hp.1,hp.2,trivial,by omega,by omega⟩ (go_if (fun c=>rfl) fun c=>?_)
  rw [firstFrom_neg (by omega)]
 ·cases h
theorem ok95_2 (n:Nat):LoopSim C (n + 3) 95 (loopOf C.P 95 2) (mkL l95_2 G95_2):=by
 refine loop_ofK hC (sp:=sp95) (lp:=lp95) (sw:=sw95) ⟨ok80 n,trivial⟩ trivial 0 [] (by kernel_rfl) rfl (fun k hk=>by cases hk) (by kernel_rfl) (fun ds=>((ds.getD 3 default).I - (ds.getD 4 default).I).toNat) fun ds rr h=>?_
 unfold G95_2 at h
 split at h
 ·rename_i l m r q i
  obtain ⟨hp,h⟩:=need_some h
  rw [yes_iff] at hp
  obtain ⟨hm,hl,hq,hi0,hi1⟩:=hp
  have hb:=big_eq
  refine ⟨by rw [fuelC]; simp; omega,?_⟩
  rw [show roundTK C (mkTab sp95 lp95 sw95) 95 (loopOf C.P 95 2) 0 l95_2 [l,m,r,q,i] = _ from t95_2 l m r q i]
  obtain ⟨k,hk⟩:∃ k:Nat,i.I = k:=⟨i.I.toNat,by omega⟩
  simp only [hk,hq,Int.toNat_natCast,Nat.reduceAdd,ix_def,zonL_mk] at h hi0 hi1 ⊢
  refine rd_if (fun hlt=>?_) fun hge=>rd_out (first_end' h (by omega))
  obtain ⟨s1,s2⟩:=first_step' h (by omega:k < l.L.length)
  refine rd_dec (by omega) (rd_yes hm (rd_ite (fun c=>rd_out (s1 c)) fun c=>?_))
  rw [wrap_succ (by omega)]
  exact rd_again ((need_yes ⟨hm,hl,rfl,by simp only [I_i]; omega,by simp only [I_i,L_l]; omega⟩).trans (s2 c)) (show ((l.L.length:Int) - ((k + 1:Nat):Int)).toNat < (q.I - i.I).toNat by omega)
 ·cases h
theorem ok95 (n:Nat):FnOK C (n + 4) 95 (mkF s95 G95):=by
 refine fn_ofS hC (sp:=sp95) (lp:=lp95) (sw:=sw95) ⟨ok80 n,trivial⟩ trivial (by kernel_rfl) [2] (by kernel_rfl) (by kernel_rfl) (fun k hk L hL=>by simp at hk; subst hk; cases hL; exact ok95_2 n) fun ds rr h=>?_
 unfold G95 at h
 split at h
 ·rename_i l m r
  obtain ⟨hp,h⟩:=need_some h
  rw [yes_iff] at hp
  refine (congrArg T.run (t95 l m r)).trans ?_
  rw [← h]
  simp only [Int.toNat_zero,Nat.sub_zero]
  refine go_yes ⟨hp.1,hp.2,trivial,by omega,by omega⟩ (go_if (fun c=>rfl) fun c=>?_)
  rw [firstFrom_neg (by omega)]
 ·cases h
theorem ok76 (n:Nat):FnOK C (n + 5) 76 (mkF s76 G76):=by
 refine fn_ofS hC (sp:=sp76) (lp:=lp76) (sw:=sw76) ⟨ok94 n,ok77 (n + 1),trivial⟩ trivial (by kernel_rfl) [] (by kernel_rfl) rfl (fun k hk=>by cases hk) fun ds rr h=>?_
 unfold G76 at h
 split at h
 ·rename_i l m r
  obtain ⟨hp,h⟩:=need_some h
  rw [yes_iff] at hp
  refine (congrArg T.run (t76 l m r)).trans ?_
  rw [← h]
  refine go_yes hp ?_
  rw [firstFrom_all]
  simp only [Bool.not_not]
  rfl
 ·cases h
theorem ok79 (n:Nat):FnOK C (n + 5) 79 (mkF s79 G79):=by
 refine fn_ofS hC (sp:=sp79) (lp:=lp79) (sw:=sw79) ⟨ok95 n,ok80 (n + 1),trivial⟩ trivial (by kernel_rfl) [] (by kernel_rfl) rfl (fun k hk=>by cases hk) fun ds rr h=>?_
 unfold G79 at h
 split at h
 ·rename_i l m r
  obtain ⟨hp,h⟩:=need_some h
  rw [yes_iff] at hp
  refine (congrArg T.run (t79 l m r)).trans ?_
  rw [← h]
  refine go_yes hp ?_
  rw [firstFrom_all]
  simp only [Bool.not_not]
  rfl
 ·cases h
theorem ok52 (n:Nat):FnOK C (n + 6) 52 (mkF s52 G52):=by
 refine fn_ofS hC (sp:=sp52) (lp:=lp52) (sw:=sw52) ⟨ok18 (n + 3),ok45 (n + 4),ok76 n,ok79 n,ok77 (n + 2),ok80 (n + 2),trivial⟩ trivial (by kernel_rfl) [] (by kernel_rfl) rfl (fun k hk=>by cases hk) fun ds rr h=>?_
 unfold G52 at h
 split at h
 ·rename_i m r v q z t
  obtain ⟨hp,h⟩:=need_some h
  rw [yes_iff] at hp
  refine (congrArg T.run (t52 m r v q z t)).trans ?_
  rw [← h]
  unfold coverB
  have hb:=big_eq
  cases hN:netB m.I r.L with
  | false=>exact go_true rfl rfl
  | true=>
    obtain ⟨p1,p2,p3⟩:=net_parts hN
    rw [Bool.true_and]
    simp only [within_dec]
    refine go_false rfl (go_if (fun c1=>?_) fun c1=>go_if (fun c2=>?_) fun c2=>go_not (fun c3=>?_) fun c3=>?_)
    ·rw [decide_eq_false (by omega)]; rfl
    ·rw [decide_eq_false (by omega)]; rfl
    ·have c3:=of_decide_eq_false c3
     rw [decide_eq_false (by omega)]; rfl
    ·have c3:=of_decide_eq_true c3
     rw [decide_eq_true (by omega),Bool.true_and]
     refine go_yes ⟨p1,by omega⟩ (go_not (fun c4=>by rw [c4]; rfl) fun c4=>go_yes ⟨p1,by omega⟩ ?_)
     rw [c4,Bool.true_and,Bool.not_not]
 ·cases h
theorem ok28_2 (n:Nat):LoopSim C (n + 1) 28 (loopOf C.P 28 2) (mkL l28_2 G28_2):=by
 refine loop_ofK hC (sp:=sp28) (lp:=lp28) (sw:=sw28) ⟨ok47 n,trivial⟩ trivial 0 [] (by kernel_rfl) rfl (fun k hk=>by cases hk) (by kernel_rfl) (fun ds=>(((ds.getD 1 default).L.length:Int) - (ds.getD 2 default).I).toNat) fun ds rr h=>?_
 unfold G28_2 at h
 split at h
 ·rename_i m l i
  obtain ⟨hp,h⟩:=need_some h
  rw [yes_iff] at hp
  obtain ⟨hm,hl,hi0,hi1⟩:=hp
  have hb:=big_eq
  refine ⟨by rw [fuelC]; simp; omega,?_⟩
  rw [show roundTK C (mkTab sp28 lp28 sw28) 28 (loopOf C.P 28 2) 0 l28_2 [m,l,i] = _ from t28_2 m l i]
  obtain ⟨k,hk⟩:∃ k:Nat,i.I = k:=⟨i.I.toNat,by omega⟩
  simp only [hk,Int.toNat_natCast,Nat.reduceAdd,ix_def,within_dec] at h hi0 hi1 ⊢
  refine rd_if (fun hlt=>?_) fun hge=>rd_out (all_end h (by omega))
  obtain ⟨s1,s2⟩:=all_step h (by omega:k < l.L.length)
  have e0:vehL m.I l.L k = decide ((0 ≤ ix (l.L.getD k []) 0 ∧ ix (l.L.getD k []) 0 < m.I) ∧ (0 ≤ ix (l.L.getD k []) 1 ∧ ix (l.L.getD k []) 1 ≤ 65535) ∧ (0 ≤ ix (l.L.getD k []) 2 ∧ ix (l.L.getD k []) 2 ≤ ix (l.L.getD k []) 3) ∧ ix (l.L.getD k []) 3 ≤ 100000):=rfl
  rw [e0] at s1 s2
  rw [wrap_succ (by omega),wrap_id (by omega) (by omega)]
  refine rd_dec (by omega) (rd_not (fun c1=>rd_out (s1 ?_)) fun c1=>rd_not (fun c2=>rd_out (s1 ?_)) fun c2=>rd_if (fun c3=>rd_out (s1 (decide_eq_false (by omega)))) fun c3=>rd_if (fun c4=>rd_out (s1 (decide_eq_false (by omega)))) fun c4=>rd_if (fun c5=>rd_out (s1 (decide_eq_false (by omega)))) fun c5=>?_)
  ·have c1:=of_decide_eq_false c1
   exact decide_eq_false (by omega)
  ·have c2:=of_decide_eq_false c2
   exact decide_eq_false (by omega)
  ·have c1:=of_decide_eq_true c1
   have c2:=of_decide_eq_true c2
   exact rd_again ((need_yes ⟨hm,hl,by simp only [I_i]; omega,by simp only [I_i,L_l]; omega⟩).trans (s2 (decide_eq_true (by omega)))) (show ((l.L.length:Int) - ((k + 1:Nat):Int)).toNat < ((l.L.length:Int) - i.I).toNat by omega)
 ·cases h
theorem ok28 (n:Nat):FnOK C (n + 2) 28 (mkF s28 G28):=by
 refine fn_ofS hC (sp:=sp28) (lp:=lp28) (sw:=sw28) ⟨ok47 n,trivial⟩ trivial (by kernel_rfl) [2] (by kernel_rfl) (by kernel_rfl) (fun k hk L hL=>by simp at hk; subst hk; cases hL; exact ok28_2 n) fun ds rr h=>?_
 unfold G28 at h
 split at h
 ·rename_i m l
  obtain ⟨hp,h⟩:=need_some h
  rw [yes_iff] at hp
  refine (congrArg T.run (t28 m l)).trans ?_
  rw [← h]
  unfold vehs
  simp only [Int.toNat_zero,Nat.sub_zero]
  exact go_yes ⟨hp.1,hp.2,by omega,by omega⟩ (go_ite (fun c=>by rw [c]) fun c=>by rw [c])
 ·cases h
theorem ok29_2 (n:Nat):LoopSim C (n + 1) 29 (loopOf C.P 29 2) (mkL l29_2 G29_2):=by
 refine loop_ofK hC (sp:=sp29) (lp:=lp29) (sw:=sw29) ⟨ok47 n,trivial⟩ trivial 0 [] (by kernel_rfl) rfl (fun k hk=>by cases hk) (by kernel_rfl) (fun ds=>(((ds.getD 1 default).L.length:Int) - (ds.getD 2 default).I).toNat) fun ds rr h=>?_
 unfold G29_2 at h
 split at h
 ·rename_i m l i
  obtain ⟨hp,h⟩:=need_some h
  rw [yes_iff] at hp
  obtain ⟨hm,hl,hi0,hi1⟩:=hp
  have hb:=big_eq
  refine ⟨by rw [fuelC]; simp; omega,?_⟩
  rw [show roundTK C (mkTab sp29 lp29 sw29) 29 (loopOf C.P 29 2) 0 l29_2 [m,l,i] = _ from t29_2 m l i]
  obtain ⟨k,hk⟩:∃ k:Nat,i.I = k:=⟨i.I.toNat,by omega⟩
  simp only [hk,Int.toNat_natCast,Nat.reduceAdd,ix_def,within_dec] at h hi0 hi1 ⊢
  refine rd_if (fun hlt=>?_) fun hge=>rd_out (all_end h (by omega))
  obtain ⟨s1,s2⟩:=all_step h (by omega:k < l.L.length)
  have e0:zonL m.I l.L k = decide ((0 ≤ ix (l.L.getD k []) 0 ∧ ix (l.L.getD k []) 0 < m.I) ∧ (0 ≤ ix (l.L.getD k []) 1 ∧ ix (l.L.getD k []) 1 ≤ 65535) ∧ 0 ≤ ix (l.L.getD k []) 2 ∧ ix (l.L.getD k []) 2 ≤ 10000):=rfl
  rw [e0] at s1 s2
  rw [wrap_succ (by omega),wrap_id (by omega) (by omega)]
  refine rd_dec (by omega) (rd_not (fun c1=>rd_out (s1 ?_)) fun c1=>rd_not (fun c2=>rd_out (s1 ?_)) fun c2=>rd_not (fun c3=>rd_out (s1 ?_)) fun c3=>?_)
  ·have c1:=of_decide_eq_false c1
   exact decide_eq_false (by omega)
  ·have c2:=of_decide_eq_false c2
   exact decide_eq_false (by omega)
  ·have c3:=of_decide_eq_false c3
   exact decide_eq_false (by omega)
  ·have c1:=of_decide_eq_true c1
   have c2:=of_decide_eq_true c2
   have c3:=of_decide_eq_true c3
   exact rd_again ((need_yes ⟨hm,hl,by simp only [I_i]; omega,by simp only [I_i,L_l]; omega⟩).trans (s2 (decide_eq_true (by omega)))) (show ((l.L.length:Int) - ((k + 1:Nat):Int)).toNat < ((l.L.length:Int) - i.I).toNat by omega)
 ·cases h
theorem ok29 (n:Nat):FnOK C (n + 2) 29 (mkF s29 G29):=by
 refine fn_ofS hC (sp:=sp29) (lp:=lp29) (sw:=sw29) ⟨ok47 n,trivial⟩ trivial (by kernel_rfl) [2] (by kernel_rfl) (by kernel_rfl) (fun k hk L hL=>by simp at hk; subst hk; cases hL; exact ok29_2 n) fun ds rr h=>?_
 unfold G29 at h
 split at h
 ·rename_i m l
  obtain ⟨hp,h⟩:=need_some h
  rw [yes_iff] at hp
  refine (congrArg T.run (t29 m l)).trans ?_
  rw [← h]
  unfold zons
  simp only [Int.toNat_zero,Nat.sub_zero]
  refine go_yes ⟨hp.1,hp.2,by omega,by omega⟩ (go_ite (fun c=>?_) fun c=>by rw [c]; rfl)
  rw [c,Bool.true_and]
  by_cases c2:l.L.length ≤ 100
  ·rw [decide_eq_true c2,decide_eq_true (by omega)]
  ·rw [decide_eq_false c2,decide_eq_false (by omega)]
 ·cases h
theorem roundTK_head {C:Cfg} {tab:Tab} {f:FuncId} {b:Code} {k:Nat} {s:LSig} {j:D} {n:Int} {r:List D} (h:j.I = n) (hs:2 ≤ s.head.length):roundTK C tab f b k s (j :: r) = roundTK C tab f b k s (.i n :: r):=by
 obtain ⟨live,head,exits⟩:=s
 match head,hs with
 | a :: b :: c,_=>simp only [roundTK,roundTG,headL,headA,List.headD_cons,List.tail_cons,I_i,h]
theorem headA_head {hs:List Shp} {j:D} {n:Int} (r:List D) (h:j.I = n) (hl:2 ≤ hs.length):headA hs (j :: r) = headA hs (.i n :: r):=by
 match hs,hl with
 | a :: b :: c,_=>simp only [headA,List.headD_cons,List.tail_cons,I_i,h]
noncomputable def sp106:SpL:=[]
noncomputable def lp106 (q:Nat):LpL:=[(1,mkLY 1 l106_1 (G106_1 q))]
noncomputable def sw106:SwL:=[]
noncomputable def tab106 (q:Nat):Tab:=mkTabY sp106 (lp106 q) sw106 y106 q
noncomputable def sp105:SpL:=[]
noncomputable def lp105:LpL:=[]
noncomputable def sw105:SwL:=[]
noncomputable def tab105:Tab:=mkTab sp105 lp105 sw105
noncomputable def it104_3:ItL:=[(106,mkFY s106 G106)]
noncomputable def sp104:SpL:=[]
noncomputable def lp104:LpL:=[]
noncomputable def sw104:SwL:=[(105,mkFW s105 G105)]
noncomputable def rg104:LpL:=[(3,rangeS 0 [2,3,4,9] (rangeOf C.P 104 3).1 it104_3 h104_3 G104_3)]
noncomputable def tab104:Tab:=mkTabR sp104 lp104 sw104 rg104
noncomputable def sp103:SpL:=[(104,mkF s104 G104)]
noncomputable def lp103 (q:Nat):LpL:=[(1,mkLY 2 l103_1 (G103_1 q))]
noncomputable def sw103:SwL:=[]
noncomputable def tab103 (q:Nat):Tab:=mkTabY sp103 (lp103 q) sw103 y103 q
noncomputable def sp102:SpL:=[]
noncomputable def lp102:LpL:=[]
noncomputable def sw102:SwL:=[]
noncomputable def tab102:Tab:=mkTab sp102 lp102 sw102
noncomputable def it1073_14:ItL:=[(103,mkFY s103 G103)]
noncomputable def sp1073:SpL:=[(123,mkF s123 G123)]
noncomputable def lp1073:LpL:=[(3,mkL l1073_3 G1073_3),(9,mkL l1073_9 G1073_9)]
noncomputable def sw1073:SwL:=[(93,mkFW s93 G93),(102,mkFW s102 G102),(127,mkFW s127 G127)]
noncomputable def rg1073:LpL:=[(14,rangeS 0 [2,6,7,9,51] (rangeOf C.P 73 14).1 it1073_14 h1073_14 G1073_14)]
noncomputable def tab1073:Tab:=mkTabR sp1073 lp1073 sw1073 rg1073
noncomputable def sp97:SpL:=[(73,mkF s1073 G1073)]
noncomputable def lp97:LpL:=[(3,mkL l97_3 G97_3)]
noncomputable def sw97:SwL:=[(102,mkFW s102 G102)]
noncomputable def tab97:Tab:=mkTab sp97 lp97 sw97
noncomputable def sp96:SpL:=[(97,mkF s97 G97),(46,mkF s46 G46)]
noncomputable def lp96 (q:Nat):LpL:=[(1,mkLY 4 l96_1 (G96_1 q)),(6,mkLY 4 l96_6 (G96_6 q))]
noncomputable def sw96:SwL:=[]
noncomputable def tab96 (q:Nat):Tab:=mkTabY sp96 (lp96 q) sw96 y96 q
noncomputable def sp81:SpL:=[]
noncomputable def lp81:LpL:=[]
noncomputable def sw81:SwL:=[]
noncomputable def tab81:Tab:=mkTab sp81 lp81 sw81
noncomputable def it53_10:ItL:=[(96,mkFY s96 G96)]
noncomputable def sp53:SpL:=[]
noncomputable def lp53:LpL:=[(3,mkL l53_3 G53_3)]
noncomputable def sw53:SwL:=[(81,mkFW s81 G81)]
noncomputable def rg53:LpL:=[(10,rangeS 0 [1,3,4,8,9,10,12,14,15,16,25] (rangeOf C.P 53 10).1 it53_10 h53_10 G53_10)]
noncomputable def tab53:Tab:=mkTabR sp53 lp53 sw53 rg53
noncomputable def sp27:SpL:=[(52,mkF s52 G52),(53,mkF s53 G53)]
noncomputable def lp27:LpL:=[]
noncomputable def sw27:SwL:=[]
noncomputable def tab27:Tab:=mkTab sp27 lp27 sw27
set_option linter.unusedVariables false
set_option maxRecDepth 100000
theorem t96 (q:Nat) (a b c d e f g:D):fnTY C (tab96 q) 96 s96 [a,b,c,d,e,f,g] =
 T.need (yes (okP b.I c.L g.L (mk3 (D.i d.I) (D.i e.I) (D.i f.I)) a.I ∧ (0:Int) ≤ (0:Int) ∧ (0:Int) ≤ a.I ∧ List.length ([]:List (List D)) ≤ q)) (T.ite (decide (q < List.length ([]:List (List D)) + List.length (pieceL b.I c.L g.L (mk3 (D.i d.I) (D.i e.I) (D.i f.I)) a.I (Int.toNat (a.I - (0:Int))) (0:Int)))) (T.leaf ([] ++ List.take (q + 1 - List.length ([]:List (List D))) (pieceL b.I c.L g.L (mk3 (D.i d.I) (D.i e.I) (D.i f.I)) a.I (Int.toNat (a.I - (0:Int))) (0:Int)))) (T.leaf ([] ++ pieceL b.I c.L g.L (mk3 (D.i d.I) (D.i e.I) (D.i f.I)) a.I (Int.toNat (a.I - (0:Int))) (0:Int)))):=by kernel_rfl
theorem t96_1 (q:Nat) (a b c d e f g h i:D):roundTY C (tab96 q) 96 (loopOf C.P 96 1) 4 l96_1 [a,b,c,d,e,f,g,h,i] =
 T.ite (decide (b.I < c.I)) (T.need (yes (netB d.I e.L = true ∧ ((0:Int) ≤ f.I ∧ f.I < d.I) ∧ (0:Int) ≤ IntKind.i64.wrap (b.I + h.I) ∧ IntKind.i64.wrap (b.I + h.I) ≤ (1000000:Int))) (T.need (yes (okP d.I e.L i.L (mk3 (D.i f.I) (D.i g.I) (D.i h.I)) c.I ∧ ((0:Int) ≤ b.I ∧ b.I < c.I) ∧ latF d.I e.L f.I (IntKind.i64.wrap (b.I + h.I)) = latF d.I e.L f.I (b.I + h.I) ∧ (d.I.toNat:Int) = d.I ∧ i.L = i.L ∧ (i.L.length:Int) = (i.L.length:Int) ∧ ((0:Int) ≤ (0:Int) ∧ (0:Int) ≤ (i.L.length:Int)) ∧ okPv b.I c.I (pvOf (D.b false) (D.i b.I) (D.i c.I)))) (T.ite (!(runV d.I e.L i.L (mk3 (D.i f.I) (D.i g.I) (D.i h.I)) b.I (Int.toNat (0:Int)) (i.L.length - Int.toNat (0:Int)) (pvOf (D.b false) (D.i b.I) (D.i c.I))).c) (T.ite (!!a.L.length == (tab96 q).q) (T.leaf (Rd.out Ex.ret [D.l (a.L ++ [[D.i b.I] ++ ([D.i (if c.I < if (runV d.I e.L i.L (mk3 (D.i f.I) (D.i g.I) (D.i h.I)) b.I (Int.toNat (0:Int)) (i.L.length - Int.toNat (0:Int)) (pvOf (D.b false) (D.i b.I) (D.i c.I))).nx > IntKind.i64.wrap (b.I + (1:Int)) then (runV d.I e.L i.L (mk3 (D.i f.I) (D.i g.I) (D.i h.I)) b.I (Int.toNat (0:Int)) (i.L.length - Int.toNat (0:Int)) (pvOf (D.b false) (D.i b.I) (D.i c.I))).nx else IntKind.i64.wrap (b.I + (1:Int)) then c.I else if (runV d.I e.L i.L (mk3 (D.i f.I) (D.i g.I) (D.i h.I)) b.I (Int.toNat (0:Int)) (i.L.length - Int.toNat (0:Int)) (pvOf (D.b false) (D.i b.I) (D.i c.I))).nx > IntKind.i64.wrap (b.I + (1:Int)) then (runV d.I e.L i.L (mk3 (D.i f.I) (D.i g.I) (D.i h.I)) b.I (Int.toNat (0:Int)) (i.L.length - Int.toNat (0:Int)) (pvOf (D.b false) (D.i b.I) (D.i c.I))).nx else IntKind.i64.wrap (b.I + (1:Int)))] ++ ([D.b (runV d.I e.L i.L (mk3 (D.i f.I) (D.i g.I) (D.i h.I)) b.I (Int.toNat (0:Int)) (i.L.length - Int.toNat (0:Int)) (pvOf (D.b false) (D.i b.I) (D.i c.I))).c] ++ [])) ++ [] ++ []]),D.i c.I,D.i d.I,D.l e.L,D.i f.I,D.i g.I,D.i h.I,D.l i.L])) (T.leaf (Rd.again [D.l (a.L ++ [[D.i b.I] ++ ([D.i (if c.I < if (runV d.I e.L i.L (mk3 (D.i f.I) (D.i g.I) (D.i h.I)) b.I (Int.toNat (0:Int)) (i.L.length - Int.toNat (0:Int)) (pvOf (D.b false) (D.i b.I) (D.i c.I))).nx > IntKind.i64.wrap (b.I + (1:Int)) then (runV d.I e.L i.L (mk3 (D.i f.I) (D.i g.I) (D.i h.I)) b.I (Int.toNat (0:Int)) (i.L.length - Int.toNat (0:Int)) (pvOf (D.b false) (D.i b.I) (D.i c.I))).nx else IntKind.i64.wrap (b.I + (1:Int)) then c.I else if (runV d.I e.L i.L (mk3 (D.i f.I) (D.i g.I) (D.i h.I)) b.I (Int.toNat (0:Int)) (i.L.length - Int.toNat (0:Int)) (pvOf (D.b false) (D.i b.I) (D.i c.I))).nx > IntKind.i64.wrap (b.I + (1:Int)) then (runV d.I e.L i.L (mk3 (D.i f.I) (D.i g.I) (D.i h.I)) b.I (Int.toNat (0:Int)) (i.L.length - Int.toNat (0:Int)) (pvOf (D.b false) (D.i b.I) (D.i c.I))).nx else IntKind.i64.wrap (b.I + (1:Int)))] ++ ([D.b (runV d.I e.L i.L (mk3 (D.i f.I) (D.i g.I) (D.i h.I)) b.I (Int.toNat (0:Int)) (i.L.length - Int.toNat (0:Int)) (pvOf (D.b false) (D.i b.I) (D.i c.I))).c] ++ [])) ++ [] ++ []]),D.i (if c.I < if (runV d.I e.L i.L (mk3 (D.i f.I) (D.i g.I) (D.i h.I)) b.I (Int.toNat (0:Int)) (i.L.length - Int.toNat (0:Int)) (pvOf (D.b false) (D.i b.I) (D.i c.I))).nx > IntKind.i64.wrap (b.I + (1:Int)) then (runV d.I e.L i.L (mk3 (D.i f.I) (D.i g.I) (D.i h.I)) b.I (Int.toNat (0:Int)) (i.L.length - Int.toNat (0:Int)) (pvOf (D.b false) (D.i b.I) (D.i c.I))).nx else IntKind.i64.wrap (b.I + (1:Int)) then c.I else if (runV d.I e.L i.L (mk3 (D.i f.I) (D.i g.I) (D.i h.I)) b.I (Int.toNat (0:Int)) (i.L.length - Int.toNat (0:Int)) (pvOf (D.b false) (D.i b.I) (D.i c.I))).nx > IntKind.i64.wrap (b.I + (1:Int)) then (runV d.I e.L i.L (mk3 (D.i f.I) (D.i g.I) (D.i h.I)) b.I (Int.toNat (0:Int)) (i.L.length - Int.toNat (0:Int)) (pvOf (D.b false) (D.i b.I) (D.i c.I))).nx else IntKind.i64.wrap (b.I + (1:Int))),D.i c.I,D.i d.I,D.l e.L,D.i f.I,D.i g.I,D.i h.I,D.l i.L]))) (T.ite (!!a.L.length == (tab96 q).q) (T.leaf (Rd.out Ex.ret [D.l (a.L ++ [[D.i b.I] ++ ([D.i (if c.I < (runV d.I e.L i.L (mk3 (D.i f.I) (D.i g.I) (D.i h.I)) b.I (Int.toNat (0:Int)) (i.L.length - Int.toNat (0:Int)) (pvOf (D.b false) (D.i b.I) (D.i c.I))).to then c.I else (runV d.I e.L i.L (mk3 (D.i f.I) (D.i g.I) (D.i h.I)) b.I (Int.toNat (0:Int)) (i.L.length - Int.toNat (0:Int)) (pvOf (D.b false) (D.i b.I) (D.i c.I))).to)] ++ ([D.b (runV d.I e.L i.L (mk3 (D.i f.I) (D.i g.I) (D.i h.I)) b.I (Int.toNat (0:Int)) (i.L.length - Int.toNat (0:Int)) (pvOf (D.b false) (D.i b.I) (D.i c.I))).c] ++ [])) ++ [] ++ []]),D.i c.I,D.i d.I,D.l e.L,D.i f.I,D.i g.I,D.i h.I,D.l i.L])) (T.leaf (Rd.again [D.l (a.L ++ [[D.i b.I] ++ ([D.i (if c.I < (runV d.I e.L i.L (mk3 (D.i f.I) (D.i g.I) (D.i h.I)) b.I (Int.toNat (0:Int)) (i.L.length - Int.toNat (0:Int)) (pvOf (D.b false) (D.i b.I) (D.i c.I))).to then c.I else (runV d.I e.L i.L (mk3 (D.i f.I) (D.i g.I) (D.i h.I)) b.I (Int.toNat (0:Int)) (i.L.length - Int.toNat (0:Int)) (pvOf (D.b false) (D.i b.I) (D.i c.I))).to)] ++ ([D.b (runV d.I e.L i.L (mk3 (D.i f.I) (D.i g.I) (D.i h.I)) b.I (Int.toNat (0:Int)) (i.L.length - Int.toNat (0:Int)) (pvOf (D.b false) (D.i b.I) (D.i c.I))).c] ++ [])) ++ [] ++ []]),D.i (if c.I < (runV d.I e.L i.L (mk3 (D.i f.I) (D.i g.I) (D.i h.I)) b.I (Int.toNat (0:Int)) (i.L.length - Int.toNat (0:Int)) (pvOf (D.b false) (D.i b.I) (D.i c.I))).to then c.I else (runV d.I e.L i.L (mk3 (D.i f.I) (D.i g.I) (D.i h.I)) b.I (Int.toNat (0:Int)) (i.L.length - Int.toNat (0:Int)) (pvOf (D.b false) (D.i b.I) (D.i c.I))).to),D.i c.I,D.i d.I,D.l e.L,D.i f.I,D.i g.I,D.i h.I,D.l i.L])))))) (T.leaf (Rd.out (Ex.exit 0) [D.l a.L,D.i c.I,D.i d.I,D.l e.L,D.i f.I,D.i g.I,D.i h.I,D.l i.L])):=by kernel_rfl
theorem t96_6 (q:Nat) (a b c d e f g h i j k l m n o p q1 r:D):roundTY C (tab96 q) 96 (loopOf C.P 96 6) 4 l96_6 [a,b,c,d,e,f,g,h,i,j,k,l,m,n,o,p,q1,r] =
 T.ite (decide (g.I < f.I)) (T.need (decide ((0:Int) ≤ g.I ∧ g.I < (e.L.length:Int))) (T.ite (IntKind.i64.wrap (↑(BitVec.toNat (BitVec.ofInt (IntKind.bits IntKind.i64) (D.I (List.getD (List.getD e.L g.I.toNat []) (0 + 1) default)) &&& BitVec.ofInt (IntKind.bits IntKind.i64) l.I)):Int) != l.I) (T.leaf (Rd.again [D.l a.L,D.i b.I,D.i (c.I.toNat:Int),D.i d.I,D.l e.L,D.i f.I,D.i (IntKind.i64.wrap (g.I + (1:Int))),D.i h.I,D.i i.I,D.l j.L,D.i k.I,D.i l.I,D.i m.I,D.l n.L,D.l o.L,D.i p.I,D.i q1.I,D.b r.B])) (T.ite (decide (b.I ≥ D.I (List.getD (List.getD e.L g.I.toNat []) (0 + 1 + 1 + 1) default))) (T.leaf (Rd.again [D.l a.L,D.i b.I,D.i (c.I.toNat:Int),D.i d.I,D.l e.L,D.i f.I,D.i (IntKind.i64.wrap (g.I + (1:Int))),D.i h.I,D.i i.I,D.l j.L,D.i k.I,D.i l.I,D.i m.I,D.l n.L,D.l o.L,D.i p.I,D.i q1.I,D.b r.B])) (T.ite (decide (b.I < D.I (List.getD (List.getD e.L g.I.toNat []) (0 + 1 + 1) default))) (T.leaf (Rd.again [D.l a.L,D.i b.I,D.i (c.I.toNat:Int),D.i (if D.I (List.getD (List.getD e.L g.I.toNat []) (0 + 1 + 1) default) < d.I then D.I (List.getD (List.getD e.L g.I.toNat []) (0 + 1 + 1) default) else d.I),D.l e.L,D.i f.I,D.i (IntKind.i64.wrap (g.I + (1:Int))),D.i h.I,D.i i.I,D.l j.L,D.i k.I,D.i l.I,D.i m.I,D.l n.L,D.l o.L,D.i p.I,D.i q1.I,D.b r.B])) (T.need (decide ((0:Int) ≤ D.I (List.getD (List.getD e.L g.I.toNat []) 0 default) ∧ D.I (List.getD (List.getD e.L g.I.toNat []) 0 default) < (c.I.toNat:Int))) (T.need (decide (Int.toNat (D.I (List.getD (List.getD e.L g.I.toNat []) 0 default)) < o.L.length)) (T.ite (decide (D.I (List.getD (List.getD o.L (Int.toNat (D.I (List.getD (List.getD e.L g.I.toNat []) 0 default))) []) 0 default) ≥ b.I)) (T.need (decide ((0:Int) ≤ D.I (List.getD (List.getD e.L g.I.toNat []) 0 default) ∧ D.I (List.getD (List.getD e.L g.I.toNat []) 0 default) < (c.I.toNat:Int))) (T.need (decide (Int.toNat (D.I (List.getD (List.getD e.L g.I.toNat []) 0 default)) < o.L.length)) (T.leaf (Rd.again [D.l a.L,D.i b.I,D.i (c.I.toNat:Int),D.i d.I,D.l e.L,D.i f.I,D.i (IntKind.i64.wrap (g.I + (1:Int))),D.i h.I,D.i i.I,D.l j.L,D.i k.I,D.i l.I,D.i m.I,D.l n.L,D.l o.L,D.i p.I,D.i (if (if D.I (List.getD (List.getD e.L g.I.toNat []) (0 + 1 + 1 + 1) default) < IntKind.i64.wrap (D.I (List.getD (List.getD o.L (Int.toNat (D.I (List.getD (List.getD e.L g.I.toNat []) 0 default))) []) 0 default) + (1:Int)) then D.I (List.getD (List.getD e.L g.I.toNat []) (0 + 1 + 1 + 1) default) else IntKind.i64.wrap (D.I (List.getD (List.getD o.L (Int.toNat (D.I (List.getD (List.getD e.L g.I.toNat []) 0 default))) []) 0 default) + (1:Int))) > q1.I then if D.I (List.getD (List.getD e.L g.I.toNat []) (0 + 1 + 1 + 1) default) < IntKind.i64.wrap (D.I (List.getD (List.getD o.L (Int.toNat (D.I (List.getD (List.getD e.L g.I.toNat []) 0 default))) []) 0 default) + (1:Int)) then D.I (List.getD (List.getD e.L g.I.toNat []) (0 + 1 + 1 + 1) default) else IntKind.i64.wrap (D.I (List.getD (List.getD o.L (Int.toNat (D.I (List.getD (List.getD e.L g.I.toNat []) 0 default))) []) 0 default) + (1:Int)) else q1.I),D.b true])))) (T.need (yes ((0:Int) ≤ i.I ∧ i.I < (1099511627776:Int) ∧ (0:Int) ≤ D.I (List.getD (List.getD e.L g.I.toNat []) 0 default) ∧ D.I (List.getD (List.getD e.L g.I.toNat []) 0 default) < i.I ∧ haltS i.I.toNat j.L (startS i.I (D.I (List.getD (List.getD e.L g.I.toNat []) 0 default)) b.I))) (T.need (decide ((0:Int) ≤ k.I ∧ k.I < (i.I.toNat:Int))) (T.need (decide (k.I.toNat < List.length (arrF i.I j.L (D.I (List.getD (List.getD e.L g.I.toNat []) 0 default)) b.I))) (T.ite (decide (D.I (List.getD (List.getD (arrF i.I j.L (D.I (List.getD (List.getD e.L g.I.toNat []) 0 default)) b.I) k.I.toNat []) 0 default) ≥ (0:Int))) (T.leaf (Rd.again [D.l a.L,D.i b.I,D.i (c.I.toNat:Int),D.i (if (if IntKind.i64.wrap (D.I (List.getD (List.getD (arrF i.I j.L (D.I (List.getD (List.getD e.L g.I.toNat []) 0 default)) b.I) k.I.toNat []) 0 default) - m.I) > IntKind.i64.wrap (b.I + (1:Int)) then IntKind.i64.wrap (D.I (List.getD (List.getD (arrF i.I j.L (D.I (List.getD (List.getD e.L g.I.toNat []) 0 default)) b.I) k.I.toNat []) 0 default) - m.I) else IntKind.i64.wrap (b.I + (1:Int))) < d.I then if IntKind.i64.wrap (D.I (List.getD (List.getD (arrF i.I j.L (D.I (List.getD (List.getD e.L g.I.toNat []) 0 default)) b.I) k.I.toNat []) 0 default) - m.I) > IntKind.i64.wrap (b.I + (1:Int)) then IntKind.i64.wrap (D.I (List.getD (List.getD (arrF i.I j.L (D.I (List.getD (List.getD e.L g.I.toNat []) 0 default)) b.I) k.I.toNat []) 0 default) - m.I) else IntKind.i64.wrap (b.I + (1:Int)) else d.I),D.l e.L,D.i f.I,D.i (IntKind.i64.wrap (g.I + (1:Int))),D.i h.I,D.i i.I,D.l j.L,D.i k.I,D.i l.I,D.i m.I,D.l n.L,D.l o.L,D.i p.I,D.i q1.I,D.b r.B])) (T.leaf (Rd.again [D.l a.L,D.i b.I,D.i (c.I.toNat:Int),D.i d.I,D.l e.L,D.i f.I,D.i (IntKind.i64.wrap (g.I + (1:Int))),D.i h.I,D.i i.I,D.l j.L,D.i k.I,D.i l.I,D.i m.I,D.l n.L,D.l o.L,D.i p.I,D.i q1.I,D.b r.B]))))))))))))) (T.leaf (Rd.out (Ex.exit 2) [D.l a.L,D.i b.I,D.i d.I,D.i h.I,D.i i.I,D.l j.L,D.i k.I,D.i l.I,D.i m.I,D.l n.L,D.i p.I,D.i q1.I,D.b r.B])):=by kernel_rfl
theorem t81 (a b c d e f g:D):fnTW C tab81 81 s81 [a,b,c,d,e,f,g] =
 T.leaf [D.i g.I,D.i a.I,D.l b.L,D.i d.I,D.i e.I,D.i f.I,D.l c.L]:=by kernel_rfl
theorem t53 (a b c d e:D):fnT C tab53 53 s53 [a,b,c,d,e] =
 T.need (yes ((↑0:Int) = (0:Int) ∧ okG a.I b.L c.L d.L e.I ∧ (d.L.length:Int) = (d.L.length:Int) ∧ (0:Int) ≤ (0:Int) ∧ (0:Int) ≤ (d.L.length:Int))) (T.ite (List.isEmpty (gapsZ a.I b.L c.L d.L e.I (Int.toNat (0:Int)) (d.L.length - Int.toNat (0:Int)) [])) (T.leaf [D.i 0]) (T.leaf [D.i 1,D.i (↑(Int.toNat (↑(List.length (gapsZ a.I b.L c.L d.L e.I (Int.toNat (0:Int)) (d.L.length - Int.toNat (0:Int)) [])):Int)):Int),D.l (gapsZ a.I b.L c.L d.L e.I (Int.toNat (0:Int)) (d.L.length - Int.toNat (0:Int)) [])])):=by kernel_rfl
theorem t53_3_0 (a b c d e f g:D):roundT C tab53 53 (loopOf C.P 53 3) l53_3 [.i 0,a,b,c,d,e,f,g] =
 T.ite (decide (e.I < d.I)) (T.need (decide ((0:Int) ≤ e.I ∧ e.I < (c.L.length:Int))) (T.need (yes (okP f.I g.L a.L (mk3 (D.i (D.I (List.getD (List.getD c.L e.I.toNat []) 0 default))) (D.i (D.I (List.getD (List.getD c.L e.I.toNat []) (0 + 1) default))) (D.i (D.I (List.getD (List.getD c.L e.I.toNat []) (0 + 1 + 1) default)))) b.I)) (T.need (yes ((↑0:Int) = (0:Int) ∧ false = false ∧ List.length (pieceL f.I g.L a.L (mk3 (D.i (D.I (List.getD (List.getD c.L e.I.toNat []) 0 default))) (D.i (D.I (List.getD (List.getD c.L e.I.toNat []) (0 + 1) default))) (D.i (D.I (List.getD (List.getD c.L e.I.toNat []) (0 + 1 + 1) default)))) b.I b.I.toNat (0:Int)) ≤ 1000000)) (T.ite (List.isEmpty (gapsF e.I (pieceL f.I g.L a.L (mk3 (D.i (D.I (List.getD (List.getD c.L e.I.toNat []) 0 default))) (D.i (D.I (List.getD (List.getD c.L e.I.toNat []) (0 + 1) default))) (D.i (D.I (List.getD (List.getD c.L e.I.toNat []) (0 + 1 + 1) default)))) b.I b.I.toNat (0:Int)) ([],false)).fst) (T.leaf (Rd.again [D.i 0,D.l a.L,D.i b.I,D.l c.L,D.i d.I,D.i (IntKind.i64.wrap (e.I + (1:Int))),D.i f.I,D.l g.L])) (T.leaf (Rd.again [D.i 1,D.l a.L,D.i b.I,D.l c.L,D.i d.I,D.i (IntKind.i64.wrap (e.I + (1:Int))),D.i f.I,D.l g.L,D.i (↑(Int.toNat (↑(List.length (gapsF e.I (pieceL f.I g.L a.L (mk3 (D.i (D.I (List.getD (List.getD c.L e.I.toNat []) 0 default))) (D.i (D.I (List.getD (List.getD c.L e.I.toNat []) (0 + 1) default))) (D.i (D.I (List.getD (List.getD c.L e.I.toNat []) (0 + 1 + 1) default)))) b.I b.I.toNat (0:Int)) ([],false)).fst):Int)):Int),D.l (gapsF e.I (pieceL f.I g.L a.L (mk3 (D.i (D.I (List.getD (List.getD c.L e.I.toNat []) 0 default))) (D.i (D.I (List.getD (List.getD c.L e.I.toNat []) (0 + 1) default))) (D.i (D.I (List.getD (List.getD c.L e.I.toNat []) (0 + 1 + 1) default)))) b.I b.I.toNat (0:Int)) ([],false)).fst])))))) (T.leaf (Rd.out (Ex.exit 0) [D.i 0])):=by kernel_rfl
theorem t53_3_1 (a b c d e f g h i:D):roundT C tab53 53 (loopOf C.P 53 3) l53_3 [.i 1,a,b,c,d,e,f,g,h,i] =
 T.ite (decide (e.I < d.I)) (T.need (decide ((0:Int) ≤ e.I ∧ e.I < (c.L.length:Int))) (T.need (yes (okP f.I g.L a.L (mk3 (D.i (D.I (List.getD (List.getD c.L e.I.toNat []) 0 default))) (D.i (D.I (List.getD (List.getD c.L e.I.toNat []) (0 + 1) default))) (D.i (D.I (List.getD (List.getD c.L e.I.toNat []) (0 + 1 + 1) default)))) b.I)) (T.need (yes ((↑(0 + 1):Int) = (1:Int) ∧ (h.I.toNat:Int) = (i.L.length:Int) ∧ 0 < i.L.length ∧ List.length (pieceL f.I g.L a.L (mk3 (D.i (D.I (List.getD (List.getD c.L e.I.toNat []) 0 default))) (D.i (D.I (List.getD (List.getD c.L e.I.toNat []) (0 + 1) default))) (D.i (D.I (List.getD (List.getD c.L e.I.toNat []) (0 + 1 + 1) default)))) b.I b.I.toNat (0:Int)) ≤ 1000000 ∧ (h.I.toNat:Int) + (↑(List.length (pieceL f.I g.L a.L (mk3 (D.i (D.I (List.getD (List.getD c.L e.I.toNat []) 0 default))) (D.i (D.I (List.getD (List.getD c.L e.I.toNat []) (0 + 1) default))) (D.i (D.I (List.getD (List.getD c.L e.I.toNat []) (0 + 1 + 1) default)))) b.I b.I.toNat (0:Int))):Int) ≤ (1000000000:Int))) (T.leaf (Rd.again [D.i 1,D.l a.L,D.i b.I,D.l c.L,D.i d.I,D.i (IntKind.i64.wrap (e.I + (1:Int))),D.i f.I,D.l g.L,D.i (↑(Int.toNat (↑(List.length (gapsF e.I (pieceL f.I g.L a.L (mk3 (D.i (D.I (List.getD (List.getD c.L e.I.toNat []) 0 default))) (D.i (D.I (List.getD (List.getD c.L e.I.toNat []) (0 + 1) default))) (D.i (D.I (List.getD (List.getD c.L e.I.toNat []) (0 + 1 + 1) default)))) b.I b.I.toNat (0:Int)) (i.L,false)).fst):Int)):Int),D.l (gapsF e.I (pieceL f.I g.L a.L (mk3 (D.i (D.I (List.getD (List.getD c.L e.I.toNat []) 0 default))) (D.i (D.I (List.getD (List.getD c.L e.I.toNat []) (0 + 1) default))) (D.i (D.I (List.getD (List.getD c.L e.I.toNat []) (0 + 1 + 1) default)))) b.I b.I.toNat (0:Int)) (i.L,false)).fst]))))) (T.leaf (Rd.out (Ex.exit 0) [D.i 1,D.i (h.I.toNat:Int),D.l i.L])):=by kernel_rfl
theorem t53_r10_0 (a b c d e f g h i j k l:D):roundRT C tab53 53 (rangeOf C.P 53 10) 0 4 [1,3,4,8,9,10,12,14,15,16,25] h53_10 y96 [.i 0,a,b,c,d,e,f,g,h,i] [j,k,l] =
 T.ite l.B (T.leaf (Rd.again [D.i 0,D.l a.L,D.i b.I,D.l c.L,D.i d.I,D.i e.I,D.i f.I,D.l g.L,D.i h.I,D.b false],[])) (T.ite i.B T.fail (T.need true (T.ite false (T.leaf (Rd.again [D.i 0,D.l a.L,D.i b.I,D.l c.L,D.i d.I,D.i e.I,D.i f.I,D.l g.L,D.i h.I,D.b true],[])) (T.need true (T.leaf (Rd.again [D.i 1,D.l a.L,D.i b.I,D.l c.L,D.i d.I,D.i e.I,D.i f.I,D.l g.L,D.i 1,D.i h.I,D.b true,D.l [[D.i h.I,D.i j.I,D.i k.I]]],[])))))):=by kernel_rfl
theorem t53_r10_1 (a b c d e f g h i j k l m n:D):roundRT C tab53 53 (rangeOf C.P 53 10) 0 5 [1,3,4,8,9,10,12,14,15,16,25] h53_10 y96 [.i 1,a,b,c,d,e,f,g,h,i,j,k] [l,m,n] =
 T.ite n.B (T.leaf (Rd.again [D.i 1,D.l a.L,D.i b.I,D.l c.L,D.i d.I,D.i e.I,D.i f.I,D.l g.L,D.i (h.I.toNat:Int),D.i i.I,D.b false,D.l k.L],[])) (T.ite j.B (T.need (decide ((0:Int) ≤ IntKind.i64.wrap ((h.I.toNat:Int) - (1:Int)) ∧ IntKind.i64.wrap ((h.I.toNat:Int) - (1:Int)) < (h.I.toNat:Int))) (T.need (decide (Int.toNat (IntKind.i64.wrap ((h.I.toNat:Int) - (1:Int))) < k.L.length)) (T.leaf (Rd.again [D.i 1,D.l a.L,D.i b.I,D.l c.L,D.i d.I,D.i e.I,D.i f.I,D.l g.L,D.i (h.I.toNat:Int),D.i i.I,D.b j.B,D.l (List.set k.L (Int.toNat (IntKind.i64.wrap ((h.I.toNat:Int) - (1:Int)))) (updC (List.getD k.L (Int.toNat (IntKind.i64.wrap ((h.I.toNat:Int) - (1:Int)))) []) [D.i m.I] (0 + 2) 0 (List.length [K.int IntKind.i64,K.int IntKind.i64,K.int IntKind.i64])))],[])))) (T.need true (T.ite false (T.leaf (Rd.again [D.i 1,D.l a.L,D.i b.I,D.l c.L,D.i d.I,D.i e.I,D.i f.I,D.l g.L,D.i (h.I.toNat:Int),D.i i.I,D.b true,D.l k.L],[])) (T.need (decide (h.I.toNat ≤ k.L.length ∧ h.I.toNat + List.length (List.take (List.length [[D.i i.I,D.i l.I,D.i m.I]]) [[D.i i.I,D.i l.I,D.i m.I]]) ≤ 2 ^ 62 ∧ (h.I.toNat + List.length (List.take (List.length [[D.i i.I,D.i l.I,D.i m.I]]) [[D.i i.I,D.i l.I,D.i m.I]])) * Try.prog.types[57].bytes ≤ 2 ^ 47)) (T.leaf (Rd.again [D.i 1,D.l a.L,D.i b.I,D.l c.L,D.i d.I,D.i e.I,D.i f.I,D.l g.L,D.i (↑(h.I.toNat + List.length (List.take (List.length [[D.i i.I,D.i l.I,D.i m.I]]) [[D.i i.I,D.i l.I,D.i m.I]])):Int),D.i i.I,D.b true,D.l (List.take h.I.toNat k.L ++ List.take (List.length [[D.i i.I,D.i l.I,D.i m.I]]) [[D.i i.I,D.i l.I,D.i m.I]])],[])))))):=by kernel_rfl
theorem t27 (a b c d e:D):fnT C tab27 27 s27 [a,b,c,d,e] =
 T.need (yes ((60:Int) ≤ (1000:Int))) (T.ite (!coverB a.I b.L c.L (60:Int) d.L e.I) (T.leaf [D.i 0,D.i 2]) (T.need (yes (okG a.I b.L c.L d.L e.I)) (T.ite (List.isEmpty (gapsA a.I b.L c.L d.L e.I)) (T.leaf [D.i 0,D.i 0]) (T.leaf [D.i 1,D.i (↑(Int.toNat (↑(List.length (gapsA a.I b.L c.L d.L e.I)):Int)):Int),D.i 0,D.l (gapsA a.I b.L c.L d.L e.I)])))):=by kernel_rfl
set_option maxRecDepth 100000
set_option linter.unusedVariables false
theorem upd3 (c:List D) (d:D) (k1 k2 k3:K):updC c [d] 2 0 (List.length [k1,k2,k3]) = [c.getD 0 default,c.getD 1 default,d]:=by simp [updC]
theorem setTo_len (g:List (List D)) (x:Int):(setTo g x).length = g.length:=by simp [setTo]
theorem empty_false {α:Type} {l:List α} (h:0 < l.length):l.isEmpty = false:=by
 cases l with
 | nil=>simp at h
 | cons a l=>rfl
theorem empty_nil {α:Type} {l:List α} (h:l.isEmpty = true):l = []:=List.isEmpty_iff.1 h
theorem upd3' (c:List D) (d:D) (k1 k2 k3:K):updC c [d] (0 + 2) 0 (List.length [k1,k2,k3]) = [c.getD 0 default,c.getD 1 default,d]:=upd3 c d k1 k2 k3
theorem veh_of {n:Int} {v:List (List D)} (h:vehs n v = true) {k:Nat} (hk:k < v.length):vehL n v k = true:=allFrom_iff.1 h k (Nat.zero_le _) (by omega)
theorem zon_of {n:Int} {z:List (List D)} (h:zons n z = true) {k:Nat} (hk:k < z.length):zonL n z k = true:=allFrom_iff.1 h k (Nat.zero_le _) (by omega)
set_option linter.unusedVariables false
set_option maxRecDepth 100000
theorem t106 (q:Nat) (a:D):fnTY C (tab106 q) 106 s106 [a] =
 T.need (yes (a.L.length < big ∧ (-1:Int) ≤ IntKind.i64.wrap ((a.L.length:Int) - (1:Int)) ∧ IntKind.i64.wrap ((a.L.length:Int) - (1:Int)) < (a.L.length:Int) ∧ List.length ([]:List (List D)) ≤ q)) (T.ite (decide (q < List.length ([]:List (List D)) + Int.toNat (IntKind.i64.wrap ((a.L.length:Int) - (1:Int)) + (1:Int)))) (T.leaf ([] ++ List.take (q + 1 - List.length ([]:List (List D))) (backY a.L (Int.toNat (IntKind.i64.wrap ((a.L.length:Int) - (1:Int)) + (1:Int)))))) (T.leaf ([] ++ backY a.L (Int.toNat (IntKind.i64.wrap ((a.L.length:Int) - (1:Int)) + (1:Int)))))):=by kernel_rfl
theorem t106_1 (q:Nat) (a b c:D):roundTY C (tab106 q) 106 (loopOf C.P 106 1) 1 l106_1 [a,b,c] =
 T.ite (decide (b.I ≥ (0:Int))) (T.need (decide ((0:Int) ≤ b.I ∧ b.I < (c.L.length:Int))) (T.ite (!!a.L.length == (tab106 q).q) (T.leaf (Rd.out Ex.ret [D.l (a.L ++ [[D.i b.I] ++ ([D.i (D.I (List.getD (List.getD c.L b.I.toNat []) 0 default))] ++ ([D.i (D.I (List.getD (List.getD c.L b.I.toNat []) (0 + 1) default))] ++ []) ++ []) ++ []]),D.l c.L])) (T.leaf (Rd.again [D.l (a.L ++ [[D.i b.I] ++ ([D.i (D.I (List.getD (List.getD c.L b.I.toNat []) 0 default))] ++ ([D.i (D.I (List.getD (List.getD c.L b.I.toNat []) (0 + 1) default))] ++ []) ++ []) ++ []]),D.i (IntKind.i64.wrap (b.I - (1:Int))),D.l c.L])))) (T.leaf (Rd.out (Ex.exit 0) [D.l a.L,D.l c.L])):=by kernel_rfl
theorem t105 (a:D):fnTW C tab105 105 s105 [a] =
 T.leaf [D.l a.L]:=by kernel_rfl
theorem t104 (a b c d e:D):fnT C tab104 104 s104 [a,b,c,d,e] =
 T.need (yes (d.L.length < big)) (T.need (yes (okT c.I ∧ okS e.I ∧ okY (backY d.L d.L.length))) (T.leaf [D.i (leavG c.I (backY d.L d.L.length) e.I)])):=by kernel_rfl
theorem t104_r3 (a b c d e f g h i:D):roundRT C tab104 104 (rangeOf C.P 104 3) 0 2 [2,3,4,9] h104_3 y106 [a,b,c,d,e,f] [g,h,i] =
 T.ite (decide (IntKind.i64.wrap (f.I + d.I) > h.I)) (T.ite (decide (f.I < i.I)) (T.leaf (Rd.again [D.i a.I,D.i b.I,D.i c.I,D.i d.I,D.l e.L,D.i (IntKind.i64.wrap (h.I - d.I))],[])) (T.leaf (Rd.again [D.i a.I,D.i b.I,D.i c.I,D.i d.I,D.l e.L,D.i f.I],[]))) (T.leaf (Rd.again [D.i a.I,D.i b.I,D.i c.I,D.i d.I,D.l e.L,D.i f.I],[])):=by kernel_rfl
theorem t103 (q:Nat) (a b c d:D):fnTY C (tab103 q) 103 s103 [a,b,c,d] =
 T.need (yes (okR b.L ∧ okU d.I ∧ (b.L.length:Int) = (b.L.length:Int) ∧ (0:Int) ≤ (0:Int) ∧ (0:Int) ≤ (b.L.length:Int) ∧ List.length ([]:List (List D)) ≤ q)) (T.ite (decide (q < List.length ([]:List (List D)) + List.length (backF b.L c.I d.I (Int.toNat (0:Int)) (b.L.length - Int.toNat (0:Int))))) (T.leaf ([] ++ List.take (q + 1 - List.length ([]:List (List D))) (backF b.L c.I d.I (Int.toNat (0:Int)) (b.L.length - Int.toNat (0:Int))))) (T.leaf ([] ++ backF b.L c.I d.I (Int.toNat (0:Int)) (b.L.length - Int.toNat (0:Int))))):=by kernel_rfl
theorem t103_1 (q:Nat) (a b c d e f:D):roundTY C (tab103 q) 103 (loopOf C.P 103 1) 2 l103_1 [a,b,c,d,e,f] =
 T.ite (decide (d.I < c.I)) (T.need (decide ((0:Int) ≤ d.I ∧ d.I < (b.L.length:Int))) (T.ite (D.I (List.getD (List.getD b.L d.I.toNat []) (0 + 1) default) == e.I) (T.need (yes (okT (D.I (List.getD (List.getD b.L d.I.toNat []) (0 + 1 + 1) default)) ∧ okS (IntKind.i64.wrap (IntKind.i64.wrap ((0:Int) - f.I) - D.I (List.getD (List.getD b.L d.I.toNat []) (0 + 1 + 1) default))) ∧ okC (D.L (List.getD (List.getD b.L d.I.toNat []) (0 + 1 + 1 + 1) default)))) (T.ite (!!a.L.length == (tab103 q).q) (T.leaf (Rd.out Ex.ret [D.l (a.L ++ [[D.i (D.I (List.getD (List.getD b.L d.I.toNat []) 0 default))] ++ ([D.i (IntKind.i64.wrap ((0:Int) - leavF (D.L (List.getD (List.getD b.L d.I.toNat []) (0 + 1 + 1 + 1) default)) (D.I (List.getD (List.getD b.L d.I.toNat []) (0 + 1 + 1) default)) (List.length (D.L (List.getD (List.getD b.L d.I.toNat []) (0 + 1 + 1 + 1) default))) (IntKind.i64.wrap (IntKind.i64.wrap ((0:Int) - f.I) - D.I (List.getD (List.getD b.L d.I.toNat []) (0 + 1 + 1) default)))))] ++ []) ++ [] ++ []]),D.i e.I,D.i f.I])) (T.leaf (Rd.again [D.l (a.L ++ [[D.i (D.I (List.getD (List.getD b.L d.I.toNat []) 0 default))] ++ ([D.i (IntKind.i64.wrap ((0:Int) - leavF (D.L (List.getD (List.getD b.L d.I.toNat []) (0 + 1 + 1 + 1) default)) (D.I (List.getD (List.getD b.L d.I.toNat []) (0 + 1 + 1) default)) (List.length (D.L (List.getD (List.getD b.L d.I.toNat []) (0 + 1 + 1 + 1) default))) (IntKind.i64.wrap (IntKind.i64.wrap ((0:Int) - f.I) - D.I (List.getD (List.getD b.L d.I.toNat []) (0 + 1 + 1) default)))))] ++ []) ++ [] ++ []]),D.l b.L,D.i c.I,D.i (IntKind.i64.wrap (d.I + (1:Int))),D.i e.I,D.i f.I])))) (T.leaf (Rd.again [D.l a.L,D.l b.L,D.i c.I,D.i (IntKind.i64.wrap (d.I + (1:Int))),D.i e.I,D.i f.I])))) (T.leaf (Rd.out (Ex.exit 0) [D.l a.L,D.i e.I,D.i f.I])):=by kernel_rfl
theorem t102 (a b c d:D):fnTW C tab102 102 s102 [a,b,c,d] =
 T.leaf [D.i c.I,D.l d.L,D.i a.I,D.i b.I]:=by kernel_rfl
theorem t1073 (a b c d e:D):fnT C tab1073 73 s1073 [a,b,c,d,e] =
 T.need (decide ((0:Int) ≤ a.I ∧ a.I = a.I ∧ a.I ≤ (2:Int) ^ 40 ∧ (↑Try.prog.types[3].bytes:Int) * a.I ≤ (2:Int) ^ 46)) (T.need (yes ((↑(List.length (List.replicate a.I.toNat [D.i 0])):Int) = (↑(Int.toNat (↑(List.length (List.replicate a.I.toNat [D.i 0])):Int)):Int) ∧ Int.toNat (↑(List.length (List.replicate a.I.toNat [D.i 0])):Int) ≤ List.length (List.replicate a.I.toNat [D.i 0]) ∧ (0:Int) ≤ (0:Int) ∧ (0:Int) ≤ (↑(List.length (List.replicate a.I.toNat [D.i 0])):Int) ∧ (↑(List.length (List.replicate a.I.toNat [D.i 0])):Int) < (1099511627776:Int))) (T.need (decide ((0:Int) ≤ b.I ∧ b.I < (↑(Int.toNat (↑(Int.toNat (↑(List.length (List.replicate a.I.toNat [D.i 0])):Int)):Int)):Int))) (T.need (decide (b.I.toNat < List.length (fillF (9223372036854775807:Int) (Int.toNat (0:Int)) (Int.toNat (↑(List.length (List.replicate a.I.toNat [D.i 0])):Int) - Int.toNat (0:Int)) (List.replicate a.I.toNat [D.i 0])))) (T.need (yes (haltB (Int.toNat (↑(Int.toNat (↑(Int.toNat (↑(List.length (List.replicate a.I.toNat [D.i 0])):Int)):Int)):Int)) e.L (mkSr (D.l (List.set (fillF (9223372036854775807:Int) (Int.toNat (0:Int)) (Int.toNat (↑(List.length (List.replicate a.I.toNat [D.i 0])):Int) - Int.toNat (0:Int)) (List.replicate a.I.toNat [D.i 0])) b.I.toNat (updC (List.getD (fillF (9223372036854775807:Int) (Int.toNat (0:Int)) (Int.toNat (↑(List.length (List.replicate a.I.toNat [D.i 0])):Int) - Int.toNat (0:Int)) (List.replicate a.I.toNat [D.i 0])) b.I.toNat []) [D.i c.I] 0 0 (List.length [K.int IntKind.i64])))) (D.i (↑(List.length [[D.i b.I,D.i c.I]]):Int)) (D.l [[D.i b.I,D.i c.I]])))) (T.leaf [D.i (↑(Int.toNat (↑(Int.toNat (↑(Int.toNat (↑(Int.toNat (↑(List.length (List.replicate a.I.toNat [D.i 0])):Int)):Int)):Int)):Int)):Int),D.l (resB (Int.toNat (↑(Int.toNat (↑(Int.toNat (↑(List.length (List.replicate a.I.toNat [D.i 0])):Int)):Int)):Int)) e.L (mkSr (D.l (List.set (fillF (9223372036854775807:Int) (Int.toNat (0:Int)) (Int.toNat (↑(List.length (List.replicate a.I.toNat [D.i 0])):Int) - Int.toNat (0:Int)) (List.replicate a.I.toNat [D.i 0])) b.I.toNat (updC (List.getD (fillF (9223372036854775807:Int) (Int.toNat (0:Int)) (Int.toNat (↑(List.length (List.replicate a.I.toNat [D.i 0])):Int) - Int.toNat (0:Int)) (List.replicate a.I.toNat [D.i 0])) b.I.toNat []) [D.i c.I] 0 0 (List.length [K.int IntKind.i64])))) (D.i (↑(List.length [[D.i b.I,D.i c.I]]):Int)) (D.l [[D.i b.I,D.i c.I]])))]))))):=by kernel_rfl
theorem t1073_3 (a b c d e f g h:D):roundT C tab1073 73 (loopOf C.P 73 3) l1073_3 [a,b,c,d,e,f,g,h] =
 T.ite (decide (d.I < c.I)) (T.need (decide ((0:Int) ≤ d.I ∧ d.I < (g.I.toNat:Int))) (T.need (decide (d.I.toNat < h.L.length)) (T.leaf (Rd.again [D.i a.I,D.l b.L,D.i c.I,D.i (IntKind.i64.wrap (d.I + (1:Int))),D.i e.I,D.i f.I,D.i (g.I.toNat:Int),D.l (List.set h.L d.I.toNat (updC (List.getD h.L d.I.toNat []) [D.i 9223372036854775807] 0 0 (List.length [K.int IntKind.i64])))])))) (T.leaf (Rd.out (Ex.exit 0) [D.i a.I,D.l b.L,D.i e.I,D.i f.I,D.i (g.I.toNat:Int),D.l h.L])):=by kernel_rfl
theorem t1073_9 (a b c d e f:D):roundT C tab1073 73 (loopOf C.P 73 9) l1073_9 [a,b,c,d,e,f] =
 T.need (decide (e.I.toNat ≤ f.L.length)) (T.ite (decide ((↑(List.length (List.take e.I.toNat f.L)):Int) > (0:Int))) (T.need (yes (1 ≤ Int.toNat (e.I.toNat:Int) ∧ Int.toNat (e.I.toNat:Int) ≤ f.L.length ∧ Int.toNat (e.I.toNat:Int) < 1099511627776)) (T.need (decide ((0:Int) ≤ ix (List.getD (popR f.L (Int.toNat (e.I.toNat:Int))) (Int.toNat (e.I.toNat:Int) - 1) []) 0 ∧ ix (List.getD (popR f.L (Int.toNat (e.I.toNat:Int))) (Int.toNat (e.I.toNat:Int) - 1) []) 0 < (c.I.toNat:Int))) (T.need (decide (Int.toNat (ix (List.getD (popR f.L (Int.toNat (e.I.toNat:Int))) (Int.toNat (e.I.toNat:Int) - 1) []) 0) < d.L.length)) (T.ite (decide (ix (List.getD (popR f.L (Int.toNat (e.I.toNat:Int))) (Int.toNat (e.I.toNat:Int) - 1) []) 1 > D.I (List.getD (List.getD d.L (Int.toNat (ix (List.getD (popR f.L (Int.toNat (e.I.toNat:Int))) (Int.toNat (e.I.toNat:Int) - 1) []) 0)) []) 0 default))) (T.leaf (Rd.again [D.i a.I,D.l b.L,D.i (c.I.toNat:Int),D.l d.L,D.i (↑(Int.toNat (↑(Int.toNat (e.I.toNat:Int) - 1):Int)):Int),D.l (popR f.L (Int.toNat (e.I.toNat:Int)))])) (T.need (yes (okR b.L ∧ okU (ix (List.getD (popR f.L (Int.toNat (e.I.toNat:Int))) (Int.toNat (e.I.toNat:Int) - 1) []) 1))) (T.need (yes (Int.toNat (c.I.toNat:Int) ≤ d.L.length ∧ Int.toNat (↑(Int.toNat (↑(Int.toNat (e.I.toNat:Int) - 1):Int)):Int) ≤ List.length (popR f.L (Int.toNat (e.I.toNat:Int))) ∧ Int.toNat (↑(Int.toNat (↑(Int.toNat (e.I.toNat:Int) - 1):Int)):Int) + List.length (backF b.L (ix (List.getD (popR f.L (Int.toNat (e.I.toNat:Int))) (Int.toNat (e.I.toNat:Int) - 1) []) 0) (ix (List.getD (popR f.L (Int.toNat (e.I.toNat:Int))) (Int.toNat (e.I.toNat:Int) - 1) []) 1) 0 b.L.length) < 549755813888 ∧ ∀ (e_1:List D),e_1 ∈ backF b.L (ix (List.getD (popR f.L (Int.toNat (e.I.toNat:Int))) (Int.toNat (e.I.toNat:Int) - 1) []) 0) (ix (List.getD (popR f.L (Int.toNat (e.I.toNat:Int))) (Int.toNat (e.I.toNat:Int) - 1) []) 1) 0 b.L.length → (0:Int) ≤ ix e_1 0 ∧ ix e_1 0 < (↑(Int.toNat (c.I.toNat:Int)):Int))) (T.leaf (Rd.again [D.i a.I,D.l b.L,D.i (↑(Int.toNat (↑(Int.toNat (c.I.toNat:Int)):Int)):Int),D.l (relF (backF b.L (ix (List.getD (popR f.L (Int.toNat (e.I.toNat:Int))) (Int.toNat (e.I.toNat:Int) - 1) []) 0) (ix (List.getD (popR f.L (Int.toNat (e.I.toNat:Int))) (Int.toNat (e.I.toNat:Int) - 1) []) 1) 0 b.L.length) (mkSr (D.l d.L) (D.i (↑(Int.toNat (↑(Int.toNat (e.I.toNat:Int) - 1):Int)):Int)) (D.l (popR f.L (Int.toNat (e.I.toNat:Int)))))).o,D.i (↑(Int.toNat (↑(relF (backF b.L (ix (List.getD (popR f.L (Int.toNat (e.I.toNat:Int))) (Int.toNat (e.I.toNat:Int) - 1) []) 0) (ix (List.getD (popR f.L (Int.toNat (e.I.toNat:Int))) (Int.toNat (e.I.toNat:Int) - 1) []) 1) 0 b.L.length) (mkSr (D.l d.L) (D.i (↑(Int.toNat (↑(Int.toNat (e.I.toNat:Int) - 1):Int)):Int)) (D.l (popR f.L (Int.toNat (e.I.toNat:Int)))))).k:Int)):Int),D.l (relF (backF b.L (ix (List.getD (popR f.L (Int.toNat (e.I.toNat:Int))) (Int.toNat (e.I.toNat:Int) - 1) []) 0) (ix (List.getD (popR f.L (Int.toNat (e.I.toNat:Int))) (Int.toNat (e.I.toNat:Int) - 1) []) 1) 0 b.L.length) (mkSr (D.l d.L) (D.i (↑(Int.toNat (↑(Int.toNat (e.I.toNat:Int) - 1):Int)):Int)) (D.l (popR f.L (Int.toNat (e.I.toNat:Int)))))).q])))))))) (T.leaf (Rd.out (Ex.exit 2) [D.i (c.I.toNat:Int),D.l d.L]))):=by kernel_rfl
theorem t1073_r14 (a b c d e f g h i j:D):roundRT C tab1073 73 (rangeOf C.P 73 14) 0 5 [2,6,7,9,51] h1073_14 y103 [a,b,c,d,e,f,g,h] [i,j] =
 T.need (decide ((0:Int) ≤ i.I ∧ i.I < (e.I.toNat:Int))) (T.need (decide (i.I.toNat < f.L.length)) (T.ite (decide (j.I < D.I (List.getD (List.getD f.L i.I.toNat []) 0 default))) (T.need (decide ((0:Int) ≤ i.I ∧ i.I < (e.I.toNat:Int))) (T.need (decide (i.I.toNat < f.L.length)) (T.need (yes (Int.toNat (g.I.toNat:Int) ≤ h.L.length ∧ Int.toNat (g.I.toNat:Int) < 1099511627776)) (T.leaf (Rd.again [D.i a.I,D.l b.L,D.i c.I,D.l d.L,D.i (e.I.toNat:Int),D.l (List.set f.L i.I.toNat (updC (List.getD f.L i.I.toNat []) [D.i j.I] 0 0 (List.length [K.int IntKind.i64]))),D.i (↑(Int.toNat (↑(Int.toNat (g.I.toNat:Int) + 1):Int)):Int),D.l (pushR h.L (Int.toNat (g.I.toNat:Int)) i.I j.I)],[]))))) (T.leaf (Rd.again [D.i a.I,D.l b.L,D.i c.I,D.l d.L,D.i (e.I.toNat:Int),D.l f.L,D.i (g.I.toNat:Int),D.l h.L],[])))):=by kernel_rfl
theorem t97 (a b c d:D):fnT C tab97 97 s97 [a,b,c,d] =
 T.need (yes ((0:Int) ≤ a.I ∧ a.I < (1099511627776:Int) ∧ (0:Int) ≤ c.I ∧ c.I < a.I ∧ haltB a.I.toNat b.L (startS a.I c.I (IntKind.i64.wrap ((0:Int) - d.I))))) (T.need (yes ((a.I.toNat:Int) = (↑(Int.toNat (a.I.toNat:Int)):Int) ∧ Int.toNat (a.I.toNat:Int) ≤ List.length (resB a.I.toNat b.L (startS a.I c.I (IntKind.i64.wrap ((0:Int) - d.I)))) ∧ (0:Int) ≤ (0:Int) ∧ (0:Int) ≤ (a.I.toNat:Int) ∧ (a.I.toNat:Int) < (1099511627776:Int) ∧ okN (resB a.I.toNat b.L (startS a.I c.I (IntKind.i64.wrap ((0:Int) - d.I)))))) (T.leaf [D.i (↑(Int.toNat (↑(Int.toNat (a.I.toNat:Int)):Int)):Int),D.l (negF (Int.toNat (0:Int)) (Int.toNat (a.I.toNat:Int) - Int.toNat (0:Int)) (resB a.I.toNat b.L (startS a.I c.I (IntKind.i64.wrap ((0:Int) - d.I)))))])):=by kernel_rfl
theorem t97_3 (a b c d:D):roundT C tab97 97 (loopOf C.P 97 3) l97_3 [a,b,c,d] =
 T.ite (decide (c.I < b.I)) (T.need (decide ((0:Int) ≤ c.I ∧ c.I < (a.I.toNat:Int))) (T.need (decide (c.I.toNat < d.L.length)) (T.need (decide ((0:Int) ≤ c.I ∧ c.I < (a.I.toNat:Int))) (T.need (decide (c.I.toNat < d.L.length)) (T.leaf (Rd.again [D.i (a.I.toNat:Int),D.i b.I,D.i (IntKind.i64.wrap (c.I + (1:Int))),D.l (List.set d.L c.I.toNat (updC (List.getD d.L c.I.toNat []) [D.i (IntKind.i64.wrap ((0:Int) - D.I (List.getD (List.getD d.L c.I.toNat []) 0 default)))] 0 0 (List.length [K.int IntKind.i64])))])))))) (T.leaf (Rd.out (Ex.exit 0) [D.i (a.I.toNat:Int),D.l d.L])):=by kernel_rfl
set_option maxRecDepth 100000
set_option linter.unusedVariables false
theorem backY_len (l:List (List D)):∀ k,(backY l k).length = k
 | 0=>rfl
 | k + 1=>by simp only [backY,List.length_cons,backY_len l k]
theorem leavG_back {l:List (List D)} {c:Int}:∀ (k:Nat) (s:Int),leavG c (backY l k) s = leavF l c k s
 | 0,_=>rfl
 | k + 1,s=>leavG_back k _
theorem okY_back {l:List (List D)} (h:okC l):∀ k,okY (backY l k)
 | 0=>fun e he=>by cases he
 | k + 1=>fun e he=>by
   simp only [backY] at he
   rcases List.mem_cons.1 he with rfl | he
   ·exact h.2 k
   ·exact okY_back h k e he
theorem leavF_okS {l:List (List D)} {c:Int} (hc:okT c) (hl:okC l):∀ (k:Nat) (s:Int),okS s → okS (leavF l c k s)
 | 0,_,h=>h
 | k + 1,s,h=>by
   simp only [leavF]
   refine leavF_okS hc hl k _ ?_
   have:=hl.2 k
   unfold okS okT at *
   split <;> omega
theorem ok106_1 (q n:Nat):LoopSimY C n 1 106 (loopOf C.P 106 1) (some y106) q (mkLY 1 l106_1 (G106_1 q)):=by
 refine loop_ofY hC (sp:=sp106) (lp:=lp106 q) (sw:=sw106) (Y:=y106) (yOK_mk _ _ _) trivial trivial 1 [] (by kernel_rfl) rfl (by kernel_rfl) (fun k hk=>by cases hk) (by kernel_rfl) (fun ds=>((ds.getD 1 default).I + 1).toNat) fun ds rr h=>?_
 unfold G106_1 at h
 split at h
 ·rename_i g i l
  obtain ⟨hp,h⟩:=need_some h
  rw [yes_iff] at hp
  obtain ⟨hl,hi0,hi1,hg⟩:=hp
  have hb:=big_eq
  refine ⟨by rw [fuelC]; simp; omega,?_⟩
  rw [show roundTY C (mkTabY sp106 (lp106 q) sw106 y106 q) 106 (loopOf C.P 106 1) 1 l106_1 [g,i,l] = _ from t106_1 q g i l]
  have hq:(tab106 q).q = q:=rfl
  simp only [ix_def,Nat.reduceAdd,hq]
  refine rd_if (fun hge=>?_) fun hlt=>?_
  ·obtain ⟨k,hk⟩:∃ k:Nat,i.I = k:=⟨i.I.toNat,by omega⟩
   have e1:(i.I + 1).toNat = k + 1:=by omega
   rw [e1] at h
   simp only [backY] at h
   simp only [hk,Int.toNat_natCast] at hi1 ⊢
   rw [wrap_pred (by omega)]
   refine rd_dec (by omega) (rd_ite (fun c2=>?_) fun c2=>?_)
   ·rw [Bool.not_not] at c2
    have c2:g.L.length = q:=by simpa using c2
    rw [run_ite,if_pos (by simp; omega)] at h
    rw [show q + 1 - g.L.length = 1 by omega] at h
    exact rd_out h
   ·rw [Bool.not_not] at c2
    have c2:g.L.length ≠ q:=by
     have:¬ (g.L.length == q) = true:=by rw [show (g.L.length == q) = false from c2]; simp
     simpa using this
    refine rd_again ((need_yes ⟨hl,by simp only [I_i]; omega,by simp only [I_i,L_l]; omega,by simp only [L_l,List.length_append,List.length_cons,List.length_nil]; omega⟩).trans ?_) (show ((k:Int) - 1 + 1).toNat < (i.I + 1).toNat by omega)
    simp only [I_i,L_l,show ((k:Int) - 1 + 1).toNat = k by omega,List.length_append,List.length_cons,List.length_nil,List.append_nil,List.append_assoc,List.cons_append,List.nil_append]
    rw [show q + 1 - g.L.length = (q + 1 - (g.L.length + (0 + 1))) + 1 by omega,List.take_succ_cons] at h
    rw [show g.L.length + (0 + 1) + k = g.L.length + (k + 1) by omega]
    exact h
  ·rw [show (i.I + 1).toNat = 0 by omega] at h
   simp only [backY,List.append_nil] at h
   rw [run_ite] at h
   split at h
   ·rename_i hc
    have:=of_decide_eq_true hc
    omega
   ·exact rd_out h
 ·cases h
theorem ok106 (n:Nat):IterOK C (n + 1) 106 y106 (mkFY s106 G106):=by
 refine iter_of hC (sp:=sp106) (lp:=lp106) (sw:=sw106) (Y:=y106) (yOK_mk _ _ _) trivial trivial (by kernel_rfl) [1] (by kernel_rfl) (by kernel_rfl) (by kernel_rfl) (fun q k hk L hL=>by
  simp at hk; subst hk; cases hL; exact ok106_1 q n) fun ds L h q=>?_
 unfold G106 at h
 split at h
 ·rename_i l
  obtain ⟨hp,h⟩:=need_some h
  rw [yes_iff] at hp
  cases h
  have hb:=big_eq
  have hw:IntKind.i64.wrap ((l.L.length:Int) - 1) = (l.L.length:Int) - 1:=wrap_pred (by omega)
  refine (congrArg T.run (t106 q l)).trans ?_
  rw [hw,show ((l.L.length:Int) - 1 + 1).toNat = l.L.length by omega]
  have hbl:=backY_len l.L l.L.length
  refine go_yes ⟨hp,by omega,by omega,by simp⟩ (go_if (fun c=>?_) fun c=>?_)
  ·simp only [List.nil_append,List.length_nil,Nat.sub_zero,run_leaf]
  ·have c:¬ q < l.L.length:=fun h=>c (by simpa using h)
   simp only [List.nil_append,run_leaf]
   rw [List.take_of_length_le (by omega)]
 ·cases h
theorem ok105 (n:Nat):FnOKW C (n + 1) 105 (mkFW s105 G105):=by
 refine fn_ofW hC (sp:=sp105) (lp:=lp105) (sw:=sw105) trivial trivial (by kernel_rfl) [] (by kernel_rfl) rfl (fun k hk=>by cases hk) fun ds r h=>?_
 unfold G105 at h
 split at h
 ·rename_i l
  exact (congrArg T.run (t105 l)).trans h
 ·cases h
theorem head106 (e:List D):y106.head e = y106.head [e.getD 0 default,e.getD 1 default,e.getD 2 default]:=by
 match e with
 | []=>rfl
 | [_]=>rfl
 | [_,_]=>rfl
 | _ :: _ :: _ :: _=>rfl
theorem fold104 (L:List (List D)):∀ (ds:List D) (rr:Ex × List D),(G104_3 L ds).run = some rr → FoldR (fun ds el=>(roundRT C tab104 104 (rangeOf C.P 104 3) 0 2 [2,3,4,9] h104_3 y106 ds el).run) y106.give (fun a b=>headA h104_3 a = headA h104_3 b) ds L rr.1 rr.2:=by
 induction L with
 | nil=>
   intro ds rr h
   unfold G104_3 at h
   split at h
   ·rename_i z a b c l s
    obtain ⟨-,h⟩:=need_some h
    cases h
    exact .nil (by rfl)
   ·cases h
 | cons e es ih=>
   intro ds rr h
   unfold G104_3 at h
   split at h
   ·rename_i z a b c l s
    obtain ⟨hp,h⟩:=need_some h
    rw [yes_iff] at hp
    obtain ⟨hc,hs,hY⟩:=hp
    have he:=hY e List.mem_cons_self
    have hes:okY es:=fun x hx=>hY x (List.mem_cons_of_mem _ hx)
    simp only [leavG] at h
    have key:∀ (i j k:D),j.I = ix e 1 → k.I = ix e 2 → ∃ ds',(roundRT C tab104 104 (rangeOf C.P 104 3) 0 2 [2,3,4,9] h104_3 y106 [z,a,b,c,l,s] [i,j,k]).run = some (.again ds',[]) ∧ (G104_3 es ds').run = some rr:=by
     intro i j k hj hk
     have ht:=congrArg T.run (t104_r3 z a b c l s i j k)
     rw [ht]
     have hnext:∀ x,okS x → (if s.I + c.I > ix e 1 ∧ s.I < ix e 2 then ix e 1 - c.I else s.I) = x → (G104_3 es [.i z.I,.i a.I,.i b.I,.i c.I,.l l.L,.i x]).run = some rr:=fun x hx hxe=>by
      refine (need_yes ⟨hc,hx,hes⟩).trans ?_
      rw [hxe] at h
      exact h
     unfold okS at hs hnext
     unfold okT at hc
     rw [wrap_id (x:=s.I + c.I) (by omega) (by omega),hj,hk,wrap_id (x:=ix e 1 - c.I) (by omega) (by omega)]
     by_cases c1:s.I + c.I > ix e 1
     ·by_cases c2:s.I < ix e 2
      ·exact ⟨_,go_pos c1 (go_pos c2 rfl),hnext _ (by omega) (if_pos ⟨c1,c2⟩)⟩
      ·exact ⟨_,go_pos c1 (go_neg c2 rfl),hnext _ (by omega) (if_neg fun hh=>c2 hh.2)⟩
     ·exact ⟨_,go_neg c1 rfl,hnext _ (by omega) (if_neg fun hh=>c1 hh.1)⟩
    obtain ⟨ds',k1,k2⟩:=key (e.getD 0 default) (e.getD 1 default) (e.getD 2 default) rfl rfl
    refine .again (x':=[]) (ds':=ds') ?_ (fun h=>by cases h) (ih _ _ k2)
    have:roundRT C tab104 104 (rangeOf C.P 104 3) 0 2 [2,3,4,9] h104_3 y106 [z,a,b,c,l,s] e = roundRT C tab104 104 (rangeOf C.P 104 3) 0 2 [2,3,4,9] h104_3 y106 [z,a,b,c,l,s] [e.getD 0 default,e.getD 1 default,e.getD 2 default]:=by
     unfold roundRT
     rw [head106 e]
    rw [this]
    exact k1
   ·cases h
theorem ok104_3 (n:Nat):CodeSim C (n + 1) 0 104 (rangeOf C.P 104 3).code none 0 (rangeS 0 [2,3,4,9] (rangeOf C.P 104 3).1 it104_3 h104_3 G104_3):=
 range_of hC (sp:=sp104) (lp:=lp104) (sw:=sw104) (rg:=rg104) (Y:=y106) (yOK_mk _ _ _) trivial ⟨ok105 n,trivial⟩ 3 0 2 [] (by kernel_rfl) rfl (by kernel_rfl) (by exact ⟨by kernel_rfl,by kernel_rfl⟩) (fun k hk=>by cases hk)
  (by kernel_rfl) (by kernel_rfl) (it:=it104_3) ⟨ok106 n,trivial⟩ fun L ds rr h=>fold104 L ds rr h
theorem ok104 (n:Nat):FnOK C (n + 2) 104 (mkF s104 G104):=by
 refine fn_ofR hC (sp:=sp104) (lp:=lp104) (sw:=sw104) (rg:=rg104) trivial ⟨ok105 n,trivial⟩ (by kernel_rfl) [] [3] (by kernel_rfl) rfl (by kernel_rfl) (by kernel_rfl) (fun k hk=>by cases hk) (fun k hk L hL=>by
  simp at hk; subst hk; cases hL; exact ok104_3 n) fun ds r h=>?_
 unfold G104 at h
 split at h
 ·rename_i a b c l s
  obtain ⟨hp,h⟩:=need_some h
  rw [yes_iff] at hp
  refine (congrArg T.run (t104 a b c l s)).trans ?_
  rw [leavG_back]
  exact go_yes hp.2.2.1 (go_yes ⟨hp.1,hp.2.1,okY_back hp.2.2 _⟩ h)
 ·cases h
theorem backF_step {r:List (List D)} {v t:Int} {j:Nat} (hj:j < r.length):backF r v t j (r.length - j) = if ix (r.getD j []) 1 = v then [.i (ix (r.getD j []) 0),.i (-(leaW (r.getD j []) (-t - ix (r.getD j []) 2)))] :: backF r v t (j + 1) (r.length - (j + 1)) else backF r v t (j + 1) (r.length - (j + 1)):=by
 rw [show r.length - j = (r.length - (j + 1)) + 1 by omega]
 rfl
theorem ok103_1 (q n:Nat):LoopSimY C (n + 2) 2 103 (loopOf C.P 103 1) (some y103) q (mkLY 2 l103_1 (G103_1 q)):=by
 refine loop_ofY hC (sp:=sp103) (lp:=lp103 q) (sw:=sw103) (Y:=y103) (yOK_mk _ _ _) ⟨ok104 n,trivial⟩ trivial 2 [] (by kernel_rfl) rfl (by kernel_rfl) (fun k hk=>by cases hk) (by kernel_rfl) (fun ds=>((ds.getD 2 default).I - (ds.getD 3 default).I).toNat) fun ds rr h=>?_
 unfold G103_1 at h
 split at h
 ·rename_i g r m i v t
  obtain ⟨hp,h⟩:=need_some h
  rw [yes_iff] at hp
  obtain ⟨hr,ht,hm,hi0,hi1,hg⟩:=hp
  have hrl:=hr.1
  refine ⟨by rw [fuelC]; simp; omega,?_⟩
  rw [show roundTY C (mkTabY sp103 (lp103 q) sw103 y103 q) 103 (loopOf C.P 103 1) 2 l103_1 [g,r,m,i,v,t] = _ from t103_1 q g r m i v t]
  obtain ⟨j,hj⟩:∃ j:Nat,i.I = j:=⟨i.I.toNat,by omega⟩
  have hq:(tab103 q).q = q:=rfl
  simp only [hj,hm,Int.toNat_natCast,ix_def,lx_def,Nat.reduceAdd,hq] at h hi0 hi1 ⊢
  have hnext:∀ {G':List (List D)},G'.length ≤ q → ((T.ite (decide (q < G'.length + (backF r.L v.I t.I (j + 1) (r.L.length - (j + 1))).length)) (T.leaf (Ex.ret,[D.l (G' ++ (backF r.L v.I t.I (j + 1) (r.L.length - (j + 1))).take (q + 1 - G'.length)),D.i v.I,D.i t.I]))
      (T.leaf (Ex.exit 0,[D.l (G' ++ backF r.L v.I t.I (j + 1) (r.L.length - (j + 1))),D.i v.I,D.i t.I]))).run = some rr) → j < r.L.length → (G103_1 q [D.l G',D.l r.L,D.i (r.L.length:Int),D.i ((j + 1:Nat):Int),D.i v.I,D.i t.I]).run = some rr:=fun {G'} hG' h hlt=>by
   refine (need_yes ⟨hr,ht,by simp only [I_i,L_l],by simp only [I_i]; omega,by simp only [I_i,L_l]; omega,hG'⟩).trans ?_
   simp only [I_i,L_l,Int.toNat_natCast]
   exact h
  have hmu:j < r.L.length → ((r.L.length:Int) - ((j + 1:Nat):Int)).toNat < (m.I - i.I).toNat:=fun _=>by rw [hj,hm]; omega
  refine rd_if (fun hlt=>?_) fun hge=>?_
  ·have hlt:j < r.L.length:=by omega
   rw [backF_step hlt] at h
   obtain ⟨hs,hc⟩:=hr.2 j hlt
   have ht2:okS (-t.I - ix (r.L.getD j []) 2):=by unfold okU okT okS at *; omega
   have he:=leavF_okS hs hc (lx (r.L.getD j []) 3).length _ ht2
   unfold okS at he ht2
   unfold okT at hs
   have hw1:IntKind.i64.wrap (0 - t.I) = -t.I:=by rw [Int.zero_sub]; unfold okU at ht; exact wrap_id (by omega) (by omega)
   rw [wrap_succ (by omega),hw1,wrap_id (x:=-t.I - ix (r.L.getD j []) 2) (by omega) (by omega),Int.zero_sub]
   refine rd_dec (by omega) (rd_ite (fun c1=>?_) fun c1=>?_)
   ·rw [beq_iff_eq] at c1
    rw [if_pos c1] at h
    simp only [List.length_cons] at h
    rw [wrap_id (x:=-(leavF _ _ _ _)) (by omega) (by omega)]
    refine rd_yes ⟨hs,ht2,hc⟩ (rd_ite (fun c2=>?_) fun c2=>?_)
    ·rw [Bool.not_not] at c2
     have c2:g.L.length = q:=by simpa using c2
     rw [run_ite,if_pos (by simp; omega)] at h
     rw [show q + 1 - g.L.length = 1 by omega] at h
     exact rd_out h
    ·rw [Bool.not_not] at c2
     have c2:g.L.length ≠ q:=by
      have:¬ (g.L.length == q) = true:=by rw [show (g.L.length == q) = false from c2]; simp
      simpa using this
     refine rd_again (hnext (by simp; omega) ?_ hlt) (hmu hlt)
     simp only [List.length_append,List.length_cons,List.length_nil,List.append_nil,List.append_assoc,List.cons_append,List.nil_append]
     rw [show q + 1 - g.L.length = (q + 1 - (g.L.length + (0 + 1))) + 1 by omega,List.take_succ_cons] at h
     rw [show g.L.length + (0 + 1) + (backF r.L v.I t.I (j + 1) (r.L.length - (j + 1))).length = g.L.length + ((backF r.L v.I t.I (j + 1) (r.L.length - (j + 1))).length + 1) by omega]
     exact h
   ·rw [beq_eq_false_iff_ne] at c1
    rw [if_neg c1] at h
    exact rd_again (hnext hg h hlt) (hmu hlt)
  ·rw [show r.L.length - j = 0 by omega] at h
   simp only [backF,List.length_nil,List.append_nil] at h
   rw [run_ite] at h
   split at h
   ·rename_i hc
    have:=of_decide_eq_true hc
    omega
   ·exact rd_out h
 ·cases h
theorem ok103 (n:Nat):IterOK C (n + 3) 103 y103 (mkFY s103 G103):=by
 refine iter_of hC (sp:=sp103) (lp:=lp103) (sw:=sw103) (Y:=y103) (yOK_mk _ _ _) ⟨ok104 n,trivial⟩ trivial (by kernel_rfl) [1] (by kernel_rfl) (by kernel_rfl) (by kernel_rfl) (fun q k hk L hL=>by
  simp at hk; subst hk; cases hL; exact ok103_1 q n) fun ds L h q=>?_
 unfold G103 at h
 split at h
 ·rename_i n' r v t
  obtain ⟨hp,h⟩:=need_some h
  rw [yes_iff] at hp
  cases h
  refine (congrArg T.run (t103 q n' r v t)).trans (go_yes ⟨hp.1,hp.2,rfl,by omega,by omega,by simp⟩ (go_if (fun c=>?_) fun c=>?_))
  ·simp only [List.nil_append,List.length_nil,Nat.sub_zero,run_leaf]
   rfl
  ·have c:¬ q < (backF r.L v.I t.I 0 r.L.length).length:=fun h=>c (by simpa using h)
   simp only [List.nil_append,run_leaf]
   rw [List.take_of_length_le (by omega)]
   rfl
 ·cases h
theorem ok102 (n:Nat):FnOKW C (n + 1) 102 (mkFW s102 G102):=by
 refine fn_ofW hC (sp:=sp102) (lp:=lp102) (sw:=sw102) trivial trivial (by kernel_rfl) [] (by kernel_rfl) rfl (fun k hk=>by cases hk) fun ds r h=>?_
 unfold G102 at h
 split at h
 ·rename_i v t m l
  exact (congrArg T.run (t102 v t m l)).trans h
 ·cases h
theorem ok1073_3 (n:Nat):LoopSim C (n + 4) 73 (loopOf C.P 73 3) (mkL l1073_3 G1073_3):=by
 refine loop_ofR hC (sp:=sp1073) (lp:=lp1073) (sw:=sw1073) (rg:=rg1073) ⟨ok123 (n + 3),trivial⟩ ⟨ok93 (n + 1),ok102 (n + 3),ok127 n,trivial⟩ 0 [] [] (by kernel_rfl) rfl (by kernel_rfl) rfl (fun k hk=>by cases hk) (fun k hk=>by cases hk) (by kernel_rfl) (fun ds=>((ds.getD 2 default).I - (ds.getD 3 default).I).toNat) fun ds rr h=>?_
 unfold G1073_3 G73_3 at h
 split at h
 ·rename_i a r m i x y k l
  obtain ⟨hp,h⟩:=need_some h
  rw [yes_iff] at hp
  obtain ⟨hm,hk,hi0,hi1,hm2⟩:=hp
  refine ⟨by rw [fuelC]; simp; omega,?_⟩
  rw [show roundTK C (mkTabR sp1073 lp1073 sw1073 rg1073) 73 (loopOf C.P 73 3) 0 l1073_3 [a,r,m,i,x,y,k,l] = _ from t1073_3 a r m i x y k l]
  obtain ⟨j,hj⟩:∃ j:Nat,i.I = j:=⟨i.I.toNat,by omega⟩
  simp only [hj,hm,Int.toNat_natCast,upd1,rs_def] at h hi0 hi1 hm2 ⊢
  refine rd_if (fun hlt=>?_) fun hge=>?_
  ·rw [wrap_succ (by omega)]
   rw [show k.I.toNat - j = (k.I.toNat - (j + 1)) + 1 by omega] at h
   refine rd_dec (by omega) (rd_dec (by omega) (rd_again ((need_yes ⟨by simp only [I_i,Int.toNat_natCast],by simp only [I_i,L_l,Int.toNat_natCast,len_rs]; exact hk,by simp only [I_i]; omega,by simp only [I_i]; omega,by simp only [I_i]; omega⟩).trans ?_) ?_))
   ·simp only [I_i,L_l,Int.toNat_natCast]
    exact h
   ·show ((k.I.toNat:Int) - ((j + 1:Nat):Int)).toNat < (m.I - i.I).toNat
    rw [hj,hm]; omega
  ·rw [show k.I.toNat - j = 0 by omega] at h
   exact rd_out h
 ·cases h
theorem head103 (e:List D):y103.head e = y103.head [e.getD 0 default,e.getD 1 default]:=by
 match e with
 | []=>rfl
 | [_]=>rfl
 | _ :: _ :: _=>rfl
theorem fold1073 (L:List (List D)):∀ (ds:List D) (rr:Ex × List D),(G1073_14 L ds).run = some rr → FoldR (fun ds el=>(roundRT C tab1073 73 (rangeOf C.P 73 14) 0 5 [2,6,7,9,51] h1073_14 y103 ds el).run) y103.give (fun a b=>headA h1073_14 a = headA h1073_14 b) ds L rr.1 rr.2:=by
 induction L with
 | nil=>
   intro ds rr h
   unfold G1073_14 G73_14 at h
   split at h
   ·rename_i a r a' r' m o k q
    obtain ⟨-,h⟩:=need_some h
    cases h
    exact .nil (by rfl)
   ·cases h
 | cons e es ih=>
   intro ds rr h
   unfold G1073_14 G73_14 at h
   split at h
   ·rename_i a r a' r' m o k q
    obtain ⟨hp,h⟩:=need_some h
    rw [yes_iff] at hp
    obtain ⟨h1,h2,h3,h4⟩:=hp
    simp only [List.length_cons] at h3
    obtain ⟨e1,e2⟩:=h4 e List.mem_cons_self
    have h5:∀ x ∈ es,0 ≤ ix x 0 ∧ ix x 0 < (m.I.toNat:Int):=fun x hx=>h4 x (List.mem_cons_of_mem _ hx)
    have key:∀ (i j:D),i.I = ix e 0 → j.I = ix e 1 → ∃ ds',(roundRT C tab1073 73 (rangeOf C.P 73 14) 0 5 [2,6,7,9,51] h1073_14 y103 [a,r,a',r',m,o,k,q] [i,j]).run = some (.again ds',[]) ∧ (G1073_14 es ds').run = some rr:=by
     intro i j hi hj
     have ht:=congrArg T.run (t1073_r14 a r a' r' m o k q i j)
     rw [ht]
     simp only [hi,hj,Int.toNat_natCast,upd1,rs_def,rg_def]
     by_cases hc:ix e 1 < rg o.L (ix e 0).toNat
     ·have hrel:relF (e :: es) (mkSr o k q) = relF es ⟨rs o.L (ix e 0).toNat (ix e 1),k.I.toNat + 1,pushR q.L k.I.toNat (ix e 0) (ix e 1)⟩:=by
       simp only [relF]
       exact if_pos hc
      rw [hrel] at h
      refine ⟨_,go_dec ⟨e1,e2⟩ (go_dec (by omega) (go_pos hc (go_dec ⟨e1,e2⟩ (go_dec (by omega) (go_yes ⟨h2,by omega⟩ rfl))))),?_⟩
      refine (need_yes ⟨by simp only [I_i,L_l,Int.toNat_natCast,len_rs]; exact h1,by simp only [I_i,L_l,Int.toNat_natCast]; rw [len_push _ _ _ h2]; exact Nat.le_refl _,by simp only [I_i,Int.toNat_natCast]; omega,by simp only [I_i,Int.toNat_natCast]; exact h5⟩).trans ?_
      simp only [mkSr,I_i,L_l,Int.toNat_natCast]
      exact h
     ·have hrel:relF (e :: es) (mkSr o k q) = relF es (mkSr o k q):=by
       simp only [relF]
       exact if_neg hc
      rw [hrel] at h
      refine ⟨_,go_dec ⟨e1,e2⟩ (go_dec (by omega) (go_neg hc rfl)),?_⟩
      refine (need_yes ⟨by simp only [I_i,L_l,Int.toNat_natCast]; exact h1,by simp only [I_i,L_l,Int.toNat_natCast]; exact h2,by simp only [I_i,Int.toNat_natCast]; omega,by simp only [I_i,Int.toNat_natCast]; exact h5⟩).trans ?_
      simp only [mkSr,I_i,L_l,Int.toNat_natCast] at h ⊢
      exact h
    obtain ⟨ds',k1,k2⟩:=key (e.getD 0 default) (e.getD 1 default) rfl rfl
    refine .again (x':=[]) (ds':=ds') ?_ (fun h=>by cases h) (ih _ _ k2)
    have:roundRT C tab1073 73 (rangeOf C.P 73 14) 0 5 [2,6,7,9,51] h1073_14 y103 [a,r,a',r',m,o,k,q] e = roundRT C tab1073 73 (rangeOf C.P 73 14) 0 5 [2,6,7,9,51] h1073_14 y103 [a,r,a',r',m,o,k,q] [e.getD 0 default,e.getD 1 default]:=by
     unfold roundRT
     rw [head103 e]
    rw [this]
    exact k1
   ·cases h
theorem ok1073_14 (n:Nat):CodeSim C (n + 4) 0 73 (rangeOf C.P 73 14).code none 0 (rangeS 0 [2,6,7,9,51] (rangeOf C.P 73 14).1 it1073_14 h1073_14 G1073_14):=
 range_of hC (sp:=sp1073) (lp:=lp1073) (sw:=sw1073) (rg:=rg1073) (Y:=y103) (yOK_mk _ _ _) ⟨ok123 (n + 3),trivial⟩ ⟨ok93 (n + 1),ok102 (n + 3),ok127 n,trivial⟩ 14 0 5 [] (by kernel_rfl) rfl (by kernel_rfl) (by exact ⟨by kernel_rfl,by kernel_rfl⟩) (fun k hk=>by cases hk)
  (by kernel_rfl) (by kernel_rfl) (it:=it1073_14) ⟨ok103 (n + 1),trivial⟩ fun L ds rr h=>fold1073 L ds rr h
theorem ends_uniqB {m:Nat} {r:List (List D)}:∀ {f g:Nat} {s:Sr},endsB m r f s → endsB m r g s → f = g
 | 0,0,_,_,_=>rfl
 | 0,g + 1,s,h,h'=>absurd h h'.1
 | f + 1,0,s,h,h'=>absurd h' h.1
 | f + 1,g + 1,s,h,h'=>by rw [ends_uniqB h.2.2 h'.2.2]
theorem lenB_eq {m:Nat} {r:List (List D)} {f:Nat} {s:Sr} (h:endsB m r f s):lenB m r s = f:=ends_uniqB (Classical.epsilon_spec (p:=fun f=>endsB m r f s) ⟨f,h⟩) h
theorem resB_eq {m:Nat} {r:List (List D)} {f:Nat} {s:Sr} (h:endsB m r f s):resB m r s = runG (stepG (nxB r)) f s:=by unfold resB; rw [lenB_eq h]
theorem halt_zeroB {m:Nat} {r:List (List D)} {s:Sr} (hk:s.k = 0):resB m r s = s.o ∧ lenB m r s = 0:=by
 have:endsB m r 0 s:=hk
 exact ⟨resB_eq this,lenB_eq this⟩
theorem halt_stepB {m:Nat} {r:List (List D)} {s:Sr} (h:haltB m r s) (hk:s.k ≠ 0):needB m r s ∧ haltB m r (stepG (nxB r) s) ∧ resB m r s = resB m r (stepG (nxB r) s) ∧ lenB m r (stepG (nxB r) s) < lenB m r s ∧ lenB m r s < 9223372036854775808:=by
 obtain ⟨f,hf,he⟩:=h
 cases f with
 | zero=>exact absurd he hk
 | succ f=>
   have he':=he
   obtain ⟨-,h1,h2⟩:=he
   exact ⟨h1,⟨f,by omega,h2⟩,by rw [resB_eq he',resB_eq h2]; rfl,by rw [lenB_eq he',lenB_eq h2]; omega,by rw [lenB_eq he']; exact hf⟩
theorem back_len {r:List (List D)} {v t:Int}:∀ (k i:Nat),(backF r v t i k).length ≤ k
 | 0,_=>Nat.le_refl _
 | k + 1,i=>by
   simp only [backF]
   have:=back_len (r:=r) (v:=v) (t:=t) k (i + 1)
   split
   ·simp only [List.length_cons]; omega
   ·omega
theorem ok1073_9 (n:Nat):LoopSim C (n + 4) 73 (loopOf C.P 73 9) (mkL l1073_9 G1073_9):=by
 refine loop_ofR hC (sp:=sp1073) (lp:=lp1073) (sw:=sw1073) (rg:=rg1073) ⟨ok123 (n + 3),trivial⟩ ⟨ok93 (n + 1),ok102 (n + 3),ok127 n,trivial⟩ 0 [] [14] (by kernel_rfl) rfl (by kernel_rfl) (by kernel_rfl) (fun k hk=>by cases hk)
  (fun k hk L hL=>by simp at hk; subst hk; cases hL; exact ok1073_14 n) (by kernel_rfl) (fun ds=>lenB (ds.getD 2 default).I.toNat (ds.getD 1 default).L (mkSr (ds.getD 3 default) (ds.getD 4 default) (ds.getD 5 default))) fun ds rr h=>?_
 unfold G1073_9 at h
 split at h
 ·rename_i a r m o k q
  obtain ⟨hp,h⟩:=need_some h
  rw [yes_iff] at hp
  have hlt:lenB m.I.toNat r.L (mkSr o k q) < 9223372036854775808:=by
   by_cases hk:(mkSr o k q).k = 0
   ·rw [(halt_zeroB hk).2]; omega
   ·exact (halt_stepB hp hk).2.2.2.2
  refine ⟨by rw [fuelC]; exact Nat.lt_trans hlt (by omega),?_⟩
  rw [show roundTK C (mkTabR sp1073 lp1073 sw1073 rg1073) 73 (loopOf C.P 73 9) 0 l1073_9 [a,r,m,o,k,q] = _ from t1073_9 a r m o k q]
  simp only [Int.toNat_natCast,rg_def]
  by_cases hk:k.I.toNat = 0
  ·rw [(halt_zeroB (m:=m.I.toNat) (r:=r.L) (s:=mkSr o k q) hk).1] at h
   refine rd_dec (by omega) (rd_neg (by rw [hk]; simp) (rd_out h))
  ·obtain ⟨hN,h1,h2,h3,-⟩:=halt_stepB hp hk
   obtain ⟨n1,n2,n3,n4,n5,n6,n7,n8⟩:=hN
   rw [h2] at h
   generalize hS:mkSr o k q = S at *
   have hSk:S.k = k.I.toNat:=by rw [← hS]; rfl
   have hSq:S.q = q.L:=by rw [← hS]; rfl
   have hSo:S.o = o.L:=by rw [← hS]; rfl
   have hV:ix ((popR q.L k.I.toNat).getD (k.I.toNat - 1) []) 0 = takeV S:=by unfold takeV; rw [hSk,hSq]
   have hT:ix ((popR q.L k.I.toNat).getD (k.I.toNat - 1) []) 1 = takeT S:=by unfold takeT; rw [hSk,hSq]
   simp only [hV,hT]
   rw [hSq,hSk] at n1
   rw [hSk] at n2
   rw [hSo] at n3
   have hlt1:(List.take k.I.toNat q.L).length = k.I.toNat:=by rw [List.length_take]; omega
   refine rd_dec n1 (rd_pos (by rw [hlt1]; omega) (rd_yes ⟨by omega,n1,by omega⟩ (rd_dec n4 (rd_dec (by omega) (rd_if (fun c=>?_) fun c=>?_)))))
   ·have hst:stepG (nxB r.L) S = mkSr (D.l o.L) (D.i ((k.I.toNat - 1:Nat):Int)) (D.l (popR q.L k.I.toNat)):=by
     unfold stepG
     rw [if_pos (by rw [hSo]; exact c)]
     unfold popS
     rw [hSo,hSk,hSq]
     rfl
    refine rd_again ((need_yes (by rw [← hst]; exact h1)).trans ?_) (by
     show lenB m.I.toNat r.L (mkSr (D.l o.L) (D.i ((k.I.toNat - 1:Nat):Int)) (D.l (popR q.L k.I.toNat))) < lenB m.I.toNat r.L (mkSr o k q)
     rw [← hst,hS]; exact h3)
    rw [← hst]
    exact h
   ·have hst:stepG (nxB r.L) S = relF (backF r.L (takeV S) (takeT S) 0 r.L.length) (mkSr (D.l o.L) (D.i ((k.I.toNat - 1:Nat):Int)) (D.l (popR q.L k.I.toNat))):=by
     unfold stepG
     rw [if_neg (by rw [hSo]; exact c)]
     unfold popS nxB
     rw [hSo,hSk,hSq]
     rfl
    have hnl:=back_len (r:=r.L) (v:=takeV S) (t:=takeT S) r.L.length 0
    refine rd_yes ⟨n6,n5⟩ (rd_yes ⟨n3,by rw [len_pop]; omega,by omega,fun e he=>?_⟩ ?_)
    ·obtain ⟨j,-,hj,-,e1,-⟩:=back_mem _ _ _ he
     rw [e1]
     exact n8 j (by omega)
    ·have hmk:∀ s:Sr,mkSr (D.l s.o) (D.i (s.k:Int)) (D.l s.q) = s:=fun s=>by simp only [mkSr,I_i,L_l,Int.toNat_natCast]
     rw [← hst]
     refine rd_again ((need_yes (by simp only [I_i,L_l,Int.toNat_natCast,hmk]; exact h1)).trans ?_) (by
      show lenB m.I.toNat r.L (mkSr (D.l (stepG (nxB r.L) S).o) (D.i ((stepG (nxB r.L) S).k:Int)) (D.l (stepG (nxB r.L) S).q)) < lenB m.I.toNat r.L (mkSr o k q)
      rw [hmk,hS]; exact h3)
     simp only [I_i,L_l,Int.toNat_natCast,hmk]
     exact h
 ·cases h
theorem ok1073 (n:Nat):FnOK C (n + 5) 73 (mkF s1073 G1073):=by
 have hby:Try.prog.types[3].bytes = 8:=by kernel_rfl
 refine fn_ofR hC (sp:=sp1073) (lp:=lp1073) (sw:=sw1073) (rg:=rg1073) ⟨ok123 (n + 3),trivial⟩ ⟨ok93 (n + 1),ok102 (n + 3),ok127 n,trivial⟩ (by kernel_rfl) [3,9] [] (by kernel_rfl) (by kernel_rfl) (by kernel_rfl) rfl (fun k hk L hL=>by
  simp at hk; rcases hk with rfl | rfl <;> cases hL
  ·exact ok1073_3 n
  ·exact ok1073_9 n) (fun k hk=>by cases hk) fun ds r h=>?_
 unfold G1073 at h
 split at h
 ·rename_i m v t a r'
  obtain ⟨hp,h⟩:=need_some h
  rw [yes_iff] at hp
  obtain ⟨h0,h1,h2,h3,h4⟩:=hp
  refine (congrArg T.run (t1073 m v t a r')).trans ?_
  have hz:(0:Int).toNat = 0:=rfl
  simp only [List.length_replicate,Int.toNat_natCast,hz,Nat.sub_zero,fill_all,upd1,rs_def]
  have hm:(m.I.toNat:Int) = m.I:=by omega
  refine go_need (by rw [hby]; simp; omega) (go_yes ⟨trivial,Nat.le_refl _,by omega,by omega,by omega⟩ (go_dec (by omega) (go_need (by simp; omega) (go_yes h4 ?_))))
  rw [hm]
  exact h
 ·cases h
theorem runB_len {N:Int → Int → List (List D)}:∀ (f:Nat) (s:Sr),(runG (stepG N) f s).length = s.o.length
 | 0,_=>rfl
 | f + 1,s=>by
   simp only [runG]
   rw [runB_len f]
   unfold stepG
   split
   ·rfl
   ·exact rel_len _ _
theorem resB_len {m:Nat} {r:List (List D)} {s:Sr}:(resB m r s).length = s.o.length:=runB_len _ _
theorem neg_rg:∀ (k i:Nat) (l:List (List D)),i + k ≤ l.length → (negF i k l).length = l.length ∧ ∀ u,rg (negF i k l) u = if i ≤ u ∧ u < i + k then -(rg l u) else rg l u
 | 0,i,l,_=>⟨rfl,fun u=>by simp only [negF]; rw [if_neg (by omega)]⟩
 | k + 1,i,l,h=>by
   obtain ⟨h1,h2⟩:=neg_rg k (i + 1) (rs l i (-(rg l i))) (by rw [len_rs]; omega)
   simp only [negF]
   refine ⟨by rw [h1,len_rs],fun u=>?_⟩
   rw [h2,rg_rs (by omega)]
   by_cases e:u = i
   ·subst e
    rw [if_neg (by omega),if_pos rfl,if_pos (by omega)]
   ·rw [if_neg e]
    by_cases e2:i + 1 ≤ u ∧ u < i + 1 + k
    ·rw [if_pos e2,if_pos (by omega)]
    ·rw [if_neg e2,if_neg (by omega)]
theorem back_ends {n:Int} {r:List (List D)} {v t:Int} (hN:netB n r = true) (hv:0 ≤ v ∧ v < n) (ht:-1000000 ≤ t ∧ t ≤ 100000) :
    haltB n.toNat r (startS n v t) ∧ Least (edB r) n.toNat v t (rg (resB n.toNat r (startS n v t))):=by
 obtain ⟨h1,h2,h3⟩:=net_parts hN
 have hE:=edB_ok hN
 have hI:INF = 9223372036854775807:=rfl
 have hn:(n.toNat:Int) = n:=by omega
 have hB:max t 100000 + 10000 * ((n.toNat:Int) + 1) < INF:=by omega
 have hp:=pot_start (n:=n) (B:=max t 100000 + 10000 * ((n.toNat:Int) + 1)) hv (by omega:t < INF) (by omega)
 have hm:(max t 100000 + 10000 * ((n.toNat:Int) + 1) + 1 - t).toNat * n.toNat ≤ 4000000 * 200:=Nat.mul_le_mul (by omega) (by omega)
 obtain ⟨f,f1,f2,f3⟩:=inv_ends (n:=n.toNat) hE (nxB_ok r) hB (by omega) (need:=needB n.toNat r) (Q:=2000000000) (fun s I hk hQ=>by
  have hkq:s.k ≤ 2000000000:=by unfold potN at hQ; omega
  obtain ⟨⟨v1,v2⟩,v3,v4⟩:=I.q _ ((pop_in hk I.kq (takeV s,takeT s)).2 (.inl rfl))
  simp only at v1 v2 v3 v4
  have hfV:rg s.o (takeV s).toNat < INF:=by omega
  have hlo:=walk_lo hE (I.walk (takeV s).toNat (by omega) hfV)
  refine ⟨I.kq,by omega,by rw [I.len]; exact Nat.le_refl _,⟨v1,v2⟩,⟨by omega,by omega⟩,net_okR hN,by omega,fun i hi=>?_⟩
  have:=(road_parts (h3 i hi)).1
  omega) 2000000000 (startS n v t) (inv_start hv (by omega)) (by omega) (Nat.le_refl _)
 refine ⟨⟨f,by omega,f2⟩,?_⟩
 rw [resB_eq f2]
 exact f3
theorem back_okN {n:Int} {r:List (List D)} {v t:Int} (hN:netB n r = true) (hv:0 ≤ v ∧ v < n) (ht:-1000000 ≤ t ∧ t ≤ 100000):okN (resB n.toNat r (startS n v t)):=fun u=>by
 have hL:=(back_ends hN hv ht).2
 have hI:INF = 9223372036854775807:=rfl
 by_cases hu:u < n.toNat
 ·have h1:=hL.1 u hu
  by_cases hf:rg (resB n.toNat r (startS n v t)) u < INF
  ·have:=walk_lo (edB_ok hN) (hL.2.1 u hu hf)
   omega
  ·omega
 ·rw [rg_ge (by rw [resB_len,len_start]; omega)]
  omega
theorem ok97_3 (n:Nat):LoopSim C (n + 5) 97 (loopOf C.P 97 3) (mkL l97_3 G97_3):=by
 refine loop_ofK hC (sp:=sp97) (lp:=lp97) (sw:=sw97) ⟨ok1073 n,trivial⟩ ⟨ok102 (n + 4),trivial⟩ 0 [] (by kernel_rfl) rfl (fun k hk=>by cases hk) (by kernel_rfl) (fun ds=>((ds.getD 1 default).I - (ds.getD 2 default).I).toNat) fun ds rr h=>?_
 unfold G97_3 at h
 split at h
 ·rename_i m k i l
  obtain ⟨hp,h⟩:=need_some h
  rw [yes_iff] at hp
  obtain ⟨h1,h3,hi0,hi1,h4,h5⟩:=hp
  refine ⟨by rw [fuelC]; simp; omega,?_⟩
  rw [show roundTK C (mkTab sp97 lp97 sw97) 97 (loopOf C.P 97 3) 0 l97_3 [m,k,i,l] = _ from t97_3 m k i l]
  obtain ⟨j,hj⟩:∃ j:Nat,i.I = j:=⟨i.I.toNat,by omega⟩
  simp only [hj,h1,Int.toNat_natCast,upd1,rs_def,rg_def] at h hi0 hi1 h4 ⊢
  refine rd_if (fun hlt=>?_) fun hge=>?_
  ·have hjr:=h5 j
   have hw:IntKind.i64.wrap (0 - rg l.L j) = -(rg l.L j):=by rw [Int.zero_sub]; exact wrap_id (by omega) (by omega)
   have hN':okN (rs l.L j (-(rg l.L j))):=fun u=>by
    rw [rg_rs (by omega)]
    have:=h5 u
    split <;> omega
   rw [wrap_succ (by omega),hw]
   rw [show m.I.toNat - j = (m.I.toNat - (j + 1)) + 1 by omega] at h
   simp only [negF] at h
   refine rd_dec (by omega) (rd_dec (by omega) (rd_dec (by omega) (rd_dec (by omega) (rd_again ((need_yes ⟨by simp only [I_i,Int.toNat_natCast],by simp only [I_i,L_l,Int.toNat_natCast,len_rs]; exact h3,by simp only [I_i]; omega,by simp only [I_i]; omega,by simp only [I_i]; omega,hN'⟩).trans ?_) ?_))))
   ·simp only [I_i,L_l,Int.toNat_natCast]
    exact h
   ·show ((m.I.toNat:Int) - ((j + 1:Nat):Int)).toNat < (k.I - i.I).toNat
    rw [hj,h1]; omega
  ·rw [show m.I.toNat - j = 0 by omega] at h
   exact rd_out h
 ·cases h
theorem ok97 (n:Nat):FnOK C (n + 6) 97 (mkF s97 G97):=by
 refine fn_ofS hC (sp:=sp97) (lp:=lp97) (sw:=sw97) ⟨ok1073 n,trivial⟩ ⟨ok102 (n + 4),trivial⟩ (by kernel_rfl) [3] (by kernel_rfl) (by kernel_rfl) (fun k hk L hL=>by
  simp at hk; subst hk; cases hL; exact ok97_3 n) fun ds r h=>?_
 unfold G97 at h
 split at h
 ·rename_i m r' v t
  obtain ⟨hp,h⟩:=need_some h
  rw [yes_iff] at hp
  obtain ⟨hN,hv,ht⟩:=hp
  obtain ⟨p1,p2,p3⟩:=net_parts hN
  have hw:IntKind.i64.wrap (0 - t.I) = -t.I:=by rw [Int.zero_sub]; exact wrap_id (by omega) (by omega)
  refine (congrArg T.run (t97 m r' v t)).trans ?_
  rw [hw]
  have hz:(0:Int).toNat = 0:=rfl
  simp only [Int.toNat_natCast,hz,Nat.sub_zero]
  have hm:(m.I.toNat:Int) = m.I:=by omega
  refine go_yes ⟨by omega,by omega,by omega,by omega,(back_ends hN hv (by omega)).1⟩ (go_yes ⟨trivial,by rw [resB_len,len_start]; exact Nat.le_refl _,by omega,by omega,by omega,back_okN hN hv (by omega)⟩ ?_)
  rw [hm]
  exact h
 ·cases h
end Go.Proofs.Ytgmefblkmidglaa
namespace Go.Lite
theorem rangeS_ok0 {C:Cfg} (hC:∀ t Y,C.ty t = some Y → tyOf C.P t = some Y) {tab:Tab} {n:Nat} (hS:SpOK C tab n) {f:FuncId} {r:Rg} {k:Nat} {live:List Nat} {head:List Shp} {Y:YS}
    (hYok:YOK Y) (hla:∀ kk,LoopsOKK C tab n kk f r.2.2.1) (hlb:∀ kk,LoopsOKK C tab n kk f r.2.2.2) (hann:C.ann f (keyOf r.2.2.2) = some live) (hgive:C.give f (keyOf r.2.2.2) = Y.give) {it:ItL} (hIt:AllOKI C n Y it) {G:List (List D) → List D → T (Ex × List D)}
    (hG:∀ L ds rr,(G L ds).run = some rr → FoldR (fun ds el=>(roundRT C tab f r k ((headA head ds).h.length + (Y.head el).2.length) live head Y ds el).run) Y.give (fun a b=>headA head a = headA head b) ds L rr.1 rr.2):CodeSim C n k f r.code tab.y tab.q (rangeS k live r.1 it head G):=by
 intro σ e σ' h
 unfold rangeS at h
 split at h
 ·cases h
 rename_i hlog
 split at h
 case h_2=>cases h
 rename_i gf a cp hev
 generalize hms:reachS (sget (normS k live σ).h) wide ((a ++ cp).flatMap (idsS deep)) [] = ms at h
 dsimp only at h
 split at h
 case h_2=>cases h
 rename_i F ds hF hfit
 rw [T.run_bind,Option.bind_eq_some_iff] at h
 obtain ⟨L,hL,h⟩:=h
 rw [T.run_bind,Option.bind_eq_some_iff] at h
 obtain ⟨rr,hr0,h⟩:=h
 cases h
 refine ⟨by rw [hlog]; exact List.nil_prefix,?_⟩
 intro τ hr S H P Lg _ _ s hs
 have hgc:gcOf C k f r.2.2.2 = norm k live:=by unfold gcOf; rw [hann]
 have h1:SSR (normS k live σ) (norm k live τ):=norm_sim hr
 have hv:=evS_sim h1.1 r.1
 rw [hev] at hv
 simp only [VR] at hv
 obtain ⟨a',c',hv,ha,hcp⟩:=hv
 have hreach:reach (hget (norm k live τ).h) wide ((a' ++ c').flatMap (ids deep)) [] = ms:=by
  rw [← hms,ids_eqs (VRL_append ha hcp)]
  exact reach_eq h1.2.2 _ _ _
 have h2:=fitsA_sim hfit (norm_sim (k:=k) (live:=live) (τ:={ tmps:=(norm k live τ).tmps,h:=hups (norm k live τ).h (ms.map fun i=>(i,none)) }) ⟨h1.1,HR.ups h1.2 (UR_kills ms)⟩)
 have hargs:VRL (a.map (mvS true false (pos ms) deep) ++ [.yl] ++ cp.map (mvS true false (pos ms) deep)) (a'.map (mv true false (pos ms) deep) ++ [.yl] ++ c'.map (mv true false (pos ms) deep)):=
  VRL_append (VRL_append (VRL_map (mv_sim true false _ deep) ha) (VRL_cons (by simp only [VR]) VRL_nil)) (VRL_map (mv_sim true false _ deep) hcp)
 have hheap:HR (ms.map fun i=>(sget (normS k live σ).h i).map (mvSB true false (pos ms))) (ms.map fun i=>(hget (norm k live τ).h i).map (mvB true false (pos ms))):=HR.maps _ fun i _=>OR.map (h1.2.2 i) _
 obtain ⟨q,Q,q1,q2,qp,q3⟩:=fold_sim (head:=head) (Y:=Y) (s:=s) (Hf:=roundH r.2.1 (norm k live) Y.give (fun kk=>execA C (callA C n) f kk H r.2.2.1) (fun kk=>execA C (callA C n) f kk H r.2.2.2))
  (fun ds el x' o hR hx τ hτ ya yh hya hyh=>round_sim hC hS hYok (hla _) (hlb _) hR hx hτ hya hyh H s) (fun hR=>roundRT_np hR) (hG L ds rr hr0)
 obtain ⟨v',h',s',hcall,hvp,hQ⟩:=allOKI_get hIt gf F hF _ _ L hL _ _ hargs hheap _ _ Q q q2 _ (q1 _ h2)
 obtain ⟨τ',rfl,hτ'⟩:=q3 _ hQ
 refine ⟨τ',s,?_,by rw [headA_log]; rw [hlog] at hs; exact hs,hτ'⟩
 unfold Rg.code
 simp only [execA,hgc,hgive,hv,hreach,hcall,hvp]
 cases he:rr.1 with
 | pan t=>rw [he] at qp; cases qp
 | _=>rfl
theorem range_of0 {C:Cfg} (hC:∀ t Y,C.ty t = some Y → tyOf C.P t = some Y) {sp:SpL} {sw:SwL} {n:Nat} {f:FuncId} {lp rg:LpL} {Y:YS} (hY:YOK Y) (hsp:AllOK C n sp) (hsw:AllOKW C n sw) (k m:Nat) (h1:(loopsIn (rangeOf C.P f k).2.2.2).isEmpty = true ∧ rangesIn (rangeOf C.P f k).2.2.2 = []) (h4:(loopsIn (rangeOf C.P f k).2.2.1).isEmpty = true ∧ rangesIn (rangeOf C.P f k).2.2.1 = [])
    {live:List Nat} (hann:C.ann f (keyOf (rangeOf C.P f k).2.2.2) = some live) (hgive:C.give f (keyOf (rangeOf C.P f k).2.2.2) = Y.give) {it:ItL} (hIt:AllOKI C n Y it) {head:List Shp} {G:List (List D) → List D → T (Ex × List D)}
    (hG:∀ L ds rr,(G L ds).run = some rr → FoldR (fun ds el=>(roundRT C (mkTabR sp lp sw rg) f (rangeOf C.P f k) m ((headA head ds).h.length + (Y.head el).2.length) live head Y ds el).run) Y.give (fun a b=>headA head a = headA head b) ds L rr.1 rr.2):CodeSim C n m f (rangeOf C.P f k).code none 0 (rangeS m live (rangeOf C.P f k).1 it head G):=
 rangeS_ok0 hC (tab:=mkTabR sp lp sw rg) (spOK_ofR hsp hsw) hY (fun _=>loops_ofG (lp:=lp) (rg:=rg) rfl rfl [] [] (List.isEmpty_iff.1 h4.1) rfl (fun k hk=>by cases hk) h4.2 rfl (fun k hk=>by cases hk))
  (fun _=>loops_ofG (lp:=lp) (rg:=rg) rfl rfl [] [] (List.isEmpty_iff.1 h1.1) rfl (fun k hk=>by cases hk) h1.2 rfl (fun k hk=>by cases hk)) hann hgive hIt hG
end Go.Lite
namespace Go.Proofs.Ytgmefblkmidglaa
open Go.Lite
set_option maxRecDepth 100000
set_option linter.unusedVariables false
theorem lat_parts {n:Int} {r:List (List D)} {a b:Int} (hN:netB n r = true) (ha:0 ≤ a ∧ a < n) (hb:0 ≤ b ∧ b ≤ 1000000) :
    (latF n r a b).length = n.toNat ∧ (∀ u,-9223372036854775807 ≤ rg (latF n r a b) u ∧ rg (latF n r a b) u ≤ b) ∧ ∃ d,Least (edB r) n.toNat a (-b) d ∧ ∀ u,u < n.toNat → rg (latF n r a b) u = -(d u):=by
 obtain ⟨-,hL⟩:=back_ends hN ha (t:=-b) (by omega)
 have hlen:(resB n.toNat r (startS n a (-b))).length = n.toNat:=by rw [resB_len,len_start]
 obtain ⟨h1,h2⟩:=neg_rg n.toNat 0 (resB n.toNat r (startS n a (-b))) (by omega)
 have hI:INF = 9223372036854775807:=rfl
 have hrg:∀ u,u < n.toNat → rg (latF n r a b) u = -(rg (resB n.toNat r (startS n a (-b))) u):=fun u hu=>by
  unfold latF
  rw [h2,if_pos ⟨Nat.zero_le _,by omega⟩]
 refine ⟨by unfold latF; rw [h1,hlen],fun u=>?_,_,hL,hrg⟩
 by_cases hu:u < n.toNat
 ·rw [hrg u hu]
  have h3:=hL.1 u hu
  by_cases hf:rg (resB n.toNat r (startS n a (-b))) u < INF
  ·have:=walk_lo (edB_ok hN) (hL.2.1 u hu hf)
   omega
  ·omega
 ·rw [rg_ge (by unfold latF; rw [h1,hlen]; omega)]
  omega
theorem zon_mk {n:Int} {a b c:D} (h:zonB n (mk3 a b c) = true):(0 ≤ a.I ∧ a.I < n) ∧ (0 ≤ b.I ∧ b.I ≤ 65535) ∧ 0 ≤ c.I ∧ c.I ≤ 10000:=by
 rw [zonB_mk,decide_eq_true_iff] at h
 exact h
theorem veh_parts {n:Int} {x:List D} (h:vehB n x = true):(0 ≤ ix x 0 ∧ ix x 0 < n) ∧ (0 ≤ ix x 1 ∧ ix x 1 ≤ 65535) ∧ (0 ≤ ix x 2 ∧ ix x 2 ≤ ix x 3) ∧ ix x 3 ≤ 100000:=of_decide_eq_true h
theorem mn_parts (a b:Int):(mn a b ≤ a ∧ mn a b ≤ b) ∧ (mn a b = a ∨ mn a b = b):=by
 unfold mn
 split <;> omega
theorem mx_parts (a b:Int):(a ≤ mx a b ∧ b ≤ mx a b) ∧ (mx a b = a ∨ mx a b = b):=by
 unfold mx
 split <;> omega
section
variable {n:Int} {r v:List (List D)} {z:List D} {h t:Int}
theorem best_le (hN:netB n r = true) {a to:Int} (ha:0 ≤ a ∧ a < n) (ht:0 ≤ t ∧ t ≤ 100000):-1 ≤ bestF n r a t to ∧ bestF n r a t to ≤ 1099521627776:=by
 have:=(arr_ok hN ha ht).1.2 to.toNat
 unfold bestF
 omega
theorem pv_step {x:List D} {s:Pv} (hN:netB n r = true) (hx:vehB n x = true) (hz:zonB n z = true) (ht:0 ≤ t ∧ t < h) (hh:h ≤ 100000) (hs:okPv t h s):okPv t h (stV n r z t x s):=by
 obtain ⟨x0,x1,x2,x3⟩:=veh_parts hx
 obtain ⟨s1,s2,s3,s4⟩:=hs
 unfold stV
 split
 ·exact ⟨s1,s2,s3,s4⟩
 ·rename_i c1
  have c1':t < ix x 3:=by
   rcases Int.lt_or_le t (ix x 3) with h | h
   ·exact h
   ·exact absurd (.inr h) c1
  split
  ·have:=mn_parts s.nx (ix x 2)
   exact ⟨s1,s2,by simp only; omega,by simp only; omega⟩
  ·split
   ·have m1:=mn_parts (latU n r z t (ix x 0) + 1) (ix x 3)
    have m2:=mx_parts s.to (mn (latU n r z t (ix x 0) + 1) (ix x 3))
    exact ⟨fun _=>by simp only; omega,by simp only; omega,s3,s4⟩
   ·split
    ·have m1:=mx_parts (t + 1) (bestF n r (ix x 0) t (ix z 0) - ix z 2)
     have m2:=mn_parts s.nx (mx (t + 1) (bestF n r (ix x 0) t (ix z 0) - ix z 2))
     exact ⟨s1,s2,by simp only; omega,by simp only; omega⟩
    ·exact ⟨s1,s2,s3,s4⟩
theorem run_pv (hN:netB n r = true) (hv:vehs n v = true) (hz:zonB n z = true) (ht:0 ≤ t ∧ t < h) (hh:h ≤ 100000):∀ (k i:Nat) (s:Pv),i + k ≤ v.length → okPv t h s → okPv t h (runV n r v z t i k s)
 | 0,_,_,_,hs=>hs
 | k + 1,i,s,hi,hs=>run_pv hN hv hz ht hh k (i + 1) _ (by omega) (pv_step hN (veh_of hv (by omega:i < v.length)) hz ht hh hs)
theorem pv_at (hP:okP n r v z h) (ht:0 ≤ t ∧ t < h):okPv t h (pvAt n r v z h t):=by
 obtain ⟨hN,hv,hz,-,h0,h1⟩:=hP
 exact run_pv hN hv hz ht h1 _ _ _ (by omega) ⟨fun e=>absurd e (by simp),⟨Int.le_refl _,by simp only; omega⟩,by simp only; omega,Int.le_refl _⟩
theorem to_gt (hP:okP n r v z h) (ht:0 ≤ t ∧ t < h):t < toP n r v z h t ∧ toP n r v z h t ≤ h:=by
 obtain ⟨s1,s2,s3,s4⟩:=pv_at hP ht
 unfold toP
 have m1:=mn_parts (if (pvAt n r v z h t).c then (pvAt n r v z h t).to else mx (t + 1) (pvAt n r v z h t).nx) h
 have m2:=mx_parts (t + 1) (pvAt n r v z h t).nx
 cases hc:(pvAt n r v z h t).c with
 | true=>
   have:=s1 hc
   rw [hc] at m1
   simp only [if_true] at m1 ⊢
   omega
 | false=>
   rw [hc] at m1
   simp only [Bool.false_eq_true,if_false] at m1 ⊢
   omega
theorem piece_fuel (hP:okP n r v z h):∀ (f:Nat) (t:Int),0 ≤ t → (h - t).toNat ≤ f → pieceL n r v z h f t = pieceL n r v z h (h - t).toNat t
 | 0,t,h0,hf=>by rw [show (h - t).toNat = 0 by omega]
 | f + 1,t,h0,hf=>by
   by_cases ht:t < h
   ·obtain ⟨g1,g2⟩:=to_gt hP ⟨h0,ht⟩
    obtain ⟨e,he⟩:∃ e,(h - t).toNat = e + 1:=⟨(h - t).toNat - 1,by omega⟩
    rw [he]
    simp only [pieceL,if_pos ht]
    rw [piece_fuel hP f _ (by omega) (by omega),piece_fuel hP e _ (by omega) (by omega)]
   ·rw [show (h - t).toNat = 0 by omega]
    simp only [pieceL,if_neg ht]
theorem piece_step (hP:okP n r v z h) (ht:0 ≤ t ∧ t < h):pieceL n r v z h (h - t).toNat t = [.i t,.i (toP n r v z h t),.b (pvAt n r v z h t).c] :: pieceL n r v z h (h - toP n r v z h t).toNat (toP n r v z h t):=by
 obtain ⟨g1,g2⟩:=to_gt hP ht
 obtain ⟨e,he⟩:∃ e,(h - t).toNat = e + 1:=⟨(h - t).toNat - 1,by omega⟩
 rw [he]
 simp only [pieceL,if_pos ht.2]
 rw [piece_fuel hP e _ (by omega) (by omega)]
theorem piece_len (n:Int) (r v:List (List D)) (z:List D) (h:Int):∀ (f:Nat) (t:Int),(pieceL n r v z h f t).length ≤ f
 | 0,_=>Nat.le_refl _
 | f + 1,t=>by
   simp only [pieceL]
   split
   ·simp only [List.length_cons]
    have:=piece_len n r v z h f (toP n r v z h t)
    omega
   ·simp
end
theorem ok96_6 (q n:Nat):LoopSimY C (n + 6) 4 96 (loopOf C.P 96 6) (some y96) q (mkLY 4 l96_6 (G96_6 q)):=by
 refine loop_ofY hC (sp:=sp96) (lp:=lp96 q) (sw:=sw96) (Y:=y96) (yOK_mk _ _ _) ⟨ok97 n,ok46 n,trivial⟩ trivial 4 [] (by kernel_rfl) rfl (by kernel_rfl) (fun k hk=>by cases hk) (by kernel_rfl) (fun ds=>((ds.getD 5 default).I - (ds.getD 6 default).I).toNat) fun ds rr hh=>?_
 unfold G96_6 at hh
 split at hh
 ·rename_i g t m nx v' q' i h n' r a b c v l pf pt pc
  obtain ⟨hp,hh⟩:=need_some hh
  rw [yes_iff] at hp
  obtain ⟨hP,ht,hl,hm,hv',hq',hi,hs⟩:=hp
  have hP':=hP
  obtain ⟨hN,hv,hz,hvl,h0,h1⟩:=hP'
  obtain ⟨z0,z1,z2,z3⟩:=zon_mk hz
  obtain ⟨p1,p2,p3⟩:=net_parts hN
  obtain ⟨l1,l2,-⟩:=lat_parts hN z0 (b:=t.I + c.I) (by omega)
  refine ⟨by rw [fuelC]; simp; omega,?_⟩
  rw [show roundTY C (mkTabY sp96 (lp96 q) sw96 y96 q) 96 (loopOf C.P 96 6) 4 l96_6 [g,t,m,nx,v',q',i,h,n',r,a,b,c,v,l,pf,pt,pc] = _ from t96_6 q g t m nx v' q' i h n' r a b c v l pf pt pc]
  obtain ⟨k,hk⟩:∃ k:Nat,i.I = k:=⟨i.I.toNat,by omega⟩
  have hn:(n'.I.toNat:Int) = n'.I:=by omega
  simp only [hk,hm,hn,hv',hq',hl,Int.toNat_natCast,Nat.reduceAdd,ix_def] at hh hi ⊢
  refine rd_if (fun hlt=>?_) fun hge=>?_
  ·have hkl:k < v.L.length:=by omega
   have hx:=veh_of hv hkl
   obtain ⟨x0,x1,x2,x3⟩:=veh_parts hx
   have hst:=pv_step hN hx hz ht h1 hs
   rw [show v.L.length - k = (v.L.length - (k + 1)) + 1 by omega] at hh
   simp only [runV] at hh
   have hmu:((v.L.length:Int) - ((k + 1:Nat):Int)).toNat < (q'.I - i.I).toNat:=by omega
   have hnext:∀ s':Pv,stV n'.I r.L (mk3 a b c) t.I (v.L.getD k []) (pvOf pc pt nx) = s' → (G96_6 q [.l g.L,.i t.I,.i n'.I,.i s'.nx,.l v.L,.i v.L.length,.i ((k + 1:Nat):Int),.i h.I,.i n'.I,.l r.L,.i a.I,.i b.I,.i c.I,.l v.L,.l (latF n'.I r.L a.I (t.I + c.I)),.i pf.I,.i s'.to,.b s'.c]).run = some rr:=fun s' e=>by
    rw [e] at hh hst
    exact (need_yes ⟨hP,ht,rfl,rfl,rfl,rfl,by simp only [I_i,L_l]; omega,hst⟩).trans hh
   have hlu:ix ((latF n'.I r.L a.I (t.I + c.I)).getD (ix (v.L.getD k []) 0).toNat []) 0 = latU n'.I r.L (mk3 a b c) t.I (ix (v.L.getD k []) 0):=rfl
   have hbe:ix ((arrF n'.I r.L (ix (v.L.getD k []) 0) t.I).getD a.I.toNat []) 0 = bestF n'.I r.L (ix (v.L.getD k []) 0) t.I (ix (mk3 a b c) 0):=rfl
   have l2':=l2 (ix (v.L.getD k []) 0).toNat
   have hal:=(arr_ok hN (v:=ix (v.L.getD k []) 0) (t:=t.I) x0 (by omega)).1.1
   have hb2:=best_le hN (a:=ix (v.L.getD k []) 0) (to:=ix (mk3 a b c) 0) (t:=t.I) x0 (by omega)
   have hz2:ix (mk3 a b c) 2 = c.I:=rfl
   have hab:ableB (v.L.getD k []) (mk3 a b c) = (andI (ix (v.L.getD k []) 1) b.I == b.I):=rfl
   rw [show rg (latF n'.I r.L a.I (t.I + c.I)) (ix (v.L.getD k []) 0).toNat = latU n'.I r.L (mk3 a b c) t.I (ix (v.L.getD k []) 0) from rfl] at l2'
   simp only [hlu,hbe]
   unfold stV at hnext
   rw [wrap_succ (by omega)]
   refine rd_dec (by omega) (rd_ite (fun c1=>?_) fun c1=>?_)
   ·have c1:(andI (ix (v.L.getD k []) 1) b.I == b.I) = false:=beq_false_of_ne (bne_iff_ne.1 c1)
    exact rd_again (hnext (pvOf pc pt nx) (by rw [hab,c1,if_pos (.inl rfl)])) hmu
   ·have c1:(andI (ix (v.L.getD k []) 1) b.I == b.I) = true:=by
     cases hx:(andI (ix (v.L.getD k []) 1) b.I == b.I) with
     | true=>rfl
     | false=>
       have hx:andI (ix (v.L.getD k []) 1) b.I ≠ b.I:=ne_of_beq_false hx
       have:(andI (ix (v.L.getD k []) 1) b.I != b.I) = true:=bne_iff_ne.2 hx
       exact absurd (this.symm.trans c1) (by simp)
    rw [hab,c1] at hnext
    refine rd_if (fun c2=>rd_again (hnext (pvOf pc pt nx) (by rw [if_pos (.inr (by omega))])) hmu) fun c2=>?_
    have c2':¬ (true = false ∨ ix (v.L.getD k []) 3 ≤ t.I):=fun h=>h.elim (fun h=>by cases h) fun h=>c2 h
    refine rd_if (fun c3=>rd_again (hnext ⟨pc.B,pt.I,mn nx.I (ix (v.L.getD k []) 2)⟩ (by rw [if_neg c2',if_pos c3]; rfl)) hmu) fun c3=>?_
    refine rd_dec (by omega) (rd_dec (by omega) (rd_if (fun c4=>?_) fun c4=>?_))
    ·rw [wrap_id (x:=latU n'.I r.L (mk3 a b c) t.I (ix (v.L.getD k []) 0) + 1) (by omega) (by omega)]
     exact rd_dec (by omega) (rd_dec (by omega) (rd_again (hnext ⟨true,mx pt.I (mn (latU n'.I r.L (mk3 a b c) t.I (ix (v.L.getD k []) 0) + 1) (ix (v.L.getD k []) 3)),nx.I⟩ (by rw [if_neg c2',if_neg c3,if_pos (by omega)]; rfl)) hmu))
    ·refine rd_yes ⟨by omega,by omega,x0.1,x0.2,(search_ends hN x0 (by omega) (by omega)).1⟩ (rd_dec (by omega) (rd_dec (by unfold bestF at hb2; omega) (rd_if (fun c5=>?_) fun c5=>?_)))
     ·rw [wrap_id (x:=bestF n'.I r.L (ix (v.L.getD k []) 0) t.I (ix (mk3 a b c) 0) - c.I) (by omega) (by omega),wrap_id (x:=t.I + 1) (by omega) (by omega)]
      exact rd_again (hnext ⟨pc.B,pt.I,mn nx.I (mx (t.I + 1) (bestF n'.I r.L (ix (v.L.getD k []) 0) t.I (ix (mk3 a b c) 0) - c.I))⟩ (by rw [if_neg c2',if_neg c3,if_neg (by omega),if_pos (by omega)]; rfl)) hmu
     ·exact rd_again (hnext (pvOf pc pt nx) (by rw [if_neg c2',if_neg c3,if_neg (by omega),if_neg (by omega)])) hmu
  ·rw [show v.L.length - k = 0 by omega] at hh
   exact rd_out hh
 ·cases hh
theorem ok96_1 (q n:Nat):LoopSimY C (n + 6) 4 96 (loopOf C.P 96 1) (some y96) q (mkLY 4 l96_1 (G96_1 q)):=by
 refine loop_ofY hC (sp:=sp96) (lp:=lp96 q) (sw:=sw96) (Y:=y96) (yOK_mk _ _ _) ⟨ok97 n,ok46 n,trivial⟩ trivial 4 [6] (by kernel_rfl) (by kernel_rfl) (by kernel_rfl) (fun k hk L hL=>by simp at hk; subst hk; cases hL; exact ok96_6 q n) (by kernel_rfl) (fun ds=>((ds.getD 2 default).I - (ds.getD 1 default).I).toNat) fun ds rr hh=>?_
 unfold G96_1 at hh
 split at hh
 ·rename_i g t h n' r a b c v
  obtain ⟨hp,hh⟩:=need_some hh
  rw [yes_iff] at hp
  obtain ⟨hP,ht0,ht1,hg⟩:=hp
  have hP':=hP
  obtain ⟨hN,hv,hz,hvl,h0,h1⟩:=hP'
  obtain ⟨z0,z1,z2,z3⟩:=zon_mk hz
  obtain ⟨p1,p2,p3⟩:=net_parts hN
  refine ⟨by rw [fuelC]; simp; omega,?_⟩
  rw [show roundTY C (mkTabY sp96 (lp96 q) sw96 y96 q) 96 (loopOf C.P 96 1) 4 l96_1 [g,t,h,n',r,a,b,c,v] = _ from t96_1 q g t h n' r a b c v]
  have hq:(tab96 q).q = q:=rfl
  have hn:(n'.I.toNat:Int) = n'.I:=by omega
  refine rd_if (fun hlt=>?_) fun hge=>?_
  ·rw [wrap_id (x:=t.I + c.I) (by omega) (by omega),wrap_id (x:=t.I + 1) (by omega) (by omega)]
   simp only [hn,hq,Int.toNat_zero,Nat.sub_zero]
   rw [piece_step hP ⟨ht0,hlt⟩] at hh
   obtain ⟨g1,g2⟩:=to_gt hP ⟨ht0,hlt⟩
   have hpv:runV n'.I r.L v.L (mk3 a b c) t.I 0 v.L.length (pvOf (.b false) (.i t.I) (.i h.I)) = pvAt n'.I r.L v.L (mk3 a b c) h.I t.I:=rfl
   have hmk:mk3 (.i a.I) (.i b.I) (.i c.I) = mk3 a b c:=rfl
   simp only [hmk,hpv]
   refine rd_yes ⟨hN,z0,by omega,by omega⟩ (rd_yes ⟨hP,⟨ht0,hlt⟩,trivial,trivial,trivial,trivial,⟨by omega,by omega⟩,⟨fun e=>absurd e (by simp [pvOf,B_b]),by simp only [pvOf,I_i]; omega,by simp only [pvOf,I_i]; omega,by simp only [pvOf,I_i]; omega⟩⟩ ?_)
   have hlast:∀ (X:Int) (b':Bool),X = toP n'.I r.L v.L (mk3 a b c) h.I t.I → b' = (pvAt n'.I r.L v.L (mk3 a b c) h.I t.I).c →
       RdOK (G96_1 q) (fun ds=>((ds.getD 2 default).I - (ds.getD 1 default).I).toNat) [g,t,h,n',r,a,b,c,v] rr (T.ite (!(!(g.L.length == q))) (T.leaf (Rd.out Ex.ret [.l (g.L ++ [[.i t.I,.i X,.b b']]),.i h.I,.i n'.I,.l r.L,.i a.I,.i b.I,.i c.I,.l v.L])) (T.leaf (Rd.again [.l (g.L ++ [[.i t.I,.i X,.b b']]),.i X,.i h.I,.i n'.I,.l r.L,.i a.I,.i b.I,.i c.I,.l v.L]))).run:=fun X b' hX hb'=>by
    subst hX hb'
    refine rd_ite (fun c2=>?_) fun c2=>?_
    ·rw [Bool.not_not] at c2
     have c2:g.L.length = q:=by simpa using c2
     rw [run_ite,if_pos (by simp; omega)] at hh
     rw [show q + 1 - g.L.length = 1 by omega] at hh
     exact rd_out hh
    ·rw [Bool.not_not] at c2
     have c2:g.L.length ≠ q:=by
      have:¬ (g.L.length == q) = true:=by rw [show (g.L.length == q) = false from c2]; simp
      simpa using this
     refine rd_again ((need_yes ⟨hP,by simp only [I_i]; omega,by simp only [I_i]; omega,by simp only [L_l,List.length_append,List.length_cons,List.length_nil]; omega⟩).trans ?_) (show (h.I - toP n'.I r.L v.L (mk3 a b c) h.I t.I).toNat < (h.I - t.I).toNat by omega)
     simp only [I_i,L_l,List.length_append,List.length_cons,List.length_nil,List.append_assoc,List.cons_append,List.nil_append,hmk] at hh ⊢
     rw [show q + 1 - g.L.length = (q + 1 - (g.L.length + (0 + 1))) + 1 by omega,List.take_succ_cons] at hh
     rw [show g.L.length + (0 + 1) + (pieceL n'.I r.L v.L (mk3 a b c) h.I (h.I - toP n'.I r.L v.L (mk3 a b c) h.I t.I).toNat (toP n'.I r.L v.L (mk3 a b c) h.I t.I)).length = g.L.length + ((pieceL n'.I r.L v.L (mk3 a b c) h.I (h.I - toP n'.I r.L v.L (mk3 a b c) h.I t.I).toNat (toP n'.I r.L v.L (mk3 a b c) h.I t.I)).length + 1) by omega]
     exact hh
   refine rd_not (fun c1=>?_) fun c1=>?_
   ·exact hlast _ _ (by unfold toP; rw [c1]; rfl) rfl
   ·exact hlast _ _ (by unfold toP; rw [c1]; rfl) rfl
  ·rw [show (h.I - t.I).toNat = 0 by omega] at hh
   simp only [pieceL,List.length_nil,List.append_nil] at hh
   rw [run_ite] at hh
   split at hh
   ·rename_i hc
    have:=of_decide_eq_true hc
    omega
   ·exact rd_out hh
 ·cases hh
theorem ok96 (n:Nat):IterOK C (n + 7) 96 y96 (mkFY s96 G96):=by
 refine iter_of hC (sp:=sp96) (lp:=lp96) (sw:=sw96) (Y:=y96) (yOK_mk _ _ _) ⟨ok97 n,ok46 n,trivial⟩ trivial (by kernel_rfl) [1] (by kernel_rfl) (by kernel_rfl) (by kernel_rfl) (fun q k hk L hL=>by
  simp at hk; subst hk; cases hL; exact ok96_1 q n) fun ds L hh q=>?_
 unfold G96 at hh
 split at hh
 ·rename_i h n' r a b c v
  obtain ⟨hp,hh⟩:=need_some hh
  rw [yes_iff] at hp
  cases hh
  have h0:=hp.2.2.2.2
  refine (congrArg T.run (t96 q h n' r a b c v)).trans ?_
  have hmk:mk3 (.i a.I) (.i b.I) (.i c.I) = mk3 a b c:=rfl
  rw [Int.sub_zero]
  simp only [hmk]
  refine go_yes ⟨hp,by omega,h0.1,by simp⟩ (go_if (fun hc=>?_) fun hc=>?_)
  ·simp only [List.nil_append,List.length_nil,Nat.sub_zero,run_leaf]
  ·have hc:¬ q < (pieceL n'.I r.L v.L (mk3 a b c) h.I h.I.toNat 0).length:=fun h=>hc (by simpa using h)
   simp only [List.nil_append,run_leaf]
   rw [List.take_of_length_le (by omega)]
 ·cases hh
set_option maxRecDepth 100000
theorem rd_runT {G:List D → T (Ex × List D)} {μ:List D → Nat} {ds:List D} {r:Ex × List D} {X Y:Option Rd} (e:X = Y) (h:RdOK G μ ds r Y):RdOK G μ ds r X:=e ▸ h
theorem bytes3:Try.prog.types[3].bytes = 8:=by kernel_rfl
set_option maxRecDepth 100000
theorem chW_mem {ch:Nat → List (List D)} {m:Nat} (hc:∀ j,∀ c ∈ ch j,(lx c 0).length = m):∀ k i,∀ c ∈ chW ch i k,(lx c 0).length = m + 1
 | 0,_,_,h=>by cases h
 | k + 1,i,c,h=>by
   simp only [chW,List.mem_append,List.mem_map] at h
   rcases h with ⟨a,ha,rfl⟩ | h
   ·show (([D.i i] :: lx a 0).length) = _
    rw [List.length_cons,hc _ a ha]
   ·exact chW_mem hc k (i + 1) c h
theorem chF_mem {n:Nat}:∀ m i,∀ c ∈ chF n m i,(lx c 0).length = m
 | 0, _,c,h=>by
   simp only [chF,List.mem_singleton] at h
   rw [h]; rfl
 | m + 1,i,c,h=>chW_mem (fun j=>chF_mem m j) _ _ c h
set_option maxRecDepth 100000
theorem bytes60:Try.prog.types[60].bytes = 32:=by kernel_rfl
set_option maxRecDepth 100000
theorem team_ok {n:Int} {r v z:List (List D)} {h:Int} {l:List (List D)} (hG:okG n r v z h) (hl:l.length ≤ 1000) (he:∀ x ∈ l,0 ≤ ix x 0 ∧ ix x 0 < v.length):okG n r (teamL v l) z h:=by
 obtain ⟨h1,h2,h3,h4,h5⟩:=hG
 refine ⟨h1,?_,h3,by unfold teamL; rw [List.length_map]; exact hl,h5⟩
 unfold vehs at h2 ⊢
 rw [allFrom_iff] at h2 ⊢
 intro k _ hk
 have hk':k < l.length:=by unfold teamL at hk; simpa using hk
 have hx:=he _ (List.getElem_mem hk')
 have e:(teamL v l).getD k [] = vehR (v.getD (ix l[k] 0).toNat []):=by
  unfold teamL
  rw [List.getD_eq_getElem?_getD,List.getElem?_map,List.getElem?_eq_getElem hk']
  rfl
 unfold vehL
 rw [e]
 exact h2 (ix l[k] 0).toNat (Nat.zero_le _) (by omega)
set_option linter.unusedVariables false
section
variable {n:Int} {r:List (List D)} {a w s s' b:Int}
end
section
variable {n:Int} {r:List (List D)} {a w s s' b:Int}
end
section
variable {n:Int} {r v:List (List D)} {x z:List D} {h t:Int}
structure PvInv (n:Int) (r v:List (List D)) (z:List D) (h t:Int) (i:Nat) (s:Pv):Prop where
 no:s.c = false → s.to = t ∧ ∀ j,j < i → covB n r (v.getD j []) z t = false
 yes:s.c = true → ∃ j,j < i ∧ ∀ u,t ≤ u → u < s.to → u < h → covB n r (v.getD j []) z u = true
 nx:∀ j,j < i → covB n r (v.getD j []) z t = false → ∀ u,t < u → u < s.nx → u < h → covB n r (v.getD j []) z u = false
end
set_option maxRecDepth 100000
set_option linter.unusedVariables false
theorem ok81 (n:Nat):FnOKW C (n + 1) 81 (mkFW s81 G81):=by
 refine fn_ofW hC (sp:=sp81) (lp:=lp81) (sw:=sw81) trivial trivial (by kernel_rfl) [] (by kernel_rfl) rfl (fun k hk=>by cases hk) fun ds r h=>?_
 unfold G81 at h
 split at h
 ·rename_i m r v a b c t
  exact (congrArg T.run (t81 m r v a b c t)).trans h
 ·cases h
theorem gapP_len (i:Int) (e:List D) (s:List (List D) × Bool):s.1.length ≤ (gapP i e s).1.length ∧ (gapP i e s).1.length ≤ s.1.length + 1:=by
 unfold gapP
 split
 ·exact ⟨Nat.le_refl _,Nat.le_succ _⟩
 ·split
  ·simp only [setTo_len]; omega
  ·simp only [List.length_append,List.length_cons,List.length_nil]; omega
theorem gapsF_len (i:Int):∀ (L:List (List D)) (s:List (List D) × Bool),s.1.length ≤ (gapsF i L s).1.length ∧ (gapsF i L s).1.length ≤ s.1.length + L.length
 | [],s=>⟨Nat.le_refl _,Nat.le_refl _⟩
 | e :: es,s=>by
   have h1:=gapsF_len i es (gapP i e s)
   have h2:=gapP_len i e s
   simp only [gapsF,List.length_cons]
   omega
theorem head96 (e:List D):y96.head e = y96.head [e.getD 0 default,e.getD 1 default,e.getD 2 default]:=by
 match e with
 | []=>rfl
 | [_]=>rfl
 | [_,_]=>rfl
 | _ :: _ :: _ :: _=>rfl
noncomputable def R53 (ds el:List D):Option (Rd × List D):=(roundRT C tab53 53 (rangeOf C.P 53 10) 0 ((headA h53_10 ds).h.length + (y96.head el).2.length) [1,3,4,8,9,10,12,14,15,16,25] h53_10 y96 ds el).run
theorem R53_eq {j:D} {n:Int} (r:List D) (e:List D) (h:j.I = n):R53 (j :: r) e = R53 (.i n :: r) [e.getD 0 default,e.getD 1 default,e.getD 2 default]:=by
 unfold R53 roundRT
 rw [headA_head r h (by decide),head96 e]
theorem fold53 (L:List (List D)):∀ (ds:List D) (rr:Ex × List D),(G53_10 L ds).run = some rr → FoldR R53 y96.give (fun a b=>headA h53_10 a = headA h53_10 b) ds L rr.1 rr.2:=by
 have hby:Try.prog.types[57].bytes = 24:=by kernel_rfl
 induction L with
 | nil=>
   intro ds rr hh
   unfold G53_10 at hh
   split at hh
   ·rename_i j v h z q i n r i' o
    obtain ⟨hp,hh⟩:=need_some hh
    rw [yes_iff] at hp
    cases hh
    refine .nil ?_
    rw [headA_head _ hp.1 (by decide)]
    rw [show headA h53_10 [.i 0,v,h,z,q,i,n,r,i',o] = headA h53_10 [.i 0,.l v.L,.i h.I,.l z.L,.i q.I,.i i.I,.i n.I,.l r.L,.i i'.I,.b o.B] from rfl,hp.2.1]
   ·rename_i j v h z q i n r m i' o g
    obtain ⟨hp,hh⟩:=need_some hh
    rw [yes_iff] at hp
    cases hh
    refine .nil ?_
    rw [headA_head _ hp.1 (by decide)]
    rw [show headA h53_10 [.i 1,v,h,z,q,i,n,r,m,i',o,g] = headA h53_10 [.i 1,.l v.L,.i h.I,.l z.L,.i q.I,.i i.I,.i n.I,.l r.L,.i m.I,.i i'.I,.b o.B,.l g.L] from rfl,hp.2.1]
    rfl
   ·cases hh
 | cons e es ih=>
   intro ds rr hh
   unfold G53_10 at hh
   split at hh
   ·rename_i j v h z q i n r i' o
    obtain ⟨hp,hh⟩:=need_some hh
    rw [yes_iff] at hp
    obtain ⟨hj,ho,hl⟩:=hp
    simp only [List.length_cons] at hl
    simp only [gapsF] at hh
    have key:∃ ds',R53 [.i 0,v,h,z,q,i,n,r,i',o] [e.getD 0 default,e.getD 1 default,e.getD 2 default] = some (.again ds',[]) ∧ (G53_10 es ds').run = some rr:=by
     rw [show R53 [.i 0,v,h,z,q,i,n,r,i',o] [e.getD 0 default,e.getD 1 default,e.getD 2 default] = _ from congrArg T.run (t53_r10_0 v h z q i n r i' o (e.getD 0 default) (e.getD 1 default) (e.getD 2 default))]
     cases hc:(e.getD 2 default).B with
     | true=>
       have hg:gapP i'.I e ([],false) = ([],false):=by
        have:bx e 2 = true:=hc
        unfold gapP
        rw [this]; rfl
       rw [hg] at hh
       exact ⟨_,rfl,(need_yes ⟨rfl,rfl,by omega⟩).trans hh⟩
     | false=>
       have hg:gapP i'.I e ([],false) = ([[.i i'.I,.i (ix e 0),.i (ix e 1)]],true):=by
        have:bx e 2 = false:=hc
        unfold gapP
        rw [this]; rfl
       rw [hg] at hh
       have hne:=(gapsF_len i'.I es ([[.i i'.I,.i (ix e 0),.i (ix e 1)]],true)).1
       rw [empty_false (Nat.lt_of_lt_of_le (by simp) hne)] at hh
       refine ⟨_,go_false rfl (go_false ho (go_need rfl (go_false rfl (go_need rfl rfl)))),(need_yes ⟨rfl,rfl,by simp only [L_l]; exact Nat.zero_lt_one,by omega,by simp only [I_i]; omega⟩).trans hh⟩
    obtain ⟨ds',k1,k2⟩:=key
    refine .again (x':=[]) (ds':=ds') ?_ (fun h=>by cases h) (ih _ _ k2)
    rw [R53_eq _ e hj]
    exact k1
   ·rename_i j v h z q i n r m i' o g
    obtain ⟨hp,hh⟩:=need_some hh
    rw [yes_iff] at hp
    obtain ⟨hj,hm,hg0,hl,hml⟩:=hp
    simp only [List.length_cons] at hl hml
    simp only [gapsF] at hh
    have hnext:∀ (x:List (List D)) (b:Bool),gapP i'.I e (g.L,o.B) = (x,b) → (G53_10 es [.i 1,.l v.L,.i h.I,.l z.L,.i q.I,.i i.I,.i n.I,.l r.L,.i x.length,.i i'.I,.b b,.l x]).run = some rr:=fun x b hx=>by
     have h1:=gapP_len i'.I e (g.L,o.B)
     rw [hx] at hh h1
     simp only at h1
     exact (need_yes ⟨rfl,rfl,by simp only [L_l]; omega,by omega,by simp only [I_i]; omega⟩).trans hh
    have key:∃ ds',R53 [.i 1,v,h,z,q,i,n,r,m,i',o,g] [e.getD 0 default,e.getD 1 default,e.getD 2 default] = some (.again ds',[]) ∧ (G53_10 es ds').run = some rr:=by
     rw [show R53 [.i 1,v,h,z,q,i,n,r,m,i',o,g] [e.getD 0 default,e.getD 1 default,e.getD 2 default] = _ from congrArg T.run (t53_r10_1 v h z q i n r m i' o g (e.getD 0 default) (e.getD 1 default) (e.getD 2 default))]
     simp only [hm,Int.toNat_natCast,upd3']
     cases hc:(e.getD 2 default).B with
     | true=>
       have hb:bx e 2 = true:=hc
       exact ⟨_,rfl,hnext g.L false (by unfold gapP; rw [hb]; rfl)⟩
     | false=>
       have hb:bx e 2 = false:=hc
       cases ho:o.B with
       | true=>
         have hw:IntKind.i64.wrap ((g.L.length:Int) - 1) = (g.L.length:Int) - 1:=wrap_pred (by omega)
         have:=hnext (setTo g.L (ix e 1)) true (by unfold gapP; rw [hb,ho]; rfl)
         rw [setTo_len] at this
         simp only [hw,toNat_pred]
         exact ⟨_,go_false rfl (go_true rfl (go_dec (by omega) (go_dec (by omega) rfl))),this⟩
       | false=>
         have:=hnext (g.L ++ [[.i i'.I,.i (ix e 0),.i (ix e 1)]]) true (by unfold gapP; rw [hb,ho]; rfl)
         simp only [List.length_append,List.length_cons,List.length_nil,Nat.zero_add] at this
         simp only [List.take_length]
         simp only [List.length_cons,List.length_nil,Nat.zero_add]
         exact ⟨_,go_false rfl (go_false rfl (go_need rfl (go_false rfl (go_dec (by rw [hby]; omega) rfl)))),this⟩
    obtain ⟨ds',k1,k2⟩:=key
    refine .again (x':=[]) (ds':=ds') ?_ (fun h=>by cases h) (ih _ _ k2)
    rw [R53_eq _ e hj]
    exact k1
   ·cases hh
theorem ok53_10 (n:Nat):CodeSim C (n + 7) 0 53 (rangeOf C.P 53 10).code none 0 (rangeS 0 [1,3,4,8,9,10,12,14,15,16,25] (rangeOf C.P 53 10).1 it53_10 h53_10 G53_10):=
 range_of0 hC (sp:=sp53) (lp:=lp53) (sw:=sw53) (rg:=rg53) (Y:=y96) (yOK_mk _ _ _) trivial ⟨ok81 (n + 6),trivial⟩ 10 0 (by exact ⟨by kernel_rfl,by kernel_rfl⟩) (by exact ⟨by kernel_rfl,by kernel_rfl⟩)
  (by kernel_rfl) (by kernel_rfl) (it:=it53_10) ⟨ok96 n,trivial⟩ fun L ds rr h=>fold53 L ds rr h
def mu53:List D → Nat
 | [_,_,_,_,q,i,_,_]=>(q.I - i.I).toNat
 | [_,_,_,_,q,i,_,_,_,_]=>(q.I - i.I).toNat
 | _=>0
theorem gapsZ_len (n:Int) (r v z:List (List D)) (h:Int):∀ (k i:Nat) (g:List (List D)),g.length ≤ (gapsZ n r v z h i k g).length
 | 0,_,g=>Nat.le_refl _
 | k + 1,i,g=>by
   simp only [gapsZ]
   exact Nat.le_trans (show g.length ≤ _ from (gapsF_len _ _ (g,false)).1) (gapsZ_len n r v z h k (i + 1) _)
theorem ok53_3 (n:Nat):LoopSim C (n + 7) 53 (loopOf C.P 53 3) (mkL l53_3 G53_3):=by
 refine loop_ofR hC (sp:=sp53) (lp:=lp53) (sw:=sw53) (rg:=rg53) trivial ⟨ok81 (n + 6),trivial⟩ 0 [] [10] (by kernel_rfl) rfl (by kernel_rfl) (by kernel_rfl) (fun k hk=>by cases hk)
  (fun k hk L hL=>by simp at hk; subst hk; cases hL; exact ok53_10 n) (by kernel_rfl) mu53 fun ds rr hh=>?_
 unfold G53_3 at hh
 split at hh
 ·rename_i j v h z q i n' r
  obtain ⟨hp,hh⟩:=need_some hh
  rw [yes_iff] at hp
  obtain ⟨hj,hG,hq,hi0,hi1⟩:=hp
  have hG':=hG
  obtain ⟨hN,hv,hz,hvl,hzl,hh0,hh1⟩:=hG'
  refine ⟨by rw [fuelC]; show (q.I - i.I).toNat < _; omega,?_⟩
  rw [roundTK_head (j:=j) (n:=0) hj (by decide),show roundTK C (mkTabR sp53 lp53 sw53 rg53) 53 (loopOf C.P 53 3) 0 l53_3 [.i 0,v,h,z,q,i,n',r] = _ from t53_3_0 v h z q i n' r]
  obtain ⟨k,hke⟩:∃ k:Nat,i.I = k:=⟨i.I.toNat,by omega⟩
  simp only [hke,hq,Int.toNat_natCast,Nat.reduceAdd,ix_def] at hh hi0 hi1 ⊢
  refine rd_if (fun hlt=>?_) fun hge=>?_
  ·have hmu:((z.L.length:Int) - ((k + 1:Nat):Int)).toNat < (q.I - i.I).toNat:=by omega
   rw [wrap_succ (by omega)]
   rw [show z.L.length - k = (z.L.length - (k + 1)) + 1 by omega] at hh
   simp only [gapsZ] at hh
   have hpl:=piece_len n'.I r.L v.L (mk3 (.i (ix (z.L.getD k []) 0)) (.i (ix (z.L.getD k []) 1)) (.i (ix (z.L.getD k []) 2))) h.I h.I.toNat 0
   have hl:=(gapsF_len (k:Int) (pieceL n'.I r.L v.L (mk3 (.i (ix (z.L.getD k []) 0)) (.i (ix (z.L.getD k []) 1)) (.i (ix (z.L.getD k []) 2))) h.I h.I.toNat 0) ([],false)).2
   simp only [List.length_nil,Nat.zero_add] at hl
   refine rd_dec (by omega) (rd_yes ⟨hN,hv,zon_of hz (by omega:k < z.L.length),hvl,hh0,hh1⟩ (rd_yes ⟨trivial,trivial,by omega⟩ (rd_ite (fun c=>?_) fun c=>?_)))
   ·rw [empty_nil c] at hh
    exact rd_again ((need_yes ⟨rfl,hG,rfl,by simp only [I_i]; omega,by simp only [I_i,L_l]; omega⟩).trans hh) hmu
   ·have hpos:0 < (gapsF (k:Int) (pieceL n'.I r.L v.L (mk3 (.i (ix (z.L.getD k []) 0)) (.i (ix (z.L.getD k []) 1)) (.i (ix (z.L.getD k []) 2))) h.I h.I.toNat 0) ([],false)).1.length:=by
     rw [List.length_pos_iff]
     intro he
     rw [he] at c
     cases c
    rw [empty_false (Nat.lt_of_lt_of_le hpos (gapsZ_len n'.I r.L v.L z.L h.I _ _ _))] at hh
    exact rd_again ((need_yes ⟨rfl,hG,rfl,by simp only [I_i,L_l]; omega,rfl,hpos,by simp only [I_i]; omega⟩).trans hh) hmu
  ·rw [show z.L.length - k = 0 by omega] at hh
   exact rd_out hh
 ·rename_i j v h z q i n' r m g
  obtain ⟨hp,hh⟩:=need_some hh
  rw [yes_iff] at hp
  obtain ⟨hj,hG,hq,hi,hm,hg0,hmb⟩:=hp
  have hG':=hG
  obtain ⟨hN,hv,hz,hvl,hzl,hh0,hh1⟩:=hG'
  refine ⟨by rw [fuelC]; show (q.I - i.I).toNat < _; omega,?_⟩
  rw [roundTK_head (j:=j) (n:=1) hj (by decide),show roundTK C (mkTabR sp53 lp53 sw53 rg53) 53 (loopOf C.P 53 3) 0 l53_3 [.i 1,v,h,z,q,i,n',r,m,g] = _ from t53_3_1 v h z q i n' r m g]
  obtain ⟨k,hke⟩:∃ k:Nat,i.I = k:=⟨i.I.toNat,by omega⟩
  rw [hm] at hmb
  simp only [hke,hq,hm,Int.toNat_natCast,Nat.reduceAdd,ix_def] at hh hi hmb ⊢
  refine rd_if (fun hlt=>?_) fun hge=>?_
  ·have hmu:((z.L.length:Int) - ((k + 1:Nat):Int)).toNat < (q.I - i.I).toNat:=by omega
   rw [wrap_succ (by omega)]
   rw [show z.L.length - k = (z.L.length - (k + 1)) + 1 by omega] at hh
   simp only [gapsZ] at hh
   have hpl:=piece_len n'.I r.L v.L (mk3 (.i (ix (z.L.getD k []) 0)) (.i (ix (z.L.getD k []) 1)) (.i (ix (z.L.getD k []) 2))) h.I h.I.toNat 0
   have hl:=gapsF_len (k:Int) (pieceL n'.I r.L v.L (mk3 (.i (ix (z.L.getD k []) 0)) (.i (ix (z.L.getD k []) 1)) (.i (ix (z.L.getD k []) 2))) h.I h.I.toNat 0) (g.L,false)
   simp only at hl
   refine rd_dec (by omega) (rd_yes ⟨hN,hv,zon_of hz (by omega:k < z.L.length),hvl,hh0,hh1⟩ (rd_yes ⟨rfl,trivial,hg0,by omega,by omega⟩ (rd_again ((need_yes ⟨rfl,hG,rfl,by simp only [I_i,L_l]; omega,rfl,by simp only [L_l]; omega,by simp only [I_i]; omega⟩).trans hh) hmu)))
  ·rw [show z.L.length - k = 0 by omega] at hh
   exact rd_out hh
 ·cases hh
theorem ok53 (n:Nat):FnOK C (n + 8) 53 (mkF s53 G53):=by
 refine fn_ofR hC (sp:=sp53) (lp:=lp53) (sw:=sw53) (rg:=rg53) trivial ⟨ok81 (n + 6),trivial⟩ (by kernel_rfl) [3] [] (by kernel_rfl) (by kernel_rfl) (by kernel_rfl) rfl (fun k hk L hL=>by
  simp at hk; subst hk; cases hL; exact ok53_3 n) (fun k hk=>by cases hk) fun ds rr hh=>?_
 unfold G53 at hh
 split at hh
 ·rename_i m r v z t
  obtain ⟨hp,hh⟩:=need_some hh
  rw [yes_iff] at hp
  refine (congrArg T.run (t53 m r v z t)).trans ?_
  rw [← hh]
  simp only [Int.toNat_zero,Nat.sub_zero,Int.toNat_natCast]
  exact go_yes ⟨trivial,hp,trivial,by omega,by omega⟩ rfl
 ·cases hh
theorem cover_parts {n:Int} {r v:List (List D)} {most:Int} {z:List (List D)} {h:Int} (hm:most ≤ 1000) (hc:coverB n r v most z h = true):okG n r v z h:=by
 unfold coverB at hc
 rw [Bool.and_eq_true,Bool.and_eq_true,Bool.and_eq_true,decide_eq_true_iff] at hc
 exact ⟨hc.1.1.1,hc.1.2,hc.2,by omega,by omega,by omega,by omega⟩
theorem ok27 (n:Nat):FnOK C (n + 9) 27 (mkF s27 G27):=by
 refine fn_ofS hC (sp:=sp27) (lp:=lp27) (sw:=sw27) ⟨ok52 (n + 2),ok53 n,trivial⟩ trivial (by kernel_rfl) [] (by kernel_rfl) rfl (fun k hk=>by cases hk) fun ds rr hh=>?_
 unfold G27 at hh
 split at hh
 ·rename_i m r v z t
  refine (congrArg T.run (t27 m r v z t)).trans ?_
  rw [← hh]
  simp only [Int.toNat_natCast]
  refine go_yes (by omega) (go_not (fun c=>by rw [c]; rfl) fun c=>?_)
  rw [c]
  exact go_yes (cover_parts (by omega) c) rfl
 ·cases hh
theorem candT_zero {v cs:List (List D)} {i:Nat}:candT v cs 0 i = [cs]:=by
 unfold candT
 simp only [chF,List.map_cons,List.map_nil]
 show [cs ++ []] = _
 rw [List.append_nil]
theorem candT_pos {v cs:List (List D)} {m i:Nat} (h:0 < m):candT v cs m i = restT v cs m i:=by
 obtain ⟨k,rfl⟩:∃ k,m = k + 1:=⟨m - 1,by omega⟩
 rfl
theorem restT_step {v cs:List (List D)} {m k:Nat} (h:k < v.length):restT v cs m k = candT v (cs ++ [[.i k]]) (m - 1) (k + 1) ++ restT v cs m (k + 1):=by
 unfold restT candT
 rw [show v.length - k = (v.length - (k + 1)) + 1 by omega]
 simp only [chW,List.map_append,List.map_map]
 congr 1
 refine List.map_congr_left fun c _=>?_
 show cs ++ ([D.i k] :: lx c 0) = _
 simp
theorem restT_end {v cs:List (List D)} {m k:Nat} (h:v.length ≤ k):restT v cs m k = []:=by
 unfold restT
 rw [show v.length - k = 0 by omega]
 rfl
theorem findT_append {n:Int} {r v z:List (List D)} {h:Int} {a b:List (List (List D))}:findT n r v z h (a ++ b) = (findT n r v z h a).or (findT n r v z h b):=List.find?_append
theorem findT_one {n:Int} {r v z:List (List D)} {h:Int} {c:List (List D)}:(findT n r v z h [c]).isSome = covT n r v z h c:=by
 unfold findT
 simp only [List.find?_cons,List.find?_nil]
 split <;> rename_i e
 ·rw [e]; rfl
 ·rw [e]; rfl
theorem fndT_one {n:Int} {r v z:List (List D)} {h:Int} {f c:List (List D)}:fndT n r v z h f [c] = c:=by
 unfold fndT findT
 simp only [List.find?_cons,List.find?_nil]
 split <;> rfl
theorem getLastD_append {α:Type} {f:α}:∀ {a b:List α},(a ++ b).getLastD f = b.getLastD (a.getLastD f)
 | a,[]=>by simp
 | a, x :: b=>by
   rw [List.getLastD_eq_getLast?,List.getLastD_eq_getLast?,List.getLast?_append]
   simp [List.getLast?_cons]
theorem fndT_some {n:Int} {r v z:List (List D)} {h:Int} {f:List (List D)} {a b:List (List (List D))} (e:(findT n r v z h a).isSome = true):fndT n r v z h f (a ++ b) = fndT n r v z h f a:=by
 obtain ⟨c,hc⟩:=Option.isSome_iff_exists.1 e
 unfold fndT
 rw [findT_append,hc]
 rfl
theorem fndT_none {n:Int} {r v z:List (List D)} {h:Int} {f:List (List D)} {a b:List (List (List D))} (e:(findT n r v z h a).isSome = false):fndT n r v z h f (a ++ b) = fndT n r v z h (fndT n r v z h f a) b:=by
 have hn:findT n r v z h a = none:=by simpa using e
 unfold fndT
 rw [findT_append,hn,getLastD_append]
 rfl
theorem msetD_pos {kk:List K} {key:List D} {d:D} {l:List (List D)}:0 < (msetD kk key d l).length:=by
 unfold msetD
 split
 ·rename_i i hi
  rw [List.length_set]
  cases l with
  | nil=>cases hi
  | cons _ _=>simp
 ·simp
theorem openF_pos:∀ (g:List (List D)) (l:List (List D)),0 < l.length → 0 < (openF l g).length
 | [],_,h=>h
 | _ :: g,_,_=>openF_pos g _ msetD_pos
theorem openF_len {g:List (List D)}:((openF [] g).length:Int) = 0 ↔ g = []:=by
 cases g with
 | nil=>exact ⟨fun _=>rfl,fun _=>rfl⟩
 | cons c g=>
   have:=openF_pos g _ (msetD_pos (kk:=[.int .i64]) (key:=[.i (ix c 0)]) (d:=.b true) (l:=[]))
   have h2:openF [] (c :: g) = openF (msetD [.int .i64] [.i (ix c 0)] (.b true) []) g:=rfl
   rw [h2]
   constructor
   ·intro h; omega
   ·intro h; cases h
theorem gapsZ_few {n:Int} {r v z:List (List D)} {h:Int} (hh:h ≤ 100000):∀ (k i:Nat) (g:List (List D)),(gapsZ n r v z h i k g).length ≤ g.length + 100000 * k
 | 0,i,g=>by simp [gapsZ]
 | k + 1,i,g=>by
   simp only [gapsZ]
   refine Nat.le_trans (gapsZ_few hh k _ _) ?_
   have h1:=(gapsF_len (i:Int) (pieceL n r v (mk3 (.i (ix (z.getD i []) 0)) (.i (ix (z.getD i []) 1)) (.i (ix (z.getD i []) 2))) h h.toNat 0) (g,false)).2
   have h2:=piece_len n r v (mk3 (.i (ix (z.getD i []) 0)) (.i (ix (z.getD i []) 1)) (.i (ix (z.getD i []) 2))) h h.toNat 0
   simp only at h1
   omega
theorem gapsA_len {n:Int} {r v z:List (List D)} {h:Int} (hG:okG n r v z h):(gapsA n r v z h).length ≤ 10000000:=by
 obtain ⟨-,-,-,-,h5,h6,h7⟩:=hG
 have:=gapsZ_few (n:=n) (r:=r) (v:=v) (z:=z) h7 z.length 0 []
 unfold gapsA
 simp only [List.length_nil] at this
 omega
theorem chos_ent {v cs:List (List D)} (h:chosOk v cs):∀ x ∈ cs,0 ≤ ix x 0 ∧ ix x 0 < v.length:=fun x hx=>by
 obtain ⟨j,hj,rfl⟩:=List.mem_iff_getElem.1 hx
 have:=h.2 j hj
 rwa [List.getD_eq_getElem?_getD,List.getElem?_eq_getElem hj] at this
theorem chos_ok {n:Int} {r v z:List (List D)} {h:Int} {cs:List (List D)} (hG:okG n r v z h) (hc:chosOk v cs):okG n r (teamL v cs) z h:=
 team_ok hG (by have:=hc.1; omega) (chos_ent hc)
theorem chos_more {v cs:List (List D)} {k:Nat} (hc:chosOk v cs) (h12:cs.length + 1 ≤ 12) (hk:k < v.length):chosOk v (cs ++ [[.i k]]):=by
 refine ⟨by simpa using h12,fun j hj=>?_⟩
 rw [List.length_append,List.length_singleton] at hj
 by_cases h:j < cs.length
 ·rw [List.getD_eq_getElem?_getD,List.getElem?_append_left h,← List.getD_eq_getElem?_getD]
  exact hc.2 j h
 ·have:j = cs.length:=by omega
  subst this
  rw [List.getD_eq_getElem?_getD,List.getElem?_append_right (Nat.le_refl _),Nat.sub_self]
  show 0 ≤ (k:Int) ∧ (k:Int) < v.length
  omega
noncomputable def leastP (n:Int) (r v z:List (List D)) (h:Int):Nat → Nat → Option (List (List D))
 | _,0=>none
 | m, k + 1=>match findT n r v z h (candT v [] m 0) with
   | some c=>some c
   | none=>leastP n r v z h (m + 1) k
theorem leastP_step {n:Int} {r v z:List (List D)} {h:Int} {m k:Nat}:leastP n r v z h m (k + 1) = match findT n r v z h (candT v [] m 0) with
    | some c=>some c
    | none=>leastP n r v z h (m + 1) k:=rfl
def incL (i n:Nat):List (List D) → Prop
 | []=>True
 | x :: l=>∃ k:Nat,x = [D.i k] ∧ i ≤ k ∧ k < n ∧ incL (k + 1) n l
theorem incL_le {n:Nat}:∀ {l:List (List D)} {i j:Nat},i ≤ j → incL j n l → incL i n l
 | [],_,_,_,_=>trivial
 | _ :: _,_,_,h,⟨k,e,h1,h2,h3⟩=>⟨k,e,by omega,h2,h3⟩
theorem chW_inc {ch:Nat → List (List D)} {n:Nat} (hc:∀ j,∀ c ∈ ch j,incL j n (lx c 0)):∀ k i,i + k ≤ n → ∀ c ∈ chW ch i k,incL i n (lx c 0)
 | 0,_,_,_,h=>by cases h
 | k + 1,i,hi,c,h=>by
   simp only [chW,List.mem_append,List.mem_map] at h
   rcases h with ⟨a,ha,rfl⟩ | h
   ·show incL i n ([D.i i] :: lx a 0)
    exact ⟨i,rfl,Nat.le_refl _,by omega,hc _ a ha⟩
   ·exact incL_le (by omega) (chW_inc hc k (i + 1) (by omega) c h)
theorem chF_inc {n:Nat}:∀ m i,∀ c ∈ chF n m i,incL i n (lx c 0)
 | 0, i,c,h=>by
   simp only [chF,List.mem_singleton] at h
   rw [h]; trivial
 | m + 1,i,c,h=>by
   by_cases hi:i ≤ n
   ·exact chW_inc (fun j=>chF_inc m j) _ _ (by omega) c h
   ·simp only [chF] at h
    rw [show n - i = 0 by omega] at h
    cases h
theorem chW_all {ch:Nat → List (List D)} {k:Nat} {l:List (List D)} {c:List D} (hc:c ∈ ch (k + 1)) (hl:lx c 0 = l):∀ d i,i ≤ k → k < i + d → ∃ c ∈ chW ch i d,lx c 0 = [D.i k] :: l
 | 0,i,h1,h2=>by omega
 | d + 1,i,h1,h2=>by
   simp only [chW,List.mem_append,List.mem_map]
   by_cases e:i = k
   ·subst e
    exact ⟨_,.inl ⟨c,hc,rfl⟩,by show [D.i i] :: lx c 0 = _; rw [hl]⟩
   ·obtain ⟨x,hx,e2⟩:=chW_all hc hl d (i + 1) (by omega) (by omega)
    exact ⟨x,.inr hx,e2⟩
theorem chF_all {n:Nat}:∀ (l:List (List D)) (i:Nat),incL i n l → ∃ c ∈ chF n l.length i,lx c 0 = l
 | [],i,_=>⟨[.l []],by simp [chF],rfl⟩
 | x :: l,i,⟨k,e,h1,h2,h3⟩=>by
   obtain ⟨c,hc,hl⟩:=chF_all l (k + 1) h3
   subst e
   exact chW_all hc hl _ _ h1 (by omega)
theorem leastP_mem {n:Int} {r v z:List (List D)} {h:Int} {c:List (List D)}:∀ (k m:Nat),leastP n r v z h m k = some c → covT n r v z h c = true ∧ incL 0 v.length c ∧ m ≤ c.length
 | 0,_,e=>by cases e
 | k + 1,m,e=>by
   rw [leastP_step] at e
   cases hq:findT n r v z h (candT v [] m 0) with
   | some d=>
     rw [hq] at e
     cases e
     have h1:=List.find?_some hq
     have h2:=List.mem_of_find?_eq_some hq
     unfold candT at h2
     rw [List.mem_map] at h2
     obtain ⟨a,ha,rfl⟩:=h2
     have h3:=chF_mem m 0 a ha
     exact ⟨h1,chF_inc m 0 a ha,by rw [List.nil_append,h3]; exact Nat.le_refl _⟩
   | none=>
     rw [hq] at e
     have:=leastP_mem k (m + 1) e
     exact ⟨this.1,this.2.1,by omega⟩
theorem leastP_le {n:Int} {r v z:List (List D)} {h:Int} {l:List (List D)} (hl:incL 0 v.length l) (hc:covT n r v z h l = true):∀ (k m:Nat),m ≤ l.length → l.length < m + k → ∃ c,leastP n r v z h m k = some c ∧ c.length ≤ l.length
 | 0,m,h1,h2=>by omega
 | k + 1, m,h1,h2=>by
   rw [leastP_step]
   cases hq:findT n r v z h (candT v [] m 0) with
   | some d=>
     refine ⟨d,rfl,?_⟩
     have h2:=List.mem_of_find?_eq_some hq
     unfold candT at h2
     rw [List.mem_map] at h2
     obtain ⟨a,ha,rfl⟩:=h2
     rw [List.nil_append,chF_mem m 0 a ha]
     exact h1
   | none=>
     by_cases e:m = l.length
     ·exfalso
      obtain ⟨c,hcm,hcl⟩:=chF_all l 0 hl
      rw [← e] at hcm
      have hm:l ∈ candT v [] m 0:=by
       unfold candT
       rw [List.mem_map]
       exact ⟨c,hcm,by rw [hcl]; rfl⟩
      have:=List.find?_eq_none.1 hq l hm
      exact this hc
     ·exact leastP_le hl hc k (m + 1) (by omega) (by omega)
def s32:SigW:=⟨[.agg [.k (.int .i64),.k (.ro [.int .i64,.int .i64,.int .i64,.ro [.int .i64,.int .i64]])],.k (.ro [.int .i64,.int .i64,.int .i64,.int .i64]),.k (.ro [.int .i64,.int .i64,.int .i64]),.k (.int .i64)],[],[(.tup [.k (.ro [.int .i64]),.k (.int .i64)],[])]⟩
def l32_8:LSig:=mkLS [5,10,11,12] [(32,[(5,.ptr 0 1 0 0),(10,.ptr 1 1 0 0),(11,.ptr 2 1 0 0),(12,.k (.int .i64))],[.box [.k (.ro [.int .i64,.int .i64,.int .i64,.int .i64])],.box [.k (.ro [.int .i64])],.box [.fn 55 [] [.ptr 0 1 0 0,.ptr 1 1 0 0,.ptr 3 2 0 0,.ptr 4 1 0 0,.ptr 5 1 0 0,.ptr 2 1 0 0]],.box [.k (.int .i64),.k (.ro [.int .i64,.int .i64,.int .i64,.ro [.int .i64,.int .i64]])],.box [.k (.ro [.int .i64,.int .i64,.int .i64])],.box [.k (.int .i64)]])] [(.ret,[8,9],[(32,[(8,.k (.ro [.int .i64])),(9,.k (.int .i64))],[])]),(.exit 0,[10],[(32,[(10,.ptr 0 1 0 0)],[.box [.k (.ro [.int .i64])]])])]
noncomputable section
def leastF (n:Int) (r v z:List (List D)) (h:Int):Option (List (List D)):=leastP n r v z h 0 (v.length + 1)
def G32 (ds:List D):T (List D):=match ds with
 | [n, r,v,z,h]=>.ite (coverB n.I r.L v.L 12 z.L h.I)
     (.ite (leastF n.I r.L v.L z.L h.I).isSome (.leaf [.l ((leastF n.I r.L v.L z.L h.I).getD []),.i 0]) (.leaf [.l [],.i 5])) (.leaf [.l [],.i 2])
 | _=>.fail
def G32_8 (ds:List D):T (Ex × List D):=match ds with
 | [s, v,_f,n,r,z,h]=>.need (yes (okG n.I r.L v.L z.L h.I ∧ v.L.length ≤ 12 ∧ 0 ≤ s.I ∧ s.I ≤ v.L.length + 1))
     (.ite (leastP n.I r.L v.L z.L h.I s.I.toNat (v.L.length + 1 - s.I.toNat)).isSome (.leaf (.exit 0,[.l ((leastP n.I r.L v.L z.L h.I s.I.toNat (v.L.length + 1 - s.I.toNat)).getD [])])) (.leaf (.ret,[.l [],.i 5])))
 | _=>.fail
end
def s10:Sig:=⟨[.agg [.k (.int .i64),.k (.ro [.int .i64,.int .i64,.int .i64,.ro [.int .i64,.int .i64]])],.k (.ro [.int .i64,.int .i64,.int .i64,.int .i64]),.k (.ro [.int .i64,.int .i64,.int .i64]),.k (.int .i64),.k (.int .i64)],[(.k .bool,[])]⟩
def l10_5:LSig:=mkLS [1,2,3,4,5,11,12] [(190,[(1,.k (.ro [.int .i64,.int .i64,.int .i64,.int .i64])),(2,.k (.ro [.int .i64,.int .i64,.int .i64])),(3,.k (.int .i64)),(4,.k (.int .i64)),(5,.ptr 0 2 0 0),(11,.nils),(12,.k (.int .i64))],[.box [.k (.int .i64),.k (.ro [.int .i64,.int .i64,.int .i64,.ro [.int .i64,.int .i64]])]]),(190,[(1,.k (.ro [.int .i64,.int .i64,.int .i64,.int .i64])),(2,.k (.ro [.int .i64,.int .i64,.int .i64])),(3,.k (.int .i64)),(4,.k (.int .i64)),(5,.ptr 0 2 0 0),(11,.sl 1 4),(12,.k (.int .i64))],[.box [.k (.int .i64),.k (.ro [.int .i64,.int .i64,.int .i64,.ro [.int .i64,.int .i64]])],.row [.int .i64,.int .i64,.int .i64,.int .i64]])] [(.exit 0,[1,2,3,5,11],[(190,[(1,.k (.ro [.int .i64,.int .i64,.int .i64,.int .i64])),(2,.k (.ro [.int .i64,.int .i64,.int .i64])),(3,.k (.int .i64)),(5,.ptr 0 2 0 0),(11,.nils)],[.box [.k (.int .i64),.k (.ro [.int .i64,.int .i64,.int .i64,.ro [.int .i64,.int .i64]])]]),(190,[(1,.k (.ro [.int .i64,.int .i64,.int .i64,.int .i64])),(2,.k (.ro [.int .i64,.int .i64,.int .i64])),(3,.k (.int .i64)),(5,.ptr 0 2 0 0),(11,.sl 1 4)],[.box [.k (.int .i64),.k (.ro [.int .i64,.int .i64,.int .i64,.ro [.int .i64,.int .i64]])],.row [.int .i64,.int .i64,.int .i64,.int .i64]])])]
def l10_17:LSig:=mkLS [1,2,3,5,11,13,15,17,18] [(190,[(1,.k (.ro [.int .i64,.int .i64,.int .i64,.int .i64])),(2,.k (.ro [.int .i64,.int .i64,.int .i64])),(3,.k (.int .i64)),(5,.ptr 0 2 0 0),(11,.k (.ro [.int .i64,.int .i64,.int .i64,.int .i64])),(13,.k (.ro [.int .i64,.int .i64,.int .i64])),(15,.k (.ro [.int .i64])),(17,.nils),(18,.k (.int .i64))],[.box [.k (.int .i64),.k (.ro [.int .i64,.int .i64,.int .i64,.ro [.int .i64,.int .i64]])]]),(190,[(1,.k (.ro [.int .i64,.int .i64,.int .i64,.int .i64])),(2,.k (.ro [.int .i64,.int .i64,.int .i64])),(3,.k (.int .i64)),(5,.ptr 0 2 0 0),(11,.k (.ro [.int .i64,.int .i64,.int .i64,.int .i64])),(13,.k (.ro [.int .i64,.int .i64,.int .i64])),(15,.k (.ro [.int .i64])),(17,.sl 1 4),(18,.k (.int .i64))],[.box [.k (.int .i64),.k (.ro [.int .i64,.int .i64,.int .i64,.ro [.int .i64,.int .i64]])],.row [.int .i64,.int .i64,.int .i64,.int .i64]])] [(.ret,[10],[(190,[(10,.k .bool)],[])]),(.exit 2,[2,3,5,11,13,15,17],[(190,[(2,.k (.ro [.int .i64,.int .i64,.int .i64])),(3,.k (.int .i64)),(5,.ptr 0 2 0 0),(11,.k (.ro [.int .i64,.int .i64,.int .i64,.int .i64])),(13,.k (.ro [.int .i64,.int .i64,.int .i64])),(15,.k (.ro [.int .i64])),(17,.nils)],[.box [.k (.int .i64),.k (.ro [.int .i64,.int .i64,.int .i64,.ro [.int .i64,.int .i64]])]]),(190,[(2,.k (.ro [.int .i64,.int .i64,.int .i64])),(3,.k (.int .i64)),(5,.ptr 0 2 0 0),(11,.k (.ro [.int .i64,.int .i64,.int .i64,.int .i64])),(13,.k (.ro [.int .i64,.int .i64,.int .i64])),(15,.k (.ro [.int .i64])),(17,.sl 1 4)],[.box [.k (.int .i64),.k (.ro [.int .i64,.int .i64,.int .i64,.ro [.int .i64,.int .i64]])],.row [.int .i64,.int .i64,.int .i64,.int .i64]])])]
noncomputable section
def bitO (o i:Int):Bool:=IntKind.i64.wrap (↑(BitVec.toNat (BitVec.ofInt (IntKind.bits IntKind.i64) (Int.fdiv o ((2:Int) ^ min (Int.toNat i) (IntKind.bits IntKind.i64))) &&& BitVec.ofInt (IntKind.bits IntKind.i64) (1:Int))):Int) == (1:Int)
def maskI (o:Int):Nat → Nat → List (List D)
 | _,0=>[]
 | i,k + 1=>if bitO o i then [.i i] :: maskI o (i + 1) k else maskI o (i + 1) k
def propT (l:List (List D)) (o:Int) (i:Nat):List (List D):=teamL l (maskI o i (l.length - i))
def cOk (l c:List (List D)):Prop:=chosOk l c ∧ ∀ j,j + 1 < c.length → ix (c.getD j []) 0 < ix (c.getD (j + 1) []) 0
def G10_5 (ds:List D):T (Ex × List D):=match ds with
 | [y, l,z,h,o,i,n,r]=>.need (yes (y.I = 0 ∧ l.L.length ≤ 12 ∧ 0 ≤ i.I ∧ i.I ≤ l.L.length))
     (.ite (propT l.L o.I i.I.toNat).isEmpty (.leaf (.exit 0,[.i 0,.l l.L,.l z.L,.i h.I,.i n.I,.l r.L]))
      (.leaf (.exit 0,[.i 1,.l l.L,.l z.L,.i h.I,.i (propT l.L o.I i.I.toNat).length,.i n.I,.l r.L,.l (propT l.L o.I i.I.toNat)])))
 | [y, l,z,h,o,s,i,n,r,w]=>.need (yes (y.I = 1 ∧ l.L.length ≤ 12 ∧ (0 ≤ i.I ∧ i.I ≤ l.L.length) ∧ s.I = w.L.length ∧ s.I ≤ i.I))
     (.leaf (.exit 0,[.i 1,.l l.L,.l z.L,.i h.I,.i (w.L ++ propT l.L o.I i.I.toNat).length,.i n.I,.l r.L,.l (w.L ++ propT l.L o.I i.I.toNat)]))
 | _=>.fail
def G10_17 (ds:List D):T (Ex × List D):=match ds with
 | [y, l,z,h,v,g,c,i,n,r]=>.need (yes (y.I = 0 ∧ cOk l.L c.L ∧ 0 ≤ i.I ∧ i.I ≤ c.L.length))
     (.ite (c.L.drop i.I.toNat).isEmpty (.leaf (.exit 2,[.i 0,.l z.L,.i h.I,.l v.L,.l g.L,.l c.L,.i n.I,.l r.L]))
      (.leaf (.exit 2,[.i 1,.l z.L,.i h.I,.l v.L,.l g.L,.l c.L,.i (teamL l.L (c.L.drop i.I.toNat)).length,.i n.I,.l r.L,.l (teamL l.L (c.L.drop i.I.toNat))])))
 | [y, l,z,h,v,g,c,s,i,n,r,w]=>.need (yes (y.I = 1 ∧ cOk l.L c.L ∧ (0 ≤ i.I ∧ i.I ≤ c.L.length) ∧ s.I = w.L.length ∧ s.I ≤ i.I))
     (.leaf (.exit 2,[.i 1,.l z.L,.i h.I,.l v.L,.l g.L,.l c.L,.i (w.L ++ teamL l.L (c.L.drop i.I.toNat)).length,.i n.I,.l r.L,.l (w.L ++ teamL l.L (c.L.drop i.I.toNat))]))
 | _=>.fail
end
noncomputable def sp10:SpL:=[(15,mkF s15 G15),(19,mkF s19 G19),(28,mkF s28 G28),(29,mkF s29 G29),(27,mkF s27 G27)]
noncomputable def lp10:LpL:=[(5,mkL l10_5 G10_5),(17,mkL l10_17 G10_17)]
noncomputable def sw10:SwL:=[(32,mkFW s32 G32)]
noncomputable def tab10:Tab:=mkTab sp10 lp10 sw10
set_option linter.unusedVariables false
set_option maxRecDepth 100000
theorem t10_5_0 (a b c d e f g:D):(roundT C tab10 10 (loopOf C.P 10 5) l10_5 [.i 0,a,b,c,d,e,f,g]).run =
 T.run (T.ite (decide (e.I < (a.L.length:Int))) (T.need (!decide (e.I < (0:Int))) (T.ite (IntKind.i64.wrap (↑(BitVec.toNat (BitVec.ofInt (IntKind.bits IntKind.i64) (Int.fdiv d.I ((2:Int) ^ min e.I.toNat (IntKind.bits IntKind.i64))) &&& BitVec.ofInt (IntKind.bits IntKind.i64) (1:Int))):Int) == (1:Int)) (T.need (decide ((0:Int) ≤ e.I ∧ e.I < (a.L.length:Int))) (T.leaf (Rd.again [D.i 1,D.l a.L,D.l b.L,D.i c.I,D.i d.I,D.i 1,D.i (IntKind.i64.wrap (e.I + (1:Int))),D.i f.I,D.l g.L,D.l [[D.i (D.I (List.getD (List.getD a.L e.I.toNat []) 0 default)),D.i (D.I (List.getD (List.getD a.L e.I.toNat []) (0 + 1) default)),D.i (D.I (List.getD (List.getD a.L e.I.toNat []) (0 + 1 + 1) default)),D.i (D.I (List.getD (List.getD a.L e.I.toNat []) (0 + 1 + 1 + 1) default))]]]))) (T.leaf (Rd.again [D.i 0,D.l a.L,D.l b.L,D.i c.I,D.i d.I,D.i (IntKind.i64.wrap (e.I + (1:Int))),D.i f.I,D.l g.L])))) (T.leaf (Rd.out (Ex.exit 0) [D.i 0,D.l a.L,D.l b.L,D.i c.I,D.i f.I,D.l g.L]))):=by kernel_rfl
theorem t10_5_1 (a b c d e f g h i:D):(roundT C tab10 10 (loopOf C.P 10 5) l10_5 [.i 1,a,b,c,d,e,f,g,h,i]).run =
 T.run (T.ite (decide (f.I < (a.L.length:Int))) (T.need (!decide (f.I < (0:Int))) (T.ite (IntKind.i64.wrap (↑(BitVec.toNat (BitVec.ofInt (IntKind.bits IntKind.i64) (Int.fdiv d.I ((2:Int) ^ min f.I.toNat (IntKind.bits IntKind.i64))) &&& BitVec.ofInt (IntKind.bits IntKind.i64) (1:Int))):Int) == (1:Int)) (T.need (decide ((0:Int) ≤ f.I ∧ f.I < (a.L.length:Int))) (T.need (decide (e.I.toNat ≤ i.L.length ∧ e.I.toNat + 1 ≤ 2 ^ 62 ∧ (e.I.toNat + 1) * Try.prog.types[60].bytes ≤ 2 ^ 47)) (T.leaf (Rd.again [D.i 1,D.l a.L,D.l b.L,D.i c.I,D.i d.I,D.i (↑(e.I.toNat + 1):Int),D.i (IntKind.i64.wrap (f.I + (1:Int))),D.i g.I,D.l h.L,D.l (List.take e.I.toNat i.L ++ List.take (List.length [[D.i (D.I (List.getD (List.getD a.L f.I.toNat []) 0 default)),D.i (D.I (List.getD (List.getD a.L f.I.toNat []) (0 + 1) default)),D.i (D.I (List.getD (List.getD a.L f.I.toNat []) (0 + 1 + 1) default)),D.i (D.I (List.getD (List.getD a.L f.I.toNat []) (0 + 1 + 1 + 1) default))]]) [[D.i (D.I (List.getD (List.getD a.L f.I.toNat []) 0 default)),D.i (D.I (List.getD (List.getD a.L f.I.toNat []) (0 + 1) default)),D.i (D.I (List.getD (List.getD a.L f.I.toNat []) (0 + 1 + 1) default)),D.i (D.I (List.getD (List.getD a.L f.I.toNat []) (0 + 1 + 1 + 1) default))]])])))) (T.leaf (Rd.again [D.i 1,D.l a.L,D.l b.L,D.i c.I,D.i d.I,D.i (e.I.toNat:Int),D.i (IntKind.i64.wrap (f.I + (1:Int))),D.i g.I,D.l h.L,D.l i.L])))) (T.leaf (Rd.out (Ex.exit 0) [D.i 1,D.l a.L,D.l b.L,D.i c.I,D.i (e.I.toNat:Int),D.i g.I,D.l h.L,D.l i.L]))):=by kernel_rfl
theorem t10_17_0 (a b c d e f g h i:D):(roundT C tab10 10 (loopOf C.P 10 17) l10_17 [.i 0,a,b,c,d,e,f,g,h,i]).run =
 T.run (T.ite (decide (g.I < (f.L.length:Int))) (T.need (decide ((0:Int) ≤ g.I ∧ g.I < (f.L.length:Int))) (T.ite (decide (D.I (List.getD (List.getD f.L g.I.toNat []) 0 default) < (0:Int))) (T.leaf (Rd.out Ex.ret [D.b false])) (T.need (decide ((0:Int) ≤ g.I ∧ g.I < (f.L.length:Int))) (T.ite (decide (D.I (List.getD (List.getD f.L g.I.toNat []) 0 default) ≥ (a.L.length:Int))) (T.leaf (Rd.out Ex.ret [D.b false])) (T.ite (decide (g.I > (0:Int))) (T.need (decide ((0:Int) ≤ g.I ∧ g.I < (f.L.length:Int))) (T.need (decide ((0:Int) ≤ IntKind.i64.wrap (g.I - (1:Int)) ∧ IntKind.i64.wrap (g.I - (1:Int)) < (f.L.length:Int))) (T.ite (decide (D.I (List.getD (List.getD f.L g.I.toNat []) 0 default) ≤ D.I (List.getD (List.getD f.L (Int.toNat (IntKind.i64.wrap (g.I - (1:Int)))) []) 0 default))) (T.leaf (Rd.out Ex.ret [D.b false])) (T.need (decide ((0:Int) ≤ g.I ∧ g.I < (f.L.length:Int))) (T.need (decide ((0:Int) ≤ D.I (List.getD (List.getD f.L g.I.toNat []) 0 default) ∧ D.I (List.getD (List.getD f.L g.I.toNat []) 0 default) < (a.L.length:Int))) (T.leaf (Rd.again [D.i 1,D.l a.L,D.l b.L,D.i c.I,D.l d.L,D.l e.L,D.l f.L,D.i 1,D.i (IntKind.i64.wrap (g.I + (1:Int))),D.i h.I,D.l i.L,D.l [[D.i (D.I (List.getD (List.getD a.L (Int.toNat (D.I (List.getD (List.getD f.L g.I.toNat []) 0 default))) []) 0 default)),D.i (D.I (List.getD (List.getD a.L (Int.toNat (D.I (List.getD (List.getD f.L g.I.toNat []) 0 default))) []) (0 + 1) default)),D.i (D.I (List.getD (List.getD a.L (Int.toNat (D.I (List.getD (List.getD f.L g.I.toNat []) 0 default))) []) (0 + 1 + 1) default)),D.i (D.I (List.getD (List.getD a.L (Int.toNat (D.I (List.getD (List.getD f.L g.I.toNat []) 0 default))) []) (0 + 1 + 1 + 1) default))]]]))))))) (T.need (decide ((0:Int) ≤ g.I ∧ g.I < (f.L.length:Int))) (T.need (decide ((0:Int) ≤ D.I (List.getD (List.getD f.L g.I.toNat []) 0 default) ∧ D.I (List.getD (List.getD f.L g.I.toNat []) 0 default) < (a.L.length:Int))) (T.leaf (Rd.again [D.i 1,D.l a.L,D.l b.L,D.i c.I,D.l d.L,D.l e.L,D.l f.L,D.i 1,D.i (IntKind.i64.wrap (g.I + (1:Int))),D.i h.I,D.l i.L,D.l [[D.i (D.I (List.getD (List.getD a.L (Int.toNat (D.I (List.getD (List.getD f.L g.I.toNat []) 0 default))) []) 0 default)),D.i (D.I (List.getD (List.getD a.L (Int.toNat (D.I (List.getD (List.getD f.L g.I.toNat []) 0 default))) []) (0 + 1) default)),D.i (D.I (List.getD (List.getD a.L (Int.toNat (D.I (List.getD (List.getD f.L g.I.toNat []) 0 default))) []) (0 + 1 + 1) default)),D.i (D.I (List.getD (List.getD a.L (Int.toNat (D.I (List.getD (List.getD f.L g.I.toNat []) 0 default))) []) (0 + 1 + 1 + 1) default))]]]))))))))) (T.leaf (Rd.out (Ex.exit 2) [D.i 0,D.l b.L,D.i c.I,D.l d.L,D.l e.L,D.l f.L,D.i h.I,D.l i.L]))):=by kernel_rfl
theorem t10_17_1 (a b c d e f g h i j k:D):(roundT C tab10 10 (loopOf C.P 10 17) l10_17 [.i 1,a,b,c,d,e,f,g,h,i,j,k]).run =
 T.run (T.ite (decide (h.I < (f.L.length:Int))) (T.need (decide ((0:Int) ≤ h.I ∧ h.I < (f.L.length:Int))) (T.ite (decide (D.I (List.getD (List.getD f.L h.I.toNat []) 0 default) < (0:Int))) (T.leaf (Rd.out Ex.ret [D.b false])) (T.need (decide ((0:Int) ≤ h.I ∧ h.I < (f.L.length:Int))) (T.ite (decide (D.I (List.getD (List.getD f.L h.I.toNat []) 0 default) ≥ (a.L.length:Int))) (T.leaf (Rd.out Ex.ret [D.b false])) (T.ite (decide (h.I > (0:Int))) (T.need (decide ((0:Int) ≤ h.I ∧ h.I < (f.L.length:Int))) (T.need (decide ((0:Int) ≤ IntKind.i64.wrap (h.I - (1:Int)) ∧ IntKind.i64.wrap (h.I - (1:Int)) < (f.L.length:Int))) (T.ite (decide (D.I (List.getD (List.getD f.L h.I.toNat []) 0 default) ≤ D.I (List.getD (List.getD f.L (Int.toNat (IntKind.i64.wrap (h.I - (1:Int)))) []) 0 default))) (T.leaf (Rd.out Ex.ret [D.b false])) (T.need (decide ((0:Int) ≤ h.I ∧ h.I < (f.L.length:Int))) (T.need (decide ((0:Int) ≤ D.I (List.getD (List.getD f.L h.I.toNat []) 0 default) ∧ D.I (List.getD (List.getD f.L h.I.toNat []) 0 default) < (a.L.length:Int))) (T.need (decide (g.I.toNat ≤ k.L.length ∧ g.I.toNat + 1 ≤ 2 ^ 62 ∧ (g.I.toNat + 1) * Try.prog.types[60].bytes ≤ 2 ^ 47)) (T.leaf (Rd.again [D.i 1,D.l a.L,D.l b.L,D.i c.I,D.l d.L,D.l e.L,D.l f.L,D.i (↑(g.I.toNat + 1):Int),D.i (IntKind.i64.wrap (h.I + (1:Int))),D.i i.I,D.l j.L,D.l (List.take g.I.toNat k.L ++ List.take (List.length [[D.i (D.I (List.getD (List.getD a.L (Int.toNat (D.I (List.getD (List.getD f.L h.I.toNat []) 0 default))) []) 0 default)),D.i (D.I (List.getD (List.getD a.L (Int.toNat (D.I (List.getD (List.getD f.L h.I.toNat []) 0 default))) []) (0 + 1) default)),D.i (D.I (List.getD (List.getD a.L (Int.toNat (D.I (List.getD (List.getD f.L h.I.toNat []) 0 default))) []) (0 + 1 + 1) default)),D.i (D.I (List.getD (List.getD a.L (Int.toNat (D.I (List.getD (List.getD f.L h.I.toNat []) 0 default))) []) (0 + 1 + 1 + 1) default))]]) [[D.i (D.I (List.getD (List.getD a.L (Int.toNat (D.I (List.getD (List.getD f.L h.I.toNat []) 0 default))) []) 0 default)),D.i (D.I (List.getD (List.getD a.L (Int.toNat (D.I (List.getD (List.getD f.L h.I.toNat []) 0 default))) []) (0 + 1) default)),D.i (D.I (List.getD (List.getD a.L (Int.toNat (D.I (List.getD (List.getD f.L h.I.toNat []) 0 default))) []) (0 + 1 + 1) default)),D.i (D.I (List.getD (List.getD a.L (Int.toNat (D.I (List.getD (List.getD f.L h.I.toNat []) 0 default))) []) (0 + 1 + 1 + 1) default))]])])))))))) (T.need (decide ((0:Int) ≤ h.I ∧ h.I < (f.L.length:Int))) (T.need (decide ((0:Int) ≤ D.I (List.getD (List.getD f.L h.I.toNat []) 0 default) ∧ D.I (List.getD (List.getD f.L h.I.toNat []) 0 default) < (a.L.length:Int))) (T.need (decide (g.I.toNat ≤ k.L.length ∧ g.I.toNat + 1 ≤ 2 ^ 62 ∧ (g.I.toNat + 1) * Try.prog.types[60].bytes ≤ 2 ^ 47)) (T.leaf (Rd.again [D.i 1,D.l a.L,D.l b.L,D.i c.I,D.l d.L,D.l e.L,D.l f.L,D.i (↑(g.I.toNat + 1):Int),D.i (IntKind.i64.wrap (h.I + (1:Int))),D.i i.I,D.l j.L,D.l (List.take g.I.toNat k.L ++ List.take (List.length [[D.i (D.I (List.getD (List.getD a.L (Int.toNat (D.I (List.getD (List.getD f.L h.I.toNat []) 0 default))) []) 0 default)),D.i (D.I (List.getD (List.getD a.L (Int.toNat (D.I (List.getD (List.getD f.L h.I.toNat []) 0 default))) []) (0 + 1) default)),D.i (D.I (List.getD (List.getD a.L (Int.toNat (D.I (List.getD (List.getD f.L h.I.toNat []) 0 default))) []) (0 + 1 + 1) default)),D.i (D.I (List.getD (List.getD a.L (Int.toNat (D.I (List.getD (List.getD f.L h.I.toNat []) 0 default))) []) (0 + 1 + 1 + 1) default))]]) [[D.i (D.I (List.getD (List.getD a.L (Int.toNat (D.I (List.getD (List.getD f.L h.I.toNat []) 0 default))) []) 0 default)),D.i (D.I (List.getD (List.getD a.L (Int.toNat (D.I (List.getD (List.getD f.L h.I.toNat []) 0 default))) []) (0 + 1) default)),D.i (D.I (List.getD (List.getD a.L (Int.toNat (D.I (List.getD (List.getD f.L h.I.toNat []) 0 default))) []) (0 + 1 + 1) default)),D.i (D.I (List.getD (List.getD a.L (Int.toNat (D.I (List.getD (List.getD f.L h.I.toNat []) 0 default))) []) (0 + 1 + 1 + 1) default))]])])))))))))) (T.leaf (Rd.out (Ex.exit 2) [D.i 1,D.l b.L,D.i c.I,D.l d.L,D.l e.L,D.l f.L,D.i (g.I.toNat:Int),D.i i.I,D.l j.L,D.l k.L]))):=by kernel_rfl
set_option linter.unusedVariables false
set_option maxRecDepth 100000
theorem t10 (a b c d e f:D):(fnT C tab10 10 s10 [a,b,c,d,e,f]).run =
 T.run (T.ite (!smallB a.I b.L) (T.leaf [D.b true]) (T.ite (decide ((c.L.length:Int) > (12:Int))) (T.leaf [D.b true]) (T.ite (decide ((d.L.length:Int) > (5:Int))) (T.leaf [D.b true]) (T.ite (!netB a.I b.L) (T.leaf [D.b true]) (T.need (yes (((1:Int) ≤ a.I ∧ a.I ≤ (200:Int)) ∧ c.L.length < big)) (T.ite (!vehs a.I c.L) (T.leaf [D.b true]) (T.need (yes (((1:Int) ≤ a.I ∧ a.I ≤ (200:Int)) ∧ d.L.length < big)) (T.ite (!(zons a.I d.L && decide (d.L.length ≤ 100))) (T.leaf [D.b true]) (T.ite (decide (e.I < (0:Int))) (T.leaf [D.b true]) (T.ite (decide (e.I > (2000:Int))) (T.leaf [D.b true]) (T.ite (decide (f.I < (0:Int))) (T.leaf [D.b true]) (T.need (yes ((↑0:Int) = (0:Int) ∧ c.L.length ≤ 12 ∧ (0:Int) ≤ (0:Int) ∧ (0:Int) ≤ (c.L.length:Int))) (T.ite (List.isEmpty (propT c.L f.I (Int.toNat (0:Int)))) (T.ite (coverB a.I b.L [] (60:Int) d.L e.I) (T.ite (List.isEmpty (gapsA a.I b.L [] d.L e.I)) (T.ite (coverB a.I b.L c.L (12:Int) d.L e.I) (T.ite (Option.isSome (leastF a.I b.L c.L d.L e.I)) (T.need (yes ((↑0:Int) = (0:Int) ∧ cOk c.L (Option.getD (leastF a.I b.L c.L d.L e.I) []) ∧ (0:Int) ≤ (0:Int) ∧ (0:Int) ≤ (↑(List.length (Option.getD (leastF a.I b.L c.L d.L e.I) [])):Int))) (T.ite (List.isEmpty (List.drop (Int.toNat (0:Int)) (Option.getD (leastF a.I b.L c.L d.L e.I) []))) (T.ite (coverB a.I b.L [] (60:Int) d.L e.I) (T.ite (List.isEmpty (gapsA a.I b.L [] d.L e.I)) (T.ite (decide ((↑(List.length ([]:List (List D))):Int) ≥ (↑(List.length (Option.getD (leastF a.I b.L c.L d.L e.I) [])):Int))) (T.leaf [D.b true]) (T.leaf [D.b false])) (T.ite ((↑(Int.toNat (↑(List.length (gapsA a.I b.L [] d.L e.I)):Int)):Int) == (0:Int)) (T.ite (decide ((↑(List.length ([]:List (List D))):Int) ≥ (↑(List.length (Option.getD (leastF a.I b.L c.L d.L e.I) [])):Int))) (T.leaf [D.b true]) (T.leaf [D.b false])) (T.leaf [D.b false]))) (T.leaf [D.b false])) (T.need (decide (Int.toNat (↑(List.length (teamL c.L (List.drop (Int.toNat (0:Int)) (Option.getD (leastF a.I b.L c.L d.L e.I) [])))):Int) ≤ List.length (teamL c.L (List.drop (Int.toNat (0:Int)) (Option.getD (leastF a.I b.L c.L d.L e.I) []))))) (T.ite (coverB a.I b.L (List.take (Int.toNat (↑(List.length (teamL c.L (List.drop (Int.toNat (0:Int)) (Option.getD (leastF a.I b.L c.L d.L e.I) [])))):Int)) (teamL c.L (List.drop (Int.toNat (0:Int)) (Option.getD (leastF a.I b.L c.L d.L e.I) [])))) (60:Int) d.L e.I) (T.ite (List.isEmpty (gapsA a.I b.L (List.take (Int.toNat (↑(List.length (teamL c.L (List.drop (Int.toNat (0:Int)) (Option.getD (leastF a.I b.L c.L d.L e.I) [])))):Int)) (teamL c.L (List.drop (Int.toNat (0:Int)) (Option.getD (leastF a.I b.L c.L d.L e.I) [])))) d.L e.I)) (T.ite (decide ((↑(List.length ([]:List (List D))):Int) ≥ (↑(List.length (Option.getD (leastF a.I b.L c.L d.L e.I) [])):Int))) (T.leaf [D.b true]) (T.leaf [D.b false])) (T.ite ((↑(Int.toNat (↑(List.length (gapsA a.I b.L (List.take (Int.toNat (↑(List.length (teamL c.L (List.drop (Int.toNat (0:Int)) (Option.getD (leastF a.I b.L c.L d.L e.I) [])))):Int)) (teamL c.L (List.drop (Int.toNat (0:Int)) (Option.getD (leastF a.I b.L c.L d.L e.I) [])))) d.L e.I)):Int)):Int) == (0:Int)) (T.ite (decide ((↑(List.length ([]:List (List D))):Int) ≥ (↑(List.length (Option.getD (leastF a.I b.L c.L d.L e.I) [])):Int))) (T.leaf [D.b true]) (T.leaf [D.b false])) (T.leaf [D.b false]))) (T.leaf [D.b false]))))) (T.leaf [D.b false])) (T.leaf [D.b false])) (T.ite (coverB a.I b.L c.L (12:Int) d.L e.I) (T.ite (Option.isSome (leastF a.I b.L c.L d.L e.I)) (T.need (decide (Int.toNat (↑(List.length (gapsA a.I b.L [] d.L e.I)):Int) ≤ List.length (gapsA a.I b.L [] d.L e.I))) (T.need (yes ((↑0:Int) = (0:Int) ∧ cOk c.L (Option.getD (leastF a.I b.L c.L d.L e.I) []) ∧ (0:Int) ≤ (0:Int) ∧ (0:Int) ≤ (↑(List.length (Option.getD (leastF a.I b.L c.L d.L e.I) [])):Int))) (T.ite (List.isEmpty (List.drop (Int.toNat (0:Int)) (Option.getD (leastF a.I b.L c.L d.L e.I) []))) (T.ite (coverB a.I b.L [] (60:Int) d.L e.I) (T.ite (List.isEmpty (gapsA a.I b.L [] d.L e.I)) (T.ite (decide ((↑(List.length (List.take (Int.toNat (↑(List.length (gapsA a.I b.L [] d.L e.I)):Int)) (gapsA a.I b.L [] d.L e.I))):Int) > (0:Int))) (T.leaf [D.b true]) (T.ite (decide ((↑(List.length ([]:List (List D))):Int) ≥ (↑(List.length (Option.getD (leastF a.I b.L c.L d.L e.I) [])):Int))) (T.leaf [D.b true]) (T.leaf [D.b false]))) (T.ite ((↑(Int.toNat (↑(List.length (gapsA a.I b.L [] d.L e.I)):Int)):Int) == (0:Int)) (T.ite (decide ((↑(List.length (List.take (Int.toNat (↑(List.length (gapsA a.I b.L [] d.L e.I)):Int)) (gapsA a.I b.L [] d.L e.I))):Int) > (0:Int))) (T.leaf [D.b true]) (T.ite (decide ((↑(List.length ([]:List (List D))):Int) ≥ (↑(List.length (Option.getD (leastF a.I b.L c.L d.L e.I) [])):Int))) (T.leaf [D.b true]) (T.leaf [D.b false]))) (T.leaf [D.b false]))) (T.leaf [D.b false])) (T.need (decide (Int.toNat (↑(List.length (teamL c.L (List.drop (Int.toNat (0:Int)) (Option.getD (leastF a.I b.L c.L d.L e.I) [])))):Int) ≤ List.length (teamL c.L (List.drop (Int.toNat (0:Int)) (Option.getD (leastF a.I b.L c.L d.L e.I) []))))) (T.ite (coverB a.I b.L (List.take (Int.toNat (↑(List.length (teamL c.L (List.drop (Int.toNat (0:Int)) (Option.getD (leastF a.I b.L c.L d.L e.I) [])))):Int)) (teamL c.L (List.drop (Int.toNat (0:Int)) (Option.getD (leastF a.I b.L c.L d.L e.I) [])))) (60:Int) d.L e.I) (T.ite (List.isEmpty (gapsA a.I b.L (List.take (Int.toNat (↑(List.length (teamL c.L (List.drop (Int.toNat (0:Int)) (Option.getD (leastF a.I b.L c.L d.L e.I) [])))):Int)) (teamL c.L (List.drop (Int.toNat (0:Int)) (Option.getD (leastF a.I b.L c.L d.L e.I) [])))) d.L e.I)) (T.ite (decide ((↑(List.length (List.take (Int.toNat (↑(List.length (gapsA a.I b.L [] d.L e.I)):Int)) (gapsA a.I b.L [] d.L e.I))):Int) > (0:Int))) (T.leaf [D.b true]) (T.ite (decide ((↑(List.length ([]:List (List D))):Int) ≥ (↑(List.length (Option.getD (leastF a.I b.L c.L d.L e.I) [])):Int))) (T.leaf [D.b true]) (T.leaf [D.b false]))) (T.ite ((↑(Int.toNat (↑(List.length (gapsA a.I b.L (List.take (Int.toNat (↑(List.length (teamL c.L (List.drop (Int.toNat (0:Int)) (Option.getD (leastF a.I b.L c.L d.L e.I) [])))):Int)) (teamL c.L (List.drop (Int.toNat (0:Int)) (Option.getD (leastF a.I b.L c.L d.L e.I) [])))) d.L e.I)):Int)):Int) == (0:Int)) (T.ite (decide ((↑(List.length (List.take (Int.toNat (↑(List.length (gapsA a.I b.L [] d.L e.I)):Int)) (gapsA a.I b.L [] d.L e.I))):Int) > (0:Int))) (T.leaf [D.b true]) (T.ite (decide ((↑(List.length ([]:List (List D))):Int) ≥ (↑(List.length (Option.getD (leastF a.I b.L c.L d.L e.I) [])):Int))) (T.leaf [D.b true]) (T.leaf [D.b false]))) (T.leaf [D.b false]))) (T.leaf [D.b false])))))) (T.need (decide (Int.toNat (↑(List.length (gapsA a.I b.L [] d.L e.I)):Int) ≤ List.length (gapsA a.I b.L [] d.L e.I))) (T.ite (decide ((↑(List.length (List.take (Int.toNat (↑(List.length (gapsA a.I b.L [] d.L e.I)):Int)) (gapsA a.I b.L [] d.L e.I))):Int) > (0:Int))) (T.leaf [D.b true]) (T.leaf [D.b false])))) (T.need (decide (Int.toNat (↑(List.length (gapsA a.I b.L [] d.L e.I)):Int) ≤ List.length (gapsA a.I b.L [] d.L e.I))) (T.leaf [D.b false])))) (T.ite (coverB a.I b.L c.L (12:Int) d.L e.I) (T.ite (Option.isSome (leastF a.I b.L c.L d.L e.I)) (T.leaf [D.b false]) (T.leaf [D.b false])) (T.leaf [D.b false]))) (T.need (decide (Int.toNat (↑(List.length (propT c.L f.I (Int.toNat (0:Int)))):Int) ≤ List.length (propT c.L f.I (Int.toNat (0:Int))))) (T.ite (coverB a.I b.L (List.take (Int.toNat (↑(List.length (propT c.L f.I (Int.toNat (0:Int)))):Int)) (propT c.L f.I (Int.toNat (0:Int)))) (60:Int) d.L e.I) (T.ite (List.isEmpty (gapsA a.I b.L (List.take (Int.toNat (↑(List.length (propT c.L f.I (Int.toNat (0:Int)))):Int)) (propT c.L f.I (Int.toNat (0:Int)))) d.L e.I)) (T.ite (coverB a.I b.L c.L (12:Int) d.L e.I) (T.ite (Option.isSome (leastF a.I b.L c.L d.L e.I)) (T.need (yes ((↑0:Int) = (0:Int) ∧ cOk c.L (Option.getD (leastF a.I b.L c.L d.L e.I) []) ∧ (0:Int) ≤ (0:Int) ∧ (0:Int) ≤ (↑(List.length (Option.getD (leastF a.I b.L c.L d.L e.I) [])):Int))) (T.ite (List.isEmpty (List.drop (Int.toNat (0:Int)) (Option.getD (leastF a.I b.L c.L d.L e.I) []))) (T.ite (coverB a.I b.L [] (60:Int) d.L e.I) (T.ite (List.isEmpty (gapsA a.I b.L [] d.L e.I)) (T.ite (decide ((↑(List.length (List.take (Int.toNat (↑(List.length (propT c.L f.I (Int.toNat (0:Int)))):Int)) (propT c.L f.I (Int.toNat (0:Int))))):Int) ≥ (↑(List.length (Option.getD (leastF a.I b.L c.L d.L e.I) [])):Int))) (T.leaf [D.b true]) (T.leaf [D.b false])) (T.ite ((↑(Int.toNat (↑(List.length (gapsA a.I b.L [] d.L e.I)):Int)):Int) == (0:Int)) (T.ite (decide ((↑(List.length (List.take (Int.toNat (↑(List.length (propT c.L f.I (Int.toNat (0:Int)))):Int)) (propT c.L f.I (Int.toNat (0:Int))))):Int) ≥ (↑(List.length (Option.getD (leastF a.I b.L c.L d.L e.I) [])):Int))) (T.leaf [D.b true]) (T.leaf [D.b false])) (T.leaf [D.b false]))) (T.leaf [D.b false])) (T.need (decide (Int.toNat (↑(List.length (teamL c.L (List.drop (Int.toNat (0:Int)) (Option.getD (leastF a.I b.L c.L d.L e.I) [])))):Int) ≤ List.length (teamL c.L (List.drop (Int.toNat (0:Int)) (Option.getD (leastF a.I b.L c.L d.L e.I) []))))) (T.ite (coverB a.I b.L (List.take (Int.toNat (↑(List.length (teamL c.L (List.drop (Int.toNat (0:Int)) (Option.getD (leastF a.I b.L c.L d.L e.I) [])))):Int)) (teamL c.L (List.drop (Int.toNat (0:Int)) (Option.getD (leastF a.I b.L c.L d.L e.I) [])))) (60:Int) d.L e.I) (T.ite (List.isEmpty (gapsA a.I b.L (List.take (Int.toNat (↑(List.length (teamL c.L (List.drop (Int.toNat (0:Int)) (Option.getD (leastF a.I b.L c.L d.L e.I) [])))):Int)) (teamL c.L (List.drop (Int.toNat (0:Int)) (Option.getD (leastF a.I b.L c.L d.L e.I) [])))) d.L e.I)) (T.ite (decide ((↑(List.length (List.take (Int.toNat (↑(List.length (propT c.L f.I (Int.toNat (0:Int)))):Int)) (propT c.L f.I (Int.toNat (0:Int))))):Int) ≥ (↑(List.length (Option.getD (leastF a.I b.L c.L d.L e.I) [])):Int))) (T.leaf [D.b true]) (T.leaf [D.b false])) (T.ite ((↑(Int.toNat (↑(List.length (gapsA a.I b.L (List.take (Int.toNat (↑(List.length (teamL c.L (List.drop (Int.toNat (0:Int)) (Option.getD (leastF a.I b.L c.L d.L e.I) [])))):Int)) (teamL c.L (List.drop (Int.toNat (0:Int)) (Option.getD (leastF a.I b.L c.L d.L e.I) [])))) d.L e.I)):Int)):Int) == (0:Int)) (T.ite (decide ((↑(List.length (List.take (Int.toNat (↑(List.length (propT c.L f.I (Int.toNat (0:Int)))):Int)) (propT c.L f.I (Int.toNat (0:Int))))):Int) ≥ (↑(List.length (Option.getD (leastF a.I b.L c.L d.L e.I) [])):Int))) (T.leaf [D.b true]) (T.leaf [D.b false])) (T.leaf [D.b false]))) (T.leaf [D.b false]))))) (T.leaf [D.b false])) (T.leaf [D.b false])) (T.ite (coverB a.I b.L c.L (12:Int) d.L e.I) (T.ite (Option.isSome (leastF a.I b.L c.L d.L e.I)) (T.need (decide (Int.toNat (↑(List.length (gapsA a.I b.L (List.take (Int.toNat (↑(List.length (propT c.L f.I (Int.toNat (0:Int)))):Int)) (propT c.L f.I (Int.toNat (0:Int)))) d.L e.I)):Int) ≤ List.length (gapsA a.I b.L (List.take (Int.toNat (↑(List.length (propT c.L f.I (Int.toNat (0:Int)))):Int)) (propT c.L f.I (Int.toNat (0:Int)))) d.L e.I))) (T.need (yes ((↑0:Int) = (0:Int) ∧ cOk c.L (Option.getD (leastF a.I b.L c.L d.L e.I) []) ∧ (0:Int) ≤ (0:Int) ∧ (0:Int) ≤ (↑(List.length (Option.getD (leastF a.I b.L c.L d.L e.I) [])):Int))) (T.ite (List.isEmpty (List.drop (Int.toNat (0:Int)) (Option.getD (leastF a.I b.L c.L d.L e.I) []))) (T.ite (coverB a.I b.L [] (60:Int) d.L e.I) (T.ite (List.isEmpty (gapsA a.I b.L [] d.L e.I)) (T.ite (decide ((↑(List.length (List.take (Int.toNat (↑(List.length (gapsA a.I b.L (List.take (Int.toNat (↑(List.length (propT c.L f.I (Int.toNat (0:Int)))):Int)) (propT c.L f.I (Int.toNat (0:Int)))) d.L e.I)):Int)) (gapsA a.I b.L (List.take (Int.toNat (↑(List.length (propT c.L f.I (Int.toNat (0:Int)))):Int)) (propT c.L f.I (Int.toNat (0:Int)))) d.L e.I))):Int) > (0:Int))) (T.leaf [D.b true]) (T.ite (decide ((↑(List.length (List.take (Int.toNat (↑(List.length (propT c.L f.I (Int.toNat (0:Int)))):Int)) (propT c.L f.I (Int.toNat (0:Int))))):Int) ≥ (↑(List.length (Option.getD (leastF a.I b.L c.L d.L e.I) [])):Int))) (T.leaf [D.b true]) (T.leaf [D.b false]))) (T.ite ((↑(Int.toNat (↑(List.length (gapsA a.I b.L [] d.L e.I)):Int)):Int) == (0:Int)) (T.ite (decide ((↑(List.length (List.take (Int.toNat (↑(List.length (gapsA a.I b.L (List.take (Int.toNat (↑(List.length (propT c.L f.I (Int.toNat (0:Int)))):Int)) (propT c.L f.I (Int.toNat (0:Int)))) d.L e.I)):Int)) (gapsA a.I b.L (List.take (Int.toNat (↑(List.length (propT c.L f.I (Int.toNat (0:Int)))):Int)) (propT c.L f.I (Int.toNat (0:Int)))) d.L e.I))):Int) > (0:Int))) (T.leaf [D.b true]) (T.ite (decide ((↑(List.length (List.take (Int.toNat (↑(List.length (propT c.L f.I (Int.toNat (0:Int)))):Int)) (propT c.L f.I (Int.toNat (0:Int))))):Int) ≥ (↑(List.length (Option.getD (leastF a.I b.L c.L d.L e.I) [])):Int))) (T.leaf [D.b true]) (T.leaf [D.b false]))) (T.leaf [D.b false]))) (T.leaf [D.b false])) (T.need (decide (Int.toNat (↑(List.length (teamL c.L (List.drop (Int.toNat (0:Int)) (Option.getD (leastF a.I b.L c.L d.L e.I) [])))):Int) ≤ List.length (teamL c.L (List.drop (Int.toNat (0:Int)) (Option.getD (leastF a.I b.L c.L d.L e.I) []))))) (T.ite (coverB a.I b.L (List.take (Int.toNat (↑(List.length (teamL c.L (List.drop (Int.toNat (0:Int)) (Option.getD (leastF a.I b.L c.L d.L e.I) [])))):Int)) (teamL c.L (List.drop (Int.toNat (0:Int)) (Option.getD (leastF a.I b.L c.L d.L e.I) [])))) (60:Int) d.L e.I) (T.ite (List.isEmpty (gapsA a.I b.L (List.take (Int.toNat (↑(List.length (teamL c.L (List.drop (Int.toNat (0:Int)) (Option.getD (leastF a.I b.L c.L d.L e.I) [])))):Int)) (teamL c.L (List.drop (Int.toNat (0:Int)) (Option.getD (leastF a.I b.L c.L d.L e.I) [])))) d.L e.I)) (T.ite (decide ((↑(List.length (List.take (Int.toNat (↑(List.length (gapsA a.I b.L (List.take (Int.toNat (↑(List.length (propT c.L f.I (Int.toNat (0:Int)))):Int)) (propT c.L f.I (Int.toNat (0:Int)))) d.L e.I)):Int)) (gapsA a.I b.L (List.take (Int.toNat (↑(List.length (propT c.L f.I (Int.toNat (0:Int)))):Int)) (propT c.L f.I (Int.toNat (0:Int)))) d.L e.I))):Int) > (0:Int))) (T.leaf [D.b true]) (T.ite (decide ((↑(List.length (List.take (Int.toNat (↑(List.length (propT c.L f.I (Int.toNat (0:Int)))):Int)) (propT c.L f.I (Int.toNat (0:Int))))):Int) ≥ (↑(List.length (Option.getD (leastF a.I b.L c.L d.L e.I) [])):Int))) (T.leaf [D.b true]) (T.leaf [D.b false]))) (T.ite ((↑(Int.toNat (↑(List.length (gapsA a.I b.L (List.take (Int.toNat (↑(List.length (teamL c.L (List.drop (Int.toNat (0:Int)) (Option.getD (leastF a.I b.L c.L d.L e.I) [])))):Int)) (teamL c.L (List.drop (Int.toNat (0:Int)) (Option.getD (leastF a.I b.L c.L d.L e.I) [])))) d.L e.I)):Int)):Int) == (0:Int)) (T.ite (decide ((↑(List.length (List.take (Int.toNat (↑(List.length (gapsA a.I b.L (List.take (Int.toNat (↑(List.length (propT c.L f.I (Int.toNat (0:Int)))):Int)) (propT c.L f.I (Int.toNat (0:Int)))) d.L e.I)):Int)) (gapsA a.I b.L (List.take (Int.toNat (↑(List.length (propT c.L f.I (Int.toNat (0:Int)))):Int)) (propT c.L f.I (Int.toNat (0:Int)))) d.L e.I))):Int) > (0:Int))) (T.leaf [D.b true]) (T.ite (decide ((↑(List.length (List.take (Int.toNat (↑(List.length (propT c.L f.I (Int.toNat (0:Int)))):Int)) (propT c.L f.I (Int.toNat (0:Int))))):Int) ≥ (↑(List.length (Option.getD (leastF a.I b.L c.L d.L e.I) [])):Int))) (T.leaf [D.b true]) (T.leaf [D.b false]))) (T.leaf [D.b false]))) (T.leaf [D.b false])))))) (T.need (decide (Int.toNat (↑(List.length (gapsA a.I b.L (List.take (Int.toNat (↑(List.length (propT c.L f.I (Int.toNat (0:Int)))):Int)) (propT c.L f.I (Int.toNat (0:Int)))) d.L e.I)):Int) ≤ List.length (gapsA a.I b.L (List.take (Int.toNat (↑(List.length (propT c.L f.I (Int.toNat (0:Int)))):Int)) (propT c.L f.I (Int.toNat (0:Int)))) d.L e.I))) (T.ite (decide ((↑(List.length (List.take (Int.toNat (↑(List.length (gapsA a.I b.L (List.take (Int.toNat (↑(List.length (propT c.L f.I (Int.toNat (0:Int)))):Int)) (propT c.L f.I (Int.toNat (0:Int)))) d.L e.I)):Int)) (gapsA a.I b.L (List.take (Int.toNat (↑(List.length (propT c.L f.I (Int.toNat (0:Int)))):Int)) (propT c.L f.I (Int.toNat (0:Int)))) d.L e.I))):Int) > (0:Int))) (T.leaf [D.b true]) (T.leaf [D.b false])))) (T.need (decide (Int.toNat (↑(List.length (gapsA a.I b.L (List.take (Int.toNat (↑(List.length (propT c.L f.I (Int.toNat (0:Int)))):Int)) (propT c.L f.I (Int.toNat (0:Int)))) d.L e.I)):Int) ≤ List.length (gapsA a.I b.L (List.take (Int.toNat (↑(List.length (propT c.L f.I (Int.toNat (0:Int)))):Int)) (propT c.L f.I (Int.toNat (0:Int)))) d.L e.I))) (T.leaf [D.b false])))) (T.ite (coverB a.I b.L c.L (12:Int) d.L e.I) (T.ite (Option.isSome (leastF a.I b.L c.L d.L e.I)) (T.leaf [D.b false]) (T.leaf [D.b false])) (T.leaf [D.b false]))))))))))))))))):=by kernel_rfl
noncomputable def sp32:SpL:=[(52,mkF s52 G52)]
noncomputable def lp32:LpL:=[(8,mkL l32_8 G32_8)]
noncomputable def sw32:SwL:=[(55,mkFW s55 (G55 13))]
noncomputable def tab32:Tab:=mkTab sp32 lp32 sw32
set_option linter.unusedVariables false
set_option maxRecDepth 100000
theorem t32 (a b c d e:D):(fnTW C tab32 32 s32 [a,b,c,d,e]).run =
 T.run (T.need (yes ((12:Int) ≤ (1000:Int))) (T.ite (!coverB a.I b.L c.L (12:Int) d.L e.I) (T.leaf [D.l [],D.i 2]) (T.need (yes (okG a.I b.L c.L d.L e.I ∧ c.L.length ≤ 12 ∧ (0:Int) ≤ (0:Int) ∧ (0:Int) ≤ (c.L.length:Int) + (1:Int))) (T.ite (Option.isSome (leastP a.I b.L c.L d.L e.I (Int.toNat (0:Int)) (c.L.length + 1 - Int.toNat (0:Int)))) (T.leaf [D.l (Option.getD (leastP a.I b.L c.L d.L e.I (Int.toNat (0:Int)) (c.L.length + 1 - Int.toNat (0:Int))) []),D.i 0]) (T.leaf [D.l [],D.i 5]))))):=by kernel_rfl
theorem t32_8 (a b c d e f g:D):(roundT C tab32 32 (loopOf C.P 32 8) l32_8 [a,b,c,d,e,f,g]).run =
 T.run (T.ite (decide (a.I > (b.L.length:Int))) (T.leaf (Rd.out Ex.ret [D.l [],D.i 5])) (T.need (yes (choP 13 d.I e.L b.L f.L g.I [] (0:Int) a.I)) (T.ite (Option.isSome (findT d.I e.L b.L f.L g.I (candT b.L [] a.I.toNat (Int.toNat (0:Int))))) (T.leaf (Rd.out (Ex.exit 0) [D.l (fndT d.I e.L b.L f.L g.I c.L (candT b.L [] a.I.toNat (Int.toNat (0:Int))))])) (T.leaf (Rd.again [D.i (IntKind.i64.wrap (a.I + (1:Int))),D.l b.L,D.l (fndT d.I e.L b.L f.L g.I c.L (candT b.L [] a.I.toNat (Int.toNat (0:Int)))),D.i d.I,D.l e.L,D.l f.L,D.i g.I]))))):=by kernel_rfl
noncomputable def sp56:SpL:=[]
noncomputable def lp56:LpL:=[]
noncomputable def sw56:SwL:=[]
noncomputable def tab56:Tab:=mkTab sp56 lp56 sw56
noncomputable def sp1055:SpL:=[(53,mkF s53 G53),(56,mkF s56 Gcl)]
noncomputable def lp1055 (q:Nat):LpL:=[(4,mkLK 7 l1055_4 (G55_4 q)),(11,mkLK 7 l1055_11 (G55_11 q)),(17,mkLK 7 l1055_17 (G55_17 q))]
noncomputable def sw1055 (q:Nat):SwL:=[(55,mkFW s1055 (G1055 q))]
noncomputable def tab1055 (q:Nat):Tab:=mkTab sp1055 (lp1055 q) (sw1055 q)
noncomputable def sp55:SpL:=[(53,mkF s53 G53),(56,mkF s56 Gcl)]
noncomputable def lp55 (q:Nat):LpL:=[(4,mkLK 6 l55_4 (G55_4 q)),(11,mkLK 6 l55_11 (G55_11 q)),(17,mkLK 6 l55_17 (G55_17 q))]
noncomputable def sw55 (q:Nat):SwL:=[(55,mkFW s1055 (G1055 q))]
noncomputable def tab55 (q:Nat):Tab:=mkTab sp55 (lp55 q) (sw55 q)
set_option linter.unusedVariables false
set_option maxRecDepth 100000
theorem t56 (a:D):(fnT C tab56 56 s56 [a]).run =
 T.run (T.need (!List.isEmpty a.L) (T.ite (List.isEmpty a.L) (T.leaf [D.i 1]) (T.need (decide (a.L.length ≤ 2 ^ 62 ∧ a.L.length * Try.prog.types[3].bytes ≤ 2 ^ 47)) (T.leaf [D.i 0,D.i (a.L.length:Int),D.l a.L])))):=by kernel_rfl
theorem t1055 (q:Nat) (a b c d e f g h i j:D):(fnTW C (tab1055 q) 55 s1055 [a,b,c,d,e,f,g,h,i,j]).run =
 T.run (T.need (decide (a.I.toNat ≤ d.L.length)) (T.ite (c.I == (0:Int)) (T.need (yes ((↑0:Int) = (0:Int) ∧ List.take a.I.toNat d.L = List.take a.I.toNat d.L ∧ (↑(List.length (List.take a.I.toNat d.L)):Int) = (↑(List.length (List.take a.I.toNat d.L)):Int) ∧ chosOk e.L (List.take a.I.toNat d.L) ∧ (0:Int) ≤ (0:Int) ∧ (0:Int) ≤ (↑(List.length (List.take a.I.toNat d.L)):Int))) (T.ite (List.isEmpty (List.drop (Int.toNat (0:Int)) (List.take a.I.toNat d.L))) (T.need (yes (okG g.I h.L [] i.L j.I)) (T.ite (List.isEmpty (gapsA g.I h.L [] i.L j.I)) (T.need (yes ((↑0:Int) = (0:Int) ∧ (↑0:Int) ≤ (0:Int))) (T.leaf [D.b true,D.l e.L,D.l (List.take a.I.toNat d.L),D.i g.I,D.l h.L,D.l i.L,D.i j.I])) (T.need (yes ((↑(0 + 1):Int) = (1:Int) ∧ (↑(Int.toNat (↑(List.length (gapsA g.I h.L [] i.L j.I)):Int)):Int) = (↑(List.length (gapsA g.I h.L [] i.L j.I)):Int) ∧ (↑(Int.toNat (↑(List.length (gapsA g.I h.L [] i.L j.I)):Int)):Int) = (↑(Int.toNat (↑(List.length (gapsA g.I h.L [] i.L j.I)):Int)):Int) ∧ (↑(Int.toNat (↑(List.length (gapsA g.I h.L [] i.L j.I)):Int)):Int) ≤ (1000000000:Int) ∧ (0:Int) ≤ (0:Int) ∧ (0:Int) ≤ (↑(Int.toNat (↑(List.length (gapsA g.I h.L [] i.L j.I)):Int)):Int))) (T.leaf [D.b ((↑(List.length (openF [] (List.drop (Int.toNat (0:Int)) (gapsA g.I h.L [] i.L j.I)))):Int) == (0:Int)),D.l e.L,D.l (List.take a.I.toNat d.L),D.i g.I,D.l h.L,D.l i.L,D.i j.I])))) (T.need (decide (Int.toNat (↑(List.length (teamL e.L (List.drop (Int.toNat (0:Int)) (List.take a.I.toNat d.L)))):Int) ≤ List.length (teamL e.L (List.drop (Int.toNat (0:Int)) (List.take a.I.toNat d.L))))) (T.need (yes (okG g.I h.L (List.take (Int.toNat (↑(List.length (teamL e.L (List.drop (Int.toNat (0:Int)) (List.take a.I.toNat d.L)))):Int)) (teamL e.L (List.drop (Int.toNat (0:Int)) (List.take a.I.toNat d.L)))) i.L j.I)) (T.ite (List.isEmpty (gapsA g.I h.L (List.take (Int.toNat (↑(List.length (teamL e.L (List.drop (Int.toNat (0:Int)) (List.take a.I.toNat d.L)))):Int)) (teamL e.L (List.drop (Int.toNat (0:Int)) (List.take a.I.toNat d.L)))) i.L j.I)) (T.need (yes ((↑0:Int) = (0:Int) ∧ (↑0:Int) ≤ (0:Int))) (T.leaf [D.b true,D.l e.L,D.l (List.take a.I.toNat d.L),D.i g.I,D.l h.L,D.l i.L,D.i j.I])) (T.need (yes ((↑(0 + 1):Int) = (1:Int) ∧ (↑(Int.toNat (↑(List.length (gapsA g.I h.L (List.take (Int.toNat (↑(List.length (teamL e.L (List.drop (Int.toNat (0:Int)) (List.take a.I.toNat d.L)))):Int)) (teamL e.L (List.drop (Int.toNat (0:Int)) (List.take a.I.toNat d.L)))) i.L j.I)):Int)):Int) = (↑(List.length (gapsA g.I h.L (List.take (Int.toNat (↑(List.length (teamL e.L (List.drop (Int.toNat (0:Int)) (List.take a.I.toNat d.L)))):Int)) (teamL e.L (List.drop (Int.toNat (0:Int)) (List.take a.I.toNat d.L)))) i.L j.I)):Int) ∧ (↑(Int.toNat (↑(List.length (gapsA g.I h.L (List.take (Int.toNat (↑(List.length (teamL e.L (List.drop (Int.toNat (0:Int)) (List.take a.I.toNat d.L)))):Int)) (teamL e.L (List.drop (Int.toNat (0:Int)) (List.take a.I.toNat d.L)))) i.L j.I)):Int)):Int) = (↑(Int.toNat (↑(List.length (gapsA g.I h.L (List.take (Int.toNat (↑(List.length (teamL e.L (List.drop (Int.toNat (0:Int)) (List.take a.I.toNat d.L)))):Int)) (teamL e.L (List.drop (Int.toNat (0:Int)) (List.take a.I.toNat d.L)))) i.L j.I)):Int)):Int) ∧ (↑(Int.toNat (↑(List.length (gapsA g.I h.L (List.take (Int.toNat (↑(List.length (teamL e.L (List.drop (Int.toNat (0:Int)) (List.take a.I.toNat d.L)))):Int)) (teamL e.L (List.drop (Int.toNat (0:Int)) (List.take a.I.toNat d.L)))) i.L j.I)):Int)):Int) ≤ (1000000000:Int) ∧ (0:Int) ≤ (0:Int) ∧ (0:Int) ≤ (↑(Int.toNat (↑(List.length (gapsA g.I h.L (List.take (Int.toNat (↑(List.length (teamL e.L (List.drop (Int.toNat (0:Int)) (List.take a.I.toNat d.L)))):Int)) (teamL e.L (List.drop (Int.toNat (0:Int)) (List.take a.I.toNat d.L)))) i.L j.I)):Int)):Int))) (T.leaf [D.b ((↑(List.length (openF [] (List.drop (Int.toNat (0:Int)) (gapsA g.I h.L (List.take (Int.toNat (↑(List.length (teamL e.L (List.drop (Int.toNat (0:Int)) (List.take a.I.toNat d.L)))):Int)) (teamL e.L (List.drop (Int.toNat (0:Int)) (List.take a.I.toNat d.L)))) i.L j.I)))):Int) == (0:Int)),D.l e.L,D.l (List.take a.I.toNat d.L),D.i g.I,D.l h.L,D.l i.L,D.i j.I]))))))) (T.need (yes (choP (q + 1) g.I h.L e.L i.L j.I (List.take a.I.toNat d.L) b.I c.I ∧ (1:Int) ≤ c.I)) (T.ite (Option.isSome (findT g.I h.L e.L i.L j.I (restT e.L (List.take a.I.toNat d.L) c.I.toNat b.I.toNat))) (T.leaf [D.b true,D.l e.L,D.l (fndT g.I h.L e.L i.L j.I f.L (restT e.L (List.take a.I.toNat d.L) c.I.toNat b.I.toNat)),D.i g.I,D.l h.L,D.l i.L,D.i j.I]) (T.leaf [D.b false,D.l e.L,D.l (fndT g.I h.L e.L i.L j.I f.L (restT e.L (List.take a.I.toNat d.L) c.I.toNat b.I.toNat)),D.i g.I,D.l h.L,D.l i.L,D.i j.I]))))):=by kernel_rfl
theorem t1055_4_0 (q:Nat) (a b c d e f g h i j:D):(roundTK C (tab1055 q) 55 (loopOf C.P 55 4) 7 l1055_4 [.i 0,a,b,c,d,e,f,g,h,i,j]).run =
 T.run (T.ite (decide (d.I < c.I)) (T.need (decide ((0:Int) ≤ d.I ∧ d.I < (b.L.length:Int))) (T.need (decide ((0:Int) ≤ D.I (List.getD (List.getD b.L d.I.toNat []) 0 default) ∧ D.I (List.getD (List.getD b.L d.I.toNat []) 0 default) < (e.L.length:Int))) (T.leaf (Rd.again [D.i 1,D.l a.L,D.i 1,D.l b.L,D.i c.I,D.i (IntKind.i64.wrap (d.I + (1:Int))),D.l e.L,D.l f.L,D.i g.I,D.l h.L,D.l i.L,D.i j.I,D.l [[D.i (D.I (List.getD (List.getD e.L (Int.toNat (D.I (List.getD (List.getD b.L d.I.toNat []) 0 default))) []) 0 default)),D.i (D.I (List.getD (List.getD e.L (Int.toNat (D.I (List.getD (List.getD b.L d.I.toNat []) 0 default))) []) (0 + 1) default)),D.i (D.I (List.getD (List.getD e.L (Int.toNat (D.I (List.getD (List.getD b.L d.I.toNat []) 0 default))) []) (0 + 1 + 1) default)),D.i (D.I (List.getD (List.getD e.L (Int.toNat (D.I (List.getD (List.getD b.L d.I.toNat []) 0 default))) []) (0 + 1 + 1 + 1) default))]]])))) (T.leaf (Rd.out (Ex.exit 0) [D.i 0,D.l a.L,D.l e.L,D.l f.L,D.i g.I,D.l h.L,D.l i.L,D.i j.I]))):=by kernel_rfl
theorem t1055_4_1 (q:Nat) (a b c d e f g h i j k l:D):(roundTK C (tab1055 q) 55 (loopOf C.P 55 4) 7 l1055_4 [.i 1,a,b,c,d,e,f,g,h,i,j,k,l]).run =
 T.run (T.ite (decide (e.I < d.I)) (T.need (decide ((0:Int) ≤ e.I ∧ e.I < (c.L.length:Int))) (T.need (decide ((0:Int) ≤ D.I (List.getD (List.getD c.L e.I.toNat []) 0 default) ∧ D.I (List.getD (List.getD c.L e.I.toNat []) 0 default) < (f.L.length:Int))) (T.need (decide (b.I.toNat ≤ l.L.length ∧ b.I.toNat + 1 ≤ 2 ^ 62 ∧ (b.I.toNat + 1) * Try.prog.types[60].bytes ≤ 2 ^ 47)) (T.leaf (Rd.again [D.i 1,D.l a.L,D.i (↑(b.I.toNat + 1):Int),D.l c.L,D.i d.I,D.i (IntKind.i64.wrap (e.I + (1:Int))),D.l f.L,D.l g.L,D.i h.I,D.l i.L,D.l j.L,D.i k.I,D.l (List.take b.I.toNat l.L ++ List.take (List.length [[D.i (D.I (List.getD (List.getD f.L (Int.toNat (D.I (List.getD (List.getD c.L e.I.toNat []) 0 default))) []) 0 default)),D.i (D.I (List.getD (List.getD f.L (Int.toNat (D.I (List.getD (List.getD c.L e.I.toNat []) 0 default))) []) (0 + 1) default)),D.i (D.I (List.getD (List.getD f.L (Int.toNat (D.I (List.getD (List.getD c.L e.I.toNat []) 0 default))) []) (0 + 1 + 1) default)),D.i (D.I (List.getD (List.getD f.L (Int.toNat (D.I (List.getD (List.getD c.L e.I.toNat []) 0 default))) []) (0 + 1 + 1 + 1) default))]]) [[D.i (D.I (List.getD (List.getD f.L (Int.toNat (D.I (List.getD (List.getD c.L e.I.toNat []) 0 default))) []) 0 default)),D.i (D.I (List.getD (List.getD f.L (Int.toNat (D.I (List.getD (List.getD c.L e.I.toNat []) 0 default))) []) (0 + 1) default)),D.i (D.I (List.getD (List.getD f.L (Int.toNat (D.I (List.getD (List.getD c.L e.I.toNat []) 0 default))) []) (0 + 1 + 1) default)),D.i (D.I (List.getD (List.getD f.L (Int.toNat (D.I (List.getD (List.getD c.L e.I.toNat []) 0 default))) []) (0 + 1 + 1 + 1) default))]])]))))) (T.leaf (Rd.out (Ex.exit 0) [D.i 1,D.l a.L,D.i (b.I.toNat:Int),D.l f.L,D.l g.L,D.i h.I,D.l i.L,D.l j.L,D.i k.I,D.l l.L]))):=by kernel_rfl
theorem t1055_11_0 (q:Nat) (a b c d e f g h i:D):(roundTK C (tab1055 q) 55 (loopOf C.P 55 11) 7 l1055_11 [.i 0,a,b,c,d,e,f,g,h,i]).run =
 T.run (T.ite (decide (b.I < a.I)) T.fail (T.leaf (Rd.out (Ex.exit 2) [D.l c.L,D.l d.L,D.i e.I,D.l f.L,D.l g.L,D.i h.I,D.l i.L]))):=by kernel_rfl
theorem t1055_11_1 (q:Nat) (a b c d e f g h i j k:D):(roundTK C (tab1055 q) 55 (loopOf C.P 55 11) 7 l1055_11 [.i 1,a,b,c,d,e,f,g,h,i,j,k]).run =
 T.run (T.ite (decide (c.I < b.I)) (T.need (decide ((0:Int) ≤ c.I ∧ c.I < (a.I.toNat:Int))) (T.need (decide (c.I.toNat < k.L.length)) (T.leaf (Rd.again [D.i 1,D.i (a.I.toNat:Int),D.i b.I,D.i (IntKind.i64.wrap (c.I + (1:Int))),D.l d.L,D.l e.L,D.i f.I,D.l g.L,D.l h.L,D.i i.I,D.l (msetD [K.int IntKind.i64] [D.i (D.I (List.getD (List.getD k.L c.I.toNat []) 0 default))] (D.b true) j.L),D.l k.L])))) (T.leaf (Rd.out (Ex.exit 2) [D.l d.L,D.l e.L,D.i f.I,D.l g.L,D.l h.L,D.i i.I,D.l j.L]))):=by kernel_rfl
theorem t1055_17 (q:Nat) (a b c d e f g h i:D):(roundTK C (tab1055 q) 55 (loopOf C.P 55 17) 7 l1055_17 [a,b,c,d,e,f,g,h,i]).run =
 T.run (T.ite (decide (c.I < (d.L.length:Int))) (T.need (yes (a.L.length ≤ 1073741824)) (T.ite (List.isEmpty a.L) (T.need (yes ((↑1:Int) = (↑(List.length (List.take (List.length [[D.i c.I]]) [[D.i c.I]])):Int) ∧ choP q f.I g.L d.L h.L i.I (List.take (List.length [[D.i c.I]]) [[D.i c.I]]) (IntKind.i64.wrap (c.I + (1:Int))) (IntKind.i64.wrap (b.I - (1:Int))))) (T.ite (Option.isSome (findT f.I g.L d.L h.L i.I (candT d.L (List.take (List.length [[D.i c.I]]) [[D.i c.I]]) (Int.toNat (IntKind.i64.wrap (b.I - (1:Int)))) (Int.toNat (IntKind.i64.wrap (c.I + (1:Int))))))) (T.leaf (Rd.out Ex.ret [D.b true,D.l d.L,D.l (fndT f.I g.L d.L h.L i.I e.L (candT d.L (List.take (List.length [[D.i c.I]]) [[D.i c.I]]) (Int.toNat (IntKind.i64.wrap (b.I - (1:Int)))) (Int.toNat (IntKind.i64.wrap (c.I + (1:Int)))))),D.i f.I,D.l g.L,D.l h.L,D.i i.I])) (T.leaf (Rd.again [D.l a.L,D.i b.I,D.i (IntKind.i64.wrap (c.I + (1:Int))),D.l d.L,D.l (fndT f.I g.L d.L h.L i.I e.L (candT d.L (List.take (List.length [[D.i c.I]]) [[D.i c.I]]) (Int.toNat (IntKind.i64.wrap (b.I - (1:Int)))) (Int.toNat (IntKind.i64.wrap (c.I + (1:Int)))))),D.i f.I,D.l g.L,D.l h.L,D.i i.I])))) (T.need (decide (Int.toNat (a.L.length:Int) ≤ a.L.length ∧ Int.toNat (a.L.length:Int) + 1 ≤ 2 ^ 62 ∧ (Int.toNat (a.L.length:Int) + 1) * Try.prog.types[3].bytes ≤ 2 ^ 47)) (T.need (yes ((↑(Int.toNat (a.L.length:Int) + 1):Int) = (↑(List.length (List.take (Int.toNat (a.L.length:Int)) a.L ++ List.take (List.length [[D.i c.I]]) [[D.i c.I]])):Int) ∧ choP q f.I g.L d.L h.L i.I (List.take (Int.toNat (a.L.length:Int)) a.L ++ List.take (List.length [[D.i c.I]]) [[D.i c.I]]) (IntKind.i64.wrap (c.I + (1:Int))) (IntKind.i64.wrap (b.I - (1:Int))))) (T.ite (Option.isSome (findT f.I g.L d.L h.L i.I (candT d.L (List.take (Int.toNat (a.L.length:Int)) a.L ++ List.take (List.length [[D.i c.I]]) [[D.i c.I]]) (Int.toNat (IntKind.i64.wrap (b.I - (1:Int)))) (Int.toNat (IntKind.i64.wrap (c.I + (1:Int))))))) (T.leaf (Rd.out Ex.ret [D.b true,D.l d.L,D.l (fndT f.I g.L d.L h.L i.I e.L (candT d.L (List.take (Int.toNat (a.L.length:Int)) a.L ++ List.take (List.length [[D.i c.I]]) [[D.i c.I]]) (Int.toNat (IntKind.i64.wrap (b.I - (1:Int)))) (Int.toNat (IntKind.i64.wrap (c.I + (1:Int)))))),D.i f.I,D.l g.L,D.l h.L,D.i i.I])) (T.leaf (Rd.again [D.l a.L,D.i b.I,D.i (IntKind.i64.wrap (c.I + (1:Int))),D.l d.L,D.l (fndT f.I g.L d.L h.L i.I e.L (candT d.L (List.take (Int.toNat (a.L.length:Int)) a.L ++ List.take (List.length [[D.i c.I]]) [[D.i c.I]]) (Int.toNat (IntKind.i64.wrap (b.I - (1:Int)))) (Int.toNat (IntKind.i64.wrap (c.I + (1:Int)))))),D.i f.I,D.l g.L,D.l h.L,D.i i.I]))))))) (T.leaf (Rd.out (Ex.exit 4) [D.l d.L,D.l e.L,D.i f.I,D.l g.L,D.l h.L,D.i i.I]))):=by kernel_rfl
theorem t55 (q:Nat) (a b c d e f g h i:D):(fnTW C (tab55 q) 55 s55 [a,b,c,d,e,f,g,h,i]).run =
 T.run (T.ite (c.I == (0:Int)) (T.need (yes ((↑0:Int) = (0:Int) ∧ a.L = a.L ∧ (a.L.length:Int) = (a.L.length:Int) ∧ chosOk d.L a.L ∧ (0:Int) ≤ (0:Int) ∧ (0:Int) ≤ (a.L.length:Int))) (T.ite (List.isEmpty (List.drop (Int.toNat (0:Int)) a.L)) (T.need (yes (okG f.I g.L [] h.L i.I)) (T.ite (List.isEmpty (gapsA f.I g.L [] h.L i.I)) (T.need (yes ((↑0:Int) = (0:Int) ∧ (↑0:Int) ≤ (0:Int))) (T.leaf [D.b true,D.l d.L,D.l a.L,D.i f.I,D.l g.L,D.l h.L,D.i i.I])) (T.need (yes ((↑(0 + 1):Int) = (1:Int) ∧ (↑(Int.toNat (↑(List.length (gapsA f.I g.L [] h.L i.I)):Int)):Int) = (↑(List.length (gapsA f.I g.L [] h.L i.I)):Int) ∧ (↑(Int.toNat (↑(List.length (gapsA f.I g.L [] h.L i.I)):Int)):Int) = (↑(Int.toNat (↑(List.length (gapsA f.I g.L [] h.L i.I)):Int)):Int) ∧ (↑(Int.toNat (↑(List.length (gapsA f.I g.L [] h.L i.I)):Int)):Int) ≤ (1000000000:Int) ∧ (0:Int) ≤ (0:Int) ∧ (0:Int) ≤ (↑(Int.toNat (↑(List.length (gapsA f.I g.L [] h.L i.I)):Int)):Int))) (T.leaf [D.b ((↑(List.length (openF [] (List.drop (Int.toNat (0:Int)) (gapsA f.I g.L [] h.L i.I)))):Int) == (0:Int)),D.l d.L,D.l a.L,D.i f.I,D.l g.L,D.l h.L,D.i i.I])))) (T.need (decide (Int.toNat (↑(List.length (teamL d.L (List.drop (Int.toNat (0:Int)) a.L))):Int) ≤ List.length (teamL d.L (List.drop (Int.toNat (0:Int)) a.L)))) (T.need (yes (okG f.I g.L (List.take (Int.toNat (↑(List.length (teamL d.L (List.drop (Int.toNat (0:Int)) a.L))):Int)) (teamL d.L (List.drop (Int.toNat (0:Int)) a.L))) h.L i.I)) (T.ite (List.isEmpty (gapsA f.I g.L (List.take (Int.toNat (↑(List.length (teamL d.L (List.drop (Int.toNat (0:Int)) a.L))):Int)) (teamL d.L (List.drop (Int.toNat (0:Int)) a.L))) h.L i.I)) (T.need (yes ((↑0:Int) = (0:Int) ∧ (↑0:Int) ≤ (0:Int))) (T.leaf [D.b true,D.l d.L,D.l a.L,D.i f.I,D.l g.L,D.l h.L,D.i i.I])) (T.need (yes ((↑(0 + 1):Int) = (1:Int) ∧ (↑(Int.toNat (↑(List.length (gapsA f.I g.L (List.take (Int.toNat (↑(List.length (teamL d.L (List.drop (Int.toNat (0:Int)) a.L))):Int)) (teamL d.L (List.drop (Int.toNat (0:Int)) a.L))) h.L i.I)):Int)):Int) = (↑(List.length (gapsA f.I g.L (List.take (Int.toNat (↑(List.length (teamL d.L (List.drop (Int.toNat (0:Int)) a.L))):Int)) (teamL d.L (List.drop (Int.toNat (0:Int)) a.L))) h.L i.I)):Int) ∧ (↑(Int.toNat (↑(List.length (gapsA f.I g.L (List.take (Int.toNat (↑(List.length (teamL d.L (List.drop (Int.toNat (0:Int)) a.L))):Int)) (teamL d.L (List.drop (Int.toNat (0:Int)) a.L))) h.L i.I)):Int)):Int) = (↑(Int.toNat (↑(List.length (gapsA f.I g.L (List.take (Int.toNat (↑(List.length (teamL d.L (List.drop (Int.toNat (0:Int)) a.L))):Int)) (teamL d.L (List.drop (Int.toNat (0:Int)) a.L))) h.L i.I)):Int)):Int) ∧ (↑(Int.toNat (↑(List.length (gapsA f.I g.L (List.take (Int.toNat (↑(List.length (teamL d.L (List.drop (Int.toNat (0:Int)) a.L))):Int)) (teamL d.L (List.drop (Int.toNat (0:Int)) a.L))) h.L i.I)):Int)):Int) ≤ (1000000000:Int) ∧ (0:Int) ≤ (0:Int) ∧ (0:Int) ≤ (↑(Int.toNat (↑(List.length (gapsA f.I g.L (List.take (Int.toNat (↑(List.length (teamL d.L (List.drop (Int.toNat (0:Int)) a.L))):Int)) (teamL d.L (List.drop (Int.toNat (0:Int)) a.L))) h.L i.I)):Int)):Int))) (T.leaf [D.b ((↑(List.length (openF [] (List.drop (Int.toNat (0:Int)) (gapsA f.I g.L (List.take (Int.toNat (↑(List.length (teamL d.L (List.drop (Int.toNat (0:Int)) a.L))):Int)) (teamL d.L (List.drop (Int.toNat (0:Int)) a.L))) h.L i.I)))):Int) == (0:Int)),D.l d.L,D.l a.L,D.i f.I,D.l g.L,D.l h.L,D.i i.I]))))))) (T.need (yes (choP (q + 1) f.I g.L d.L h.L i.I a.L b.I c.I ∧ (1:Int) ≤ c.I)) (T.ite (Option.isSome (findT f.I g.L d.L h.L i.I (restT d.L a.L c.I.toNat b.I.toNat))) (T.leaf [D.b true,D.l d.L,D.l (fndT f.I g.L d.L h.L i.I e.L (restT d.L a.L c.I.toNat b.I.toNat)),D.i f.I,D.l g.L,D.l h.L,D.i i.I]) (T.leaf [D.b false,D.l d.L,D.l (fndT f.I g.L d.L h.L i.I e.L (restT d.L a.L c.I.toNat b.I.toNat)),D.i f.I,D.l g.L,D.l h.L,D.i i.I])))):=by kernel_rfl
theorem t55_4_0 (q:Nat) (a b c d e f g h i j:D):(roundTK C (tab55 q) 55 (loopOf C.P 55 4) 6 l55_4 [.i 0,a,b,c,d,e,f,g,h,i,j]).run =
 T.run (T.ite (decide (d.I < c.I)) (T.need (decide ((0:Int) ≤ d.I ∧ d.I < (b.L.length:Int))) (T.need (decide ((0:Int) ≤ D.I (List.getD (List.getD b.L d.I.toNat []) 0 default) ∧ D.I (List.getD (List.getD b.L d.I.toNat []) 0 default) < (e.L.length:Int))) (T.leaf (Rd.again [D.i 1,D.l a.L,D.i 1,D.l b.L,D.i c.I,D.i (IntKind.i64.wrap (d.I + (1:Int))),D.l e.L,D.l f.L,D.i g.I,D.l h.L,D.l i.L,D.i j.I,D.l [[D.i (D.I (List.getD (List.getD e.L (Int.toNat (D.I (List.getD (List.getD b.L d.I.toNat []) 0 default))) []) 0 default)),D.i (D.I (List.getD (List.getD e.L (Int.toNat (D.I (List.getD (List.getD b.L d.I.toNat []) 0 default))) []) (0 + 1) default)),D.i (D.I (List.getD (List.getD e.L (Int.toNat (D.I (List.getD (List.getD b.L d.I.toNat []) 0 default))) []) (0 + 1 + 1) default)),D.i (D.I (List.getD (List.getD e.L (Int.toNat (D.I (List.getD (List.getD b.L d.I.toNat []) 0 default))) []) (0 + 1 + 1 + 1) default))]]])))) (T.leaf (Rd.out (Ex.exit 0) [D.i 0,D.l a.L,D.l e.L,D.l f.L,D.i g.I,D.l h.L,D.l i.L,D.i j.I]))):=by kernel_rfl
theorem t55_4_1 (q:Nat) (a b c d e f g h i j k l:D):(roundTK C (tab55 q) 55 (loopOf C.P 55 4) 6 l55_4 [.i 1,a,b,c,d,e,f,g,h,i,j,k,l]).run =
 T.run (T.ite (decide (e.I < d.I)) (T.need (decide ((0:Int) ≤ e.I ∧ e.I < (c.L.length:Int))) (T.need (decide ((0:Int) ≤ D.I (List.getD (List.getD c.L e.I.toNat []) 0 default) ∧ D.I (List.getD (List.getD c.L e.I.toNat []) 0 default) < (f.L.length:Int))) (T.need (decide (b.I.toNat ≤ l.L.length ∧ b.I.toNat + 1 ≤ 2 ^ 62 ∧ (b.I.toNat + 1) * Try.prog.types[60].bytes ≤ 2 ^ 47)) (T.leaf (Rd.again [D.i 1,D.l a.L,D.i (↑(b.I.toNat + 1):Int),D.l c.L,D.i d.I,D.i (IntKind.i64.wrap (e.I + (1:Int))),D.l f.L,D.l g.L,D.i h.I,D.l i.L,D.l j.L,D.i k.I,D.l (List.take b.I.toNat l.L ++ List.take (List.length [[D.i (D.I (List.getD (List.getD f.L (Int.toNat (D.I (List.getD (List.getD c.L e.I.toNat []) 0 default))) []) 0 default)),D.i (D.I (List.getD (List.getD f.L (Int.toNat (D.I (List.getD (List.getD c.L e.I.toNat []) 0 default))) []) (0 + 1) default)),D.i (D.I (List.getD (List.getD f.L (Int.toNat (D.I (List.getD (List.getD c.L e.I.toNat []) 0 default))) []) (0 + 1 + 1) default)),D.i (D.I (List.getD (List.getD f.L (Int.toNat (D.I (List.getD (List.getD c.L e.I.toNat []) 0 default))) []) (0 + 1 + 1 + 1) default))]]) [[D.i (D.I (List.getD (List.getD f.L (Int.toNat (D.I (List.getD (List.getD c.L e.I.toNat []) 0 default))) []) 0 default)),D.i (D.I (List.getD (List.getD f.L (Int.toNat (D.I (List.getD (List.getD c.L e.I.toNat []) 0 default))) []) (0 + 1) default)),D.i (D.I (List.getD (List.getD f.L (Int.toNat (D.I (List.getD (List.getD c.L e.I.toNat []) 0 default))) []) (0 + 1 + 1) default)),D.i (D.I (List.getD (List.getD f.L (Int.toNat (D.I (List.getD (List.getD c.L e.I.toNat []) 0 default))) []) (0 + 1 + 1 + 1) default))]])]))))) (T.leaf (Rd.out (Ex.exit 0) [D.i 1,D.l a.L,D.i (b.I.toNat:Int),D.l f.L,D.l g.L,D.i h.I,D.l i.L,D.l j.L,D.i k.I,D.l l.L]))):=by kernel_rfl
theorem t55_11_0 (q:Nat) (a b c d e f g h i:D):(roundTK C (tab55 q) 55 (loopOf C.P 55 11) 6 l55_11 [.i 0,a,b,c,d,e,f,g,h,i]).run =
 T.run (T.ite (decide (b.I < a.I)) T.fail (T.leaf (Rd.out (Ex.exit 2) [D.l c.L,D.l d.L,D.i e.I,D.l f.L,D.l g.L,D.i h.I,D.l i.L]))):=by kernel_rfl
theorem t55_11_1 (q:Nat) (a b c d e f g h i j k:D):(roundTK C (tab55 q) 55 (loopOf C.P 55 11) 6 l55_11 [.i 1,a,b,c,d,e,f,g,h,i,j,k]).run =
 T.run (T.ite (decide (c.I < b.I)) (T.need (decide ((0:Int) ≤ c.I ∧ c.I < (a.I.toNat:Int))) (T.need (decide (c.I.toNat < k.L.length)) (T.leaf (Rd.again [D.i 1,D.i (a.I.toNat:Int),D.i b.I,D.i (IntKind.i64.wrap (c.I + (1:Int))),D.l d.L,D.l e.L,D.i f.I,D.l g.L,D.l h.L,D.i i.I,D.l (msetD [K.int IntKind.i64] [D.i (D.I (List.getD (List.getD k.L c.I.toNat []) 0 default))] (D.b true) j.L),D.l k.L])))) (T.leaf (Rd.out (Ex.exit 2) [D.l d.L,D.l e.L,D.i f.I,D.l g.L,D.l h.L,D.i i.I,D.l j.L]))):=by kernel_rfl
theorem t55_17 (q:Nat) (a b c d e f g h i:D):(roundTK C (tab55 q) 55 (loopOf C.P 55 17) 6 l55_17 [a,b,c,d,e,f,g,h,i]).run =
 T.run (T.ite (decide (c.I < (d.L.length:Int))) (T.need (yes (a.L.length ≤ 1073741824)) (T.ite (List.isEmpty a.L) (T.need (yes ((↑1:Int) = (↑(List.length (List.take (List.length [[D.i c.I]]) [[D.i c.I]])):Int) ∧ choP q f.I g.L d.L h.L i.I (List.take (List.length [[D.i c.I]]) [[D.i c.I]]) (IntKind.i64.wrap (c.I + (1:Int))) (IntKind.i64.wrap (b.I - (1:Int))))) (T.ite (Option.isSome (findT f.I g.L d.L h.L i.I (candT d.L (List.take (List.length [[D.i c.I]]) [[D.i c.I]]) (Int.toNat (IntKind.i64.wrap (b.I - (1:Int)))) (Int.toNat (IntKind.i64.wrap (c.I + (1:Int))))))) (T.leaf (Rd.out Ex.ret [D.b true,D.l d.L,D.l (fndT f.I g.L d.L h.L i.I e.L (candT d.L (List.take (List.length [[D.i c.I]]) [[D.i c.I]]) (Int.toNat (IntKind.i64.wrap (b.I - (1:Int)))) (Int.toNat (IntKind.i64.wrap (c.I + (1:Int)))))),D.i f.I,D.l g.L,D.l h.L,D.i i.I])) (T.leaf (Rd.again [D.l a.L,D.i b.I,D.i (IntKind.i64.wrap (c.I + (1:Int))),D.l d.L,D.l (fndT f.I g.L d.L h.L i.I e.L (candT d.L (List.take (List.length [[D.i c.I]]) [[D.i c.I]]) (Int.toNat (IntKind.i64.wrap (b.I - (1:Int)))) (Int.toNat (IntKind.i64.wrap (c.I + (1:Int)))))),D.i f.I,D.l g.L,D.l h.L,D.i i.I])))) (T.need (decide (Int.toNat (a.L.length:Int) ≤ a.L.length ∧ Int.toNat (a.L.length:Int) + 1 ≤ 2 ^ 62 ∧ (Int.toNat (a.L.length:Int) + 1) * Try.prog.types[3].bytes ≤ 2 ^ 47)) (T.need (yes ((↑(Int.toNat (a.L.length:Int) + 1):Int) = (↑(List.length (List.take (Int.toNat (a.L.length:Int)) a.L ++ List.take (List.length [[D.i c.I]]) [[D.i c.I]])):Int) ∧ choP q f.I g.L d.L h.L i.I (List.take (Int.toNat (a.L.length:Int)) a.L ++ List.take (List.length [[D.i c.I]]) [[D.i c.I]]) (IntKind.i64.wrap (c.I + (1:Int))) (IntKind.i64.wrap (b.I - (1:Int))))) (T.ite (Option.isSome (findT f.I g.L d.L h.L i.I (candT d.L (List.take (Int.toNat (a.L.length:Int)) a.L ++ List.take (List.length [[D.i c.I]]) [[D.i c.I]]) (Int.toNat (IntKind.i64.wrap (b.I - (1:Int)))) (Int.toNat (IntKind.i64.wrap (c.I + (1:Int))))))) (T.leaf (Rd.out Ex.ret [D.b true,D.l d.L,D.l (fndT f.I g.L d.L h.L i.I e.L (candT d.L (List.take (Int.toNat (a.L.length:Int)) a.L ++ List.take (List.length [[D.i c.I]]) [[D.i c.I]]) (Int.toNat (IntKind.i64.wrap (b.I - (1:Int)))) (Int.toNat (IntKind.i64.wrap (c.I + (1:Int)))))),D.i f.I,D.l g.L,D.l h.L,D.i i.I])) (T.leaf (Rd.again [D.l a.L,D.i b.I,D.i (IntKind.i64.wrap (c.I + (1:Int))),D.l d.L,D.l (fndT f.I g.L d.L h.L i.I e.L (candT d.L (List.take (Int.toNat (a.L.length:Int)) a.L ++ List.take (List.length [[D.i c.I]]) [[D.i c.I]]) (Int.toNat (IntKind.i64.wrap (b.I - (1:Int)))) (Int.toNat (IntKind.i64.wrap (c.I + (1:Int)))))),D.i f.I,D.l g.L,D.l h.L,D.i i.I]))))))) (T.leaf (Rd.out (Ex.exit 4) [D.l d.L,D.l e.L,D.i f.I,D.l g.L,D.l h.L,D.i i.I]))):=by kernel_rfl
set_option maxRecDepth 100000
theorem ok56 (n:Nat):FnOK C (n + 1) 56 (mkF s56 Gcl):=by
 refine clone_ok (ks:=[.int .i64]) (by kernel_rfl) (fun kd c0=>by cases kd <;> cases c0 <;> kernel_rfl) ?_
 refine fn_ofS hC (sp:=sp56) (lp:=lp56) (sw:=sw56) trivial trivial (by kernel_rfl) [] (by kernel_rfl) rfl (fun k hk=>by cases hk) fun ds rr h=>?_
 unfold Gcl1 at h
 split at h
 ·rename_i l
  obtain ⟨hp,h⟩:=need_some h
  rw [yes_iff] at hp
  obtain ⟨h1,h2⟩:=hp
  refine (t56 l).trans ?_
  have hne:l.L.isEmpty = false:=by cases hl:l.L with
   | nil=>exact absurd hl h1
   | cons c cs=>rfl
  rw [bytes3]
  refine go_need (by rw [hne]; rfl) (go_false hne (go_dec (by omega) h))
 ·cases h
theorem drop_team {v cs:List (List D)} {k:Nat} (h:k < cs.length):teamL v (cs.drop k) = vehR (v.getD (ix (cs.getD k []) 0).toNat []) :: teamL v (cs.drop (k + 1)):=by
 rw [List.drop_eq_getElem_cons h,List.getD_eq_getElem?_getD (l:=cs),List.getElem?_eq_getElem h]
 rfl
theorem drop_open {l g:List (List D)} {k:Nat} (h:k < g.length):openF l (g.drop k) = openF (msetD [.int .i64] [.i (ix (g.getD k []) 0)] (.b true) l) (g.drop (k + 1)):=by
 rw [List.drop_eq_getElem_cons h,List.getD_eq_getElem?_getD (l:=g),List.getElem?_eq_getElem h]
 rfl
theorem drop_ne {cs:List (List D)} {k:Nat} (h:k < cs.length):(cs.drop k).isEmpty = false:=by
 rw [List.drop_eq_getElem_cons h]; rfl
theorem drop_e {cs:List (List D)} {k:Nat} (h:cs.length ≤ k):cs.drop k = []:=List.drop_eq_nil_of_le h
def μ554 (ds:List D):Nat:=match ds with
 | [_,_,_,m,i,_,_,_,_,_,_]=>(m.I - i.I).toNat
 | [_,_,_,_,m,i,_,_,_,_,_,_,_]=>(m.I - i.I).toNat
 | _=>0
def μ5511 (ds:List D):Nat:=match ds with
 | [_,m,i,_,_,_,_,_,_,_]=>(m.I - i.I).toNat
 | [_,_,m,i,_,_,_,_,_,_,_,_]=>(m.I - i.I).toNat
 | _=>0
def μ5517 (ds:List D):Nat:=match ds with
 | [_,_,k,v,_,_,_,_,_]=>((v.L.length:Int) - k.I).toNat
 | _=>0
set_option maxHeartbeats 1000000 in
theorem ok1055_4 (n q:Nat) (hA:AllOK C n sp1055) (hW:AllOKW C n (sw1055 q)):LoopSimK C n 7 55 (loopOf C.P 55 4) (mkLK 7 l1055_4 (G55_4 q)):=by
 refine loop_ofK hC (sp:=sp1055) (lp:=lp1055 q) (sw:=sw1055 q) hA hW 7 [] (by kernel_rfl) rfl (fun k hk=>by cases hk) (by kernel_rfl) μ554 fun ds rr h=>?_
 unfold G55_4 at h
 split at h
 ·rename_i y cs c2 m i v f nn r z h'
  obtain ⟨hp,h⟩:=need_some h
  rw [yes_iff] at hp
  obtain ⟨hy,hc,hm,hC,i0,i1⟩:=hp
  have h12:=hC.1
  refine ⟨by rw [fuelC]; show (m.I - i.I).toNat < _; omega,?_⟩
  rw [roundTK_head (j:=y) (n:=0) hy (by decide)]
  refine rd_runT (t1055_4_0 q cs c2 m i v f nn r z h') ?_
  obtain ⟨k,hk⟩:∃ k:Nat,i.I = k:=⟨i.I.toNat,by omega⟩
  simp only [hk,hc,Int.toNat_natCast,ix_def] at h i0 i1 ⊢
  refine rd_if (fun hlt=>?_) fun hge=>?_
  ·have hkl:k < cs.L.length:=by omega
   have hck:=hC.2 k hkl
   rw [run_ite,if_neg (by rw [drop_ne hkl]; decide),drop_team hkl] at h
   refine rd_dec (by omega) (rd_dec hck ?_)
   rw [wrap_succ (by omega)]
   refine rd_again ((need_yes ⟨rfl,rfl,hm,hC,⟨by simp only [I_i]; omega,by simp only [I_i]; omega⟩,rfl,by simp only [I_i]; omega⟩).trans ?_) ?_
   ·simp only [I_i,L_l,Int.toNat_natCast]
    exact h
   ·show (m.I - ((k + 1:Nat):Int)).toNat < (m.I - i.I).toNat
    omega
  ·rw [drop_e (by omega)] at h
   exact rd_out h
 ·rename_i y cs t c2 m i v f nn r z h' o
  obtain ⟨hp,h⟩:=need_some h
  rw [yes_iff] at hp
  obtain ⟨hy,hc,hm,hC,⟨i0,i1⟩,ht,hti⟩:=hp
  have h12:=hC.1
  refine ⟨by rw [fuelC]; show (m.I - i.I).toNat < _; omega,?_⟩
  rw [roundTK_head (j:=y) (n:=1) hy (by decide)]
  refine rd_runT (t1055_4_1 q cs t c2 m i v f nn r z h' o) ?_
  obtain ⟨k,hk⟩:∃ k:Nat,i.I = k:=⟨i.I.toNat,by omega⟩
  have et:t.I.toNat = o.L.length:=by omega
  have eo:o.L.take o.L.length = o.L:=List.take_length
  simp only [hk,hc,et,eo,Int.toNat_natCast,ix_def,bytes60] at h i0 i1 hti ⊢
  refine rd_if (fun hlt=>?_) fun hge=>?_
  ·have hkl:k < cs.L.length:=by omega
   have hck:=hC.2 k hkl
   rw [drop_team hkl] at h
   refine rd_dec (by omega) (rd_dec hck (rd_dec (by omega) ?_))
   rw [wrap_succ (by omega)]
   refine rd_again ((need_yes ⟨rfl,rfl,hm,hC,⟨by simp only [I_i]; omega,by simp only [I_i]; omega⟩,by simp only [I_i,L_l,List.length_append,List.length_take,List.length_cons,List.length_nil]; omega,by simp only [I_i]; omega⟩).trans ?_) ?_
   ·simp only [L_l,I_i,Int.toNat_natCast,List.append_assoc]
    exact h
   ·show (m.I - ((k + 1:Nat):Int)).toNat < (m.I - i.I).toNat
    omega
  ·rw [drop_e (by omega)] at h
   simp only [teamL,List.map_nil,List.append_nil] at h
   exact rd_out h
 ·cases h
set_option maxHeartbeats 1000000 in
theorem ok1055_11 (n q:Nat) (hA:AllOK C n sp1055) (hW:AllOKW C n (sw1055 q)):LoopSimK C n 7 55 (loopOf C.P 55 11) (mkLK 7 l1055_11 (G55_11 q)):=by
 refine loop_ofK hC (sp:=sp1055) (lp:=lp1055 q) (sw:=sw1055 q) hA hW 7 [] (by kernel_rfl) rfl (fun k hk=>by cases hk) (by kernel_rfl) μ5511 fun ds rr h=>?_
 unfold G55_11 at h
 split at h
 ·rename_i y m i v f nn r z h' mp
  obtain ⟨hp,h⟩:=need_some h
  rw [yes_iff] at hp
  refine ⟨by rw [fuelC]; show (m.I - i.I).toNat < _; omega,?_⟩
  rw [roundTK_head (j:=y) (n:=0) hp.1 (by decide)]
  exact rd_runT (t1055_11_0 q m i v f nn r z h' mp) (rd_neg (by have:=hp.2; simp; omega) (rd_out h))
 ·rename_i y s m i v f nn r z h' mp g
  obtain ⟨hp,h⟩:=need_some h
  rw [yes_iff] at hp
  obtain ⟨hy,hs,hm,hb,i0,i1⟩:=hp
  refine ⟨by rw [fuelC]; show (m.I - i.I).toNat < _; omega,?_⟩
  rw [roundTK_head (j:=y) (n:=1) hy (by decide)]
  refine rd_runT (t1055_11_1 q s m i v f nn r z h' mp g) ?_
  obtain ⟨k,hk⟩:∃ k:Nat,i.I = k:=⟨i.I.toNat,by omega⟩
  have es:s.I.toNat = g.L.length:=by omega
  simp only [hk,es,Int.toNat_natCast,ix_def] at h i0 i1 ⊢
  refine rd_if (fun hlt=>?_) fun hge=>?_
  ·have hkl:k < g.L.length:=by omega
   rw [drop_open hkl] at h
   refine rd_dec (by omega) (rd_dec hkl ?_)
   rw [wrap_succ (by omega)]
   refine rd_again ((need_yes ⟨rfl,rfl,by simp only [I_i]; omega,by simp only [I_i]; omega,by simp only [I_i]; omega,by simp only [I_i]; omega⟩).trans h) ?_
   show (m.I - ((k + 1:Nat):Int)).toNat < (m.I - i.I).toNat
   omega
  ·rw [drop_e (by omega)] at h
   exact rd_out h
 ·cases h
set_option maxHeartbeats 1000000 in
theorem ok1055_17 (n q:Nat) (hA:AllOK C n sp1055) (hW:AllOKW C n (sw1055 q)):LoopSimK C n 7 55 (loopOf C.P 55 17) (mkLK 7 l1055_17 (G55_17 q)):=by
 refine loop_ofK hC (sp:=sp1055) (lp:=lp1055 q) (sw:=sw1055 q) hA hW 7 [] (by kernel_rfl) rfl (fun k hk=>by cases hk) (by kernel_rfl) μ5517 fun ds rr h=>?_
 unfold G55_17 at h
 split at h
 ·rename_i cs m k v f nn r z h'
  obtain ⟨hp,h⟩:=need_some h
  rw [yes_iff] at hp
  obtain ⟨hP,m1⟩:=hp
  obtain ⟨hG,hv12,hC,⟨k0,k1⟩,⟨m0,mq⟩,hcm⟩:=id hP
  have h12:=hC.1
  refine ⟨by rw [fuelC]; show ((v.L.length:Int) - k.I).toNat < _; omega,?_⟩
  refine rd_runT (t1055_17 q cs m k v f nn r z h') ?_
  obtain ⟨x,hx⟩:∃ x:Nat,k.I = x:=⟨k.I.toNat,by omega⟩
  have w1:IntKind.i64.wrap (m.I - 1) = m.I - 1:=wrap_id (by omega) (by omega)
  have em:(m.I - 1).toNat = m.I.toNat - 1:=by omega
  have et:∀ l:List (List D),l.take l.length = l:=fun l=>List.take_length
  simp only [hx,w1,em,Int.toNat_natCast,bytes3,et] at h k0 k1 ⊢
  rw [wrap_succ (by omega)]
  refine rd_if (fun hlt=>?_) fun hge=>?_
  ·have hxl:x < v.L.length:=by omega
   rw [restT_step hxl] at h
   have hcho:choP q nn.I r.L v.L z.L h'.I (cs.L ++ [[.i x]]) ((x + 1:Nat):Int) (m.I - 1):=
    ⟨hG,hv12,chos_more hC (by omega) hxl,by omega,by omega,by simp only [List.length_append,List.length_singleton]; omega⟩
   have hP':choP (q + 1) nn.I r.L v.L z.L h'.I cs.L ((x + 1:Nat):Int) m.I:=⟨hG,hv12,hC,by omega,⟨m0,mq⟩,hcm⟩
   have hmu:((v.L.length:Int) - ((x + 1:Nat):Int)).toNat < ((v.L.length:Int) - k.I).toNat:=by omega
   have fin:∀ A:List (List (List D)),A = candT v.L (cs.L ++ [[.i x]]) (m.I.toNat - 1) (x + 1) → RdOK (G55_17 q) μ5517 [cs,m,k,v,f,nn,r,z,h'] rr
       (T.run (T.ite (findT nn.I r.L v.L z.L h'.I A).isSome (T.leaf (Rd.out Ex.ret [.b true,.l v.L,.l (fndT nn.I r.L v.L z.L h'.I f.L A),.i nn.I,.l r.L,.l z.L,.i h'.I]))
        (T.leaf (Rd.again [.l cs.L,.i m.I,.i ((x + 1:Nat):Int),.l v.L,.l (fndT nn.I r.L v.L z.L h'.I f.L A),.i nn.I,.l r.L,.l z.L,.i h'.I])))):=fun A hA=>by
    rw [← hA] at h
    refine rd_ite (fun c=>?_) fun c=>?_
    ·rw [findT_append,fndT_some c] at h
     obtain ⟨b,hb⟩:=Option.isSome_iff_exists.1 c
     rw [hb] at h
     exact rd_out h
    ·have hn:findT nn.I r.L v.L z.L h'.I A = none:=by simpa using c
     rw [findT_append,fndT_none c,hn] at h
     refine rd_again ((need_yes ⟨hP',m1⟩).trans ?_) hmu
     simp only [L_l,I_i,Int.toNat_natCast]
     exact h
   refine rd_yes (by omega) (rd_ite (fun c=>?_) fun c=>?_)
   ·have e0:cs.L = []:=List.isEmpty_iff.1 c
    have e1:[[D.i (x:Int)]] = cs.L ++ [[.i x]]:=by rw [e0]; rfl
    rw [e1]
    refine rd_yes ⟨by rw [e0]; rfl,hcho⟩ (fin _ rfl)
   ·refine rd_dec (by omega) (rd_yes ⟨by simp only [List.length_append,List.length_singleton],hcho⟩ (fin _ rfl))
  ·rw [restT_end (by omega)] at h
   exact rd_out h
 ·cases h
set_option maxHeartbeats 1000000 in
theorem ok55_4 (n q:Nat) (hA:AllOK C n sp55) (hW:AllOKW C n (sw55 q)):LoopSimK C n 6 55 (loopOf C.P 55 4) (mkLK 6 l55_4 (G55_4 q)):=by
 refine loop_ofK hC (sp:=sp55) (lp:=lp55 q) (sw:=sw55 q) hA hW 6 [] (by kernel_rfl) rfl (fun k hk=>by cases hk) (by kernel_rfl) μ554 fun ds rr h=>?_
 unfold G55_4 at h
 split at h
 ·rename_i y cs c2 m i v f nn r z h'
  obtain ⟨hp,h⟩:=need_some h
  rw [yes_iff] at hp
  obtain ⟨hy,hc,hm,hC,i0,i1⟩:=hp
  have h12:=hC.1
  refine ⟨by rw [fuelC]; show (m.I - i.I).toNat < _; omega,?_⟩
  rw [roundTK_head (j:=y) (n:=0) hy (by decide)]
  refine rd_runT (t55_4_0 q cs c2 m i v f nn r z h') ?_
  obtain ⟨k,hk⟩:∃ k:Nat,i.I = k:=⟨i.I.toNat,by omega⟩
  simp only [hk,hc,Int.toNat_natCast,ix_def] at h i0 i1 ⊢
  refine rd_if (fun hlt=>?_) fun hge=>?_
  ·have hkl:k < cs.L.length:=by omega
   have hck:=hC.2 k hkl
   rw [run_ite,if_neg (by rw [drop_ne hkl]; decide),drop_team hkl] at h
   refine rd_dec (by omega) (rd_dec hck ?_)
   rw [wrap_succ (by omega)]
   refine rd_again ((need_yes ⟨rfl,rfl,hm,hC,⟨by simp only [I_i]; omega,by simp only [I_i]; omega⟩,rfl,by simp only [I_i]; omega⟩).trans ?_) ?_
   ·simp only [I_i,L_l,Int.toNat_natCast]
    exact h
   ·show (m.I - ((k + 1:Nat):Int)).toNat < (m.I - i.I).toNat
    omega
  ·rw [drop_e (by omega)] at h
   exact rd_out h
 ·rename_i y cs t c2 m i v f nn r z h' o
  obtain ⟨hp,h⟩:=need_some h
  rw [yes_iff] at hp
  obtain ⟨hy,hc,hm,hC,⟨i0,i1⟩,ht,hti⟩:=hp
  have h12:=hC.1
  refine ⟨by rw [fuelC]; show (m.I - i.I).toNat < _; omega,?_⟩
  rw [roundTK_head (j:=y) (n:=1) hy (by decide)]
  refine rd_runT (t55_4_1 q cs t c2 m i v f nn r z h' o) ?_
  obtain ⟨k,hk⟩:∃ k:Nat,i.I = k:=⟨i.I.toNat,by omega⟩
  have et:t.I.toNat = o.L.length:=by omega
  have eo:o.L.take o.L.length = o.L:=List.take_length
  simp only [hk,hc,et,eo,Int.toNat_natCast,ix_def,bytes60] at h i0 i1 hti ⊢
  refine rd_if (fun hlt=>?_) fun hge=>?_
  ·have hkl:k < cs.L.length:=by omega
   have hck:=hC.2 k hkl
   rw [drop_team hkl] at h
   refine rd_dec (by omega) (rd_dec hck (rd_dec (by omega) ?_))
   rw [wrap_succ (by omega)]
   refine rd_again ((need_yes ⟨rfl,rfl,hm,hC,⟨by simp only [I_i]; omega,by simp only [I_i]; omega⟩,by simp only [I_i,L_l,List.length_append,List.length_take,List.length_cons,List.length_nil]; omega,by simp only [I_i]; omega⟩).trans ?_) ?_
   ·simp only [L_l,I_i,Int.toNat_natCast,List.append_assoc]
    exact h
   ·show (m.I - ((k + 1:Nat):Int)).toNat < (m.I - i.I).toNat
    omega
  ·rw [drop_e (by omega)] at h
   simp only [teamL,List.map_nil,List.append_nil] at h
   exact rd_out h
 ·cases h
set_option maxHeartbeats 1000000 in
theorem ok55_11 (n q:Nat) (hA:AllOK C n sp55) (hW:AllOKW C n (sw55 q)):LoopSimK C n 6 55 (loopOf C.P 55 11) (mkLK 6 l55_11 (G55_11 q)):=by
 refine loop_ofK hC (sp:=sp55) (lp:=lp55 q) (sw:=sw55 q) hA hW 6 [] (by kernel_rfl) rfl (fun k hk=>by cases hk) (by kernel_rfl) μ5511 fun ds rr h=>?_
 unfold G55_11 at h
 split at h
 ·rename_i y m i v f nn r z h' mp
  obtain ⟨hp,h⟩:=need_some h
  rw [yes_iff] at hp
  refine ⟨by rw [fuelC]; show (m.I - i.I).toNat < _; omega,?_⟩
  rw [roundTK_head (j:=y) (n:=0) hp.1 (by decide)]
  exact rd_runT (t55_11_0 q m i v f nn r z h' mp) (rd_neg (by have:=hp.2; simp; omega) (rd_out h))
 ·rename_i y s m i v f nn r z h' mp g
  obtain ⟨hp,h⟩:=need_some h
  rw [yes_iff] at hp
  obtain ⟨hy,hs,hm,hb,i0,i1⟩:=hp
  refine ⟨by rw [fuelC]; show (m.I - i.I).toNat < _; omega,?_⟩
  rw [roundTK_head (j:=y) (n:=1) hy (by decide)]
  refine rd_runT (t55_11_1 q s m i v f nn r z h' mp g) ?_
  obtain ⟨k,hk⟩:∃ k:Nat,i.I = k:=⟨i.I.toNat,by omega⟩
  have es:s.I.toNat = g.L.length:=by omega
  simp only [hk,es,Int.toNat_natCast,ix_def] at h i0 i1 ⊢
  refine rd_if (fun hlt=>?_) fun hge=>?_
  ·have hkl:k < g.L.length:=by omega
   rw [drop_open hkl] at h
   refine rd_dec (by omega) (rd_dec hkl ?_)
   rw [wrap_succ (by omega)]
   refine rd_again ((need_yes ⟨rfl,rfl,by simp only [I_i]; omega,by simp only [I_i]; omega,by simp only [I_i]; omega,by simp only [I_i]; omega⟩).trans h) ?_
   show (m.I - ((k + 1:Nat):Int)).toNat < (m.I - i.I).toNat
   omega
  ·rw [drop_e (by omega)] at h
   exact rd_out h
 ·cases h
set_option maxHeartbeats 1000000 in
theorem ok55_17 (n q:Nat) (hA:AllOK C n sp55) (hW:AllOKW C n (sw55 q)):LoopSimK C n 6 55 (loopOf C.P 55 17) (mkLK 6 l55_17 (G55_17 q)):=by
 refine loop_ofK hC (sp:=sp55) (lp:=lp55 q) (sw:=sw55 q) hA hW 6 [] (by kernel_rfl) rfl (fun k hk=>by cases hk) (by kernel_rfl) μ5517 fun ds rr h=>?_
 unfold G55_17 at h
 split at h
 ·rename_i cs m k v f nn r z h'
  obtain ⟨hp,h⟩:=need_some h
  rw [yes_iff] at hp
  obtain ⟨hP,m1⟩:=hp
  obtain ⟨hG,hv12,hC,⟨k0,k1⟩,⟨m0,mq⟩,hcm⟩:=id hP
  have h12:=hC.1
  refine ⟨by rw [fuelC]; show ((v.L.length:Int) - k.I).toNat < _; omega,?_⟩
  refine rd_runT (t55_17 q cs m k v f nn r z h') ?_
  obtain ⟨x,hx⟩:∃ x:Nat,k.I = x:=⟨k.I.toNat,by omega⟩
  have w1:IntKind.i64.wrap (m.I - 1) = m.I - 1:=wrap_id (by omega) (by omega)
  have em:(m.I - 1).toNat = m.I.toNat - 1:=by omega
  have et:∀ l:List (List D),l.take l.length = l:=fun l=>List.take_length
  simp only [hx,w1,em,Int.toNat_natCast,bytes3,et] at h k0 k1 ⊢
  rw [wrap_succ (by omega)]
  refine rd_if (fun hlt=>?_) fun hge=>?_
  ·have hxl:x < v.L.length:=by omega
   rw [restT_step hxl] at h
   have hcho:choP q nn.I r.L v.L z.L h'.I (cs.L ++ [[.i x]]) ((x + 1:Nat):Int) (m.I - 1):=
    ⟨hG,hv12,chos_more hC (by omega) hxl,by omega,by omega,by simp only [List.length_append,List.length_singleton]; omega⟩
   have hP':choP (q + 1) nn.I r.L v.L z.L h'.I cs.L ((x + 1:Nat):Int) m.I:=⟨hG,hv12,hC,by omega,⟨m0,mq⟩,hcm⟩
   have hmu:((v.L.length:Int) - ((x + 1:Nat):Int)).toNat < ((v.L.length:Int) - k.I).toNat:=by omega
   have fin:∀ A:List (List (List D)),A = candT v.L (cs.L ++ [[.i x]]) (m.I.toNat - 1) (x + 1) → RdOK (G55_17 q) μ5517 [cs,m,k,v,f,nn,r,z,h'] rr
       (T.run (T.ite (findT nn.I r.L v.L z.L h'.I A).isSome (T.leaf (Rd.out Ex.ret [.b true,.l v.L,.l (fndT nn.I r.L v.L z.L h'.I f.L A),.i nn.I,.l r.L,.l z.L,.i h'.I]))
        (T.leaf (Rd.again [.l cs.L,.i m.I,.i ((x + 1:Nat):Int),.l v.L,.l (fndT nn.I r.L v.L z.L h'.I f.L A),.i nn.I,.l r.L,.l z.L,.i h'.I])))):=fun A hA=>by
    rw [← hA] at h
    refine rd_ite (fun c=>?_) fun c=>?_
    ·rw [findT_append,fndT_some c] at h
     obtain ⟨b,hb⟩:=Option.isSome_iff_exists.1 c
     rw [hb] at h
     exact rd_out h
    ·have hn:findT nn.I r.L v.L z.L h'.I A = none:=by simpa using c
     rw [findT_append,fndT_none c,hn] at h
     refine rd_again ((need_yes ⟨hP',m1⟩).trans ?_) hmu
     simp only [L_l,I_i,Int.toNat_natCast]
     exact h
   refine rd_yes (by omega) (rd_ite (fun c=>?_) fun c=>?_)
   ·have e0:cs.L = []:=List.isEmpty_iff.1 c
    have e1:[[D.i (x:Int)]] = cs.L ++ [[.i x]]:=by rw [e0]; rfl
    rw [e1]
    refine rd_yes ⟨by rw [e0]; rfl,hcho⟩ (fin _ rfl)
   ·refine rd_dec (by omega) (rd_yes ⟨by simp only [List.length_append,List.length_singleton],hcho⟩ (fin _ rfl))
  ·rw [restT_end (by omega)] at h
   exact rd_out h
 ·cases h
set_option maxRecDepth 100000
theorem go_open {nn h':Int} {r z t v cs:List (List D)} {rr:List D} {P Q:Prop} (hP:P) (hQ:Q) (e:covT nn r v z h' cs = (gapsA nn r t z h').isEmpty)
    (h:(T.leaf [D.b (covT nn r v z h' cs),.l v,.l cs,.i nn,.l r,.l z,.i h']).run = some rr) :
    T.run (T.ite (gapsA nn r t z h').isEmpty (T.need (yes P) (T.leaf [D.b true,.l v,.l cs,.i nn,.l r,.l z,.i h']))
     (T.need (yes Q) (T.leaf [D.b (((openF [] (gapsA nn r t z h')).length:Int) == 0),.l v,.l cs,.i nn,.l r,.l z,.i h']))) = some rr:=by
 rw [e] at h
 refine go_ite (fun c=>?_) fun c=>?_
 ·rw [c] at h
  exact go_yes hP h
 ·rw [c] at h
  refine go_yes hQ ?_
  have:(((openF [] (gapsA nn r t z h')).length:Int) == 0) = false:=by
   rw [beq_eq_false_iff_ne]
   intro hh
   rw [openF_len.1 hh] at c
   cases c
  rw [this]
  exact h
set_option maxHeartbeats 1000000 in
theorem ok1055_ (n q:Nat) (hA:AllOK C n sp1055) (hW:AllOKW C n (sw1055 q)):FnOKW C (n + 1) 55 (mkFW s1055 (G1055 (q + 1))):=by
 refine fn_ofW hC (sp:=sp1055) (lp:=lp1055 q) (sw:=sw1055 q) hA hW (by kernel_rfl) [4,11,17] (by kernel_rfl) (by kernel_rfl) (fun k hk L hL=>by
  simp only [List.mem_cons,List.not_mem_nil,or_false] at hk
  rcases hk with rfl | rfl | rfl <;> cases hL
  ·exact ok1055_4 n q hA hW
  ·exact ok1055_11 n q hA hW
  ·exact ok1055_17 n q hA hW) fun ds rr h=>?_
 unfold G1055 at h
 split at h
 ·rename_i s i m cs v f nn r z h'
  obtain ⟨hp,h⟩:=need_some h
  rw [yes_iff] at hp
  obtain ⟨hs,hP⟩:=hp
  obtain ⟨hG,hv12,hC,⟨i0,i1⟩,⟨m0,mq⟩,hcm⟩:=id hP
  refine (t1055 q s i m cs v f nn r z h').trans ?_
  have es:s.I.toNat = cs.L.length:=by omega
  have et:∀ l:List (List D),l.take l.length = l:=fun l=>List.take_length
  have z0:Int.toNat 0 = 0:=rfl
  simp only [es,et,z0,Int.toNat_natCast,List.drop_zero]
  refine go_dec (by omega) ?_
  refine go_ite (fun c=>?_) fun c=>?_
  ·have hm:m.I = 0:=by simpa using c
   rw [hm] at h
   simp only [z0,candT_zero,findT_one,fndT_one] at h
   have hT:=chos_ok hG hC
   refine go_yes ⟨by trivial,by trivial,by trivial,hC,by omega,by omega⟩ (go_ite (fun c=>?_) fun c=>?_)
   ·have en:teamL v.L cs.L = []:=by rw [List.isEmpty_iff.1 c]; rfl
    rw [en] at hT
    have hgl:=gapsA_len hT
    exact go_yes hT (go_open (by simp) (by simp; try omega) (by unfold covT; rw [en]) h)
   ·have hgl:=gapsA_len hT
    exact go_dec (by omega) (go_yes hT (go_open (by simp) (by simp; try omega) rfl h))
  ·have hm:¬ m.I = 0:=by simpa using c
   rw [candT_pos (by omega)] at h
   refine go_yes ⟨hP,by omega⟩ (go_ite (fun c=>?_) fun c=>?_)
   ·rw [c] at h; exact h
   ·rw [c] at h; exact h
 ·cases h
set_option maxHeartbeats 1000000 in
theorem ok55_ (n q:Nat) (hA:AllOK C n sp55) (hW:AllOKW C n (sw55 q)):FnOKW C (n + 1) 55 (mkFW s55 (G55 (q + 1))):=by
 refine fn_ofW hC (sp:=sp55) (lp:=lp55 q) (sw:=sw55 q) hA hW (by kernel_rfl) [4,11,17] (by kernel_rfl) (by kernel_rfl) (fun k hk L hL=>by
  simp only [List.mem_cons,List.not_mem_nil,or_false] at hk
  rcases hk with rfl | rfl | rfl <;> cases hL
  ·exact ok55_4 n q hA hW
  ·exact ok55_11 n q hA hW
  ·exact ok55_17 n q hA hW) fun ds rr h=>?_
 unfold G55 at h
 split at h
 ·rename_i cs i m v f nn r z h'
  obtain ⟨hp,h⟩:=need_some h
  rw [yes_iff] at hp
  have hP:=hp
  obtain ⟨hG,hv12,hC,⟨i0,i1⟩,⟨m0,mq⟩,hcm⟩:=id hP
  refine (t55 q cs i m v f nn r z h').trans ?_
  have et:∀ l:List (List D),l.take l.length = l:=fun l=>List.take_length
  have z0:Int.toNat 0 = 0:=rfl
  simp only [et,z0,Int.toNat_natCast,List.drop_zero]
  refine go_ite (fun c=>?_) fun c=>?_
  ·have hm:m.I = 0:=by simpa using c
   rw [hm] at h
   simp only [z0,candT_zero,findT_one,fndT_one] at h
   have hT:=chos_ok hG hC
   refine go_yes ⟨by trivial,by trivial,by trivial,hC,by omega,by omega⟩ (go_ite (fun c=>?_) fun c=>?_)
   ·have en:teamL v.L cs.L = []:=by rw [List.isEmpty_iff.1 c]; rfl
    rw [en] at hT
    have hgl:=gapsA_len hT
    exact go_yes hT (go_open (by simp) (by simp; try omega) (by unfold covT; rw [en]) h)
   ·have hgl:=gapsA_len hT
    exact go_dec (by omega) (go_yes hT (go_open (by simp) (by simp; try omega) rfl h))
  ·have hm:¬ m.I = 0:=by simpa using c
   rw [candT_pos (by omega)] at h
   refine go_yes ⟨hP,by omega⟩ (go_ite (fun c=>?_) fun c=>?_)
   ·rw [c] at h; exact h
   ·rw [c] at h; exact h
 ·cases h
theorem ok1055:∀ q n:Nat,FnOKW C (n + q + 9) 55 (mkFW s1055 (G1055 q))
 | 0, n=>by
   refine fn_ofW hC (sp:=[]) (lp:=[]) (sw:=[]) trivial trivial (by kernel_rfl) [4,11,17] (by kernel_rfl) (by kernel_rfl) (fun k hk L hL=>by cases hL) fun ds r h=>?_
   unfold G1055 at h
   split at h
   ·obtain ⟨hp,h⟩:=need_some h
    rw [yes_iff] at hp
    obtain ⟨-,-,-,-,-,⟨m0,m1⟩,-⟩:=hp
    omega
   ·cases h
 | q + 1,n=>by
   have:=ok1055_ (n + q + 9) q ⟨by have:=ok53 (n + q + 1); exact this,by have:=ok56 (n + q + 8); exact this,trivial⟩ ⟨ok1055 q n,trivial⟩
   exact this
theorem ok55 (n q:Nat):FnOKW C (n + q + 10) 55 (mkFW s55 (G55 (q + 1))):=ok55_ (n + q + 9) q ⟨by have:=ok53 (n + q + 1); exact this,by have:=ok56 (n + q + 8); exact this,trivial⟩ ⟨ok1055 q n,trivial⟩
set_option maxRecDepth 100000
theorem leastP_end {n:Int} {r v z:List (List D)} {h:Int} {m:Nat}:leastP n r v z h m 0 = none:=rfl
theorem cover12 {n:Int} {r v z:List (List D)} {h:Int} (hc:coverB n r v 12 z h = true):okG n r v z h ∧ v.length ≤ 12:=by
 refine ⟨cover_parts (by omega) hc,?_⟩
 unfold coverB at hc
 rw [Bool.and_eq_true,Bool.and_eq_true,Bool.and_eq_true,decide_eq_true_iff] at hc
 omega
set_option maxHeartbeats 1000000 in
theorem ok32_8 (n:Nat) (hA:AllOK C n sp32) (hW:AllOKW C n sw32):LoopSim C n 32 (loopOf C.P 32 8) (mkL l32_8 G32_8):=by
 refine loop_ofK hC (sp:=sp32) (lp:=lp32) (sw:=sw32) hA hW 0 [] (by kernel_rfl) rfl (fun k hk=>by cases hk) (by kernel_rfl) (fun ds=>(((ds.getD 1 default).L.length:Int) + 1 - (ds.getD 0 default).I).toNat) fun ds rr h=>?_
 unfold G32_8 at h
 split at h
 ·rename_i s v f nn r z h'
  obtain ⟨hp,h⟩:=need_some h
  rw [yes_iff] at hp
  obtain ⟨hG,h12,s0,s1⟩:=hp
  refine ⟨by rw [fuelC]; show ((v.L.length:Int) + 1 - s.I).toNat < _; omega,?_⟩
  refine rd_runT (t32_8 s v f nn r z h') ?_
  obtain ⟨m,hm⟩:∃ m:Nat,s.I = m:=⟨s.I.toNat,by omega⟩
  have z0:Int.toNat 0 = 0:=rfl
  simp only [hm,z0,Int.toNat_natCast] at h s0 s1 ⊢
  refine rd_if (fun hgt=>?_) fun hle=>?_
  ·rw [show v.L.length + 1 - m = 0 by omega,leastP_end] at h
   exact rd_out h
  ·rw [show v.L.length + 1 - m = (v.L.length - m) + 1 by omega,leastP_step] at h
   refine rd_yes ⟨hG,h12,⟨by simp,fun j hj=>by simp at hj⟩,by omega,by omega,by simp; omega⟩ (rd_ite (fun c=>?_) fun c=>?_)
   ·obtain ⟨x,hx⟩:=Option.isSome_iff_exists.1 c
    unfold fndT
    rw [hx] at h ⊢
    exact rd_out h
   ·have hn:findT nn.I r.L v.L z.L h'.I (candT v.L [] m 0) = none:=by simpa using c
    rw [hn] at h
    rw [wrap_succ (by omega)]
    refine rd_again ((need_yes ⟨hG,h12,by simp only [I_i]; omega,by simp only [I_i,L_l]; omega⟩).trans ?_) ?_
    ·simp only [I_i,L_l,Int.toNat_natCast]
     rw [show v.L.length + 1 - (m + 1) = v.L.length - m by omega]
     exact h
    ·show ((v.L.length:Int) + 1 - ((m + 1:Nat):Int)).toNat < ((v.L.length:Int) + 1 - s.I).toNat
     omega
 ·cases h
theorem ok32 (n:Nat):FnOKW C (n + 23) 32 (mkFW s32 G32):=by
 have hA:AllOK C (n + 22) sp32:=⟨ok52 (n + 16),trivial⟩
 have hW:AllOKW C (n + 22) sw32:=⟨ok55 n 12,trivial⟩
 refine fn_ofW hC (sp:=sp32) (lp:=lp32) (sw:=sw32) hA hW (by kernel_rfl) [8] (by kernel_rfl) (by kernel_rfl) (fun k hk L hL=>by simp at hk; subst hk; cases hL; exact ok32_8 (n + 22) hA hW) fun ds rr h=>?_
 unfold G32 at h
 split at h
 ·rename_i nn r v z h'
  refine (t32 nn r v z h').trans ?_
  have z0:Int.toNat 0 = 0:=rfl
  simp only [z0,Nat.sub_zero]
  refine go_yes (by omega) (go_not (fun c=>?_) fun c=>?_)
  ·rw [c] at h
   exact h
  ·rw [c] at h
   obtain ⟨hG,h12⟩:=cover12 c
   exact go_yes ⟨hG,h12,by omega,by omega⟩ h
 ·cases h
end Go.Proofs.Ytgmefblkmidglaa
