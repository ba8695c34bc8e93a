/-
 What the claim car_tyres rests on,part 7.
-/
import Derived.Test.YtlofnkkokcihnaaZT6
namespace Go.Proofs.Ytlofnkkokcihnaa
open Go.Lite
set_option maxRecDepth 100000
theorem yOK84:YOK y84:=by
 intro cargs ch d hd ya yh hv hh
 unfold y84 at hd
 dsimp only at hd
 split at hd
 ·rename_i n
  split at hd
  ·cases hd
   exact ⟨hv,hh⟩
  ·cases hd
 ·split at hd
  ·rename_i x y hx hy
   cases hd
   obtain ⟨h1,h2⟩:=fitsVs_sim _ y hx hv
   obtain ⟨h3,h4⟩:=fitsH_sim _ [] hy hh
   rw [List.append_nil] at h3
   refine ⟨h1,?_⟩
   show HR (headH [.row [.int .i64]] (headVs [.sl 0 1,.k (.int .i64)] (x ++ y)).2).1 yh
   rw [h2]
   exact h3
  ·cases hd
theorem useW_step {F:List (List D) → Int → List (List D)} {cs:List (List D)} {n:Int} {b:Int} {x:Nat} (h:(x:Int) < b) :
    useW F cs n x (b - (x:Int)).toNat = F (cs ++ [[.i x]]) (max n ((x:Int) + 1)) ++ useW F cs n (x + 1) (b - ((x + 1:Nat):Int)).toNat:=by
 rw [show (b - (x:Int)).toNat = (b - ((x + 1:Nat):Int)).toNat + 1 by omega]
 rfl
theorem useW_end {F:List (List D) → Int → List (List D)} {cs:List (List D)} {n:Int} {b:Int} {x:Nat} (h:¬ (x:Int) < b):useW F cs n x (b - (x:Int)).toNat = []:=by
 rw [show (b - (x:Int)).toNat = 0 by omega]
 rfl
theorem useA_zero {L A n:Int} {cs:List (List D)} (h:(cs.length:Int) = L):useA L A n cs = [yE cs n]:=by
 unfold useA
 rw [show L.toNat - cs.length = 0 by omega]
 rfl
theorem useA_pos {L A n:Int} {cs:List (List D)} (h:(cs.length:Int) < L):useA L A n cs = useR L A n (min (n + 1) A) 0 cs:=by
 unfold useA useR
 rw [show L.toNat - cs.length = (L.toNat - cs.length - 1) + 1 by omega]
 show useW _ cs n 0 _ = _
 rw [show ((min (n + 1) A) - 0).toNat = (min (n + 1) A).toNat by omega]
 rfl
theorem minI_eq (a b:Int):minI a b = min a b:=by unfold minI; omega
theorem maxI_eq (a b:Int):maxI a b = max a b:=by unfold maxI; omega
theorem take_app {α:Type} {A B:List α} {k:Nat} (h:A.length ≤ k):A ++ B.take (k - A.length) = (A ++ B).take k:=by
 rw [List.take_append,List.take_of_length_le h]
theorem b3y:Try.prog.types[3].bytes = 8:=by kernel_rfl
theorem rd_runY {G:List D → T (Ex × List D)} {μ:List D → Nat} {ds:List D} {r:Ex × List D} {X Y:Option Rd} (e:X = Y) (h:RdOK G μ ds r Y):RdOK G μ ds r X:=e ▸ h
set_option maxHeartbeats 1000000 in
theorem ok1085_4 (p q n:Nat) (hA:AllOK C n sp1085) (hY:AllOKY C n y84 q (sy1085 p q)):LoopSimY C n 5 85 (loopOf C.P 85 4) (some y84) q (mkLY 5 l1085_4 (G85_4 p q)):=by
 refine loop_ofYY hC (sp:=sp1085) (lp:=lp1085 p q) (sw:=[]) (sy:=sy1085 p q) yOK84 hA trivial hY 5 [] (by kernel_rfl) rfl (by kernel_rfl) (fun k hk=>by cases hk) (by kernel_rfl) (fun ds=>((ds.getD 3 default).I - (ds.getD 4 default).I).toNat) fun ds rr h=>?_
 unfold G85_4 at h
 split at h
 ·rename_i g cs n' b x L A
  obtain ⟨hp,h⟩:=need_some h
  rw [yes_iff] at hp
  obtain ⟨hU,hL,hg,⟨b0,b1⟩,x0,x1⟩:=hp
  obtain ⟨⟨l0,l1,l2⟩,⟨a0,a1⟩,n0,n1⟩:=id hU
  refine ⟨by rw [fuelC]; show (b.I - x.I).toNat < _; omega,?_⟩
  refine rd_runY (t1085_4 p q g cs n' b x L A) ?_
  obtain ⟨k,hk⟩:∃ k:Nat,x.I = k:=⟨x.I.toNat,by omega⟩
  have et:∀ l:List (List D),l.take l.length = l:=fun l=>List.take_length
  simp only [hk,Int.toNat_natCast,b3y,et,maxI_eq] at h x0 x1 ⊢
  rw [wrap_succ (by omega)]
  refine rd_if (fun hlt=>?_) fun hge=>?_
  ·unfold useR at h
   rw [Int.toNat_natCast,useW_step hlt] at h
   have hmu:(b.I - ((k + 1:Nat):Int)).toNat < (b.I - x.I).toNat:=by omega
   have hUn:useP p L.I A.I (max n'.I ((k + 1:Nat):Int)) (cs.L ++ [[.i k]]):=
    ⟨⟨by simp only [List.length_append,List.length_singleton]; omega,l1,by simp only [List.length_append,List.length_singleton]; omega⟩,⟨a0,a1⟩,by omega,by omega⟩
   have hUA:useA L.I A.I (max n'.I ((k + 1:Nat):Int)) (cs.L ++ [[.i k]]) = useF A.I (L.I.toNat - cs.L.length - 1) (cs.L ++ [[.i k]]) (max n'.I ((k:Int) + 1)):=by
    unfold useA
    rw [List.length_append,List.length_singleton,Nat.sub_add_eq]
    rfl
   have hre:useW (useF A.I (L.I.toNat - cs.L.length - 1)) cs.L n'.I (k + 1) (b.I - ((k + 1:Nat):Int)).toNat = useR L.I A.I n'.I b.I ((k + 1:Nat):Int) cs.L:=rfl
   rw [← hUA,hre] at h
   have fin:∀ U:List (List D),U = useA L.I A.I (max n'.I ((k + 1:Nat):Int)) (cs.L ++ [[.i k]]) → RdOK (G85_4 p q) (fun ds=>((ds.getD 3 default).I - (ds.getD 4 default).I).toNat) [g,cs,n',b,x,L,A] rr
       (T.run (T.ite (!decide (g.L.length + U.length ≤ q)) (T.leaf (Rd.out Ex.ret [.l (g.L ++ U.take (q + 1 - g.L.length)),.b false,.i L.I,.i A.I]))
        (T.leaf (Rd.again [.l (g.L ++ U.take (q + 1 - g.L.length)),.l cs.L,.i n'.I,.i b.I,.i ((k + 1:Nat):Int),.i L.I,.i A.I])))):=fun U hU'=>by
    rw [← hU'] at h
    refine rd_not (fun c=>?_) fun c=>?_
    ·have c:=of_decide_eq_false c
     rw [run_ite,if_pos (by simp only [List.length_append]; exact decide_eq_true (by omega)),List.take_append_of_le_length (by omega)] at h
     exact rd_out h
    ·have c:=of_decide_eq_true c
     rw [List.take_of_length_le (by omega)]
     refine rd_again ((need_yes ⟨hU,hL,by simp only [L_l,List.length_append]; omega,⟨b0,b1⟩,by simp only [I_i]; omega,by simp only [I_i]; omega⟩).trans ?_) hmu
     have e0:(U ++ useR L.I A.I n'.I b.I ((k + 1:Nat):Int) cs.L).take (q + 1 - g.L.length) = U ++ (useR L.I A.I n'.I b.I ((k + 1:Nat):Int) cs.L).take (q + 1 - g.L.length - U.length):=(take_app (by omega)).symm
     have hl:(U ++ useR L.I A.I n'.I b.I ((k + 1:Nat):Int) cs.L).length = U.length + (useR L.I A.I n'.I b.I ((k + 1:Nat):Int) cs.L).length:=List.length_append
     have hl2:(g.L ++ U).length = g.L.length + U.length:=List.length_append
     refine go_if (fun c3=>?_) fun c3=>?_
     ·have c3:q < (g.L ++ U).length + (useR L.I A.I n'.I b.I ((k + 1:Nat):Int) cs.L).length:=c3
      rw [run_ite,if_pos (decide_eq_true (by omega)),e0,← List.append_assoc,Nat.sub_sub,← hl2] at h
      exact h
     ·have c3:¬ q < (g.L ++ U).length + (useR L.I A.I n'.I b.I ((k + 1:Nat):Int) cs.L).length:=c3
      rw [run_ite,if_neg (by rw [decide_eq_true_iff]; omega),← List.append_assoc] at h
      exact h
   refine rd_yes (by omega) (rd_ite (fun c=>?_) fun c=>?_)
   ·have e0:cs.L = []:=List.isEmpty_iff.1 c
    have e1:[[D.i (k:Int)]] = cs.L ++ [[.i k]]:=by rw [e0]; rfl
    rw [e1]
    refine rd_need rfl (rd_false rfl (rd_need rfl (rd_yes ⟨⟨by rw [e0]; rfl,by simp⟩,hUn,hg⟩ (fin _ rfl))))
   ·refine rd_need rfl (rd_false rfl (rd_dec (by omega) (rd_yes ⟨⟨by simp only [List.length_append,List.length_singleton],by simp⟩,hUn,hg⟩ (fin _ rfl))))
  ·unfold useR at h
   rw [Int.toNat_natCast,useW_end hge,List.take_nil,List.append_nil] at h
   rw [run_ite,if_neg (by simp; omega)] at h
   exact rd_out h
 ·cases h
set_option maxHeartbeats 1000000 in
theorem ok85_4 (p q n:Nat) (hA:AllOK C n sp1085) (hY:AllOKY C n y84 q (sy1085 p q)):LoopSimY C n 4 85 (loopOf C.P 85 4) (some y84) q (mkLY 4 l85_4 (G85_4 p q)):=by
 refine loop_ofYY hC (sp:=sp1085) (lp:=lp85 p q) (sw:=[]) (sy:=sy1085 p q) yOK84 hA trivial hY 4 [] (by kernel_rfl) rfl (by kernel_rfl) (fun k hk=>by cases hk) (by kernel_rfl) (fun ds=>((ds.getD 3 default).I - (ds.getD 4 default).I).toNat) fun ds rr h=>?_
 unfold G85_4 at h
 split at h
 ·rename_i g cs n' b x L A
  obtain ⟨hp,h⟩:=need_some h
  rw [yes_iff] at hp
  obtain ⟨hU,hL,hg,⟨b0,b1⟩,x0,x1⟩:=hp
  obtain ⟨⟨l0,l1,l2⟩,⟨a0,a1⟩,n0,n1⟩:=id hU
  refine ⟨by rw [fuelC]; show (b.I - x.I).toNat < _; omega,?_⟩
  refine rd_runY (t85_4 p q g cs n' b x L A) ?_
  obtain ⟨k,hk⟩:∃ k:Nat,x.I = k:=⟨x.I.toNat,by omega⟩
  have et:∀ l:List (List D),l.take l.length = l:=fun l=>List.take_length
  simp only [hk,Int.toNat_natCast,b3y,et,maxI_eq] at h x0 x1 ⊢
  rw [wrap_succ (by omega)]
  refine rd_if (fun hlt=>?_) fun hge=>?_
  ·unfold useR at h
   rw [Int.toNat_natCast,useW_step hlt] at h
   have hmu:(b.I - ((k + 1:Nat):Int)).toNat < (b.I - x.I).toNat:=by omega
   have hUn:useP p L.I A.I (max n'.I ((k + 1:Nat):Int)) (cs.L ++ [[.i k]]):=
    ⟨⟨by simp only [List.length_append,List.length_singleton]; omega,l1,by simp only [List.length_append,List.length_singleton]; omega⟩,⟨a0,a1⟩,by omega,by omega⟩
   have hUA:useA L.I A.I (max n'.I ((k + 1:Nat):Int)) (cs.L ++ [[.i k]]) = useF A.I (L.I.toNat - cs.L.length - 1) (cs.L ++ [[.i k]]) (max n'.I ((k:Int) + 1)):=by
    unfold useA
    rw [List.length_append,List.length_singleton,Nat.sub_add_eq]
    rfl
   have hre:useW (useF A.I (L.I.toNat - cs.L.length - 1)) cs.L n'.I (k + 1) (b.I - ((k + 1:Nat):Int)).toNat = useR L.I A.I n'.I b.I ((k + 1:Nat):Int) cs.L:=rfl
   rw [← hUA,hre] at h
   have fin:∀ U:List (List D),U = useA L.I A.I (max n'.I ((k + 1:Nat):Int)) (cs.L ++ [[.i k]]) → RdOK (G85_4 p q) (fun ds=>((ds.getD 3 default).I - (ds.getD 4 default).I).toNat) [g,cs,n',b,x,L,A] rr
       (T.run (T.ite (!decide (g.L.length + U.length ≤ q)) (T.leaf (Rd.out Ex.ret [.l (g.L ++ U.take (q + 1 - g.L.length)),.b false,.i L.I,.i A.I]))
        (T.leaf (Rd.again [.l (g.L ++ U.take (q + 1 - g.L.length)),.l cs.L,.i n'.I,.i b.I,.i ((k + 1:Nat):Int),.i L.I,.i A.I])))):=fun U hU'=>by
    rw [← hU'] at h
    refine rd_not (fun c=>?_) fun c=>?_
    ·have c:=of_decide_eq_false c
     rw [run_ite,if_pos (by simp only [List.length_append]; exact decide_eq_true (by omega)),List.take_append_of_le_length (by omega)] at h
     exact rd_out h
    ·have c:=of_decide_eq_true c
     rw [List.take_of_length_le (by omega)]
     refine rd_again ((need_yes ⟨hU,hL,by simp only [L_l,List.length_append]; omega,⟨b0,b1⟩,by simp only [I_i]; omega,by simp only [I_i]; omega⟩).trans ?_) hmu
     have e0:(U ++ useR L.I A.I n'.I b.I ((k + 1:Nat):Int) cs.L).take (q + 1 - g.L.length) = U ++ (useR L.I A.I n'.I b.I ((k + 1:Nat):Int) cs.L).take (q + 1 - g.L.length - U.length):=(take_app (by omega)).symm
     have hl:(U ++ useR L.I A.I n'.I b.I ((k + 1:Nat):Int) cs.L).length = U.length + (useR L.I A.I n'.I b.I ((k + 1:Nat):Int) cs.L).length:=List.length_append
     have hl2:(g.L ++ U).length = g.L.length + U.length:=List.length_append
     refine go_if (fun c3=>?_) fun c3=>?_
     ·have c3:q < (g.L ++ U).length + (useR L.I A.I n'.I b.I ((k + 1:Nat):Int) cs.L).length:=c3
      rw [run_ite,if_pos (decide_eq_true (by omega)),e0,← List.append_assoc,Nat.sub_sub,← hl2] at h
      exact h
     ·have c3:¬ q < (g.L ++ U).length + (useR L.I A.I n'.I b.I ((k + 1:Nat):Int) cs.L).length:=c3
      rw [run_ite,if_neg (by rw [decide_eq_true_iff]; omega),← List.append_assoc] at h
      exact h
   refine rd_yes (by omega) (rd_ite (fun c=>?_) fun c=>?_)
   ·have e0:cs.L = []:=List.isEmpty_iff.1 c
    have e1:[[D.i (k:Int)]] = cs.L ++ [[.i k]]:=by rw [e0]; rfl
    rw [e1]
    refine rd_need rfl (rd_false rfl (rd_need rfl (rd_yes ⟨⟨by rw [e0]; rfl,by simp⟩,hUn,hg⟩ (fin _ rfl))))
   ·refine rd_need rfl (rd_false rfl (rd_dec (by omega) (rd_yes ⟨⟨by simp only [List.length_append,List.length_singleton],by simp⟩,hUn,hg⟩ (fin _ rfl))))
  ·unfold useR at h
   rw [Int.toNat_natCast,useW_end hge,List.take_nil,List.append_nil] at h
   rw [run_ite,if_neg (by simp; omega)] at h
   exact rd_out h
 ·cases h
set_option maxHeartbeats 1000000 in
theorem ok1085_ (p q n:Nat) (hA:AllOK C n sp1085) (hY:AllOKY C n y84 q (sy1085 p q)):FnOKY C (n + 1) 85 y84 q (mkFYW s1085 (G1085 (p + 1) q)):=by
 refine fn_ofYY hC (sp:=sp1085) (lp:=lp1085 p q) (sw:=[]) (sy:=sy1085 p q) yOK84 hA trivial hY (by kernel_rfl) [4] (by kernel_rfl) (by kernel_rfl) (by kernel_rfl) (fun k hk L hL=>by simp at hk; subst hk; cases hL; exact ok1085_4 p q n hA hY) fun ds lg rr h=>?_
 unfold G1085 at h
 split at h
 ·rename_i s n' cs L A
  obtain ⟨hp,h⟩:=need_some h
  rw [yes_iff] at hp
  obtain ⟨⟨hs,h0⟩,hU,hg⟩:=hp
  obtain ⟨⟨l0,l1,l2⟩,⟨a0,a1⟩,n0,n1⟩:=id hU
  refine (t1085 p q lg s n' cs L A).trans ?_
  have hq:(tab1085 p q).q = q:=rfl
  have ed:∀ X:List (List D),(lg ++ X).drop lg.length = X:=fun X=>List.drop_left' rfl
  have es:s.I.toNat = cs.L.length:=by omega
  have et:cs.L.take cs.L.length = cs.L:=List.take_length
  simp only [es,et,ed,hq]
  refine go_ite (fun c=>?_) fun c=>?_
  ·have c:(cs.L.length:Int) = L.I:=by simpa using c
   simp only [useA_zero c] at h
   rw [List.take_of_length_le (by simp; omega)] at h
   have e1:(!(lg.length == q)) = decide (lg.length + 1 ≤ q):=by
    by_cases e:lg.length = q
    ·rw [e]; simp
    ·rw [beq_eq_false_iff_ne.2 e,decide_eq_true (by omega)]; rfl
   rw [e1]
   have hne:cs.L.isEmpty = false:=by
    cases hc:cs.L with
    | nil=>rw [hc] at h0; simp at h0
    | cons _ _=>rfl
   have hy:yE cs.L n'.I = [.i 1,.i cs.L.length,.i n'.I,.l cs.L]:=by unfold yE; rw [hne]; rfl
   rw [hy] at h
   exact h
  ·have c:¬ (cs.L.length:Int) = L.I:=by simpa using c
   have l0':(cs.L.length:Int) < L.I:=by have:(cs.L.length:Int) ≤ L.I:=l0; omega
   simp only [useA_pos l0'] at h
   rw [wrap_id (by omega) (by omega),minI_eq]
   refine go_dec (by omega) ?_
   refine go_yes ⟨hU,l0',hg,by omega,by omega,by omega⟩ (go_if (fun c2=>?_) fun c2=>?_)
   ·rw [decide_eq_false (by omega)] at h
    exact h
   ·rw [decide_eq_true (by omega),List.take_of_length_le (by omega)] at h
    exact h
 ·cases h
set_option maxHeartbeats 1000000 in
theorem ok85_ (p q n:Nat) (hA:AllOK C n sp1085) (hY:AllOKY C n y84 q (sy1085 p q)):FnOKY C (n + 1) 85 y84 q (mkFYW s85 (G85 (p + 1) q)):=by
 refine fn_ofYY hC (sp:=sp1085) (lp:=lp85 p q) (sw:=[]) (sy:=sy1085 p q) yOK84 hA trivial hY (by kernel_rfl) [4] (by kernel_rfl) (by kernel_rfl) (by kernel_rfl) (fun k hk L hL=>by simp at hk; subst hk; cases hL; exact ok85_4 p q n hA hY) fun ds lg rr h=>?_
 unfold G85 at h
 split at h
 ·rename_i n' L A
  obtain ⟨hp,h⟩:=need_some h
  rw [yes_iff] at hp
  obtain ⟨hU,hg⟩:=hp
  obtain ⟨⟨l0,l1,l2⟩,⟨a0,a1⟩,n0,n1⟩:=id hU
  refine (t85 p q lg n' L A).trans ?_
  have hq:(tab85 p q).q = q:=rfl
  have ed:∀ X:List (List D),(lg ++ X).drop lg.length = X:=fun X=>List.drop_left' rfl
  simp only [ed,hq]
  refine go_ite (fun c=>?_) fun c=>?_
  ·have c:((([]:List (List D)).length:Nat):Int) = L.I:=by simpa using c
   simp only [useA_zero c] at h
   rw [List.take_of_length_le (by simp; omega)] at h
   have e1:(!(lg.length == q)) = decide (lg.length + 1 ≤ q):=by
    by_cases e:lg.length = q
    ·rw [e]; simp
    ·rw [beq_eq_false_iff_ne.2 e,decide_eq_true (by omega)]; rfl
   rw [e1]
   exact h
  ·have c:¬ ((([]:List (List D)).length:Nat):Int) = L.I:=by simpa using c
   have l0':((([]:List (List D)).length:Nat):Int) < L.I:=by have:((([]:List (List D)).length:Nat):Int) ≤ L.I:=l0; omega
   simp only [useA_pos l0'] at h
   rw [wrap_id (by omega) (by omega),minI_eq]
   refine go_yes ⟨hU,l0',hg,by omega,by omega,by omega⟩ (go_if (fun c2=>?_) fun c2=>?_)
   ·rw [decide_eq_false (by omega)] at h
    exact h
   ·rw [decide_eq_true (by omega),List.take_of_length_le (by omega)] at h
    exact h
 ·cases h
theorem ok72 (n:Nat):FnOK C (n + 1) 72 (mkF s72 Gcl):=by
 refine clone_ok (ks:=[.int .i64]) (by kernel_rfl) (fun kd c0=>by cases kd <;> cases c0 <;> kernel_rfl) ?_
 refine fn_ofS hC (sp:=[]) (lp:=[]) (sw:=[]) trivial trivial (by kernel_rfl) [] (by kernel_rfl) rfl (fun k hk=>by cases hk) fun ds rr h=>?_
 unfold Gcl1 at h
 split at h
 ·rename_i l
  obtain ⟨hp,h⟩:=need_some h
  rw [yes_iff] at hp
  obtain ⟨h1,h2⟩:=hp
  refine (t72 l).trans ?_
  have hne:l.L.isEmpty = false:=by cases hl:l.L with
   | nil=>exact absurd hl h1
   | cons c cs=>rfl
  rw [b3y]
  refine go_need (by rw [hne]; rfl) (go_false hne (go_dec (by omega) h))
 ·cases h
theorem ok1085:∀ p q n:Nat,FnOKY C (n + p + 2) 85 y84 q (mkFYW s1085 (G1085 p q))
 | 0, q,n=>by
   refine fn_ofYY hC (sp:=[]) (lp:=[]) (sw:=[]) (sy:=[]) yOK84 trivial trivial trivial (by kernel_rfl) [4] (by kernel_rfl) (by kernel_rfl) (by kernel_rfl) (fun k hk L hL=>by cases hL) fun ds lg rr h=>?_
   unfold G1085 at h
   split at h
   ·obtain ⟨hp,h⟩:=need_some h
    rw [yes_iff] at hp
    obtain ⟨-,⟨⟨l0,l1,l2⟩,-⟩,-⟩:=hp
    omega
   ·cases h
 | p + 1,q,n=>ok1085_ p q (n + p + 2) ⟨by have:=ok72 (n + p + 1); exact this,trivial⟩ ⟨ok1085 p q n,trivial⟩
theorem ok85 (p q n:Nat):FnOKY C (n + p + 3) 85 y84 q (mkFYW s85 (G85 (p + 1) q)):=ok85_ p q (n + p + 2) ⟨by have:=ok72 (n + p + 1); exact this,trivial⟩ ⟨ok1085 p q n,trivial⟩
theorem ok84 (n:Nat):IterOK C (n + 12) 84 y84 (mkFY s84 G84):=by
 refine iter_ofYY hC (sp:=[]) (lp:=fun _=>[]) (sw:=[]) (sy:=sy84) (Y:=y84) yOK84 trivial trivial (fun q=>⟨by have:=ok85 8 q n; exact this,trivial⟩) (by kernel_rfl) [] (by kernel_rfl) rfl (by kernel_rfl) (fun q k hk=>by cases hk) fun ds L h q=>?_
 unfold G84 at h
 split at h
 ·rename_i l a
  obtain ⟨hp,h⟩:=need_some h
  rw [yes_iff] at hp
  obtain ⟨⟨l0,l1⟩,a0,a1⟩:=hp
  refine (t84 q l a).trans (go_yes ⟨⟨⟨by simpa using l0,l1,by simp; omega⟩,⟨a0,a1⟩,by omega,by omega⟩,Nat.zero_le _⟩ ?_)
  have h:some (useF a.I l.I.toNat [] 0) = some L:=h
  cases h
  rfl
 ·cases h
set_option maxRecDepth 100000
theorem ok53 (n:Nat):FnOK C (n + 1) 53 (mkF s53 G53):=by
 refine fn_ofS hC (sp:=[]) (lp:=[]) (sw:=[]) trivial trivial (by kernel_rfl) [] (by kernel_rfl) rfl (fun k hk=>by cases hk) fun ds rr h=>?_
 unfold G53 at h
 split at h
 ·rename_i l a
  exact (t53 l a).trans h
 ·cases h
theorem ok56 (n:Nat):FnOK C (n + 1) 56 (mkF s56 G56):=by
 refine fn_ofS hC (sp:=[]) (lp:=[]) (sw:=[]) trivial trivial (by kernel_rfl) [] (by kernel_rfl) rfl (fun k hk=>by cases hk) fun ds rr h=>?_
 unfold G56 at h
 split at h
 ·rename_i a b c d
  exact (t56 a b c d).trans h
 ·cases h
theorem bestO_step {o:List D} {l:List (List D)} {k:Nat} (h:k < l.length):bestO o (l.drop k) = bestO (lessO (l.getD k []) o) (l.drop (k + 1)):=by
 rw [List.drop_eq_getElem_cons h,List.getD_eq_getElem?_getD,List.getElem?_eq_getElem h]
 rfl
theorem ok55_3 (n:Nat) (hA:AllOK C n sp55):LoopSim C n 55 (loopOf C.P 55 3) (mkL l55_3 G55_3):=by
 refine loop_ofK hC (sp:=sp55) (lp:=lp55) (sw:=[]) hA trivial 0 [] (by kernel_rfl) rfl (fun k hk=>by cases hk) (by kernel_rfl) (fun ds=>((ds.getD 1 default).I - (ds.getD 2 default).I).toNat) fun ds rr h=>?_
 unfold G55_3 at h
 split at h
 ·rename_i l n' i a b c d
  obtain ⟨hp,h⟩:=need_some h
  rw [yes_iff] at hp
  obtain ⟨hn,hb,i0,i1⟩:=hp
  refine ⟨by rw [fuelC]; show (n'.I - i.I).toNat < _; omega,?_⟩
  refine rd_runY (t55_3 l n' i a b c d) ?_
  obtain ⟨k,hk⟩:∃ k:Nat,i.I = k:=⟨i.I.toNat,by omega⟩
  simp only [hk,Int.toNat_natCast,ix_def] at h i0 i1 ⊢
  refine rd_if (fun hlt=>?_) fun hge=>?_
  ·have hkl:k < l.L.length:=by omega
   rw [bestO_step hkl] at h
   rw [wrap_succ (by omega)]
   have hmu:(n'.I - ((k + 1:Nat):Int)).toNat < (n'.I - i.I).toNat:=by omega
   have fin:∀ x y:Int,lessO (l.L.getD k []) (mkO c d) = mkO (.i x) (.i y) → (G55_3 [.l l.L,.i n'.I,.i ((k + 1:Nat):Int),.i a.I,.i b.I,.i x,.i y]).run = some rr:=fun x y e=>by
    rw [e] at h
    refine (need_yes ⟨by simp only [I_i,L_l]; omega,hb,by simp only [I_i]; omega,by simp only [I_i]; omega⟩).trans ?_
    exact h
   refine rd_dec (by omega) (rd_if (fun c1=>rd_again (fin _ _ ?_) hmu) fun c1=>rd_again (fin _ _ ?_) hmu)
   ·exact if_pos c1
   ·exact if_neg c1
  ·rw [List.drop_eq_nil_of_le (by omega)] at h
   exact rd_out h
 ·cases h
theorem ok55 (n:Nat):FnOK C (n + 2) 55 (mkF s55 G55):=by
 have hA:AllOK C (n + 1) sp55:=⟨ok56 n,trivial⟩
 refine fn_ofS hC (sp:=sp55) (lp:=lp55) (sw:=[]) hA trivial (by kernel_rfl) [3] (by kernel_rfl) (by kernel_rfl) (fun k hk L hL=>by simp at hk; subst hk; cases hL; exact ok55_3 (n + 1) hA) fun ds rr h=>?_
 unfold G55 at h
 split at h
 ·rename_i l
  obtain ⟨hp,h⟩:=need_some h
  rw [yes_iff] at hp
  refine (t55 l).trans ?_
  have z0:Int.toNat 0 = 0:=rfl
  have z1:Int.toNat 1 = 1:=rfl
  have et:(l.L.drop 1).take (l.L.length - 1) = l.L.drop 1:=List.take_of_length_le (by simp)
  simp only [z0,z1,et,List.drop_zero,ix_def]
  exact go_dec (by omega) (go_dec (by omega) (go_yes ⟨by trivial,by simp; omega,by omega,by omega⟩ h))
 ·cases h
end Go.Proofs.Ytlofnkkokcihnaa
namespace Go.Lite
theorem rangeS_okE {C:Cfg} (hC:∀ t Y,C.ty t = some Y → tyOf C.P t = some Y) {tab:Tab} {n:Nat} {tabOf:List D → Tab} (hS:∀ el,SpOK C (tabOf el) n) {f:FuncId} {r:Rg} {k:Nat} {live:List Nat} {head:List Shp} {Y:YS}
    (hYok:YOK Y) (hla:∀ ds el,LoopsOKK C (tabOf el) n ((headA head ds).h.length + (Y.head el).2.length) f r.2.2.1) (hlb:∀ ds el,LoopsOKK C (tabOf el) n ((headA head ds).h.length + (Y.head el).2.length) f r.2.2.2) (hann:C.ann f (keyOf r.2.2.2) = some live) (hgive:C.give f (keyOf r.2.2.2) = Y.give) {it:ItL} (hIt:AllOKI C n Y it) {G:List (List D) → List D → T (Ex × List D)}
    (hG:∀ L ds rr,(G L ds).run = some rr → FoldR (fun ds el=>(roundRT C (tabOf el) f r k ((headA head ds).h.length + (Y.head el).2.length) live head Y ds el).run) Y.give (fun a b=>headA head a = headA head b) ds L rr.1 rr.2):CodeSim C n k f r.code tab.y tab.q (rangeS k live r.1 it head G):=by
 intro σ e σ' h
 unfold rangeS at h
 split at h
 ·cases h
 rename_i hlog
 split at h
 case h_2=>cases h
 rename_i gf a cp hev
 generalize hms:reachS (sget (normS k live σ).h) wide ((a ++ cp).flatMap (idsS deep)) [] = ms at h
 dsimp only at h
 split at h
 case h_2=>cases h
 rename_i F ds hF hfit
 rw [T.run_bind,Option.bind_eq_some_iff] at h
 obtain ⟨L,hL,h⟩:=h
 rw [T.run_bind,Option.bind_eq_some_iff] at h
 obtain ⟨rr,hr0,h⟩:=h
 cases h
 refine ⟨by rw [hlog]; exact List.nil_prefix,?_⟩
 intro τ hr S H P Lg _ _ s hs
 have hgc:gcOf C k f r.2.2.2 = norm k live:=by unfold gcOf; rw [hann]
 have h1:SSR (normS k live σ) (norm k live τ):=norm_sim hr
 have hv:=evS_sim h1.1 r.1
 rw [hev] at hv
 simp only [VR] at hv
 obtain ⟨a',c',hv,ha,hcp⟩:=hv
 have hreach:reach (hget (norm k live τ).h) wide ((a' ++ c').flatMap (ids deep)) [] = ms:=by
  rw [← hms,ids_eqs (VRL_append ha hcp)]
  exact reach_eq h1.2.2 _ _ _
 have h2:=fitsA_sim hfit (norm_sim (k:=k) (live:=live) (τ:={ tmps:=(norm k live τ).tmps,h:=hups (norm k live τ).h (ms.map fun i=>(i,none)) }) ⟨h1.1,HR.ups h1.2 (UR_kills ms)⟩)
 have hargs:VRL (a.map (mvS true false (pos ms) deep) ++ [.yl] ++ cp.map (mvS true false (pos ms) deep)) (a'.map (mv true false (pos ms) deep) ++ [.yl] ++ c'.map (mv true false (pos ms) deep)):=
  VRL_append (VRL_append (VRL_map (mv_sim true false _ deep) ha) (VRL_cons (by simp only [VR]) VRL_nil)) (VRL_map (mv_sim true false _ deep) hcp)
 have hheap:HR (ms.map fun i=>(sget (normS k live σ).h i).map (mvSB true false (pos ms))) (ms.map fun i=>(hget (norm k live τ).h i).map (mvB true false (pos ms))):=HR.maps _ fun i _=>OR.map (h1.2.2 i) _
 obtain ⟨q,Q,q1,q2,qp,q3⟩:=fold_sim (head:=head) (Y:=Y) (s:=s) (Hf:=roundH r.2.1 (norm k live) Y.give (fun kk=>execA C (callA C n) f kk H r.2.2.1) (fun kk=>execA C (callA C n) f kk H r.2.2.2))
  (fun ds el x' o hR hx τ hτ ya yh hya hyh=>round_sim hC (hS el) hYok (hla ds el) (hlb ds el) hR hx hτ hya hyh H s) (fun hR=>roundRT_np hR) (hG L ds rr hr0)
 obtain ⟨v',h',s',hcall,hvp,hQ⟩:=allOKI_get hIt gf F hF _ _ L hL _ _ hargs hheap _ _ Q q q2 _ (q1 _ h2)
 obtain ⟨τ',rfl,hτ'⟩:=q3 _ hQ
 refine ⟨τ',s,?_,by rw [headA_log]; rw [hlog] at hs; exact hs,hτ'⟩
 unfold Rg.code
 simp only [execA,hgc,hgive,hv,hreach,hcall,hvp]
 cases he:rr.1 with
 | pan t=>rw [he] at qp; cases qp
 | _=>rfl
end Go.Lite
namespace Go.Proofs.Ytlofnkkokcihnaa
open Go.Lite
def s21:SigW:=⟨[.k (.ro [.ro [.ro [.int .i64,.int .i64]],.ro [.ro [.int .i64,.int .i64]],.ro [.int .i64],.int .i64]),.k (.ro [.ro [.int .i64,.int .i64,.int .i64,.bool]]),.k (.int .i64)],[],[(.tup [.agg [.k (.ro [.int .i64]),.k (.ro [.int .i64]),.k (.int .i64)],.k (.int .i64)],[])]⟩
def h21_8:List Shp:=[mkShp (109,[(3,.ptr 0 1 0 0),(4,.ptr 1 1 0 0),(6,.ptr 2 3 0 0),(7,.k (.int .i64)),(8,.ptr 3 3 0 0),(9,.ptr 4 1 0 0),(29,.fn 84 [] [.any,.any])],[.box [.k (.ro [.ro [.ro [.int .i64,.int .i64]],.ro [.ro [.int .i64,.int .i64]],.ro [.int .i64],.int .i64])],.box [.k (.ro [.ro [.int .i64,.int .i64,.int .i64,.bool]])],.box [.nils,.nils,.k (.int .i64)],.box [.k (.ro [.int .i64]),.k (.ro [.int .i64]),.k (.int .i64)],.box [.k .bool]])]
def l21_10:LSig:=mkLS [3,4,6,7,8,9,10,11,12,29,34,35] [(109,[(3,.ptr 0 1 0 0),(4,.ptr 1 1 0 0),(6,.ptr 2 3 0 0),(7,.k (.int .i64)),(8,.ptr 3 3 0 0),(9,.ptr 4 1 0 0),(10,.sl 5 1),(11,.k (.int .i64)),(12,.ptr 6 3 0 0),(29,.fn 84 [] [.any,.any]),(34,.k (.int .i64)),(35,.k (.int .i64))],[.box [.k (.ro [.ro [.ro [.int .i64,.int .i64]],.ro [.ro [.int .i64,.int .i64]],.ro [.int .i64],.int .i64])],.box [.k (.ro [.ro [.int .i64,.int .i64,.int .i64,.bool]])],.box [.nils,.nils,.k (.int .i64)],.box [.k (.ro [.int .i64]),.k (.ro [.int .i64]),.k (.int .i64)],.box [.k .bool],.row [.int .i64],.box [.sl 5 1,.nils,.k (.int .i64)]]),(109,[(3,.ptr 0 1 0 0),(4,.ptr 1 1 0 0),(6,.ptr 2 3 0 0),(7,.k (.int .i64)),(8,.ptr 3 3 0 0),(9,.ptr 4 1 0 0),(10,.sl 5 1),(11,.k (.int .i64)),(12,.ptr 6 3 0 0),(29,.fn 84 [] [.any,.any]),(34,.k (.int .i64)),(35,.k (.int .i64))],[.box [.k (.ro [.ro [.ro [.int .i64,.int .i64]],.ro [.ro [.int .i64,.int .i64]],.ro [.int .i64],.int .i64])],.box [.k (.ro [.ro [.int .i64,.int .i64,.int .i64,.bool]])],.box [.nils,.nils,.k (.int .i64)],.box [.k (.ro [.int .i64]),.k (.ro [.int .i64]),.k (.int .i64)],.box [.k .bool],.row [.int .i64],.box [.sl 5 1,.sl 7 1,.k (.int .i64)],.row [.int .i64]])] [(.exit 1,[3,4,6,7,8,9,29],[(109,[(3,.ptr 0 1 0 0),(4,.ptr 1 1 0 0),(6,.ptr 2 3 0 0),(7,.k (.int .i64)),(8,.ptr 3 3 0 0),(9,.ptr 4 1 0 0),(29,.fn 84 [] [.any,.any])],[.box [.k (.ro [.ro [.ro [.int .i64,.int .i64]],.ro [.ro [.int .i64,.int .i64]],.ro [.int .i64],.int .i64])],.box [.k (.ro [.ro [.int .i64,.int .i64,.int .i64,.bool]])],.box [.nils,.nils,.k (.int .i64)],.box [.k (.ro [.int .i64]),.k (.ro [.int .i64]),.k (.int .i64)],.box [.k .bool],.row [.int .i64]])]),(.exit 2,[3,4,6,7,8,9,11,12,29],[(109,[(3,.ptr 0 1 0 0),(4,.ptr 1 1 0 0),(6,.ptr 2 3 0 0),(7,.k (.int .i64)),(8,.ptr 3 3 0 0),(9,.ptr 4 1 0 0),(11,.k (.int .i64)),(12,.ptr 6 3 0 0),(29,.fn 84 [] [.any,.any])],[.box [.k (.ro [.ro [.ro [.int .i64,.int .i64]],.ro [.ro [.int .i64,.int .i64]],.ro [.int .i64],.int .i64])],.box [.k (.ro [.ro [.int .i64,.int .i64,.int .i64,.bool]])],.box [.nils,.nils,.k (.int .i64)],.box [.k (.ro [.int .i64]),.k (.ro [.int .i64]),.k (.int .i64)],.box [.k .bool],.row [.int .i64],.box [.sl 5 1,.nils,.k (.int .i64)]]),(109,[(3,.ptr 0 1 0 0),(4,.ptr 1 1 0 0),(6,.ptr 2 3 0 0),(7,.k (.int .i64)),(8,.ptr 3 3 0 0),(9,.ptr 4 1 0 0),(11,.k (.int .i64)),(12,.ptr 6 3 0 0),(29,.fn 84 [] [.any,.any])],[.box [.k (.ro [.ro [.ro [.int .i64,.int .i64]],.ro [.ro [.int .i64,.int .i64]],.ro [.int .i64],.int .i64])],.box [.k (.ro [.ro [.int .i64,.int .i64,.int .i64,.bool]])],.box [.nils,.nils,.k (.int .i64)],.box [.k (.ro [.int .i64]),.k (.ro [.int .i64]),.k (.int .i64)],.box [.k .bool],.row [.int .i64],.box [.sl 5 1,.sl 7 1,.k (.int .i64)],.row [.int .i64]])])]
def l21_14:LSig:=mkLS [3,4,6,7,8,9,10,11,12,13,14,29,34,35,38,39,40] [(109,[(3,.ptr 0 1 0 0),(4,.ptr 1 1 0 0),(6,.ptr 2 3 0 0),(7,.k (.int .i64)),(8,.ptr 3 3 0 0),(9,.ptr 4 1 0 0),(10,.sl 5 1),(11,.k (.int .i64)),(12,.ptr 6 3 0 0),(13,.k (.int .i64)),(14,.nils),(29,.fn 84 [] [.any,.any]),(34,.k (.int .i64)),(35,.k (.int .i64)),(38,.k (.ro [.ro [.ro [.int .i64,.int .i64]],.ro [.ro [.int .i64,.int .i64]],.ro [.int .i64],.int .i64])),(39,.k (.int .i64)),(40,.k (.int .i64))],[.box [.k (.ro [.ro [.ro [.int .i64,.int .i64]],.ro [.ro [.int .i64,.int .i64]],.ro [.int .i64],.int .i64])],.box [.k (.ro [.ro [.int .i64,.int .i64,.int .i64,.bool]])],.box [.nils,.nils,.k (.int .i64)],.box [.k (.ro [.int .i64]),.k (.ro [.int .i64]),.k (.int .i64)],.box [.k .bool],.row [.int .i64],.box [.sl 5 1,.nils,.k (.int .i64)]]),(109,[(3,.ptr 0 1 0 0),(4,.ptr 1 1 0 0),(6,.ptr 2 3 0 0),(7,.k (.int .i64)),(8,.ptr 3 3 0 0),(9,.ptr 4 1 0 0),(10,.sl 5 1),(11,.k (.int .i64)),(12,.ptr 6 3 0 0),(13,.k (.int .i64)),(14,.nils),(29,.fn 84 [] [.any,.any]),(34,.k (.int .i64)),(35,.k (.int .i64)),(38,.k (.ro [.ro [.ro [.int .i64,.int .i64]],.ro [.ro [.int .i64,.int .i64]],.ro [.int .i64],.int .i64])),(39,.k (.int .i64)),(40,.k (.int .i64))],[.box [.k (.ro [.ro [.ro [.int .i64,.int .i64]],.ro [.ro [.int .i64,.int .i64]],.ro [.int .i64],.int .i64])],.box [.k (.ro [.ro [.int .i64,.int .i64,.int .i64,.bool]])],.box [.nils,.nils,.k (.int .i64)],.box [.k (.ro [.int .i64]),.k (.ro [.int .i64]),.k (.int .i64)],.box [.k .bool],.row [.int .i64],.box [.sl 5 1,.sl 7 1,.k (.int .i64)],.row [.int .i64]]),(109,[(3,.ptr 0 1 0 0),(4,.ptr 1 1 0 0),(6,.ptr 2 3 0 0),(7,.k (.int .i64)),(8,.ptr 3 3 0 0),(9,.ptr 4 1 0 0),(10,.sl 5 1),(11,.k (.int .i64)),(12,.ptr 6 3 0 0),(13,.k (.int .i64)),(14,.sl 7 2),(29,.fn 84 [] [.any,.any]),(34,.k (.int .i64)),(35,.k (.int .i64)),(38,.k (.ro [.ro [.ro [.int .i64,.int .i64]],.ro [.ro [.int .i64,.int .i64]],.ro [.int .i64],.int .i64])),(39,.k (.int .i64)),(40,.k (.int .i64))],[.box [.k (.ro [.ro [.ro [.int .i64,.int .i64]],.ro [.ro [.int .i64,.int .i64]],.ro [.int .i64],.int .i64])],.box [.k (.ro [.ro [.int .i64,.int .i64,.int .i64,.bool]])],.box [.nils,.nils,.k (.int .i64)],.box [.k (.ro [.int .i64]),.k (.ro [.int .i64]),.k (.int .i64)],.box [.k .bool],.row [.int .i64],.box [.sl 5 1,.nils,.k (.int .i64)],.row [.int .i64,.int .i64]]),(109,[(3,.ptr 0 1 0 0),(4,.ptr 1 1 0 0),(6,.ptr 2 3 0 0),(7,.k (.int .i64)),(8,.ptr 3 3 0 0),(9,.ptr 4 1 0 0),(10,.sl 5 1),(11,.k (.int .i64)),(12,.ptr 6 3 0 0),(13,.k (.int .i64)),(14,.sl 7 2),(29,.fn 84 [] [.any,.any]),(34,.k (.int .i64)),(35,.k (.int .i64)),(38,.k (.ro [.ro [.ro [.int .i64,.int .i64]],.ro [.ro [.int .i64,.int .i64]],.ro [.int .i64],.int .i64])),(39,.k (.int .i64)),(40,.k (.int .i64))],[.box [.k (.ro [.ro [.ro [.int .i64,.int .i64]],.ro [.ro [.int .i64,.int .i64]],.ro [.int .i64],.int .i64])],.box [.k (.ro [.ro [.int .i64,.int .i64,.int .i64,.bool]])],.box [.nils,.nils,.k (.int .i64)],.box [.k (.ro [.int .i64]),.k (.ro [.int .i64]),.k (.int .i64)],.box [.k .bool],.row [.int .i64],.box [.sl 5 1,.sl 8 1,.k (.int .i64)],.row [.int .i64,.int .i64],.row [.int .i64]])] [(.exit 4,[3,4,6,7,8,9,10,11,12,14,29,34,35],[(109,[(3,.ptr 0 1 0 0),(4,.ptr 1 1 0 0),(6,.ptr 2 3 0 0),(7,.k (.int .i64)),(8,.ptr 3 3 0 0),(9,.ptr 4 1 0 0),(10,.sl 5 1),(11,.k (.int .i64)),(12,.ptr 6 3 0 0),(14,.nils),(29,.fn 84 [] [.any,.any]),(34,.k (.int .i64)),(35,.k (.int .i64))],[.box [.k (.ro [.ro [.ro [.int .i64,.int .i64]],.ro [.ro [.int .i64,.int .i64]],.ro [.int .i64],.int .i64])],.box [.k (.ro [.ro [.int .i64,.int .i64,.int .i64,.bool]])],.box [.nils,.nils,.k (.int .i64)],.box [.k (.ro [.int .i64]),.k (.ro [.int .i64]),.k (.int .i64)],.box [.k .bool],.row [.int .i64],.box [.sl 5 1,.nils,.k (.int .i64)]]),(109,[(3,.ptr 0 1 0 0),(4,.ptr 1 1 0 0),(6,.ptr 2 3 0 0),(7,.k (.int .i64)),(8,.ptr 3 3 0 0),(9,.ptr 4 1 0 0),(10,.sl 5 1),(11,.k (.int .i64)),(12,.ptr 6 3 0 0),(14,.nils),(29,.fn 84 [] [.any,.any]),(34,.k (.int .i64)),(35,.k (.int .i64))],[.box [.k (.ro [.ro [.ro [.int .i64,.int .i64]],.ro [.ro [.int .i64,.int .i64]],.ro [.int .i64],.int .i64])],.box [.k (.ro [.ro [.int .i64,.int .i64,.int .i64,.bool]])],.box [.nils,.nils,.k (.int .i64)],.box [.k (.ro [.int .i64]),.k (.ro [.int .i64]),.k (.int .i64)],.box [.k .bool],.row [.int .i64],.box [.sl 5 1,.sl 7 1,.k (.int .i64)],.row [.int .i64]]),(109,[(3,.ptr 0 1 0 0),(4,.ptr 1 1 0 0),(6,.ptr 2 3 0 0),(7,.k (.int .i64)),(8,.ptr 3 3 0 0),(9,.ptr 4 1 0 0),(10,.sl 5 1),(11,.k (.int .i64)),(12,.ptr 6 3 0 0),(14,.sl 7 2),(29,.fn 84 [] [.any,.any]),(34,.k (.int .i64)),(35,.k (.int .i64))],[.box [.k (.ro [.ro [.ro [.int .i64,.int .i64]],.ro [.ro [.int .i64,.int .i64]],.ro [.int .i64],.int .i64])],.box [.k (.ro [.ro [.int .i64,.int .i64,.int .i64,.bool]])],.box [.nils,.nils,.k (.int .i64)],.box [.k (.ro [.int .i64]),.k (.ro [.int .i64]),.k (.int .i64)],.box [.k .bool],.row [.int .i64],.box [.sl 5 1,.nils,.k (.int .i64)],.row [.int .i64,.int .i64]]),(109,[(3,.ptr 0 1 0 0),(4,.ptr 1 1 0 0),(6,.ptr 2 3 0 0),(7,.k (.int .i64)),(8,.ptr 3 3 0 0),(9,.ptr 4 1 0 0),(10,.sl 5 1),(11,.k (.int .i64)),(12,.ptr 6 3 0 0),(14,.sl 7 2),(29,.fn 84 [] [.any,.any]),(34,.k (.int .i64)),(35,.k (.int .i64))],[.box [.k (.ro [.ro [.ro [.int .i64,.int .i64]],.ro [.ro [.int .i64,.int .i64]],.ro [.int .i64],.int .i64])],.box [.k (.ro [.ro [.int .i64,.int .i64,.int .i64,.bool]])],.box [.nils,.nils,.k (.int .i64)],.box [.k (.ro [.int .i64]),.k (.ro [.int .i64]),.k (.int .i64)],.box [.k .bool],.row [.int .i64],.box [.sl 5 1,.sl 8 1,.k (.int .i64)],.row [.int .i64,.int .i64],.row [.int .i64]])])]
def l21_10n:LSig:=mkLS [3,4,6,7,8,9,10,11,12,29,34,35] [(109,[(3,.ptr 0 1 0 0),(4,.ptr 1 1 0 0),(6,.ptr 2 3 0 0),(7,.k (.int .i64)),(8,.ptr 3 3 0 0),(9,.ptr 4 1 0 0),(10,.nils),(11,.k (.int .i64)),(12,.ptr 5 3 0 0),(29,.fn 84 [] [.any,.any]),(34,.k (.int .i64)),(35,.k (.int .i64))],[.box [.k (.ro [.ro [.ro [.int .i64,.int .i64]],.ro [.ro [.int .i64,.int .i64]],.ro [.int .i64],.int .i64])],.box [.k (.ro [.ro [.int .i64,.int .i64,.int .i64,.bool]])],.box [.nils,.nils,.k (.int .i64)],.box [.k (.ro [.int .i64]),.k (.ro [.int .i64]),.k (.int .i64)],.box [.k .bool],.box [.nils,.nils,.k (.int .i64)]])] [(.exit 2,[3,4,6,7,8,9,11,12,29],[(109,[(3,.ptr 0 1 0 0),(4,.ptr 1 1 0 0),(6,.ptr 2 3 0 0),(7,.k (.int .i64)),(8,.ptr 3 3 0 0),(9,.ptr 4 1 0 0),(11,.k (.int .i64)),(12,.ptr 5 3 0 0),(29,.fn 84 [] [.any,.any])],[.box [.k (.ro [.ro [.ro [.int .i64,.int .i64]],.ro [.ro [.int .i64,.int .i64]],.ro [.int .i64],.int .i64])],.box [.k (.ro [.ro [.int .i64,.int .i64,.int .i64,.bool]])],.box [.nils,.nils,.k (.int .i64)],.box [.k (.ro [.int .i64]),.k (.ro [.int .i64]),.k (.int .i64)],.box [.k .bool],.box [.nils,.nils,.k (.int .i64)]])])]
noncomputable section
def planP (cs ls sets:List (List D)) (s s2 n:Int):Prop:=TaskP cs ls ∧ (s = sets.length ∧ s2 = sets.length ∧ sets.length = ls.length) ∧ 0 ≤ n ∧ n ≤ 8
def loopP (b x n pw:Int) (cp:List (List D)):Prop:=b = n ∧ (0 ≤ x ∧ x ≤ n) ∧ (cp.length:Int) = x ∧ 0 ≤ pw ∧ pw ≤ 24000000 * x
def setP (b x n pw set i m:Int) (cs cs' cp:List (List D)):Prop:=loopP b x n pw cp ∧ set = x ∧ x < n ∧ cs' = cs ∧ m = cs.length ∧ 0 ≤ i ∧ i ≤ m
def optI (cs ls sets:List (List D)) (set i:Int):List (List D):=optF cs ls sets set i.toNat (cs.length - i.toNat)
def G21_14_0 (y e s n set b x cs' m i cs ls rw bs bc bw fd sets s2 pw:D):T (Ex × List D):=.need (yes (y.I = 0 ∧ planP cs.L ls.L sets.L s.I s2.I n.I ∧ setP b.I x.I n.I pw.I set.I i.I m.I cs.L cs'.L [] ∧ x.I = 0))
 (.ite (optI cs.L ls.L sets.L set.I i.I).isEmpty (.leaf (.exit 4,[.i 0,.i e.I,.i s.I,.i n.I,.i b.I,.i x.I,.l cs.L,.l ls.L,.i rw.I,.l bs.L,.l bc.L,.i bw.I,.b fd.B,.l sets.L,.i s2.I,.i pw.I])) (.leaf (.exit 4,[.i 2,.i e.I,.i s.I,.i n.I,.i (optI cs.L ls.L sets.L set.I i.I).length,.i b.I,.i x.I,.l cs.L,.l ls.L,.i rw.I,.l bs.L,.l bc.L,.i bw.I,.b fd.B,.l sets.L,.i s2.I,.i pw.I,.l (optI cs.L ls.L sets.L set.I i.I)])))
def G21_14_1 (y e s n set b x cs' m i cs ls rw bs bc bw fd sets s2 c pw comps:D):T (Ex × List D):=.need (yes (y.I = 1 ∧ planP cs.L ls.L sets.L s.I s2.I n.I ∧ setP b.I x.I n.I pw.I set.I i.I m.I cs.L cs'.L comps.L ∧ c.I = comps.L.length ∧ 0 < c.I))
 (.ite (optI cs.L ls.L sets.L set.I i.I).isEmpty (.leaf (.exit 4,[.i 1,.i e.I,.i s.I,.i n.I,.i b.I,.i x.I,.l cs.L,.l ls.L,.i rw.I,.l bs.L,.l bc.L,.i bw.I,.b fd.B,.l sets.L,.i s2.I,.i c.I,.i pw.I,.l comps.L])) (.leaf (.exit 4,[.i 3,.i e.I,.i s.I,.i n.I,.i (optI cs.L ls.L sets.L set.I i.I).length,.i b.I,.i x.I,.l cs.L,.l ls.L,.i rw.I,.l bs.L,.l bc.L,.i bw.I,.b fd.B,.l sets.L,.i s2.I,.i c.I,.i pw.I,.l (optI cs.L ls.L sets.L set.I i.I),.l comps.L])))
def G21_14_2 (y e s n set o b x cs' m i cs ls rw bs bc bw fd sets s2 pw opts:D):T (Ex × List D):=.need (yes (y.I = 2 ∧ planP cs.L ls.L sets.L s.I s2.I n.I ∧ setP b.I x.I n.I pw.I set.I i.I m.I cs.L cs'.L [] ∧ x.I = 0 ∧ o.I = opts.L.length ∧ 0 < o.I ∧ o.I ≤ i.I))
 (.leaf (.exit 4,[.i 2,.i e.I,.i s.I,.i n.I,.i (opts.L ++ optI cs.L ls.L sets.L set.I i.I).length,.i b.I,.i x.I,.l cs.L,.l ls.L,.i rw.I,.l bs.L,.l bc.L,.i bw.I,.b fd.B,.l sets.L,.i s2.I,.i pw.I,.l (opts.L ++ optI cs.L ls.L sets.L set.I i.I)]))
def G21_14_3 (y e s n set o b x cs' m i cs ls rw bs bc bw fd sets s2 c pw opts comps:D):T (Ex × List D):=.need (yes (y.I = 3 ∧ planP cs.L ls.L sets.L s.I s2.I n.I ∧ setP b.I x.I n.I pw.I set.I i.I m.I cs.L cs'.L comps.L ∧ c.I = comps.L.length ∧ 0 < c.I ∧ o.I = opts.L.length ∧ 0 < o.I ∧ o.I ≤ i.I))
 (.leaf (.exit 4,[.i 3,.i e.I,.i s.I,.i n.I,.i (opts.L ++ optI cs.L ls.L sets.L set.I i.I).length,.i b.I,.i x.I,.l cs.L,.l ls.L,.i rw.I,.l bs.L,.l bc.L,.i bw.I,.b fd.B,.l sets.L,.i s2.I,.i c.I,.i pw.I,.l (opts.L ++ optI cs.L ls.L sets.L set.I i.I),.l comps.L]))
def G21_14 (ds:List D):T (Ex × List D):=match ds with
 | [y,e,s,n,set,b,x,cs',m,i,cs,ls,rw,bs,bc,bw,fd,sets,s2,pw]=>G21_14_0 y e s n set b x cs' m i cs ls rw bs bc bw fd sets s2 pw
 | [x0,x1,x2,x3,x4,x5,x6,x7,x8,x9,x10,x11,x12,x13,x14,x15,x16,x17,x18,x19,x20,x21]=>bif x0.I == 1 then G21_14_1 x0 x1 x2 x3 x4 x5 x6 x7 x8 x9 x10 x11 x12 x13 x14 x15 x16 x17 x18 x19 x20 x21 else G21_14_2 x0 x1 x2 x3 x4 x5 x6 x7 x8 x9 x10 x11 x12 x13 x14 x15 x16 x17 x18 x19 x20 x21
 | [y,e,s,n,set,o,b,x,cs',m,i,cs,ls,rw,bs,bc,bw,fd,sets,s2,c,pw,opts,comps]=>G21_14_3 y e s n set o b x cs' m i cs ls rw bs bc bw fd sets s2 c pw opts comps
 | _=>.fail
def resF (r:Option (List (List D) × Int)):List (List D) × Int:=r.getD ([],0)
def G21_10_0 (y e s n b x cs ls rw bs bc bw fd sets s2 pw:D):T (Ex × List D):=.need (yes (y.I = 0 ∧ planP cs.L ls.L sets.L s.I s2.I n.I ∧ loopP b.I x.I n.I pw.I [] ∧ x.I = 0))
 (.ite (setsF cs.L ls.L sets.L fd.B bw.I x.I.toNat (n.I - x.I).toNat [] pw.I).isSome (.ite (resF (setsF cs.L ls.L sets.L fd.B bw.I x.I.toNat (n.I - x.I).toNat [] pw.I)).1.isEmpty (.leaf (.exit 2,[.i 0,.i e.I,.i n.I,.l cs.L,.l ls.L,.i rw.I,.l bs.L,.l bc.L,.i bw.I,.b fd.B,.l sets.L,.i s2.I,.i (resF (setsF cs.L ls.L sets.L fd.B bw.I x.I.toNat (n.I - x.I).toNat [] pw.I)).2])) (.leaf (.exit 2,[.i 1,.i e.I,.i n.I,.l cs.L,.l ls.L,.i rw.I,.l bs.L,.l bc.L,.i bw.I,.b fd.B,.l sets.L,.i s2.I,.i (resF (setsF cs.L ls.L sets.L fd.B bw.I x.I.toNat (n.I - x.I).toNat [] pw.I)).1.length,.i (resF (setsF cs.L ls.L sets.L fd.B bw.I x.I.toNat (n.I - x.I).toNat [] pw.I)).2,.l (resF (setsF cs.L ls.L sets.L fd.B bw.I x.I.toNat (n.I - x.I).toNat [] pw.I)).1]))) (.leaf (.exit 1,[.i e.I,.l cs.L,.l ls.L,.i rw.I,.l bs.L,.l bc.L,.i bw.I,.b fd.B,.l sets.L])))
def G21_10_1 (y e s n b x cs ls rw bs bc bw fd sets s2 c pw comps:D):T (Ex × List D):=.need (yes (y.I = 1 ∧ planP cs.L ls.L sets.L s.I s2.I n.I ∧ loopP b.I x.I n.I pw.I comps.L ∧ c.I = comps.L.length ∧ 0 < c.I))
 (.ite (setsF cs.L ls.L sets.L fd.B bw.I x.I.toNat (n.I - x.I).toNat comps.L pw.I).isSome (.leaf (.exit 2,[.i 1,.i e.I,.i n.I,.l cs.L,.l ls.L,.i rw.I,.l bs.L,.l bc.L,.i bw.I,.b fd.B,.l sets.L,.i s2.I,.i (resF (setsF cs.L ls.L sets.L fd.B bw.I x.I.toNat (n.I - x.I).toNat comps.L pw.I)).1.length,.i (resF (setsF cs.L ls.L sets.L fd.B bw.I x.I.toNat (n.I - x.I).toNat comps.L pw.I)).2,.l (resF (setsF cs.L ls.L sets.L fd.B bw.I x.I.toNat (n.I - x.I).toNat comps.L pw.I)).1])) (.leaf (.exit 1,[.i e.I,.l cs.L,.l ls.L,.i rw.I,.l bs.L,.l bc.L,.i bw.I,.b fd.B,.l sets.L])))
def G21_10 (ds:List D):T (Ex × List D):=match ds with
 | [y,e,s,n,b,x,cs,ls,rw,bs,bc,bw,fd,sets,s2,pw]=>G21_10_0 y e s n b x cs ls rw bs bc bw fd sets s2 pw
 | [y,e,s,n,b,x,cs,ls,rw,bs,bc,bw,fd,sets,s2,c,pw,comps]=>G21_10_1 y e s n b x cs ls rw bs bc bw fd sets s2 c pw comps
 | _=>.fail
def G21_10n (ds:List D):T (Ex × List D):=match ds with
 | [e,n,b,x,cs,ls,rw,bs,bc,bw,fd,pw]=>.need (yes (b.I ≤ x.I)) (.leaf (.exit 2,[.i e.I,.i n.I,.l cs.L,.l ls.L,.i rw.I,.l bs.L,.l bc.L,.i bw.I,.b fd.B,.i pw.I]))
 | _=>.fail
def plOf (bs bc bw fd:D):Pl:=⟨fd.B,bs.L,bc.L,bw.I⟩
def okYd (ls:List (List D)) (y:List D):Prop:=(ySets y).length = ls.length ∧ (0 ≤ yN y ∧ yN y ≤ 8) ∧ y = yE (ySets y) (yN y) ∧ (ySets y = [] → yN y = 0)
def G21_8 (L:List (List D)) (ds:List D):T (Ex × List D):=match ds with
 | [e, cs,ls,rw,bs,bc,bw,fd]=>.need (yes (TaskP cs.L ls.L ∧ (∀ y ∈ L,okYd ls.L y) ∧ (bc.L.length ≤ 8 ∧ bs.L.length ≤ 8)))
     (.leaf (.normal,[.i e.I,.l cs.L,.l ls.L,.i rw.I,.l (foldT cs.L ls.L L (plOf bs bc bw fd)).sets,.l (foldT cs.L ls.L L (plOf bs bc bw fd)).cp,.i (foldT cs.L ls.L L (plOf bs bc bw fd)).w,.b (foldT cs.L ls.L L (plOf bs bc bw fd)).fd]))
 | _=>.fail
def G21 (ds:List D):T (List D):=match ds with
 | [cs, ls,n]=>.need (yes (smallCs cs.L)) (.ite (taskOk cs.L ls.L n.I)
     (.ite (tyreF cs.L ls.L n.I).fd (.leaf [.l (tyreF cs.L ls.L n.I).sets,.l (tyreF cs.L ls.L n.I).cp,.i (tyreF cs.L ls.L n.I).w,.i 0]) (.leaf [.l [],.l [],.i 0,.i 5])) (.leaf [.l [],.l [],.i 0,.i 2]))
 | _=>.fail
end
noncomputable def it21_8:ItL:=[(84,mkFY s84 G84)]
noncomputable def sp21:SpL:=[(52,mkF s52 G52),(53,mkF s53 G53),(54,mkF s54 G54),(55,mkF s55 G55)]
noncomputable def lp21:LpL:=[(10,mkLK 6 l21_10 G21_10),(14,mkLK 6 l21_14 G21_14)]
noncomputable def sw21:SwL:=[]
noncomputable def rg21:LpL:=[(8,rangeS 0 [3,4,6,7,8,9,29] (rangeOf C.P 21 8).1 it21_8 h21_8 G21_8)]
noncomputable def tab21:Tab:=mkTabR sp21 lp21 sw21 rg21
noncomputable def lp21n:LpL:=[(10,mkLK 5 l21_10n G21_10n)]
noncomputable def tab21n:Tab:=mkTabR sp21 lp21n sw21 rg21
set_option linter.unusedVariables false
set_option maxRecDepth 100000
theorem t21_10_1 (e s n b x cs ls rw bs bc bw fd sets s2 c pw comps:D):(roundTK C tab21 21 (loopOf C.P 21 10) 6 l21_10 [.i 1,e,s,n,b,x,cs,ls,rw,bs,bc,bw,fd,sets,s2,c,pw,comps]).run =
 T.run (T.ite (decide (x.I < b.I)) (T.need (yes ((↑(0 + 1):Int) = (1:Int) ∧ planP cs.L ls.L sets.L (s.I.toNat:Int) (s2.I.toNat:Int) n.I ∧ setP b.I x.I n.I pw.I x.I (0:Int) (cs.L.length:Int) cs.L cs.L comps.L ∧ (c.I.toNat:Int) = (comps.L.length:Int) ∧ (0:Int) < (c.I.toNat:Int))) (T.ite (List.isEmpty (optI cs.L ls.L sets.L x.I (0:Int))) (T.ite true (T.leaf (Rd.out (Ex.exit 1) [D.i e.I,D.l cs.L,D.l ls.L,D.i rw.I,D.l bs.L,D.l bc.L,D.i bw.I,D.b fd.B,D.l sets.L])) (T.need (yes (0 < List.length ([]:List (List D)) ∧ List.length ([]:List (List D)) ≤ 1000)) (T.need true (T.ite false (T.ite fd.B (T.ite (decide (IntKind.i64.wrap (pw.I + ix (bestL []) 1) > bw.I)) (T.leaf (Rd.out (Ex.exit 1) [D.i e.I,D.l cs.L,D.l ls.L,D.i rw.I,D.l bs.L,D.l bc.L,D.i bw.I,D.b fd.B,D.l sets.L])) (T.leaf (Rd.again [D.i 1,D.i e.I,D.i (↑(Int.toNat (s.I.toNat:Int)):Int),D.i n.I,D.i b.I,D.i (IntKind.i64.wrap (x.I + (1:Int))),D.l cs.L,D.l ls.L,D.i rw.I,D.l bs.L,D.l bc.L,D.i bw.I,D.b fd.B,D.l sets.L,D.i (↑(Int.toNat (s2.I.toNat:Int)):Int),D.i (↑(Int.toNat (c.I.toNat:Int)):Int),D.i (IntKind.i64.wrap (pw.I + ix (bestL []) 1)),D.l comps.L]))) (T.leaf (Rd.again [D.i 1,D.i e.I,D.i (↑(Int.toNat (s.I.toNat:Int)):Int),D.i n.I,D.i b.I,D.i (IntKind.i64.wrap (x.I + (1:Int))),D.l cs.L,D.l ls.L,D.i rw.I,D.l bs.L,D.l bc.L,D.i bw.I,D.b fd.B,D.l sets.L,D.i (↑(Int.toNat (s2.I.toNat:Int)):Int),D.i (↑(Int.toNat (c.I.toNat:Int)):Int),D.i (IntKind.i64.wrap (pw.I + ix (bestL []) 1)),D.l comps.L]))) (T.need (decide (Int.toNat (c.I.toNat:Int) ≤ comps.L.length ∧ Int.toNat (c.I.toNat:Int) + 1 ≤ 2 ^ 62 ∧ (Int.toNat (c.I.toNat:Int) + 1) * Try.prog.types[3].bytes ≤ 2 ^ 47)) (T.ite fd.B (T.ite (decide (IntKind.i64.wrap (pw.I + ix (bestL []) 1) > bw.I)) (T.leaf (Rd.out (Ex.exit 1) [D.i e.I,D.l cs.L,D.l ls.L,D.i rw.I,D.l bs.L,D.l bc.L,D.i bw.I,D.b fd.B,D.l sets.L])) (T.leaf (Rd.again [D.i 1,D.i e.I,D.i (↑(Int.toNat (s.I.toNat:Int)):Int),D.i n.I,D.i b.I,D.i (IntKind.i64.wrap (x.I + (1:Int))),D.l cs.L,D.l ls.L,D.i rw.I,D.l bs.L,D.l bc.L,D.i bw.I,D.b fd.B,D.l sets.L,D.i (↑(Int.toNat (s2.I.toNat:Int)):Int),D.i (↑(Int.toNat (c.I.toNat:Int) + 1):Int),D.i (IntKind.i64.wrap (pw.I + ix (bestL []) 1)),D.l (List.take (Int.toNat (c.I.toNat:Int)) comps.L ++ List.take (List.length [[D.i (ix (bestL []) 0)]]) [[D.i (ix (bestL []) 0)]])]))) (T.leaf (Rd.again [D.i 1,D.i e.I,D.i (↑(Int.toNat (s.I.toNat:Int)):Int),D.i n.I,D.i b.I,D.i (IntKind.i64.wrap (x.I + (1:Int))),D.l cs.L,D.l ls.L,D.i rw.I,D.l bs.L,D.l bc.L,D.i bw.I,D.b fd.B,D.l sets.L,D.i (↑(Int.toNat (s2.I.toNat:Int)):Int),D.i (↑(Int.toNat (c.I.toNat:Int) + 1):Int),D.i (IntKind.i64.wrap (pw.I + ix (bestL []) 1)),D.l (List.take (Int.toNat (c.I.toNat:Int)) comps.L ++ List.take (List.length [[D.i (ix (bestL []) 0)]]) [[D.i (ix (bestL []) 0)]])])))))))) (T.ite ((↑(Int.toNat (↑(List.length (optI cs.L ls.L sets.L x.I (0:Int))):Int)):Int) == (0:Int)) (T.leaf (Rd.out (Ex.exit 1) [D.i e.I,D.l cs.L,D.l ls.L,D.i rw.I,D.l bs.L,D.l bc.L,D.i bw.I,D.b fd.B,D.l sets.L])) (T.need (decide (Int.toNat (↑(List.length (optI cs.L ls.L sets.L x.I (0:Int))):Int) ≤ List.length (optI cs.L ls.L sets.L x.I (0:Int)))) (T.need (yes (0 < List.length (List.take (Int.toNat (↑(List.length (optI cs.L ls.L sets.L x.I (0:Int))):Int)) (optI cs.L ls.L sets.L x.I (0:Int))) ∧ List.length (List.take (Int.toNat (↑(List.length (optI cs.L ls.L sets.L x.I (0:Int))):Int)) (optI cs.L ls.L sets.L x.I (0:Int))) ≤ 1000)) (T.need true (T.ite false (T.ite fd.B (T.ite (decide (IntKind.i64.wrap (pw.I + ix (bestL (List.take (Int.toNat (↑(List.length (optI cs.L ls.L sets.L x.I (0:Int))):Int)) (optI cs.L ls.L sets.L x.I (0:Int)))) 1) > bw.I)) (T.leaf (Rd.out (Ex.exit 1) [D.i e.I,D.l cs.L,D.l ls.L,D.i rw.I,D.l bs.L,D.l bc.L,D.i bw.I,D.b fd.B,D.l sets.L])) (T.leaf (Rd.again [D.i 1,D.i e.I,D.i (↑(Int.toNat (s.I.toNat:Int)):Int),D.i n.I,D.i b.I,D.i (IntKind.i64.wrap (x.I + (1:Int))),D.l cs.L,D.l ls.L,D.i rw.I,D.l bs.L,D.l bc.L,D.i bw.I,D.b fd.B,D.l sets.L,D.i (↑(Int.toNat (s2.I.toNat:Int)):Int),D.i (↑(Int.toNat (c.I.toNat:Int)):Int),D.i (IntKind.i64.wrap (pw.I + ix (bestL (List.take (Int.toNat (↑(List.length (optI cs.L ls.L sets.L x.I (0:Int))):Int)) (optI cs.L ls.L sets.L x.I (0:Int)))) 1)),D.l comps.L]))) (T.leaf (Rd.again [D.i 1,D.i e.I,D.i (↑(Int.toNat (s.I.toNat:Int)):Int),D.i n.I,D.i b.I,D.i (IntKind.i64.wrap (x.I + (1:Int))),D.l cs.L,D.l ls.L,D.i rw.I,D.l bs.L,D.l bc.L,D.i bw.I,D.b fd.B,D.l sets.L,D.i (↑(Int.toNat (s2.I.toNat:Int)):Int),D.i (↑(Int.toNat (c.I.toNat:Int)):Int),D.i (IntKind.i64.wrap (pw.I + ix (bestL (List.take (Int.toNat (↑(List.length (optI cs.L ls.L sets.L x.I (0:Int))):Int)) (optI cs.L ls.L sets.L x.I (0:Int)))) 1)),D.l comps.L]))) (T.need (decide (Int.toNat (c.I.toNat:Int) ≤ comps.L.length ∧ Int.toNat (c.I.toNat:Int) + 1 ≤ 2 ^ 62 ∧ (Int.toNat (c.I.toNat:Int) + 1) * Try.prog.types[3].bytes ≤ 2 ^ 47)) (T.ite fd.B (T.ite (decide (IntKind.i64.wrap (pw.I + ix (bestL (List.take (Int.toNat (↑(List.length (optI cs.L ls.L sets.L x.I (0:Int))):Int)) (optI cs.L ls.L sets.L x.I (0:Int)))) 1) > bw.I)) (T.leaf (Rd.out (Ex.exit 1) [D.i e.I,D.l cs.L,D.l ls.L,D.i rw.I,D.l bs.L,D.l bc.L,D.i bw.I,D.b fd.B,D.l sets.L])) (T.leaf (Rd.again [D.i 1,D.i e.I,D.i (↑(Int.toNat (s.I.toNat:Int)):Int),D.i n.I,D.i b.I,D.i (IntKind.i64.wrap (x.I + (1:Int))),D.l cs.L,D.l ls.L,D.i rw.I,D.l bs.L,D.l bc.L,D.i bw.I,D.b fd.B,D.l sets.L,D.i (↑(Int.toNat (s2.I.toNat:Int)):Int),D.i (↑(Int.toNat (c.I.toNat:Int) + 1):Int),D.i (IntKind.i64.wrap (pw.I + ix (bestL (List.take (Int.toNat (↑(List.length (optI cs.L ls.L sets.L x.I (0:Int))):Int)) (optI cs.L ls.L sets.L x.I (0:Int)))) 1)),D.l (List.take (Int.toNat (c.I.toNat:Int)) comps.L ++ List.take (List.length [[D.i (ix (bestL (List.take (Int.toNat (↑(List.length (optI cs.L ls.L sets.L x.I (0:Int))):Int)) (optI cs.L ls.L sets.L x.I (0:Int)))) 0)]]) [[D.i (ix (bestL (List.take (Int.toNat (↑(List.length (optI cs.L ls.L sets.L x.I (0:Int))):Int)) (optI cs.L ls.L sets.L x.I (0:Int)))) 0)]])]))) (T.leaf (Rd.again [D.i 1,D.i e.I,D.i (↑(Int.toNat (s.I.toNat:Int)):Int),D.i n.I,D.i b.I,D.i (IntKind.i64.wrap (x.I + (1:Int))),D.l cs.L,D.l ls.L,D.i rw.I,D.l bs.L,D.l bc.L,D.i bw.I,D.b fd.B,D.l sets.L,D.i (↑(Int.toNat (s2.I.toNat:Int)):Int),D.i (↑(Int.toNat (c.I.toNat:Int) + 1):Int),D.i (IntKind.i64.wrap (pw.I + ix (bestL (List.take (Int.toNat (↑(List.length (optI cs.L ls.L sets.L x.I (0:Int))):Int)) (optI cs.L ls.L sets.L x.I (0:Int)))) 1)),D.l (List.take (Int.toNat (c.I.toNat:Int)) comps.L ++ List.take (List.length [[D.i (ix (bestL (List.take (Int.toNat (↑(List.length (optI cs.L ls.L sets.L x.I (0:Int))):Int)) (optI cs.L ls.L sets.L x.I (0:Int)))) 0)]]) [[D.i (ix (bestL (List.take (Int.toNat (↑(List.length (optI cs.L ls.L sets.L x.I (0:Int))):Int)) (optI cs.L ls.L sets.L x.I (0:Int)))) 0)]])]))))))))))) (T.leaf (Rd.out (Ex.exit 2) [D.i 1,D.i e.I,D.i n.I,D.l cs.L,D.l ls.L,D.i rw.I,D.l bs.L,D.l bc.L,D.i bw.I,D.b fd.B,D.l sets.L,D.i (s2.I.toNat:Int),D.i (c.I.toNat:Int),D.i pw.I,D.l comps.L]))):=by kernel_rfl
set_option linter.unusedVariables false
set_option maxRecDepth 100000
theorem t21_14_0 (e s n set b x cs1 m i cs ls rw bs bc bw fd sets s2 pw:D):(roundTK C tab21 21 (loopOf C.P 21 14) 6 l21_14 [.i 0,e,s,n,set,b,x,cs1,m,i,cs,ls,rw,bs,bc,bw,fd,sets,s2,pw]).run =
 T.run (T.ite (decide (i.I < m.I)) (T.need (decide ((0:Int) ≤ i.I ∧ i.I < (cs1.L.length:Int))) (T.need (decide (s.I.toNat ≤ sets.L.length)) (T.need (yes (compoundOk (D.L (List.getD (List.getD cs1.L i.I.toNat []) 0 default)) (D.L (List.getD (List.getD cs1.L i.I.toNat []) (0 + 1) default)) (D.L (List.getD (List.getD cs1.L i.I.toNat []) (0 + 1 + 1) default)) (D.I (List.getD (List.getD cs1.L i.I.toNat []) (0 + 1 + 1 + 1) default)) = true ∧ ls.L.length ≤ 8 ∧ List.length (List.take s.I.toNat sets.L) = ls.L.length ∧ allFrom (loopAt (↑(List.length (D.L (List.getD (List.getD cs1.L i.I.toNat []) 0 default))):Int) ls.L) 0 ls.L.length = true)) (T.ite (usedAll [D.l (D.L (List.getD (List.getD cs1.L i.I.toNat []) 0 default)),D.l (D.L (List.getD (List.getD cs1.L i.I.toNat []) (0 + 1) default)),D.l (D.L (List.getD (List.getD cs1.L i.I.toNat []) (0 + 1 + 1) default)),D.i (D.I (List.getD (List.getD cs1.L i.I.toNat []) (0 + 1 + 1 + 1) default))] ls.L (List.take s.I.toNat sets.L) set.I).snd (T.need true (T.ite false (T.leaf (Rd.again [D.i 0,D.i e.I,D.i (s.I.toNat:Int),D.i n.I,D.i set.I,D.i b.I,D.i x.I,D.l cs1.L,D.i m.I,D.i (IntKind.i64.wrap (i.I + (1:Int))),D.l cs.L,D.l ls.L,D.i rw.I,D.l bs.L,D.l bc.L,D.i bw.I,D.b fd.B,D.l sets.L,D.i (s2.I.toNat:Int),D.i pw.I])) (T.need true (T.leaf (Rd.again [D.i 2,D.i e.I,D.i (s.I.toNat:Int),D.i n.I,D.i set.I,D.i 1,D.i b.I,D.i x.I,D.l cs1.L,D.i m.I,D.i (IntKind.i64.wrap (i.I + (1:Int))),D.l cs.L,D.l ls.L,D.i rw.I,D.l bs.L,D.l bc.L,D.i bw.I,D.b fd.B,D.l sets.L,D.i (s2.I.toNat:Int),D.i pw.I,D.l [[D.i i.I,D.i (usedAll [D.l (D.L (List.getD (List.getD cs1.L i.I.toNat []) 0 default)),D.l (D.L (List.getD (List.getD cs1.L i.I.toNat []) (0 + 1) default)),D.l (D.L (List.getD (List.getD cs1.L i.I.toNat []) (0 + 1 + 1) default)),D.i (D.I (List.getD (List.getD cs1.L i.I.toNat []) (0 + 1 + 1 + 1) default))] ls.L (List.take s.I.toNat sets.L) set.I).fst]]]))))) (T.leaf (Rd.again [D.i 0,D.i e.I,D.i (s.I.toNat:Int),D.i n.I,D.i set.I,D.i b.I,D.i x.I,D.l cs1.L,D.i m.I,D.i (IntKind.i64.wrap (i.I + (1:Int))),D.l cs.L,D.l ls.L,D.i rw.I,D.l bs.L,D.l bc.L,D.i bw.I,D.b fd.B,D.l sets.L,D.i (s2.I.toNat:Int),D.i pw.I])))))) (T.leaf (Rd.out (Ex.exit 4) [D.i 0,D.i e.I,D.i (s.I.toNat:Int),D.i n.I,D.i b.I,D.i x.I,D.l cs.L,D.l ls.L,D.i rw.I,D.l bs.L,D.l bc.L,D.i bw.I,D.b fd.B,D.l sets.L,D.i (s2.I.toNat:Int),D.i pw.I]))):=by kernel_rfl
theorem t21_14_1 (e s n set b x cs1 m i cs ls rw bs bc bw fd sets s2 c pw comps:D):(roundTK C tab21 21 (loopOf C.P 21 14) 6 l21_14 [.i 1,e,s,n,set,b,x,cs1,m,i,cs,ls,rw,bs,bc,bw,fd,sets,s2,c,pw,comps]).run =
 T.run (T.ite (decide (i.I < m.I)) (T.need (decide ((0:Int) ≤ i.I ∧ i.I < (cs1.L.length:Int))) (T.need (decide (s.I.toNat ≤ sets.L.length)) (T.need (yes (compoundOk (D.L (List.getD (List.getD cs1.L i.I.toNat []) 0 default)) (D.L (List.getD (List.getD cs1.L i.I.toNat []) (0 + 1) default)) (D.L (List.getD (List.getD cs1.L i.I.toNat []) (0 + 1 + 1) default)) (D.I (List.getD (List.getD cs1.L i.I.toNat []) (0 + 1 + 1 + 1) default)) = true ∧ ls.L.length ≤ 8 ∧ List.length (List.take s.I.toNat sets.L) = ls.L.length ∧ allFrom (loopAt (↑(List.length (D.L (List.getD (List.getD cs1.L i.I.toNat []) 0 default))):Int) ls.L) 0 ls.L.length = true)) (T.ite (usedAll [D.l (D.L (List.getD (List.getD cs1.L i.I.toNat []) 0 default)),D.l (D.L (List.getD (List.getD cs1.L i.I.toNat []) (0 + 1) default)),D.l (D.L (List.getD (List.getD cs1.L i.I.toNat []) (0 + 1 + 1) default)),D.i (D.I (List.getD (List.getD cs1.L i.I.toNat []) (0 + 1 + 1 + 1) default))] ls.L (List.take s.I.toNat sets.L) set.I).snd (T.need true (T.ite false (T.leaf (Rd.again [D.i 1,D.i e.I,D.i (s.I.toNat:Int),D.i n.I,D.i set.I,D.i b.I,D.i x.I,D.l cs1.L,D.i m.I,D.i (IntKind.i64.wrap (i.I + (1:Int))),D.l cs.L,D.l ls.L,D.i rw.I,D.l bs.L,D.l bc.L,D.i bw.I,D.b fd.B,D.l sets.L,D.i (s2.I.toNat:Int),D.i (c.I.toNat:Int),D.i pw.I,D.l comps.L])) (T.need true (T.leaf (Rd.again [D.i 3,D.i e.I,D.i (s.I.toNat:Int),D.i n.I,D.i set.I,D.i 1,D.i b.I,D.i x.I,D.l cs1.L,D.i m.I,D.i (IntKind.i64.wrap (i.I + (1:Int))),D.l cs.L,D.l ls.L,D.i rw.I,D.l bs.L,D.l bc.L,D.i bw.I,D.b fd.B,D.l sets.L,D.i (s2.I.toNat:Int),D.i (c.I.toNat:Int),D.i pw.I,D.l [[D.i i.I,D.i (usedAll [D.l (D.L (List.getD (List.getD cs1.L i.I.toNat []) 0 default)),D.l (D.L (List.getD (List.getD cs1.L i.I.toNat []) (0 + 1) default)),D.l (D.L (List.getD (List.getD cs1.L i.I.toNat []) (0 + 1 + 1) default)),D.i (D.I (List.getD (List.getD cs1.L i.I.toNat []) (0 + 1 + 1 + 1) default))] ls.L (List.take s.I.toNat sets.L) set.I).fst]],D.l comps.L]))))) (T.leaf (Rd.again [D.i 1,D.i e.I,D.i (s.I.toNat:Int),D.i n.I,D.i set.I,D.i b.I,D.i x.I,D.l cs1.L,D.i m.I,D.i (IntKind.i64.wrap (i.I + (1:Int))),D.l cs.L,D.l ls.L,D.i rw.I,D.l bs.L,D.l bc.L,D.i bw.I,D.b fd.B,D.l sets.L,D.i (s2.I.toNat:Int),D.i (c.I.toNat:Int),D.i pw.I,D.l comps.L])))))) (T.leaf (Rd.out (Ex.exit 4) [D.i 1,D.i e.I,D.i (s.I.toNat:Int),D.i n.I,D.i b.I,D.i x.I,D.l cs.L,D.l ls.L,D.i rw.I,D.l bs.L,D.l bc.L,D.i bw.I,D.b fd.B,D.l sets.L,D.i (s2.I.toNat:Int),D.i (c.I.toNat:Int),D.i pw.I,D.l comps.L]))):=by kernel_rfl
theorem t21_14_2 (e s n set o b x cs1 m i cs ls rw bs bc bw fd sets s2 pw opts:D):(roundTK C tab21 21 (loopOf C.P 21 14) 6 l21_14 [.i 2,e,s,n,set,o,b,x,cs1,m,i,cs,ls,rw,bs,bc,bw,fd,sets,s2,pw,opts]).run =
 T.run (T.ite (decide (i.I < m.I)) (T.need (decide ((0:Int) ≤ i.I ∧ i.I < (cs1.L.length:Int))) (T.need (decide (s.I.toNat ≤ sets.L.length)) (T.need (yes (compoundOk (D.L (List.getD (List.getD cs1.L i.I.toNat []) 0 default)) (D.L (List.getD (List.getD cs1.L i.I.toNat []) (0 + 1) default)) (D.L (List.getD (List.getD cs1.L i.I.toNat []) (0 + 1 + 1) default)) (D.I (List.getD (List.getD cs1.L i.I.toNat []) (0 + 1 + 1 + 1) default)) = true ∧ ls.L.length ≤ 8 ∧ List.length (List.take s.I.toNat sets.L) = ls.L.length ∧ allFrom (loopAt (↑(List.length (D.L (List.getD (List.getD cs1.L i.I.toNat []) 0 default))):Int) ls.L) 0 ls.L.length = true)) (T.ite (usedAll [D.l (D.L (List.getD (List.getD cs1.L i.I.toNat []) 0 default)),D.l (D.L (List.getD (List.getD cs1.L i.I.toNat []) (0 + 1) default)),D.l (D.L (List.getD (List.getD cs1.L i.I.toNat []) (0 + 1 + 1) default)),D.i (D.I (List.getD (List.getD cs1.L i.I.toNat []) (0 + 1 + 1 + 1) default))] ls.L (List.take s.I.toNat sets.L) set.I).snd (T.need true (T.ite false (T.leaf (Rd.again [D.i 2,D.i e.I,D.i (s.I.toNat:Int),D.i n.I,D.i set.I,D.i (o.I.toNat:Int),D.i b.I,D.i x.I,D.l cs1.L,D.i m.I,D.i (IntKind.i64.wrap (i.I + (1:Int))),D.l cs.L,D.l ls.L,D.i rw.I,D.l bs.L,D.l bc.L,D.i bw.I,D.b fd.B,D.l sets.L,D.i (s2.I.toNat:Int),D.i pw.I,D.l opts.L])) (T.need (decide (o.I.toNat ≤ opts.L.length ∧ o.I.toNat + 1 ≤ 2 ^ 62 ∧ (o.I.toNat + 1) * Try.prog.types[102].bytes ≤ 2 ^ 47)) (T.leaf (Rd.again [D.i 2,D.i e.I,D.i (s.I.toNat:Int),D.i n.I,D.i set.I,D.i (↑(o.I.toNat + 1):Int),D.i b.I,D.i x.I,D.l cs1.L,D.i m.I,D.i (IntKind.i64.wrap (i.I + (1:Int))),D.l cs.L,D.l ls.L,D.i rw.I,D.l bs.L,D.l bc.L,D.i bw.I,D.b fd.B,D.l sets.L,D.i (s2.I.toNat:Int),D.i pw.I,D.l (List.take o.I.toNat opts.L ++ List.take (List.length [[D.i i.I,D.i (usedAll [D.l (D.L (List.getD (List.getD cs1.L i.I.toNat []) 0 default)),D.l (D.L (List.getD (List.getD cs1.L i.I.toNat []) (0 + 1) default)),D.l (D.L (List.getD (List.getD cs1.L i.I.toNat []) (0 + 1 + 1) default)),D.i (D.I (List.getD (List.getD cs1.L i.I.toNat []) (0 + 1 + 1 + 1) default))] ls.L (List.take s.I.toNat sets.L) set.I).fst]]) [[D.i i.I,D.i (usedAll [D.l (D.L (List.getD (List.getD cs1.L i.I.toNat []) 0 default)),D.l (D.L (List.getD (List.getD cs1.L i.I.toNat []) (0 + 1) default)),D.l (D.L (List.getD (List.getD cs1.L i.I.toNat []) (0 + 1 + 1) default)),D.i (D.I (List.getD (List.getD cs1.L i.I.toNat []) (0 + 1 + 1 + 1) default))] ls.L (List.take s.I.toNat sets.L) set.I).fst]])]))))) (T.leaf (Rd.again [D.i 2,D.i e.I,D.i (s.I.toNat:Int),D.i n.I,D.i set.I,D.i (o.I.toNat:Int),D.i b.I,D.i x.I,D.l cs1.L,D.i m.I,D.i (IntKind.i64.wrap (i.I + (1:Int))),D.l cs.L,D.l ls.L,D.i rw.I,D.l bs.L,D.l bc.L,D.i bw.I,D.b fd.B,D.l sets.L,D.i (s2.I.toNat:Int),D.i pw.I,D.l opts.L])))))) (T.leaf (Rd.out (Ex.exit 4) [D.i 2,D.i e.I,D.i (s.I.toNat:Int),D.i n.I,D.i (o.I.toNat:Int),D.i b.I,D.i x.I,D.l cs.L,D.l ls.L,D.i rw.I,D.l bs.L,D.l bc.L,D.i bw.I,D.b fd.B,D.l sets.L,D.i (s2.I.toNat:Int),D.i pw.I,D.l opts.L]))):=by kernel_rfl
theorem t21_14_3 (e s n set o b x cs1 m i cs ls rw bs bc bw fd sets s2 c pw opts comps:D):(roundTK C tab21 21 (loopOf C.P 21 14) 6 l21_14 [.i 3,e,s,n,set,o,b,x,cs1,m,i,cs,ls,rw,bs,bc,bw,fd,sets,s2,c,pw,opts,comps]).run =
 T.run (T.ite (decide (i.I < m.I)) (T.need (decide ((0:Int) ≤ i.I ∧ i.I < (cs1.L.length:Int))) (T.need (decide (s.I.toNat ≤ sets.L.length)) (T.need (yes (compoundOk (D.L (List.getD (List.getD cs1.L i.I.toNat []) 0 default)) (D.L (List.getD (List.getD cs1.L i.I.toNat []) (0 + 1) default)) (D.L (List.getD (List.getD cs1.L i.I.toNat []) (0 + 1 + 1) default)) (D.I (List.getD (List.getD cs1.L i.I.toNat []) (0 + 1 + 1 + 1) default)) = true ∧ ls.L.length ≤ 8 ∧ List.length (List.take s.I.toNat sets.L) = ls.L.length ∧ allFrom (loopAt (↑(List.length (D.L (List.getD (List.getD cs1.L i.I.toNat []) 0 default))):Int) ls.L) 0 ls.L.length = true)) (T.ite (usedAll [D.l (D.L (List.getD (List.getD cs1.L i.I.toNat []) 0 default)),D.l (D.L (List.getD (List.getD cs1.L i.I.toNat []) (0 + 1) default)),D.l (D.L (List.getD (List.getD cs1.L i.I.toNat []) (0 + 1 + 1) default)),D.i (D.I (List.getD (List.getD cs1.L i.I.toNat []) (0 + 1 + 1 + 1) default))] ls.L (List.take s.I.toNat sets.L) set.I).snd (T.need true (T.ite false (T.leaf (Rd.again [D.i 3,D.i e.I,D.i (s.I.toNat:Int),D.i n.I,D.i set.I,D.i (o.I.toNat:Int),D.i b.I,D.i x.I,D.l cs1.L,D.i m.I,D.i (IntKind.i64.wrap (i.I + (1:Int))),D.l cs.L,D.l ls.L,D.i rw.I,D.l bs.L,D.l bc.L,D.i bw.I,D.b fd.B,D.l sets.L,D.i (s2.I.toNat:Int),D.i (c.I.toNat:Int),D.i pw.I,D.l opts.L,D.l comps.L])) (T.need (decide (o.I.toNat ≤ opts.L.length ∧ o.I.toNat + 1 ≤ 2 ^ 62 ∧ (o.I.toNat + 1) * Try.prog.types[102].bytes ≤ 2 ^ 47)) (T.leaf (Rd.again [D.i 3,D.i e.I,D.i (s.I.toNat:Int),D.i n.I,D.i set.I,D.i (↑(o.I.toNat + 1):Int),D.i b.I,D.i x.I,D.l cs1.L,D.i m.I,D.i (IntKind.i64.wrap (i.I + (1:Int))),D.l cs.L,D.l ls.L,D.i rw.I,D.l bs.L,D.l bc.L,D.i bw.I,D.b fd.B,D.l sets.L,D.i (s2.I.toNat:Int),D.i (c.I.toNat:Int),D.i pw.I,D.l (List.take o.I.toNat opts.L ++ List.take (List.length [[D.i i.I,D.i (usedAll [D.l (D.L (List.getD (List.getD cs1.L i.I.toNat []) 0 default)),D.l (D.L (List.getD (List.getD cs1.L i.I.toNat []) (0 + 1) default)),D.l (D.L (List.getD (List.getD cs1.L i.I.toNat []) (0 + 1 + 1) default)),D.i (D.I (List.getD (List.getD cs1.L i.I.toNat []) (0 + 1 + 1 + 1) default))] ls.L (List.take s.I.toNat sets.L) set.I).fst]]) [[D.i i.I,D.i (usedAll [D.l (D.L (List.getD (List.getD cs1.L i.I.toNat []) 0 default)),D.l (D.L (List.getD (List.getD cs1.L i.I.toNat []) (0 + 1) default)),D.l (D.L (List.getD (List.getD cs1.L i.I.toNat []) (0 + 1 + 1) default)),D.i (D.I (List.getD (List.getD cs1.L i.I.toNat []) (0 + 1 + 1 + 1) default))] ls.L (List.take s.I.toNat sets.L) set.I).fst]]),D.l comps.L]))))) (T.leaf (Rd.again [D.i 3,D.i e.I,D.i (s.I.toNat:Int),D.i n.I,D.i set.I,D.i (o.I.toNat:Int),D.i b.I,D.i x.I,D.l cs1.L,D.i m.I,D.i (IntKind.i64.wrap (i.I + (1:Int))),D.l cs.L,D.l ls.L,D.i rw.I,D.l bs.L,D.l bc.L,D.i bw.I,D.b fd.B,D.l sets.L,D.i (s2.I.toNat:Int),D.i (c.I.toNat:Int),D.i pw.I,D.l opts.L,D.l comps.L])))))) (T.leaf (Rd.out (Ex.exit 4) [D.i 3,D.i e.I,D.i (s.I.toNat:Int),D.i n.I,D.i (o.I.toNat:Int),D.i b.I,D.i x.I,D.l cs.L,D.l ls.L,D.i rw.I,D.l bs.L,D.l bc.L,D.i bw.I,D.b fd.B,D.l sets.L,D.i (s2.I.toNat:Int),D.i (c.I.toNat:Int),D.i pw.I,D.l opts.L,D.l comps.L]))):=by kernel_rfl
theorem t21_10_0 (e s n b x cs ls rw bs bc bw fd sets s2 pw:D):(roundTK C tab21 21 (loopOf C.P 21 10) 6 l21_10 [.i 0,e,s,n,b,x,cs,ls,rw,bs,bc,bw,fd,sets,s2,pw]).run =
 T.run (T.ite (decide (x.I < b.I)) (T.need (yes ((↑0:Int) = (0:Int) ∧ planP cs.L ls.L sets.L (s.I.toNat:Int) (s2.I.toNat:Int) n.I ∧ setP b.I x.I n.I pw.I x.I (0:Int) (cs.L.length:Int) cs.L cs.L [] ∧ x.I = (0:Int))) (T.ite (List.isEmpty (optI cs.L ls.L sets.L x.I (0:Int))) (T.ite true (T.leaf (Rd.out (Ex.exit 1) [D.i e.I,D.l cs.L,D.l ls.L,D.i rw.I,D.l bs.L,D.l bc.L,D.i bw.I,D.b fd.B,D.l sets.L])) (T.need (yes (0 < List.length ([]:List (List D)) ∧ List.length ([]:List (List D)) ≤ 1000)) (T.need true (T.ite false (T.ite fd.B (T.ite (decide (IntKind.i64.wrap (pw.I + ix (bestL []) 1) > bw.I)) (T.leaf (Rd.out (Ex.exit 1) [D.i e.I,D.l cs.L,D.l ls.L,D.i rw.I,D.l bs.L,D.l bc.L,D.i bw.I,D.b fd.B,D.l sets.L])) (T.leaf (Rd.again [D.i 0,D.i e.I,D.i (↑(Int.toNat (s.I.toNat:Int)):Int),D.i n.I,D.i b.I,D.i (IntKind.i64.wrap (x.I + (1:Int))),D.l cs.L,D.l ls.L,D.i rw.I,D.l bs.L,D.l bc.L,D.i bw.I,D.b fd.B,D.l sets.L,D.i (↑(Int.toNat (s2.I.toNat:Int)):Int),D.i (IntKind.i64.wrap (pw.I + ix (bestL []) 1))]))) (T.leaf (Rd.again [D.i 0,D.i e.I,D.i (↑(Int.toNat (s.I.toNat:Int)):Int),D.i n.I,D.i b.I,D.i (IntKind.i64.wrap (x.I + (1:Int))),D.l cs.L,D.l ls.L,D.i rw.I,D.l bs.L,D.l bc.L,D.i bw.I,D.b fd.B,D.l sets.L,D.i (↑(Int.toNat (s2.I.toNat:Int)):Int),D.i (IntKind.i64.wrap (pw.I + ix (bestL []) 1))]))) (T.need true (T.ite fd.B (T.ite (decide (IntKind.i64.wrap (pw.I + ix (bestL []) 1) > bw.I)) (T.leaf (Rd.out (Ex.exit 1) [D.i e.I,D.l cs.L,D.l ls.L,D.i rw.I,D.l bs.L,D.l bc.L,D.i bw.I,D.b fd.B,D.l sets.L])) (T.leaf (Rd.again [D.i 1,D.i e.I,D.i (↑(Int.toNat (s.I.toNat:Int)):Int),D.i n.I,D.i b.I,D.i (IntKind.i64.wrap (x.I + (1:Int))),D.l cs.L,D.l ls.L,D.i rw.I,D.l bs.L,D.l bc.L,D.i bw.I,D.b fd.B,D.l sets.L,D.i (↑(Int.toNat (s2.I.toNat:Int)):Int),D.i 1,D.i (IntKind.i64.wrap (pw.I + ix (bestL []) 1)),D.l [[D.i 0]]]))) (T.leaf (Rd.again [D.i 1,D.i e.I,D.i (↑(Int.toNat (s.I.toNat:Int)):Int),D.i n.I,D.i b.I,D.i (IntKind.i64.wrap (x.I + (1:Int))),D.l cs.L,D.l ls.L,D.i rw.I,D.l bs.L,D.l bc.L,D.i bw.I,D.b fd.B,D.l sets.L,D.i (↑(Int.toNat (s2.I.toNat:Int)):Int),D.i 1,D.i (IntKind.i64.wrap (pw.I + ix (bestL []) 1)),D.l [[D.i 0]]])))))))) (T.ite ((↑(Int.toNat (↑(List.length (optI cs.L ls.L sets.L x.I (0:Int))):Int)):Int) == (0:Int)) (T.leaf (Rd.out (Ex.exit 1) [D.i e.I,D.l cs.L,D.l ls.L,D.i rw.I,D.l bs.L,D.l bc.L,D.i bw.I,D.b fd.B,D.l sets.L])) (T.need (decide (Int.toNat (↑(List.length (optI cs.L ls.L sets.L x.I (0:Int))):Int) ≤ List.length (optI cs.L ls.L sets.L x.I (0:Int)))) (T.need (yes (0 < List.length (List.take (Int.toNat (↑(List.length (optI cs.L ls.L sets.L x.I (0:Int))):Int)) (optI cs.L ls.L sets.L x.I (0:Int))) ∧ List.length (List.take (Int.toNat (↑(List.length (optI cs.L ls.L sets.L x.I (0:Int))):Int)) (optI cs.L ls.L sets.L x.I (0:Int))) ≤ 1000)) (T.need true (T.ite false (T.ite fd.B (T.ite (decide (IntKind.i64.wrap (pw.I + ix (bestL (List.take (Int.toNat (↑(List.length (optI cs.L ls.L sets.L x.I (0:Int))):Int)) (optI cs.L ls.L sets.L x.I (0:Int)))) 1) > bw.I)) (T.leaf (Rd.out (Ex.exit 1) [D.i e.I,D.l cs.L,D.l ls.L,D.i rw.I,D.l bs.L,D.l bc.L,D.i bw.I,D.b fd.B,D.l sets.L])) (T.leaf (Rd.again [D.i 0,D.i e.I,D.i (↑(Int.toNat (s.I.toNat:Int)):Int),D.i n.I,D.i b.I,D.i (IntKind.i64.wrap (x.I + (1:Int))),D.l cs.L,D.l ls.L,D.i rw.I,D.l bs.L,D.l bc.L,D.i bw.I,D.b fd.B,D.l sets.L,D.i (↑(Int.toNat (s2.I.toNat:Int)):Int),D.i (IntKind.i64.wrap (pw.I + ix (bestL (List.take (Int.toNat (↑(List.length (optI cs.L ls.L sets.L x.I (0:Int))):Int)) (optI cs.L ls.L sets.L x.I (0:Int)))) 1))]))) (T.leaf (Rd.again [D.i 0,D.i e.I,D.i (↑(Int.toNat (s.I.toNat:Int)):Int),D.i n.I,D.i b.I,D.i (IntKind.i64.wrap (x.I + (1:Int))),D.l cs.L,D.l ls.L,D.i rw.I,D.l bs.L,D.l bc.L,D.i bw.I,D.b fd.B,D.l sets.L,D.i (↑(Int.toNat (s2.I.toNat:Int)):Int),D.i (IntKind.i64.wrap (pw.I + ix (bestL (List.take (Int.toNat (↑(List.length (optI cs.L ls.L sets.L x.I (0:Int))):Int)) (optI cs.L ls.L sets.L x.I (0:Int)))) 1))]))) (T.need true (T.ite fd.B (T.ite (decide (IntKind.i64.wrap (pw.I + ix (bestL (List.take (Int.toNat (↑(List.length (optI cs.L ls.L sets.L x.I (0:Int))):Int)) (optI cs.L ls.L sets.L x.I (0:Int)))) 1) > bw.I)) (T.leaf (Rd.out (Ex.exit 1) [D.i e.I,D.l cs.L,D.l ls.L,D.i rw.I,D.l bs.L,D.l bc.L,D.i bw.I,D.b fd.B,D.l sets.L])) (T.leaf (Rd.again [D.i 1,D.i e.I,D.i (↑(Int.toNat (s.I.toNat:Int)):Int),D.i n.I,D.i b.I,D.i (IntKind.i64.wrap (x.I + (1:Int))),D.l cs.L,D.l ls.L,D.i rw.I,D.l bs.L,D.l bc.L,D.i bw.I,D.b fd.B,D.l sets.L,D.i (↑(Int.toNat (s2.I.toNat:Int)):Int),D.i 1,D.i (IntKind.i64.wrap (pw.I + ix (bestL (List.take (Int.toNat (↑(List.length (optI cs.L ls.L sets.L x.I (0:Int))):Int)) (optI cs.L ls.L sets.L x.I (0:Int)))) 1)),D.l [[D.i (ix (bestL (List.take (Int.toNat (↑(List.length (optI cs.L ls.L sets.L x.I (0:Int))):Int)) (optI cs.L ls.L sets.L x.I (0:Int)))) 0)]]]))) (T.leaf (Rd.again [D.i 1,D.i e.I,D.i (↑(Int.toNat (s.I.toNat:Int)):Int),D.i n.I,D.i b.I,D.i (IntKind.i64.wrap (x.I + (1:Int))),D.l cs.L,D.l ls.L,D.i rw.I,D.l bs.L,D.l bc.L,D.i bw.I,D.b fd.B,D.l sets.L,D.i (↑(Int.toNat (s2.I.toNat:Int)):Int),D.i 1,D.i (IntKind.i64.wrap (pw.I + ix (bestL (List.take (Int.toNat (↑(List.length (optI cs.L ls.L sets.L x.I (0:Int))):Int)) (optI cs.L ls.L sets.L x.I (0:Int)))) 1)),D.l [[D.i (ix (bestL (List.take (Int.toNat (↑(List.length (optI cs.L ls.L sets.L x.I (0:Int))):Int)) (optI cs.L ls.L sets.L x.I (0:Int)))) 0)]]]))))))))))) (T.leaf (Rd.out (Ex.exit 2) [D.i 0,D.i e.I,D.i n.I,D.l cs.L,D.l ls.L,D.i rw.I,D.l bs.L,D.l bc.L,D.i bw.I,D.b fd.B,D.l sets.L,D.i (s2.I.toNat:Int),D.i pw.I]))):=by kernel_rfl
theorem t21_10n (e n b x cs ls rw bs bc bw fd pw:D):(roundTK C tab21n 21 (loopOf C.P 21 10) 5 l21_10n [e,n,b,x,cs,ls,rw,bs,bc,bw,fd,pw]).run =
 T.run (T.ite (decide (x.I < b.I)) T.fail (T.leaf (Rd.out (Ex.exit 2) [D.i e.I,D.i n.I,D.l cs.L,D.l ls.L,D.i rw.I,D.l bs.L,D.l bc.L,D.i bw.I,D.b fd.B,D.i pw.I]))):=by kernel_rfl
theorem t21_r (e cs ls rw bs bc bw fd s n row:D):(roundRT C tab21 21 (rangeOf C.P 21 8) 0 6 [3,4,6,7,8,9,29] h21_8 y84 [e,cs,ls,rw,bs,bc,bw,fd] [.i 1,s,n,row]).run =
 T.run (T.need (yes ((↑0:Int) = (0:Int) ∧ planP cs.L ls.L row.L (s.I.toNat:Int) (s.I.toNat:Int) n.I ∧ loopP n.I (0:Int) n.I (0:Int) [] ∧ (0:Int) = (0:Int))) (T.ite (Option.isSome (setsF cs.L ls.L row.L fd.B bw.I (Int.toNat (0:Int)) (Int.toNat (n.I - (0:Int))) [] (0:Int))) (T.ite (List.isEmpty (resF (setsF cs.L ls.L row.L fd.B bw.I (Int.toNat (0:Int)) (Int.toNat (n.I - (0:Int))) [] (0:Int))).fst) (T.ite (!fd.B) (T.need (decide (Int.toNat (s.I.toNat:Int) ≤ row.L.length)) (T.leaf (Rd.again [D.i e.I,D.l cs.L,D.l ls.L,D.i rw.I,D.l (List.take (Int.toNat (s.I.toNat:Int)) row.L),D.l [],D.i (resF (setsF cs.L ls.L row.L fd.B bw.I (Int.toNat (0:Int)) (Int.toNat (n.I - (0:Int))) [] (0:Int))).snd,D.b true],[]))) (T.ite (decide ((resF (setsF cs.L ls.L row.L fd.B bw.I (Int.toNat (0:Int)) (Int.toNat (n.I - (0:Int))) [] (0:Int))).snd < bw.I)) (T.need (decide (Int.toNat (s.I.toNat:Int) ≤ row.L.length)) (T.leaf (Rd.again [D.i e.I,D.l cs.L,D.l ls.L,D.i rw.I,D.l (List.take (Int.toNat (s.I.toNat:Int)) row.L),D.l [],D.i (resF (setsF cs.L ls.L row.L fd.B bw.I (Int.toNat (0:Int)) (Int.toNat (n.I - (0:Int))) [] (0:Int))).snd,D.b true],[]))) (T.ite (decide (n.I < (bc.L.length:Int))) (T.need (decide (Int.toNat (s.I.toNat:Int) ≤ row.L.length)) (T.leaf (Rd.again [D.i e.I,D.l cs.L,D.l ls.L,D.i rw.I,D.l (List.take (Int.toNat (s.I.toNat:Int)) row.L),D.l [],D.i (resF (setsF cs.L ls.L row.L fd.B bw.I (Int.toNat (0:Int)) (Int.toNat (n.I - (0:Int))) [] (0:Int))).snd,D.b true],[]))) (T.leaf (Rd.again [D.i e.I,D.l cs.L,D.l ls.L,D.i rw.I,D.l bs.L,D.l bc.L,D.i bw.I,D.b fd.B],[]))))) (T.ite (!fd.B) (T.need (decide (Int.toNat (s.I.toNat:Int) ≤ row.L.length)) (T.need (decide (Int.toNat (↑(List.length (resF (setsF cs.L ls.L row.L fd.B bw.I (Int.toNat (0:Int)) (Int.toNat (n.I - (0:Int))) [] (0:Int))).fst):Int) ≤ List.length (resF (setsF cs.L ls.L row.L fd.B bw.I (Int.toNat (0:Int)) (Int.toNat (n.I - (0:Int))) [] (0:Int))).fst)) (T.leaf (Rd.again [D.i e.I,D.l cs.L,D.l ls.L,D.i rw.I,D.l (List.take (Int.toNat (s.I.toNat:Int)) row.L),D.l (List.take (Int.toNat (↑(List.length (resF (setsF cs.L ls.L row.L fd.B bw.I (Int.toNat (0:Int)) (Int.toNat (n.I - (0:Int))) [] (0:Int))).fst):Int)) (resF (setsF cs.L ls.L row.L fd.B bw.I (Int.toNat (0:Int)) (Int.toNat (n.I - (0:Int))) [] (0:Int))).fst),D.i (resF (setsF cs.L ls.L row.L fd.B bw.I (Int.toNat (0:Int)) (Int.toNat (n.I - (0:Int))) [] (0:Int))).snd,D.b true],[])))) (T.ite (decide ((resF (setsF cs.L ls.L row.L fd.B bw.I (Int.toNat (0:Int)) (Int.toNat (n.I - (0:Int))) [] (0:Int))).snd < bw.I)) (T.need (decide (Int.toNat (s.I.toNat:Int) ≤ row.L.length)) (T.need (decide (Int.toNat (↑(List.length (resF (setsF cs.L ls.L row.L fd.B bw.I (Int.toNat (0:Int)) (Int.toNat (n.I - (0:Int))) [] (0:Int))).fst):Int) ≤ List.length (resF (setsF cs.L ls.L row.L fd.B bw.I (Int.toNat (0:Int)) (Int.toNat (n.I - (0:Int))) [] (0:Int))).fst)) (T.leaf (Rd.again [D.i e.I,D.l cs.L,D.l ls.L,D.i rw.I,D.l (List.take (Int.toNat (s.I.toNat:Int)) row.L),D.l (List.take (Int.toNat (↑(List.length (resF (setsF cs.L ls.L row.L fd.B bw.I (Int.toNat (0:Int)) (Int.toNat (n.I - (0:Int))) [] (0:Int))).fst):Int)) (resF (setsF cs.L ls.L row.L fd.B bw.I (Int.toNat (0:Int)) (Int.toNat (n.I - (0:Int))) [] (0:Int))).fst),D.i (resF (setsF cs.L ls.L row.L fd.B bw.I (Int.toNat (0:Int)) (Int.toNat (n.I - (0:Int))) [] (0:Int))).snd,D.b true],[])))) (T.ite (decide (n.I < (bc.L.length:Int))) (T.need (decide (Int.toNat (s.I.toNat:Int) ≤ row.L.length)) (T.need (decide (Int.toNat (↑(List.length (resF (setsF cs.L ls.L row.L fd.B bw.I (Int.toNat (0:Int)) (Int.toNat (n.I - (0:Int))) [] (0:Int))).fst):Int) ≤ List.length (resF (setsF cs.L ls.L row.L fd.B bw.I (Int.toNat (0:Int)) (Int.toNat (n.I - (0:Int))) [] (0:Int))).fst)) (T.leaf (Rd.again [D.i e.I,D.l cs.L,D.l ls.L,D.i rw.I,D.l (List.take (Int.toNat (s.I.toNat:Int)) row.L),D.l (List.take (Int.toNat (↑(List.length (resF (setsF cs.L ls.L row.L fd.B bw.I (Int.toNat (0:Int)) (Int.toNat (n.I - (0:Int))) [] (0:Int))).fst):Int)) (resF (setsF cs.L ls.L row.L fd.B bw.I (Int.toNat (0:Int)) (Int.toNat (n.I - (0:Int))) [] (0:Int))).fst),D.i (resF (setsF cs.L ls.L row.L fd.B bw.I (Int.toNat (0:Int)) (Int.toNat (n.I - (0:Int))) [] (0:Int))).snd,D.b true],[])))) (T.leaf (Rd.again [D.i e.I,D.l cs.L,D.l ls.L,D.i rw.I,D.l bs.L,D.l bc.L,D.i bw.I,D.b fd.B],[])))))) (T.leaf (Rd.again [D.i e.I,D.l cs.L,D.l ls.L,D.i rw.I,D.l bs.L,D.l bc.L,D.i bw.I,D.b fd.B],[])))):=by kernel_rfl
theorem t21_rn (e cs ls rw bs bc bw fd n:D):(roundRT C tab21n 21 (rangeOf C.P 21 8) 0 5 [3,4,6,7,8,9,29] h21_8 y84 [e,cs,ls,rw,bs,bc,bw,fd] [.i 0,n]).run =
 T.run (T.need (yes (n.I ≤ (0:Int))) (T.ite (!fd.B) (T.leaf (Rd.again [D.i e.I,D.l cs.L,D.l ls.L,D.i rw.I,D.l [],D.l [],D.i 0,D.b true],[])) (T.ite (decide ((0:Int) < bw.I)) (T.leaf (Rd.again [D.i e.I,D.l cs.L,D.l ls.L,D.i rw.I,D.l [],D.l [],D.i 0,D.b true],[])) (T.ite (decide (n.I < (bc.L.length:Int))) (T.leaf (Rd.again [D.i e.I,D.l cs.L,D.l ls.L,D.i rw.I,D.l [],D.l [],D.i 0,D.b true],[])) (T.leaf (Rd.again [D.i e.I,D.l cs.L,D.l ls.L,D.i rw.I,D.l bs.L,D.l bc.L,D.i bw.I,D.b fd.B],[])))))):=by kernel_rfl
theorem t21 (cs ls n:D):(fnTW C tab21 21 s21 [cs,ls,n]).run =
 T.run (T.need (yes (smallCs cs.L)) (T.ite (!taskOk cs.L ls.L n.I) (T.leaf [D.l [],D.l [],D.i 0,D.i 2]) (T.need (yes (((0:Int) ≤ (ls.L.length:Int) ∧ (ls.L.length:Int) ≤ (8:Int)) ∧ (1:Int) ≤ n.I ∧ n.I ≤ (8:Int))) (T.need (yes (TaskP cs.L ls.L ∧ (∀ (y:List D),y ∈ useF n.I (Int.toNat (ls.L.length:Int)) [] (0:Int) → okYd ls.L y) ∧ List.length ([]:List (List D)) ≤ 8 ∧ List.length ([]:List (List D)) ≤ 8)) (T.ite (!(foldT cs.L ls.L (useF n.I (Int.toNat (ls.L.length:Int)) [] (0:Int)) (plOf (D.l []) (D.l []) (D.i 0) (D.b false))).fd) (T.leaf [D.l [],D.l [],D.i 0,D.i 5]) (T.leaf [D.l (foldT cs.L ls.L (useF n.I (Int.toNat (ls.L.length:Int)) [] (0:Int)) (plOf (D.l []) (D.l []) (D.i 0) (D.b false))).sets,D.l (foldT cs.L ls.L (useF n.I (Int.toNat (ls.L.length:Int)) [] (0:Int)) (plOf (D.l []) (D.l []) (D.i 0) (D.b false))).cp,D.i (foldT cs.L ls.L (useF n.I (Int.toNat (ls.L.length:Int)) [] (0:Int)) (plOf (D.l []) (D.l []) (D.i 0) (D.b false))).w,D.i 0])))))):=by kernel_rfl
theorem roundTK_head {C:Cfg} {tab:Tab} {f:FuncId} {b:Code} {k:Nat} {s:LSig} {j:D} {n:Int} {r:List D} (h:j.I = n) (hs:2 ≤ s.head.length):roundTK C tab f b k s (j :: r) = roundTK C tab f b k s (.i n :: r):=by
 obtain ⟨live,head,exits⟩:=s
 match head,hs with
 | a :: b :: c,_=>simp only [roundTK,roundTG,headL,headA,List.headD_cons,List.tail_cons,I_i,h]
set_option maxRecDepth 100000
theorem b102:Try.prog.types[102].bytes = 16:=by kernel_rfl
theorem opt_step {cs ls sets:List (List D)} {set:Int} {k:Nat} (h:k < cs.length):optI cs ls sets set (k:Int) =
    if (usedAll (cs.getD k []) ls sets set).2 then [.i k,.i (usedAll (cs.getD k []) ls sets set).1] :: optI cs ls sets set ((k + 1:Nat):Int) else optI cs ls sets set ((k + 1:Nat):Int):=by
 unfold optI
 rw [Int.toNat_natCast,Int.toNat_natCast,show cs.length - k = (cs.length - (k + 1)) + 1 by omega]
 rfl
theorem opt_end {cs ls sets:List (List D)} {set:Int} {k:Nat} (h:cs.length ≤ k):optI cs ls sets set (k:Int) = []:=by
 unfold optI
 rw [Int.toNat_natCast,show cs.length - k = 0 by omega]
 rfl
def μ14 (ds:List D):Nat:=match ds with
 | [_,_,_,_,_,_,_,_,m,i,_,_,_,_,_,_,_,_,_,_]=>(m.I - i.I).toNat
 | [y,_,_,_,_,_,_,_,a,b,c,_,_,_,_,_,_,_,_,_,_,_]=>if y.I = 1 then (a.I - b.I).toNat else (b.I - c.I).toNat
 | [_,_,_,_,_,_,_,_,_,m,i,_,_,_,_,_,_,_,_,_,_,_,_,_]=>(m.I - i.I).toNat
 | _=>0
set_option maxHeartbeats 2000000 in
theorem head1 (n:Nat) (_hA:AllOK C n sp21) {rr:Ex × List D} (y e s n' set b x cs' m i cs ls rv bs bc bw fd sets s2 c pw comps:D) (hz:y.I = 1) (h:(G21_14_1 y e s n' set b x cs' m i cs ls rv bs bc bw fd sets s2 c pw comps).run = some rr) :
    μ14 [y,e,s,n',set,b,x,cs',m,i,cs,ls,rv,bs,bc,bw,fd,sets,s2,c,pw,comps] < C.fuel ∧ RdOK G21_14 μ14 [y,e,s,n',set,b,x,cs',m,i,cs,ls,rv,bs,bc,bw,fd,sets,s2,c,pw,comps] rr (roundTK C tab21 21 (loopOf C.P 21 14) 6 l21_14 [y,e,s,n',set,b,x,cs',m,i,cs,ls,rv,bs,bc,bw,fd,sets,s2,c,pw,comps]).run:=by
 have hmu:μ14 [y,e,s,n',set,b,x,cs',m,i,cs,ls,rv,bs,bc,bw,fd,sets,s2,c,pw,comps] = (m.I - i.I).toNat:=if_pos hz
 unfold G21_14_1 at h
 obtain ⟨hp,h⟩:=need_some h
 rw [yes_iff] at hp
 obtain ⟨hy,hP,hS,hc,hc0⟩:=hp
 obtain ⟨hT,⟨hs,hs2,hl⟩,hn0,hn8⟩:=hP
 obtain ⟨hlp,hset,hxn,hcs,hm,i0,i1⟩:=hS
 obtain ⟨⟨kn0,kn8⟩,kl8,kc⟩:=task_of hT
 refine ⟨by rw [fuelC]; rw [hmu]; omega,?_⟩
 rw [roundTK_head (j:=y) (n:=1) hy (by decide)]
 refine rd_runY (t21_14_1 e s n' set b x cs' m i cs ls rv bs bc bw fd sets s2 c pw comps) ?_
 obtain ⟨k,hk⟩:∃ k:Nat,i.I = k:=⟨i.I.toNat,by omega⟩
 have es:s.I.toNat = sets.L.length:=by omega
 have es2:s2.I.toNat = sets.L.length:=by omega
 have et:∀ l:List (List D),l.take l.length = l:=fun l=>List.take_length
 have ec:c.I.toNat = comps.L.length:=by omega
 clear es es2
 simp only [hk,hs,hs2,et,hcs,Int.toNat_natCast,lx_def,ix_def,hc] at h i0 i1 ⊢
 refine rd_if (fun hlt=>?_) fun hge=>?_
 ·have hkl:k < cs.L.length:=by omega
  obtain ⟨q1,q2,q3⟩:=kc k hkl
  have hu:∀ st:Int,usedAll [D.l (lx (cs.L.getD k []) 0),D.l (lx (cs.L.getD k []) (0 + 1)),D.l (lx (cs.L.getD k []) (0 + 1 + 1)),D.i (ix (cs.L.getD k []) (0 + 1 + 1 + 1))] ls.L sets.L st = usedAll (cs.L.getD k []) ls.L sets.L st:=fun st=>used_eta _ _ _ _ _ _ _ _
  have hP':∀ a b:Int,a = sets.L.length → b = sets.L.length → planP cs.L ls.L sets.L a b n'.I:=fun a b ha hb=>⟨hT,⟨ha,hb,hl⟩,hn0,hn8⟩
  have hS':setP b.I x.I n'.I pw.I set.I ((k + 1:Nat):Int) m.I cs.L cs.L comps.L:=⟨hlp,hset,hxn,rfl,hm,by omega,by omega⟩
  rw [opt_step hkl] at h
  simp only [hu]
  rw [wrap_succ (by omega)]
  refine rd_dec (by omega) (rd_dec (by omega) (rd_yes ⟨q1,kl8,hl,q2⟩ (rd_ite (fun c1=>?_) fun c1=>?_)))
  ·have fin:(G21_14 [.i 3,.i e.I,.i (sets.L.length:Int),.i n'.I,.i set.I,.i 1,.i b.I,.i x.I,.l cs.L,.i m.I,.i ((k + 1:Nat):Int),.l cs.L,.l ls.L,.i rv.I,.l bs.L,.l bc.L,.i bw.I,.b fd.B,.l sets.L,.i (sets.L.length:Int),.i (comps.L.length:Int),.i pw.I,.l [[.i (k:Int),.i (usedAll (cs.L.getD k []) ls.L sets.L set.I).1]],.l comps.L]).run = some rr:=by
    rw [if_pos c1] at h
    refine (need_yes ⟨rfl,hP' _ _ rfl rfl,hS',rfl,by simp only [I_i]; omega,by simp only [I_i,L_l,List.length_cons,List.length_nil]; try omega,by simp only [I_i]; omega,by simp only [I_i]; omega⟩).trans ?_
    simp only [I_i,L_l,B_b]
    exact h
   refine rd_need rfl (rd_false rfl (rd_need rfl (rd_again fin ?_)))
   rw [hmu]
   show ((m.I - ((k + 1:Nat):Int)).toNat) < ((m.I - i.I).toNat)
   omega
  ·have fin:(G21_14 [.i 1,.i e.I,.i (sets.L.length:Int),.i n'.I,.i set.I,.i b.I,.i x.I,.l cs.L,.i m.I,.i ((k + 1:Nat):Int),.l cs.L,.l ls.L,.i rv.I,.l bs.L,.l bc.L,.i bw.I,.b fd.B,.l sets.L,.i (sets.L.length:Int),.i (comps.L.length:Int),.i pw.I,.l comps.L]).run = some rr:=by
    rw [if_neg (by rw [c1]; decide)] at h
    refine (show (G21_14 [.i 1,.i e.I,.i (sets.L.length:Int),.i n'.I,.i set.I,.i b.I,.i x.I,.l cs.L,.i m.I,.i ((k + 1:Nat):Int),.l cs.L,.l ls.L,.i rv.I,.l bs.L,.l bc.L,.i bw.I,.b fd.B,.l sets.L,.i (sets.L.length:Int),.i (comps.L.length:Int),.i pw.I,.l comps.L]).run = (G21_14_1 (.i 1) (.i e.I) (.i (sets.L.length:Int)) (.i n'.I) (.i set.I) (.i b.I) (.i x.I) (.l cs.L) (.i m.I) (.i ((k + 1:Nat):Int)) (.l cs.L) (.l ls.L) (.i rv.I) (.l bs.L) (.l bc.L) (.i bw.I) (.b fd.B) (.l sets.L) (.i (sets.L.length:Int)) (.i (comps.L.length:Int)) (.i pw.I) (.l comps.L)).run from rfl).trans ?_
    refine (need_yes ⟨rfl,hP' _ _ rfl rfl,hS',rfl,by simp only [I_i]; omega⟩).trans ?_
    simp only [I_i,L_l,B_b]
    exact h
   refine rd_again fin ?_
   rw [hmu]
   show ((m.I - ((k + 1:Nat):Int)).toNat) < ((m.I - i.I).toNat)
   omega
 ·rw [opt_end (by omega)] at h
  exact rd_out h
set_option maxHeartbeats 2000000 in
theorem head2 (n:Nat) (_hA:AllOK C n sp21) {rr:Ex × List D} (y e s n' set o b x cs' m i cs ls rv bs bc bw fd sets s2 pw opts:D) (hz:¬ y.I = 1) (h:(G21_14_2 y e s n' set o b x cs' m i cs ls rv bs bc bw fd sets s2 pw opts).run = some rr) :
    μ14 [y,e,s,n',set,o,b,x,cs',m,i,cs,ls,rv,bs,bc,bw,fd,sets,s2,pw,opts] < C.fuel ∧ RdOK G21_14 μ14 [y,e,s,n',set,o,b,x,cs',m,i,cs,ls,rv,bs,bc,bw,fd,sets,s2,pw,opts] rr (roundTK C tab21 21 (loopOf C.P 21 14) 6 l21_14 [y,e,s,n',set,o,b,x,cs',m,i,cs,ls,rv,bs,bc,bw,fd,sets,s2,pw,opts]).run:=by
 have hmu:μ14 [y,e,s,n',set,o,b,x,cs',m,i,cs,ls,rv,bs,bc,bw,fd,sets,s2,pw,opts] = (m.I - i.I).toNat:=if_neg hz
 unfold G21_14_2 at h
 obtain ⟨hp,h⟩:=need_some h
 rw [yes_iff] at hp
 obtain ⟨hy,hP,hS,hx0,ho,ho0,hoi⟩:=hp
 obtain ⟨hT,⟨hs,hs2,hl⟩,hn0,hn8⟩:=hP
 obtain ⟨hlp,hset,hxn,hcs,hm,i0,i1⟩:=hS
 obtain ⟨⟨kn0,kn8⟩,kl8,kc⟩:=task_of hT
 refine ⟨by rw [fuelC]; rw [hmu]; omega,?_⟩
 rw [roundTK_head (j:=y) (n:=2) hy (by decide)]
 refine rd_runY (t21_14_2 e s n' set o b x cs' m i cs ls rv bs bc bw fd sets s2 pw opts) ?_
 obtain ⟨k,hk⟩:∃ k:Nat,i.I = k:=⟨i.I.toNat,by omega⟩
 have es:s.I.toNat = sets.L.length:=by omega
 have es2:s2.I.toNat = sets.L.length:=by omega
 have et:∀ l:List (List D),l.take l.length = l:=fun l=>List.take_length
 have eo:o.I.toNat = opts.L.length:=by omega
 clear es es2
 simp only [hk,hs,hs2,et,hcs,Int.toNat_natCast,lx_def,ix_def,eo,b102] at h i0 i1 hoi ⊢
 refine rd_if (fun hlt=>?_) fun hge=>?_
 ·have hkl:k < cs.L.length:=by omega
  obtain ⟨q1,q2,q3⟩:=kc k hkl
  have hu:∀ st:Int,usedAll [D.l (lx (cs.L.getD k []) 0),D.l (lx (cs.L.getD k []) (0 + 1)),D.l (lx (cs.L.getD k []) (0 + 1 + 1)),D.i (ix (cs.L.getD k []) (0 + 1 + 1 + 1))] ls.L sets.L st = usedAll (cs.L.getD k []) ls.L sets.L st:=fun st=>used_eta _ _ _ _ _ _ _ _
  have hP':∀ a b:Int,a = sets.L.length → b = sets.L.length → planP cs.L ls.L sets.L a b n'.I:=fun a b ha hb=>⟨hT,⟨ha,hb,hl⟩,hn0,hn8⟩
  have hS':setP b.I x.I n'.I pw.I set.I ((k + 1:Nat):Int) m.I cs.L cs.L []:=⟨hlp,hset,hxn,rfl,hm,by omega,by omega⟩
  rw [opt_step hkl] at h
  simp only [hu]
  rw [wrap_succ (by omega)]
  refine rd_dec (by omega) (rd_dec (by omega) (rd_yes ⟨q1,kl8,hl,q2⟩ (rd_ite (fun c1=>?_) fun c1=>?_)))
  ·have fin:(G21_14 [.i 2,.i e.I,.i (sets.L.length:Int),.i n'.I,.i set.I,.i ((opts.L.length + 1:Nat):Int),.i b.I,.i x.I,.l cs.L,.i m.I,.i ((k + 1:Nat):Int),.l cs.L,.l ls.L,.i rv.I,.l bs.L,.l bc.L,.i bw.I,.b fd.B,.l sets.L,.i (sets.L.length:Int),.i pw.I,.l (opts.L ++ [[.i (k:Int),.i (usedAll (cs.L.getD k []) ls.L sets.L set.I).1]])]).run = some rr:=by
    rw [if_pos c1] at h
    refine (show (G21_14 [.i 2,.i e.I,.i (sets.L.length:Int),.i n'.I,.i set.I,.i ((opts.L.length + 1:Nat):Int),.i b.I,.i x.I,.l cs.L,.i m.I,.i ((k + 1:Nat):Int),.l cs.L,.l ls.L,.i rv.I,.l bs.L,.l bc.L,.i bw.I,.b fd.B,.l sets.L,.i (sets.L.length:Int),.i pw.I,.l (opts.L ++ [[.i (k:Int),.i (usedAll (cs.L.getD k []) ls.L sets.L set.I).1]])]).run = (G21_14_2 (.i 2) (.i e.I) (.i (sets.L.length:Int)) (.i n'.I) (.i set.I) (.i ((opts.L.length + 1:Nat):Int)) (.i b.I) (.i x.I) (.l cs.L) (.i m.I) (.i ((k + 1:Nat):Int)) (.l cs.L) (.l ls.L) (.i rv.I) (.l bs.L) (.l bc.L) (.i bw.I) (.b fd.B) (.l sets.L) (.i (sets.L.length:Int)) (.i pw.I) (.l (opts.L ++ [[.i (k:Int),.i (usedAll (cs.L.getD k []) ls.L sets.L set.I).1]]))).run from rfl).trans ?_
    refine (need_yes ⟨rfl,hP' _ _ rfl rfl,hS',hx0,by simp only [I_i,L_l,List.length_append,List.length_cons,List.length_nil]; try omega,by simp only [I_i]; omega,by simp only [I_i]; omega⟩).trans ?_
    simp only [I_i,L_l,B_b,List.append_assoc]
    exact h
   refine rd_need rfl (rd_false rfl (rd_dec (by omega) (rd_again fin ?_)))
   rw [hmu]
   show ((m.I - ((k + 1:Nat):Int)).toNat) < ((m.I - i.I).toNat)
   omega
  ·have fin:(G21_14 [.i 2,.i e.I,.i (sets.L.length:Int),.i n'.I,.i set.I,.i (opts.L.length:Int),.i b.I,.i x.I,.l cs.L,.i m.I,.i ((k + 1:Nat):Int),.l cs.L,.l ls.L,.i rv.I,.l bs.L,.l bc.L,.i bw.I,.b fd.B,.l sets.L,.i (sets.L.length:Int),.i pw.I,.l opts.L]).run = some rr:=by
    rw [if_neg (by rw [c1]; decide)] at h
    refine (show (G21_14 [.i 2,.i e.I,.i (sets.L.length:Int),.i n'.I,.i set.I,.i (opts.L.length:Int),.i b.I,.i x.I,.l cs.L,.i m.I,.i ((k + 1:Nat):Int),.l cs.L,.l ls.L,.i rv.I,.l bs.L,.l bc.L,.i bw.I,.b fd.B,.l sets.L,.i (sets.L.length:Int),.i pw.I,.l opts.L]).run = (G21_14_2 (.i 2) (.i e.I) (.i (sets.L.length:Int)) (.i n'.I) (.i set.I) (.i (opts.L.length:Int)) (.i b.I) (.i x.I) (.l cs.L) (.i m.I) (.i ((k + 1:Nat):Int)) (.l cs.L) (.l ls.L) (.i rv.I) (.l bs.L) (.l bc.L) (.i bw.I) (.b fd.B) (.l sets.L) (.i (sets.L.length:Int)) (.i pw.I) (.l opts.L)).run from rfl).trans ?_
    refine (need_yes ⟨rfl,hP' _ _ rfl rfl,hS',hx0,rfl,by simp only [I_i]; omega,by simp only [I_i]; omega⟩).trans ?_
    simp only [I_i,L_l,B_b]
    exact h
   refine rd_again fin ?_
   rw [hmu]
   show ((m.I - ((k + 1:Nat):Int)).toNat) < ((m.I - i.I).toNat)
   omega
 ·rw [opt_end (by omega),List.append_nil] at h
  exact rd_out h
set_option maxHeartbeats 2000000 in
theorem ok21_14 (n:Nat) (hA:AllOK C n sp21):LoopSimK C n 6 21 (loopOf C.P 21 14) (mkLK 6 l21_14 G21_14):=by
 refine loop_ofR hC (sp:=sp21) (lp:=lp21) (sw:=sw21) (rg:=rg21) hA trivial 6 [] [] (by kernel_rfl) rfl (by kernel_rfl) rfl (fun k hk=>by cases hk) (fun k hk=>by cases hk) (by kernel_rfl) μ14 fun ds rr h=>?_
 unfold G21_14 at h
 split at h
 ·rename_i y e s n' set b x cs' m i cs ls rv bs bc bw fd sets s2 pw
  unfold G21_14_0 at h
  obtain ⟨hp,h⟩:=need_some h
  rw [yes_iff] at hp
  obtain ⟨hy,hP,hS,hx0⟩:=hp
  obtain ⟨hT,⟨hs,hs2,hl⟩,hn0,hn8⟩:=hP
  obtain ⟨hlp,hset,hxn,hcs,hm,i0,i1⟩:=hS
  obtain ⟨⟨kn0,kn8⟩,kl8,kc⟩:=task_of hT
  refine ⟨by rw [fuelC]; show ((m.I - i.I).toNat) < _; omega,?_⟩
  rw [roundTK_head (j:=y) (n:=0) hy (by decide)]
  refine rd_runY (t21_14_0 e s n' set b x cs' m i cs ls rv bs bc bw fd sets s2 pw) ?_
  obtain ⟨k,hk⟩:∃ k:Nat,i.I = k:=⟨i.I.toNat,by omega⟩
  have es:s.I.toNat = sets.L.length:=by omega
  have es2:s2.I.toNat = sets.L.length:=by omega
  have et:∀ l:List (List D),l.take l.length = l:=fun l=>List.take_length
  clear es es2
  simp only [hk,hs,hs2,et,hcs,Int.toNat_natCast,lx_def,ix_def] at h i0 i1 ⊢
  refine rd_if (fun hlt=>?_) fun hge=>?_
  ·have hkl:k < cs.L.length:=by omega
   obtain ⟨q1,q2,q3⟩:=kc k hkl
   have hu:∀ st:Int,usedAll [D.l (lx (cs.L.getD k []) 0),D.l (lx (cs.L.getD k []) (0 + 1)),D.l (lx (cs.L.getD k []) (0 + 1 + 1)),D.i (ix (cs.L.getD k []) (0 + 1 + 1 + 1))] ls.L sets.L st = usedAll (cs.L.getD k []) ls.L sets.L st:=fun st=>used_eta _ _ _ _ _ _ _ _
   have hP':∀ a b:Int,a = sets.L.length → b = sets.L.length → planP cs.L ls.L sets.L a b n'.I:=fun a b ha hb=>⟨hT,⟨ha,hb,hl⟩,hn0,hn8⟩
   have hS':setP b.I x.I n'.I pw.I set.I ((k + 1:Nat):Int) m.I cs.L cs.L []:=⟨hlp,hset,hxn,rfl,hm,by omega,by omega⟩
   rw [opt_step hkl] at h
   simp only [hu]
   rw [wrap_succ (by omega)]
   refine rd_dec (by omega) (rd_dec (by omega) (rd_yes ⟨q1,kl8,hl,q2⟩ (rd_ite (fun c1=>?_) fun c1=>?_)))
   ·have fin:(G21_14 [.i 2,.i e.I,.i (sets.L.length:Int),.i n'.I,.i set.I,.i 1,.i b.I,.i x.I,.l cs.L,.i m.I,.i ((k + 1:Nat):Int),.l cs.L,.l ls.L,.i rv.I,.l bs.L,.l bc.L,.i bw.I,.b fd.B,.l sets.L,.i (sets.L.length:Int),.i pw.I,.l [[.i (k:Int),.i (usedAll (cs.L.getD k []) ls.L sets.L set.I).1]]]).run = some rr:=by
     rw [if_pos c1] at h
     refine (show (G21_14 [.i 2,.i e.I,.i (sets.L.length:Int),.i n'.I,.i set.I,.i 1,.i b.I,.i x.I,.l cs.L,.i m.I,.i ((k + 1:Nat):Int),.l cs.L,.l ls.L,.i rv.I,.l bs.L,.l bc.L,.i bw.I,.b fd.B,.l sets.L,.i (sets.L.length:Int),.i pw.I,.l [[.i (k:Int),.i (usedAll (cs.L.getD k []) ls.L sets.L set.I).1]]]).run = (G21_14_2 (.i 2) (.i e.I) (.i (sets.L.length:Int)) (.i n'.I) (.i set.I) (.i 1) (.i b.I) (.i x.I) (.l cs.L) (.i m.I) (.i ((k + 1:Nat):Int)) (.l cs.L) (.l ls.L) (.i rv.I) (.l bs.L) (.l bc.L) (.i bw.I) (.b fd.B) (.l sets.L) (.i (sets.L.length:Int)) (.i pw.I) (.l [[.i (k:Int),.i (usedAll (cs.L.getD k []) ls.L sets.L set.I).1]])).run from rfl).trans ?_
     refine (need_yes ⟨rfl,hP' _ _ rfl rfl,hS',hx0,by simp only [I_i,L_l,List.length_cons,List.length_nil]; try omega,by simp only [I_i]; omega,by simp only [I_i]; omega⟩).trans ?_
     simp only [I_i,L_l,B_b]
     exact h
    refine rd_need rfl (rd_false rfl (rd_need rfl (rd_again fin ?_)))
    show ((m.I - ((k + 1:Nat):Int)).toNat) < ((m.I - i.I).toNat)
    omega
   ·have fin:(G21_14 [.i 0,.i e.I,.i (sets.L.length:Int),.i n'.I,.i set.I,.i b.I,.i x.I,.l cs.L,.i m.I,.i ((k + 1:Nat):Int),.l cs.L,.l ls.L,.i rv.I,.l bs.L,.l bc.L,.i bw.I,.b fd.B,.l sets.L,.i (sets.L.length:Int),.i pw.I]).run = some rr:=by
     rw [if_neg (by rw [c1]; decide)] at h
     refine (need_yes ⟨rfl,hP' _ _ rfl rfl,hS',hx0⟩).trans ?_
     simp only [I_i,L_l,B_b]
     exact h
    refine rd_again fin ?_
    show ((m.I - ((k + 1:Nat):Int)).toNat) < ((m.I - i.I).toNat)
    omega
  ·rw [opt_end (by omega)] at h
   exact rd_out h
 ·rename_i y x1 x2 x3 x4 x5 x6 x7 x8 x9 x10 x11 x12 x13 x14 x15 x16 x17 x18 x19 x20 x21
  cases hz:(y.I == 1)
  ·rw [hz] at h
   exact head2 n hA y x1 x2 x3 x4 x5 x6 x7 x8 x9 x10 x11 x12 x13 x14 x15 x16 x17 x18 x19 x20 x21 (by simpa using hz) h
  ·rw [hz] at h
   exact head1 n hA y x1 x2 x3 x4 x5 x6 x7 x8 x9 x10 x11 x12 x13 x14 x15 x16 x17 x18 x19 x20 x21 (by simpa using hz) h
 ·rename_i y e s n' set o b x cs' m i cs ls rv bs bc bw fd sets s2 c pw opts comps
  unfold G21_14_3 at h
  obtain ⟨hp,h⟩:=need_some h
  rw [yes_iff] at hp
  obtain ⟨hy,hP,hS,hc,hc0,ho,ho0,hoi⟩:=hp
  obtain ⟨hT,⟨hs,hs2,hl⟩,hn0,hn8⟩:=hP
  obtain ⟨hlp,hset,hxn,hcs,hm,i0,i1⟩:=hS
  obtain ⟨⟨kn0,kn8⟩,kl8,kc⟩:=task_of hT
  refine ⟨by rw [fuelC]; show ((m.I - i.I).toNat) < _; omega,?_⟩
  rw [roundTK_head (j:=y) (n:=3) hy (by decide)]
  refine rd_runY (t21_14_3 e s n' set o b x cs' m i cs ls rv bs bc bw fd sets s2 c pw opts comps) ?_
  obtain ⟨k,hk⟩:∃ k:Nat,i.I = k:=⟨i.I.toNat,by omega⟩
  have es:s.I.toNat = sets.L.length:=by omega
  have es2:s2.I.toNat = sets.L.length:=by omega
  have et:∀ l:List (List D),l.take l.length = l:=fun l=>List.take_length
  have ec:c.I.toNat = comps.L.length:=by omega
  have eo:o.I.toNat = opts.L.length:=by omega
  clear es es2
  simp only [hk,hs,hs2,et,hcs,Int.toNat_natCast,lx_def,ix_def,hc,eo,b102] at h i0 i1 hoi ⊢
  refine rd_if (fun hlt=>?_) fun hge=>?_
  ·have hkl:k < cs.L.length:=by omega
   obtain ⟨q1,q2,q3⟩:=kc k hkl
   have hu:∀ st:Int,usedAll [D.l (lx (cs.L.getD k []) 0),D.l (lx (cs.L.getD k []) (0 + 1)),D.l (lx (cs.L.getD k []) (0 + 1 + 1)),D.i (ix (cs.L.getD k []) (0 + 1 + 1 + 1))] ls.L sets.L st = usedAll (cs.L.getD k []) ls.L sets.L st:=fun st=>used_eta _ _ _ _ _ _ _ _
   have hP':∀ a b:Int,a = sets.L.length → b = sets.L.length → planP cs.L ls.L sets.L a b n'.I:=fun a b ha hb=>⟨hT,⟨ha,hb,hl⟩,hn0,hn8⟩
   have hS':setP b.I x.I n'.I pw.I set.I ((k + 1:Nat):Int) m.I cs.L cs.L comps.L:=⟨hlp,hset,hxn,rfl,hm,by omega,by omega⟩
   rw [opt_step hkl] at h
   simp only [hu]
   rw [wrap_succ (by omega)]
   refine rd_dec (by omega) (rd_dec (by omega) (rd_yes ⟨q1,kl8,hl,q2⟩ (rd_ite (fun c1=>?_) fun c1=>?_)))
   ·have fin:(G21_14 [.i 3,.i e.I,.i (sets.L.length:Int),.i n'.I,.i set.I,.i ((opts.L.length + 1:Nat):Int),.i b.I,.i x.I,.l cs.L,.i m.I,.i ((k + 1:Nat):Int),.l cs.L,.l ls.L,.i rv.I,.l bs.L,.l bc.L,.i bw.I,.b fd.B,.l sets.L,.i (sets.L.length:Int),.i (comps.L.length:Int),.i pw.I,.l (opts.L ++ [[.i (k:Int),.i (usedAll (cs.L.getD k []) ls.L sets.L set.I).1]]),.l comps.L]).run = some rr:=by
     rw [if_pos c1] at h
     refine (need_yes ⟨rfl,hP' _ _ rfl rfl,hS',rfl,by simp only [I_i]; omega,by simp only [I_i,L_l,List.length_append,List.length_cons,List.length_nil]; try omega,by simp only [I_i]; omega,by simp only [I_i]; omega⟩).trans ?_
     simp only [I_i,L_l,B_b,List.append_assoc]
     exact h
    refine rd_need rfl (rd_false rfl (rd_dec (by omega) (rd_again fin ?_)))
    show ((m.I - ((k + 1:Nat):Int)).toNat) < ((m.I - i.I).toNat)
    omega
   ·have fin:(G21_14 [.i 3,.i e.I,.i (sets.L.length:Int),.i n'.I,.i set.I,.i (opts.L.length:Int),.i b.I,.i x.I,.l cs.L,.i m.I,.i ((k + 1:Nat):Int),.l cs.L,.l ls.L,.i rv.I,.l bs.L,.l bc.L,.i bw.I,.b fd.B,.l sets.L,.i (sets.L.length:Int),.i (comps.L.length:Int),.i pw.I,.l opts.L,.l comps.L]).run = some rr:=by
     rw [if_neg (by rw [c1]; decide)] at h
     refine (need_yes ⟨rfl,hP' _ _ rfl rfl,hS',rfl,by simp only [I_i]; omega,rfl,by simp only [I_i]; omega,by simp only [I_i]; omega⟩).trans ?_
     simp only [I_i,L_l,B_b]
     exact h
    refine rd_again fin ?_
    show ((m.I - ((k + 1:Nat):Int)).toNat) < ((m.I - i.I).toNat)
    omega
  ·rw [opt_end (by omega),List.append_nil] at h
   exact rd_out h
 ·cases h
theorem optF_mem {cs ls sets:List (List D)} {set:Int}:∀ (k i:Nat) (y:List D),y ∈ optF cs ls sets set i k → ∃ j,i ≤ j ∧ j < i + k ∧ (usedAll (cs.getD j []) ls sets set).2 = true ∧ y = [.i j,.i (usedAll (cs.getD j []) ls sets set).1]
 | 0,i,y,h=>by cases h
 | k + 1,i,y,h=>by
   simp only [optF] at h
   split at h
   ·rename_i c
    rw [List.mem_cons] at h
    rcases h with rfl | h
    ·exact ⟨i,Nat.le_refl _,by omega,c,rfl⟩
    ·obtain ⟨j,h1,h2,h3⟩:=optF_mem k (i + 1) y h
     exact ⟨j,by omega,by omega,h3⟩
   ·obtain ⟨j,h1,h2,h3⟩:=optF_mem k (i + 1) y h
    exact ⟨j,by omega,by omega,h3⟩
theorem optF_all {cs ls sets:List (List D)} {set:Int}:∀ (k i j:Nat),i ≤ j → j < i + k → (usedAll (cs.getD j []) ls sets set).2 = true → [D.i j,.i (usedAll (cs.getD j []) ls sets set).1] ∈ optF cs ls sets set i k
 | 0,i,j,h1,h2,_=>by omega
 | k + 1,i,j,h1,h2,h=>by
   simp only [optF]
   by_cases e:i = j
   ·subst e
    rw [if_pos h]
    exact List.mem_cons_self ..
   ·have:=optF_all k (i + 1) j (by omega) (by omega) h
    split
    ·exact List.mem_cons_of_mem _ this
    ·exact this
theorem bestO_mem:∀ (l:List (List D)) (o:List D),bestO o l = o ∨ ∃ x ∈ l,bestO o l = mkR x
 | [],o=>.inl rfl
 | x :: l,o=>by
   rcases bestO_mem l (lessO x o) with h | ⟨y,hy,h⟩
   ·by_cases c:ix x 1 < ix o 1
    ·exact .inr ⟨x,List.mem_cons_self ..,by show bestO (lessO x o) l = _; rw [h]; exact if_pos c⟩
    ·exact .inl (by show bestO (lessO x o) l = _; rw [h]; exact if_neg c)
   ·exact .inr ⟨y,List.mem_cons_of_mem _ hy,h⟩
theorem lessO_le (x o:List D):ix (lessO x o) 1 ≤ ix o 1 ∧ ix (lessO x o) 1 ≤ ix x 1:=by
 unfold lessO
 split
 ·exact ⟨by show ix x 1 ≤ _; omega,Int.le_refl _⟩
 ·omega
theorem bestO_le:∀ (l:List (List D)) (o:List D),ix (bestO o l) 1 ≤ ix o 1 ∧ ∀ x ∈ l,ix (bestO o l) 1 ≤ ix x 1
 | [],o=>⟨Int.le_refl _,fun _ h=>by cases h⟩
 | x :: l,o=>by
   obtain ⟨h1,h2⟩:=bestO_le l (lessO x o)
   obtain ⟨h3,h4⟩:=lessO_le x o
   refine ⟨by show ix (bestO (lessO x o) l) 1 ≤ _; omega,fun y hy=>?_⟩
   show ix (bestO (lessO x o) l) 1 ≤ _
   rw [List.mem_cons] at hy
   rcases hy with rfl | hy
   ·omega
   ·exact h2 y hy
theorem bestL_of {l:List (List D)} (h:l ≠ []):(∃ x ∈ l,bestL l = mkR x) ∧ ∀ x ∈ l,ix (bestL l) 1 ≤ ix x 1:=by
 cases l with
 | nil=>exact absurd rfl h
 | cons a l=>
   have e:bestL (a :: l) = bestO (mkR a) l:=rfl
   rw [e]
   obtain ⟨h1,h2⟩:=bestO_le l (mkR a)
   refine ⟨?_,fun x hx=>?_⟩
   ·rcases bestO_mem l (mkR a) with h | ⟨y,hy,h⟩
    ·exact ⟨a,List.mem_cons_self ..,h⟩
    ·exact ⟨y,List.mem_cons_of_mem _ hy,h⟩
   ·rw [List.mem_cons] at hx
    rcases hx with rfl | hx
    ·exact h1
    ·exact h2 x hx
theorem opt_best {cs ls sets:List (List D)} {set:Int} (h:(optA cs ls sets set).isEmpty = false):∃ j:Nat,j < cs.length ∧ (usedAll (cs.getD j []) ls sets set).2 = true ∧ ix (bestL (optA cs ls sets set)) 0 = j ∧ ix (bestL (optA cs ls sets set)) 1 = (usedAll (cs.getD j []) ls sets set).1:=by
 have hne:optA cs ls sets set ≠ []:=fun e=>by rw [e] at h; cases h
 obtain ⟨⟨x,hx,e⟩,-⟩:=bestL_of hne
 obtain ⟨j,-,h2,h3,rfl⟩:=optF_mem _ _ _ hx
 exact ⟨j,by omega,h3,by rw [e]; rfl,by rw [e]; rfl⟩
theorem opt_least {cs ls sets:List (List D)} {set:Int} {j:Nat} (hj:j < cs.length) (h:(usedAll (cs.getD j []) ls sets set).2 = true):(optA cs ls sets set).isEmpty = false ∧ ix (bestL (optA cs ls sets set)) 1 ≤ (usedAll (cs.getD j []) ls sets set).1:=by
 have hm:=optF_all cs.length 0 j (Nat.zero_le _) (by omega) h
 have hne:optA cs ls sets set ≠ []:=fun e=>by
  have hm:_ ∈ optA cs ls sets set:=hm
  rw [e] at hm; cases hm
 refine ⟨by cases hq:optA cs ls sets set with
  | nil=>exact absurd hq hne
  | cons _ _=>rfl,?_⟩
 have:=(bestL_of hne).2 _ hm
 exact this
theorem used_nn {cs ls sets:List (List D)} {set:Int} (ht:TaskP cs ls) {j:Nat} (hj:j < cs.length):0 ≤ (usedAll (cs.getD j []) ls sets set).1 ∧ (usedAll (cs.getD j []) ls sets set).1 ≤ 24000000:=by
 obtain ⟨-,hl,h⟩:=task_of ht
 obtain ⟨-,-,h3⟩:=h j hj
 have:=used_rng (c:=cs.getD j []) (ls:=ls) (sets:=sets) (set:=set) h3 ls.length 0 0 0 (by omega) (by omega) (by omega) (by omega)
 unfold usedAll
 omega
theorem sums_ge {cs ls sets comps:List (List D)} (ht:TaskP cs ls):∀ (k i:Nat) (s:Int),(sumsFrom cs ls sets comps i k s).2 = true → s ≤ (sumsFrom cs ls sets comps i k s).1
 | 0,_,s,_=>Int.le_refl _
 | k + 1,i,s,h=>by
   simp only [sumsFrom] at h ⊢
   split at h
   ·rename_i c
    rw [if_pos c]
    split at h
    ·rename_i c2
     rw [if_pos c2]
     have hw:=Lite.within_iff.1 c
     have h1:=used_nn (sets:=sets) (set:=(i:Int)) ht (j:=(ix (comps.getD i []) 0).toNat) (by omega)
     have:=sums_ge ht k (i + 1) _ h
     omega
    ·cases h
   ·cases h
theorem sets_le {cs ls sets comps:List (List D)} (ht:TaskP cs ls) {fd:Bool} {w:Int}:∀ (k i:Nat) (cp:List (List D)) (s t:Int),s ≤ t → (sumsFrom cs ls sets comps i k t).2 = true →
    match setsF cs ls sets fd w i k cp s with
    | some r=>r.2 ≤ (sumsFrom cs ls sets comps i k t).1
    | none=>fd = true ∧ w < (sumsFrom cs ls sets comps i k t).1
 | 0,_,_,s,t,hst,_=>hst
 | k + 1,i,cp,s,t,hst,h=>by
   simp only [sumsFrom] at h ⊢
   split at h
   ·rename_i c
    rw [if_pos c]
    split at h
    ·rename_i c2
     rw [if_pos c2]
     have hw:=Lite.within_iff.1 c
     obtain ⟨o1,o2⟩:=opt_least (j:=(ix (comps.getD i []) 0).toNat) (by omega) c2
     have hs:=sums_ge ht k (i + 1) _ h
     simp only [setsF,o1,Bool.false_eq_true,if_false]
     by_cases c3:(fd && decide (w < s + ix (bestL (optA cs ls sets i)) 1)) = true
     ·rw [if_pos c3]
      rw [Bool.and_eq_true,decide_eq_true_iff] at c3
      exact ⟨c3.1,by omega⟩
     ·rw [if_neg c3]
      exact sets_le ht k (i + 1) _ _ _ (by omega) h
    ·cases h
   ·cases h
theorem getD_app {α:Type} {a:List α} {x d:α} {i:Nat} (h:a.length = i):(a ++ [x]).getD i d = x:=by
 subst h
 rw [List.getD_eq_getElem?_getD,List.getElem?_append_right (Nat.le_refl _),Nat.sub_self]
 rfl
theorem sets_ok {cs ls sets:List (List D)} {fd:Bool} {w:Int}:∀ (k i:Nat) (cp:List (List D)) (s:Int) (r:List (List D) × Int),cp.length = i → setsF cs ls sets fd w i k cp s = some r →
    ∃ tl,r.1 = cp ++ tl ∧ tl.length = k ∧ sumsFrom cs ls sets r.1 i k s = (r.2,true)
 | 0, i,cp,s,r,hl,h=>by
   cases h
   exact ⟨[],by simp,rfl,rfl⟩
 | k + 1,i,cp,s,r,hl,h=>by
   simp only [setsF] at h
   split at h
   ·cases h
   rename_i c
   split at h
   ·cases h
   obtain ⟨j,hj,h1,h2,h3⟩:=opt_best (by simpa using c)
   obtain ⟨tl,e1,e2,e3⟩:=sets_ok k (i + 1) _ _ r (by simp [hl]) h
   refine ⟨[.i (ix (bestL (optA cs ls sets i)) 0)] :: tl,by rw [e1]; simp,by simp [e2],?_⟩
   have eg:ix (r.1.getD i []) 0 = j:=by
    rw [e1,List.getD_eq_getElem?_getD,List.getElem?_append_left (by simp [hl]),← List.getD_eq_getElem?_getD,getD_app hl]
    exact h2
   simp only [sumsFrom]
   rw [eg,if_pos (Lite.within_iff.2 (by omega)),Int.toNat_natCast,if_pos h1,← h3]
   exact e3
theorem sets_w {cs ls sets:List (List D)} {w:Int}:∀ (k i:Nat) (cp:List (List D)) (s:Int) (r:List (List D) × Int),s ≤ w → setsF cs ls sets true w i k cp s = some r → r.2 ≤ w
 | 0,i,cp,s,r,hs,h=>by cases h; exact hs
 | k + 1,i,cp,s,r,hs,h=>by
   simp only [setsF] at h
   split at h
   ·cases h
   split at h
   ·cases h
   rename_i c
   have c:¬ w < s + ix (bestL (optA cs ls sets i)) 1:=by simpa using c
   exact sets_w k (i + 1) _ _ r (by omega) h
def InvP (cs ls:List (List D)) (A:Int) (done:List (List D)) (p:Pl):Prop:=
 (p.fd = true → 0 ≤ p.w ∧ (p.cp.length:Int) ≤ A ∧ p.sets.length = ls.length ∧ countFrom p.sets 0 p.sets.length 0 = ((p.cp.length:Int),true) ∧ sumsFrom cs ls p.sets p.cp 0 p.cp.length 0 = (p.w,true)) ∧
 ∀ y ∈ done,∀ comps:List (List D),(comps.length:Int) = yN y → (sumsFrom cs ls (ySets y) comps 0 comps.length 0).2 = true → p.fd = true ∧ p.w ≤ (sumsFrom cs ls (ySets y) comps 0 comps.length 0).1
def okY (ls:List (List D)) (A:Int) (y:List D):Prop:=0 ≤ yN y ∧ yN y ≤ A ∧ (ySets y).length = ls.length ∧ countFrom (ySets y) 0 (ySets y).length 0 = (yN y,true)
theorem step_inv {cs ls:List (List D)} {A:Int} (ht:TaskP cs ls) {done:List (List D)} {p:Pl} {y:List D} (hy:okY ls A y) (h:InvP cs ls A done p):InvP cs ls A (y :: done) (stepT cs ls p (ySets y) (yN y)):=by
 obtain ⟨h1,h2⟩:=h
 obtain ⟨y0,y1,y2,y3⟩:=hy
 unfold stepT
 have hle:=fun (comps:List (List D)) (hc:(comps.length:Int) = yN y) (hs:(sumsFrom cs ls (ySets y) comps 0 comps.length 0).2 = true)=>sets_le (fd:=p.fd) (w:=p.w) (cp:=[]) (s:=0) ht comps.length 0 0 (Int.le_refl _) hs
 have hn:∀ comps:List (List D),(comps.length:Int) = yN y → comps.length = (yN y).toNat:=fun c e=>by omega
 cases hq:setsF cs ls (ySets y) p.fd p.w 0 (yN y).toNat [] 0 with
 | none=>
   refine ⟨h1,fun z hz comps hc hs=>?_⟩
   rw [List.mem_cons] at hz
   rcases hz with rfl | hz
   ·have:=hle comps hc hs
    rw [hn comps hc,hq] at this
    rw [hn comps hc]
    have h7:p.fd = true ∧ p.w < (sumsFrom cs ls (ySets z) comps 0 (yN z).toNat 0).1:=this
    exact ⟨h7.1,Int.le_of_lt h7.2⟩
   ·exact h2 z hz comps hc hs
 | some r=>
   obtain ⟨tl,e1,e2,e3⟩:=sets_ok _ 0 [] 0 r rfl hq
   rw [List.nil_append] at e1
   have el:r.1.length = (yN y).toNat:=by rw [e1,e2]
   have hr:∀ comps:List (List D),(comps.length:Int) = yN y → (sumsFrom cs ls (ySets y) comps 0 comps.length 0).2 = true → r.2 ≤ (sumsFrom cs ls (ySets y) comps 0 comps.length 0).1:=fun comps hc hs=>by
    have:=hle comps hc hs
    rw [hn comps hc,hq] at this
    rw [hn comps hc]
    exact this
   have hr0:0 ≤ r.2:=by
    have:=sums_ge ht (sets:=ySets y) (comps:=r.1) (yN y).toNat 0 0 (by rw [e3])
    rw [e3] at this
    exact this
   by_cases c:(!p.fd || decide (r.2 < p.w) || decide (yN y < p.cp.length)) = true
   ·simp only [c,if_true]
    refine ⟨fun _=>⟨hr0,by show (r.1.length:Int) ≤ A; omega,y2,by show countFrom (ySets y) 0 (ySets y).length 0 = _; rw [y3,el,Int.toNat_of_nonneg y0],by show sumsFrom cs ls (ySets y) r.1 0 r.1.length 0 = _; rw [el]; exact e3⟩,fun z hz comps hc hs=>⟨rfl,?_⟩⟩
    show r.2 ≤ _
    rw [List.mem_cons] at hz
    rcases hz with rfl | hz
    ·exact hr comps hc hs
    ·obtain ⟨k1,k2⟩:=h2 z hz comps hc hs
     have hw:=(h1 k1).1
     rw [k1] at hq
     have:=sets_w _ _ _ _ _ hw hq
     omega
   ·have c':(!p.fd || decide (r.2 < p.w) || decide (yN y < p.cp.length)) = false:=by simpa using c
    simp only [c',Bool.false_eq_true,if_false]
    rw [Bool.or_eq_false_iff,Bool.or_eq_false_iff,decide_eq_false_iff_not] at c'
    refine ⟨h1,fun z hz comps hc hs=>?_⟩
    rw [List.mem_cons] at hz
    rcases hz with rfl | hz
    ·have:=hr comps hc hs
     exact ⟨by simpa using c'.1.1,by omega⟩
    ·exact h2 z hz comps hc hs
theorem fold_inv {cs ls:List (List D)} {A:Int} (ht:TaskP cs ls):∀ (l done:List (List D)) (p:Pl),(∀ y ∈ l,okY ls A y) → InvP cs ls A done p → ∃ d',(∀ y,y ∈ d' ↔ y ∈ l ∨ y ∈ done) ∧ InvP cs ls A d' (foldT cs ls l p)
 | [],done,p,_,h=>⟨done,fun y=>by simp,h⟩
 | y :: l,done,p,hl,h=>by
   obtain ⟨d',h1,h2⟩:=fold_inv ht l (y :: done) _ (fun z hz=>hl z (List.mem_cons_of_mem _ hz)) (step_inv ht (hl y (List.mem_cons_self ..)) h)
   exact ⟨d',fun z=>by rw [h1,List.mem_cons,List.mem_cons]; grind,h2⟩
theorem ySets_E (cs:List (List D)) (n:Int):ySets (yE cs n) = cs ∧ yN (yE cs n) = n:=by
 unfold yE
 cases cs with
 | nil=>exact ⟨rfl,rfl⟩
 | cons c cs=>exact ⟨rfl,rfl⟩
theorem useW_mem {F:List (List D) → Int → List (List D)} {cs:List (List D)} {n:Int} {y:List D}:∀ (k x:Nat),y ∈ useW F cs n x k ↔ ∃ v:Nat,x ≤ v ∧ v < x + k ∧ y ∈ F (cs ++ [[.i v]]) (max n ((v:Int) + 1))
 | 0, x=>by
   simp only [useW,List.not_mem_nil,false_iff]
   rintro ⟨v,h1,h2,-⟩
   omega
 | k + 1,x=>by
   simp only [useW,List.mem_append,useW_mem k (x + 1)]
   constructor
   ·rintro (h | ⟨v,h1,h2,h3⟩)
    ·exact ⟨x,Nat.le_refl _,by omega,h⟩
    ·exact ⟨v,by omega,by omega,h3⟩
   ·rintro ⟨v,h1,h2,h3⟩
    by_cases e:v = x
    ·subst e; exact .inl h3
    ·exact .inr ⟨v,by omega,by omega,h3⟩
theorem use_sound {A:Int}:∀ (k:Nat) (cs:List (List D)) (n:Int) (y:List D),0 ≤ n → n ≤ A → y ∈ useF A k cs n → ∃ tl,ySets y = cs ++ tl ∧ tl.length = k ∧ (0 ≤ yN y ∧ yN y ≤ A) ∧ countFrom (ySets y) cs.length k n = (yN y,true)
 | 0, cs,n,y,h0,h1,h=>by
   simp only [useF,List.mem_singleton] at h
   subst h
   obtain ⟨e1,e2⟩:=ySets_E cs n
   rw [e2,e1]
   exact ⟨[],by simp,rfl,⟨h0,h1⟩,rfl⟩
 | k + 1,cs,n,y,h0,h1,h=>by
   simp only [useF] at h
   rw [useW_mem] at h
   obtain ⟨v,-,hv,h⟩:=h
   obtain ⟨tl,e1,e2,e3,e4⟩:=use_sound k _ _ y (by omega) (by omega) h
   refine ⟨[.i v] :: tl,by rw [e1]; simp,by simp [e2],e3,?_⟩
   have eg:ix ((ySets y).getD cs.length []) 0 = v:=by
    rw [e1,List.getD_eq_getElem?_getD,List.getElem?_append_left (by simp),← List.getD_eq_getElem?_getD,getD_app rfl]
    rfl
   simp only [countFrom]
   rw [eg,if_pos (Lite.within_iff.2 (by omega))]
   rw [List.length_append,List.length_singleton] at e4
   exact e4
theorem count_ge {sets:List (List D)}:∀ (k i:Nat) (n:Int),(countFrom sets i k n).2 = true → n ≤ (countFrom sets i k n).1
 | k,i,n,h=>(count_lt k i n h).1
theorem use_all {A:Int} {sets:List (List D)} {m:Int} (hm:m ≤ A):∀ (k i:Nat) (cs:List (List D)) (n:Int),countFrom sets i k n = (m,true) → ∃ y ∈ useF A k cs n,∃ tl,ySets y = cs ++ tl ∧ tl.length = k ∧ yN y = m ∧ ∀ j,j < k → ix (tl.getD j []) 0 = ix (sets.getD (i + j) []) 0
 | 0, i,cs,n,h=>by
   obtain rfl:n = m:=congrArg Prod.fst h
   obtain ⟨e1,e2⟩:=ySets_E cs n
   exact ⟨yE cs n,by simp [useF],[],by rw [e1]; simp,rfl,e2,fun j hj=>by omega⟩
 | k + 1, i,cs,n,h=>by
   simp only [countFrom] at h
   split at h
   ·rename_i c
    have c:=Lite.within_iff.1 c
    have hg:=count_ge k (i + 1) _ (by rw [h])
    rw [h] at hg
    simp only at hg
    obtain ⟨v,hv⟩:∃ v:Nat,ix (sets.getD i []) 0 = v:=⟨(ix (sets.getD i []) 0).toNat,by omega⟩
    rw [hv] at h c hg
    obtain ⟨y,hy,tl,e1,e2,e3,e4⟩:=use_all hm k (i + 1) (cs ++ [[.i v]]) _ h
    refine ⟨y,?_,[.i v] :: tl,by rw [e1]; simp,by simp [e2],e3,fun j hj=>?_⟩
    ·simp only [useF]
     rw [useW_mem]
     exact ⟨v,Nat.zero_le _,by omega,hy⟩
    ·cases j with
     | zero=>show ix [D.i v] 0 = _; rw [Nat.add_zero,hv]; rfl
     | succ j=>
       have:=e4 j (by omega)
       rw [show i + (j + 1) = i + 1 + j by omega,← this]
       rfl
   ·cases h
theorem poss_iff {cs ls sets comps:List (List D)} {A:Int}:(possC cs ls sets comps A).2 = true ↔ taskOk cs ls A = true ∧ (comps.length:Int) ≤ A ∧ sets.length = ls.length ∧ countFrom sets 0 sets.length 0 = ((comps.length:Int),true) ∧ (sumsFrom cs ls sets comps 0 comps.length 0).2 = true ∧ possC cs ls sets comps A = sumsFrom cs ls sets comps 0 comps.length 0:=by
 unfold possC
 constructor
 ·intro h
  split at h
  ·rename_i c
   rw [if_pos c]
   simp only [Bool.and_eq_true,decide_eq_true_iff] at c
   exact ⟨c.1.1.1.1,c.1.1.1.2,c.1.1.2,Prod.ext c.2 c.1.2,h,rfl⟩
  ·cases h
 ·rintro ⟨h1,h2,h3,h4,h5,-⟩
  rw [if_pos (by rw [h1,h4,decide_eq_true h2,decide_eq_true h3]; simp)]
  exact h5
theorem tyre_inv {cs ls:List (List D)} {A:Int} (ht:taskOk cs ls A = true):∃ d',(∀ y,y ∈ d' ↔ y ∈ useF A ls.length [] 0) ∧ InvP cs ls A d' (tyreF cs ls A):=by
 have hA:1 ≤ A:=by
  simp only [taskOk,Bool.and_eq_true,Lite.within_iff] at ht
  omega
 obtain ⟨d',h1,h2⟩:=fold_inv ⟨A,ht⟩ (useF A ls.length [] 0) [] ⟨false,[],[],0⟩ (fun y hy=>by
  obtain ⟨tl,e1,e2,e3,e4⟩:=use_sound ls.length [] 0 y (Int.le_refl _) (by omega) hy
  rw [List.nil_append] at e1
  have el:(ySets y).length = ls.length:=by rw [e1,e2]
  exact ⟨e3.1,e3.2,el,by rw [el]; exact e4⟩) ⟨fun h=>(by cases h),fun y hy=>(by cases hy)⟩
 exact ⟨d',fun y=>by rw [h1]; simp,h2⟩
theorem tyre_poss {cs ls:List (List D)} {A:Int} (ht:taskOk cs ls A = true) (hf:(tyreF cs ls A).fd = true):possC cs ls (tyreF cs ls A).sets (tyreF cs ls A).cp A = ((tyreF cs ls A).w,true):=by
 obtain ⟨d',-,h,-⟩:=tyre_inv ht
 obtain ⟨-,h2,h3,h4,h5⟩:=h hf
 have:=poss_iff.1 (poss_iff.2 ⟨ht,h2,h3,h4,by rw [h5],by unfold possC; rw [if_pos (by rw [ht,h4,decide_eq_true h2,decide_eq_true h3]; simp)]⟩)
 rw [this.2.2.2.2.2,h5]
set_option maxRecDepth 100000
set_option linter.unusedSimpArgs false
theorem sets_step {cs ls sets:List (List D)} {fd:Bool} {w s n:Int} {X:Nat} {cp:List (List D)} (h:(X:Int) < n):setsF cs ls sets fd w X (n - (X:Int)).toNat cp s = if (optA cs ls sets X).isEmpty then none else
      if fd && decide (w < s + ix (bestL (optA cs ls sets X)) 1) then none else
       setsF cs ls sets fd w (X + 1) (n - ((X + 1:Nat):Int)).toNat (cp ++ [[.i (ix (bestL (optA cs ls sets X)) 0)]]) (s + ix (bestL (optA cs ls sets X)) 1):=by
 rw [show (n - (X:Int)).toNat = (n - ((X + 1:Nat):Int)).toNat + 1 by omega]
 rfl
theorem sets_end {cs ls sets:List (List D)} {fd:Bool} {w s n:Int} {X:Nat} {cp:List (List D)} (h:¬ (X:Int) < n):setsF cs ls sets fd w X (n - (X:Int)).toNat cp s = some (cp,s):=by
 rw [show (n - (X:Int)).toNat = 0 by omega]
 rfl
theorem opt_rng {cs ls sets:List (List D)} {set:Int} (ht:TaskP cs ls) (h:(optA cs ls sets set).isEmpty = false):0 ≤ ix (bestL (optA cs ls sets set)) 1 ∧ ix (bestL (optA cs ls sets set)) 1 ≤ 24000000:=by
 obtain ⟨j,hj,-,-,e⟩:=opt_best h
 rw [e]
 exact used_nn ht hj
theorem optF_len {cs ls sets:List (List D)} {set:Int}:∀ k i,(optF cs ls sets set i k).length ≤ k
 | 0,_=>Nat.le_refl _
 | k + 1,i=>by
   have:=optF_len (cs:=cs) (ls:=ls) (sets:=sets) (set:=set) k (i + 1)
   simp only [optF]
   split
   ·simp only [List.length_cons]; omega
   ·omega
theorem iteS {α:Type} {r:Option (List (List D) × Int)} {P Q E:T α} {x:α} (hne:∀ y,r = some y → y.1.isEmpty = false) (h:(T.ite r.isSome (T.ite (resF r).1.isEmpty P Q) E).run = some x):(T.ite r.isSome Q E).run = some x:=by
 cases r with
 | none=>exact h
 | some y=>
   have e:(resF (some y)).1.isEmpty = false:=hne y rfl
   rw [e] at h
   exact h
def μ10 (ds:List D):Nat:=match ds with
 | [_,_,_,_,b,x,_,_,_,_,_,_,_,_,_,_]=>(b.I - x.I).toNat
 | [_,_,_,_,b,x,_,_,_,_,_,_,_,_,_,_,_,_]=>(b.I - x.I).toNat
 | _=>0
set_option maxHeartbeats 2000000 in
theorem ok21_10 (n:Nat) (hA:AllOK C n sp21):LoopSimK C n 6 21 (loopOf C.P 21 10) (mkLK 6 l21_10 G21_10):=by
 refine loop_ofR hC (sp:=sp21) (lp:=lp21) (sw:=sw21) (rg:=rg21) hA trivial 6 [14] [] (by kernel_rfl) (by kernel_rfl) (by kernel_rfl) rfl (fun k hk L hL=>by simp at hk; subst hk; cases hL; exact ok21_14 n hA) (fun k hk=>by cases hk) (by kernel_rfl) μ10 fun ds rr h=>?_
 unfold G21_10 at h
 split at h
 ·rename_i y e s n' b x cs ls rv bs bc bw fd sets s2 pw
  unfold G21_10_0 at h
  obtain ⟨hp,h⟩:=need_some h
  rw [yes_iff] at hp
  obtain ⟨hy,hP,hL,hx0⟩:=hp
  obtain ⟨hT,⟨hs,hs2,hl⟩,hn0,hn8⟩:=id hP
  obtain ⟨hb,⟨x0,x1⟩,hcl,w0,w1⟩:=hL
  obtain ⟨⟨kn0,kn8⟩,kl8,kc⟩:=task_of hT
  refine ⟨by rw [fuelC]; show (b.I - x.I).toNat < _; omega,?_⟩
  rw [roundTK_head (j:=y) (n:=0) hy (by decide)]
  refine rd_runY (t21_10_0 e s n' b x cs ls rv bs bc bw fd sets s2 pw) ?_
  obtain ⟨X,hX⟩:∃ X:Nat,x.I = X:=⟨x.I.toNat,by omega⟩
  have et:∀ l:List (List D),l.take l.length = l:=fun l=>List.take_length
  have eA:optI cs.L ls.L sets.L (X:Int) 0 = optA cs.L ls.L sets.L (X:Int):=rfl
  simp only [hX,hs,hs2,et,Int.toNat_natCast,eA,b3y] at h x0 x1 hcl w1 ⊢
  rw [hb]
  refine rd_if (fun hlt=>?_) fun hge=>?_
  ·rw [sets_step hlt] at h
   have hS':setP n'.I (X:Int) n'.I pw.I (X:Int) 0 (cs.L.length:Int) cs.L cs.L []:=⟨⟨rfl,⟨x0,x1⟩,hcl,w0,w1⟩,rfl,hlt,rfl,rfl,by omega,by omega⟩
   have hP':planP cs.L ls.L sets.L (sets.L.length:Int) (sets.L.length:Int) n'.I:=⟨hT,⟨rfl,rfl,hl⟩,hn0,hn8⟩
   refine rd_yes ⟨by trivial,hP',hS',by omega⟩ (rd_ite (fun c1=>?_) fun c1=>?_)
   ·rw [if_pos c1] at h
    exact rd_true rfl (rd_out h)
   ·rw [if_neg (by rw [c1]; decide)] at h
    have hr:=opt_rng hT c1
    have hlen:=optF_len (cs:=cs.L) (ls:=ls.L) (sets:=sets.L) (set:=(X:Int)) cs.L.length 0
    have hlA:(optA cs.L ls.L sets.L (X:Int)).length ≤ cs.L.length:=hlen
    have hpos:0 < (optA cs.L ls.L sets.L (X:Int)).length:=by
     cases hq:optA cs.L ls.L sets.L (X:Int) with
     | nil=>rw [hq] at c1; cases c1
     | cons _ _=>simp
    generalize hbb:bestL (optA cs.L ls.L sets.L (X:Int)) = bb at h hr ⊢
    have hw:IntKind.i64.wrap (pw.I + ix bb 1) = pw.I + ix bb 1:=wrap_id (by omega) (by omega)
    rw [hw,wrap_succ (by omega)]
    have hmu:(n'.I - ((X + 1:Nat):Int)).toNat < (b.I - x.I).toNat:=by omega
    have fin:(fd.B && decide (bw.I < pw.I + ix bb 1)) = false → (G21_10 [.i 1,.i e.I,.i (sets.L.length:Int),.i n'.I,.i n'.I,.i ((X + 1:Nat):Int),.l cs.L,.l ls.L,.i rv.I,.l bs.L,.l bc.L,.i bw.I,.b fd.B,.l sets.L,.i (sets.L.length:Int),.i 1,.i (pw.I + ix bb 1),.l [[.i (ix bb 0)]]]).run = some rr:=fun hc1=>by
     rw [if_neg (by rw [hc1]; decide)] at h
     refine (need_yes ⟨rfl,hP',⟨rfl,⟨by simp only [I_i]; omega,by simp only [I_i]; omega⟩,by simp only [I_i,L_l,List.length_append,List.length_cons,List.length_nil]; omega,by simp only [I_i]; omega,by simp only [I_i]; omega⟩,by simp only [I_i,L_l,List.length_append,List.length_cons,List.length_nil]; try omega,by simp only [I_i]; omega⟩).trans ?_
     simp only [I_i,L_l,B_b,Int.toNat_natCast]
     exact iteS (fun y hy=>by
      obtain ⟨tl,e1,-,-⟩:=sets_ok _ (X + 1) _ _ _ (by simp; omega) hy
      rw [e1]; rfl) h
    refine rd_false (by rw [beq_eq_false_iff_ne]; omega) (rd_dec (by omega) (rd_yes ⟨hpos,by omega⟩ (rd_need rfl (rd_false rfl (rd_need rfl (rd_ite (fun c2=>rd_if (fun c3=>?_) fun c3=>rd_again (fin ?_) hmu) fun c2=>rd_again (fin ?_) hmu))))))
    ·rw [if_pos (by rw [c2,decide_eq_true (by omega)]; rfl)] at h
     exact rd_out h
    ·rw [c2,decide_eq_false (by omega)]; rfl
    ·rw [c2]; rfl
  ·rw [sets_end hge] at h
   exact rd_out h
 ·rename_i y e s n' b x cs ls rv bs bc bw fd sets s2 c pw comps
  unfold G21_10_1 at h
  obtain ⟨hp,h⟩:=need_some h
  rw [yes_iff] at hp
  obtain ⟨hy,hP,hL,hc,hc0⟩:=hp
  obtain ⟨hT,⟨hs,hs2,hl⟩,hn0,hn8⟩:=id hP
  obtain ⟨hb,⟨x0,x1⟩,hcl,w0,w1⟩:=hL
  obtain ⟨⟨kn0,kn8⟩,kl8,kc⟩:=task_of hT
  refine ⟨by rw [fuelC]; show (b.I - x.I).toNat < _; omega,?_⟩
  rw [roundTK_head (j:=y) (n:=1) hy (by decide)]
  refine rd_runY (t21_10_1 e s n' b x cs ls rv bs bc bw fd sets s2 c pw comps) ?_
  obtain ⟨X,hX⟩:∃ X:Nat,x.I = X:=⟨x.I.toNat,by omega⟩
  have et:∀ l:List (List D),l.take l.length = l:=fun l=>List.take_length
  have eA:optI cs.L ls.L sets.L (X:Int) 0 = optA cs.L ls.L sets.L (X:Int):=rfl
  simp only [hX,hs,hs2,et,hc,Int.toNat_natCast,eA,b3y] at h x0 x1 hcl w1 ⊢
  rw [hb]
  refine rd_if (fun hlt=>?_) fun hge=>?_
  ·rw [sets_step hlt] at h
   have hS':setP n'.I (X:Int) n'.I pw.I (X:Int) 0 (cs.L.length:Int) cs.L cs.L comps.L:=⟨⟨rfl,⟨x0,x1⟩,hcl,w0,w1⟩,rfl,hlt,rfl,rfl,by omega,by omega⟩
   have hP':planP cs.L ls.L sets.L (sets.L.length:Int) (sets.L.length:Int) n'.I:=⟨hT,⟨rfl,rfl,hl⟩,hn0,hn8⟩
   refine rd_yes ⟨by trivial,hP',hS',by trivial,by omega⟩ (rd_ite (fun c1=>?_) fun c1=>?_)
   ·rw [if_pos c1] at h
    exact rd_true rfl (rd_out h)
   ·rw [if_neg (by rw [c1]; decide)] at h
    have hr:=opt_rng hT c1
    have hlen:=optF_len (cs:=cs.L) (ls:=ls.L) (sets:=sets.L) (set:=(X:Int)) cs.L.length 0
    have hlA:(optA cs.L ls.L sets.L (X:Int)).length ≤ cs.L.length:=hlen
    have hpos:0 < (optA cs.L ls.L sets.L (X:Int)).length:=by
     cases hq:optA cs.L ls.L sets.L (X:Int) with
     | nil=>rw [hq] at c1; cases c1
     | cons _ _=>simp
    generalize hbb:bestL (optA cs.L ls.L sets.L (X:Int)) = bb at h hr ⊢
    have hw:IntKind.i64.wrap (pw.I + ix bb 1) = pw.I + ix bb 1:=wrap_id (by omega) (by omega)
    rw [hw,wrap_succ (by omega)]
    have hmu:(n'.I - ((X + 1:Nat):Int)).toNat < (b.I - x.I).toNat:=by omega
    have fin:(fd.B && decide (bw.I < pw.I + ix bb 1)) = false → (G21_10 [.i 1,.i e.I,.i (sets.L.length:Int),.i n'.I,.i n'.I,.i ((X + 1:Nat):Int),.l cs.L,.l ls.L,.i rv.I,.l bs.L,.l bc.L,.i bw.I,.b fd.B,.l sets.L,.i (sets.L.length:Int),.i ((comps.L.length + 1:Nat):Int),.i (pw.I + ix bb 1),.l (comps.L ++ [[.i (ix bb 0)]])]).run = some rr:=fun hc1=>by
     rw [if_neg (by rw [hc1]; decide)] at h
     refine (need_yes ⟨rfl,hP',⟨rfl,⟨by simp only [I_i]; omega,by simp only [I_i]; omega⟩,by simp only [I_i,L_l,List.length_append,List.length_cons,List.length_nil]; omega,by simp only [I_i]; omega,by simp only [I_i]; omega⟩,by simp only [I_i,L_l,List.length_append,List.length_cons,List.length_nil]; try omega,by simp only [I_i]; omega⟩).trans ?_
     simp only [I_i,L_l,B_b,Int.toNat_natCast]
     exact h
    refine rd_false (by rw [beq_eq_false_iff_ne]; omega) (rd_dec (by omega) (rd_yes ⟨hpos,by omega⟩ (rd_need rfl (rd_false rfl (rd_dec (by omega) (rd_ite (fun c2=>rd_if (fun c3=>?_) fun c3=>rd_again (fin ?_) hmu) fun c2=>rd_again (fin ?_) hmu))))))
    ·rw [if_pos (by rw [c2,decide_eq_true (by omega)]; rfl)] at h
     exact rd_out h
    ·rw [c2,decide_eq_false (by omega)]; rfl
    ·rw [c2]; rfl
  ·rw [sets_end hge] at h
   exact rd_out h
 ·cases h
theorem ok21_10n (n:Nat) (hA:AllOK C n sp21):LoopSimK C n 5 21 (loopOf C.P 21 10) (mkLK 5 l21_10n G21_10n):=by
 refine loop_ofR hC (sp:=sp21) (lp:=lp21n) (sw:=sw21) (rg:=rg21) hA trivial 5 [14] [] (by kernel_rfl) (by kernel_rfl) (by kernel_rfl) rfl (fun k hk L hL=>by simp at hk; subst hk; cases hL) (fun k hk=>by cases hk) (by kernel_rfl) (fun _=>0) fun ds rr h=>?_
 unfold G21_10n at h
 split at h
 ·rename_i e n' b x cs ls rv bs bc bw fd pw
  obtain ⟨hp,h⟩:=need_some h
  rw [yes_iff] at hp
  refine ⟨by rw [fuelC]; omega,?_⟩
  exact rd_runY (ds:=[e,n',b,x,cs,ls,rv,bs,bc,bw,fd,pw]) (t21_10n e n' b x cs ls rv bs bc bw fd pw) (rd_neg (by omega) (rd_out h))
 ·cases h
set_option maxRecDepth 100000
noncomputable def tabOf21 (el:List D):Tab:=match (el.headD default).I == 0 with
 | true=>tab21n
 | false=>tab21
theorem h21_len (ds:List D):(headA h21_8 ds).h.length = 5:=rfl
noncomputable def R21 (ds el:List D):Option (Rd × List D):=(roundRT C (tabOf21 el) 21 (rangeOf C.P 21 8) 0 ((headA h21_8 ds).h.length + (y84.head el).2.length) [3,4,6,7,8,9,29] h21_8 y84 ds el).run
theorem yE_cons {S:List (List D)} {N:Int} (h:S ≠ []):yE S N = [.i 1,.i S.length,.i N,.l S]:=by
 unfold yE
 rw [List.isEmpty_eq_false_iff.2 h]
 rfl
theorem ite_c {α:Type} {c c':Bool} {a a' b b':T α} (hc:c = c') (ha:a.run = a'.run) (hb:b.run = b'.run):(T.ite c a b).run = (T.ite c' a' b').run:=by
 subst hc
 rw [run_ite,run_ite,ha,hb]
theorem need_c {α:Type} {c:Bool} {a:T α} {x:Option α} (hc:c = true) (ha:a.run = x):(T.need c a).run = x:=by
 subst hc
 exact ha
theorem resF_some (r:List (List D) × Int):resF (some r) = r:=rfl
set_option maxHeartbeats 2000000 in
theorem fold21 (L:List (List D)):∀ (ds:List D) (rr:Ex × List D),(G21_8 L ds).run = some rr → FoldR R21 y84.give (fun a b=>headA h21_8 a = headA h21_8 b) ds L rr.1 rr.2:=by
 induction L with
 | nil=>
   intro ds rr h
   unfold G21_8 at h
   split at h
   ·rename_i e cs ls rv bs bc bw fd
    obtain ⟨-,h⟩:=need_some h
    cases h
    exact .nil rfl
   ·cases h
 | cons y L ih=>
   intro ds rr h
   unfold G21_8 at h
   split at h
   ·rename_i e cs ls rv bs bc bw fd
    obtain ⟨hp,h⟩:=need_some h
    rw [yes_iff] at hp
    obtain ⟨hT,hY,hb1,hb2⟩:=hp
    obtain ⟨⟨kn0,kn8⟩,kl8,-⟩:=task_of hT
    obtain ⟨y1,⟨y2,y3⟩,y4,y5⟩:=hY y (List.mem_cons_self ..)
    have hY':∀ z ∈ L,okYd ls.L z:=fun z hz=>hY z (List.mem_cons_of_mem _ hz)
    have hf:foldT cs.L ls.L (y :: L) (plOf bs bc bw fd) = foldT cs.L ls.L L (stepT cs.L ls.L (plOf bs bc bw fd) (ySets y) (yN y)):=rfl
    rw [hf] at h
    have keep:stepT cs.L ls.L (plOf bs bc bw fd) (ySets y) (yN y) = plOf bs bc bw fd → (G21_8 L [.i e.I,.l cs.L,.l ls.L,.i rv.I,.l bs.L,.l bc.L,.i bw.I,.b fd.B]).run = some rr:=fun hs=>by
     rw [hs] at h
     exact (need_yes ⟨hT,hY',hb1,hb2⟩).trans h
    have store:∀ r:List (List D) × Int,r.1.length ≤ 8 → stepT cs.L ls.L (plOf bs bc bw fd) (ySets y) (yN y) = ⟨true,ySets y,r.1,r.2⟩ → (G21_8 L [.i e.I,.l cs.L,.l ls.L,.i rv.I,.l (ySets y),.l r.1,.i r.2,.b true]).run = some rr:=fun r hr hs=>by
     rw [hs] at h
     exact (need_yes ⟨hT,hY',by simp only [L_l]; exact hr,by simp only [L_l]; omega⟩).trans h
    have key : ∃ ds',R21 [e,cs,ls,rv,bs,bc,bw,fd] y = some (.again ds',[]) ∧ (G21_8 L ds').run = some rr:=by
     generalize hcc:(!fd.B || decide ((setsF cs.L ls.L (ySets y) fd.B bw.I 0 (yN y).toNat [] 0 |> resF).2 < bw.I) || decide (yN y < bc.L.length)) = cc
     cases hq:setsF cs.L ls.L (ySets y) fd.B bw.I 0 (yN y).toNat [] 0 with
     | none=>
       have hs:stepT cs.L ls.L (plOf bs bc bw fd) (ySets y) (yN y) = plOf bs bc bw fd:=by
        unfold stepT
        rw [show setsF cs.L ls.L (ySets y) (plOf bs bc bw fd).fd (plOf bs bc bw fd).w 0 (yN y).toNat [] 0 = none from hq]
       refine ⟨_,?_,keep hs⟩
       have hne:ySets y ≠ []:=fun e0=>by
        rw [y5 e0] at hq
        cases hq
       have hpos:0 < (ySets y).length:=List.length_pos_iff.2 hne
       have ey:y = [.i 1,.i (ySets y).length,.i (yN y),.l (ySets y)]:=y4.trans (yE_cons hne)
       rw [ey]
       refine (t21_r e cs ls rv bs bc bw fd _ _ _).trans (go_yes ⟨by trivial,⟨hT,⟨by simp only [I_i,L_l,Int.toNat_natCast],by simp only [I_i,L_l,Int.toNat_natCast],y1⟩,y2,y3⟩,⟨rfl,⟨by omega,y2⟩,rfl,by omega,by omega⟩,by trivial⟩ ?_)
       have e0:setsF cs.L ls.L (D.l (ySets y)).L fd.B bw.I (Int.toNat 0) (Int.toNat ((D.i (yN y)).I - 0)) [] 0 = none:=by
        rw [show Int.toNat ((D.i (yN y)).I - 0) = (yN y).toNat by rw [Int.sub_zero]; rfl]
        exact hq
       rw [e0]
       rfl
     | some r =>
       obtain ⟨tl,r1,r2,-⟩:=sets_ok _ 0 [] 0 r rfl hq
       rw [List.nil_append] at r1
       have hr8:r.1.length ≤ 8:=by rw [r1,r2]; omega
       rw [hq] at hcc
       have hcc:(!fd.B || decide (r.2 < bw.I) || decide (yN y < bc.L.length)) = cc:=hcc
       have hst:stepT cs.L ls.L (plOf bs bc bw fd) (ySets y) (yN y) = if cc then ⟨true,ySets y,r.1,r.2⟩ else plOf bs bc bw fd:=by
        unfold stepT
        rw [show setsF cs.L ls.L (ySets y) (plOf bs bc bw fd).fd (plOf bs bc bw fd).w 0 (yN y).toNat [] 0 = some r from hq,← hcc]
        rfl
       by_cases e0:ySets y = []
       ·have en:=y5 e0
        have er:r = ([],0):=by rw [en] at hq; cases hq; rfl
        have ey:y = [.i 0,.i 0]:=by rw [y4,e0,en]; rfl
        have hR:∀ o,(roundRT C tab21n 21 (rangeOf C.P 21 8) 0 5 [3,4,6,7,8,9,29] h21_8 y84 [e,cs,ls,rv,bs,bc,bw,fd] [.i 0,.i 0]).run = o → R21 [e,cs,ls,rv,bs,bc,bw,fd] y = o:=fun o ho=>by rw [ey]; exact ho
        subst er
        cases hcv:cc with
        | true=>
          rw [hcv] at hst hcc
          refine ⟨_,?_,store ([],0) (by simp) hst⟩
          rw [e0]
          refine hR _ ((t21_rn e cs ls rv bs bc bw fd (.i 0)).trans (go_yes (Int.le_refl _) (go_ite (fun _=>rfl) fun c1=>go_if (fun _=>rfl) fun c2=>go_if (fun _=>rfl) fun c3=>?_)))
          exfalso
          rw [c1,decide_eq_false c2,Bool.false_or,Bool.false_or,decide_eq_true_iff,en] at hcc
          exact c3 hcc
        | false=>
          rw [hcv] at hst hcc
          refine ⟨_,?_,keep hst⟩
          rw [Bool.or_eq_false_iff,Bool.or_eq_false_iff,decide_eq_false_iff_not,decide_eq_false_iff_not,en] at hcc
          exact hR _ ((t21_rn e cs ls rv bs bc bw fd (.i 0)).trans (go_yes (Int.le_refl _) (go_false hcc.1.1 (go_neg hcc.1.2 (go_neg hcc.2 rfl)))))
       ·have hne:=e0
        have hpos:0 < (ySets y).length:=List.length_pos_iff.2 hne
        have ey:y = [.i 1,.i (ySets y).length,.i (yN y),.l (ySets y)]:=y4.trans (yE_cons hne)
        have es:setsF cs.L ls.L (D.l (ySets y)).L fd.B bw.I (Int.toNat 0) (Int.toNat ((D.i (yN y)).I - 0)) [] 0 = some r:=by
         rw [show Int.toNat ((D.i (yN y)).I - 0) = (yN y).toNat by rw [Int.sub_zero]; rfl]
         exact hq
        have et:∀ l:List (List D),l.take l.length = l:=fun l=>List.take_length
        have hR:∀ ds',T.run (T.ite (resF (some r)).1.isEmpty
            (T.ite (!fd.B) (T.leaf (Rd.again [.i e.I,.l cs.L,.l ls.L,.i rv.I,.l (ySets y),.l [],.i r.2,.b true],([]:List D))) (T.ite (decide (r.2 < bw.I)) (T.leaf (Rd.again [.i e.I,.l cs.L,.l ls.L,.i rv.I,.l (ySets y),.l [],.i r.2,.b true],[])) (T.ite (decide (yN y < bc.L.length)) (T.leaf (Rd.again [.i e.I,.l cs.L,.l ls.L,.i rv.I,.l (ySets y),.l [],.i r.2,.b true],[])) (T.leaf (Rd.again [.i e.I,.l cs.L,.l ls.L,.i rv.I,.l bs.L,.l bc.L,.i bw.I,.b fd.B],[])))))
            (T.ite (!fd.B) (T.leaf (Rd.again [.i e.I,.l cs.L,.l ls.L,.i rv.I,.l (ySets y),.l r.1,.i r.2,.b true],[])) (T.ite (decide (r.2 < bw.I)) (T.leaf (Rd.again [.i e.I,.l cs.L,.l ls.L,.i rv.I,.l (ySets y),.l r.1,.i r.2,.b true],[])) (T.ite (decide (yN y < bc.L.length)) (T.leaf (Rd.again [.i e.I,.l cs.L,.l ls.L,.i rv.I,.l (ySets y),.l r.1,.i r.2,.b true],[])) (T.leaf (Rd.again [.i e.I,.l cs.L,.l ls.L,.i rv.I,.l bs.L,.l bc.L,.i bw.I,.b fd.B],[]))))))
            = some (.again ds',[]) → R21 [e,cs,ls,rv,bs,bc,bw,fd] y = some (.again ds',[]):=fun ds' ho=>by
         rw [ey]
         refine (t21_r e cs ls rv bs bc bw fd _ _ _).trans (go_yes ⟨by trivial,⟨hT,⟨by simp only [I_i,L_l,Int.toNat_natCast],by simp only [I_i,L_l,Int.toNat_natCast],y1⟩,y2,y3⟩,⟨rfl,⟨by omega,y2⟩,rfl,by omega,by omega⟩,by trivial⟩ ?_)
         rw [es]
         refine Eq.trans ?_ ho
         rw [run_ite,if_pos (show (some r).isSome = true from rfl)]
         have d1:decide (Int.toNat (↑(Int.toNat (D.i ((ySets y).length:Int)).I):Int) ≤ (D.l (ySets y)).L.length) = true:=decide_eq_true (by simp only [I_i,L_l,Int.toNat_natCast]; exact Nat.le_refl _)
         have d2:decide (Int.toNat (↑((resF (some r)).1.length):Int) ≤ (resF (some r)).1.length) = true:=decide_eq_true (by simp only [Int.toNat_natCast]; exact Nat.le_refl _)
         have s1:(T.leaf (Rd.again [.i e.I,.l cs.L,.l ls.L,.i rv.I,.l (List.take (Int.toNat (↑(Int.toNat (D.i ((ySets y).length:Int)).I):Int)) (D.l (ySets y)).L),.l [],.i (resF (some r)).2,.b true],([]:List D))).run = (T.leaf (Rd.again [.i e.I,.l cs.L,.l ls.L,.i rv.I,.l (ySets y),.l [],.i r.2,.b true],([]:List D))).run:=by
          simp only [I_i,L_l,Int.toNat_natCast,et,resF_some]
         have s2:(T.leaf (Rd.again [.i e.I,.l cs.L,.l ls.L,.i rv.I,.l (List.take (Int.toNat (↑(Int.toNat (D.i ((ySets y).length:Int)).I):Int)) (D.l (ySets y)).L),.l (List.take (Int.toNat (↑((resF (some r)).1.length):Int)) (resF (some r)).1),.i (resF (some r)).2,.b true],([]:List D))).run = (T.leaf (Rd.again [.i e.I,.l cs.L,.l ls.L,.i rv.I,.l (ySets y),.l r.1,.i r.2,.b true],([]:List D))).run:=by
          simp only [I_i,L_l,Int.toNat_natCast,et,resF_some]
         exact ite_c rfl (ite_c rfl (need_c d1 s1) (ite_c rfl (need_c d1 s1) (ite_c rfl (need_c d1 s1) rfl))) (ite_c rfl (need_c d1 (need_c d2 s2)) (ite_c rfl (need_c d1 (need_c d2 s2)) (ite_c rfl (need_c d1 (need_c d2 s2)) rfl)))
        cases hcv:cc with
        | true=>
          rw [hcv] at hst hcc
          refine ⟨_,hR _ (go_ite (fun ce=>?_) fun ce=>?_),store r hr8 hst⟩
          ·have ce:r.1 = []:=List.isEmpty_iff.1 ce
           rw [ce]
           refine go_ite (fun _=>rfl) fun c1=>go_if (fun _=>rfl) fun c2=>go_if (fun _=>rfl) fun c3=>?_
           exfalso
           rw [c1,decide_eq_false c2,Bool.false_or,Bool.false_or,decide_eq_true_iff] at hcc
           exact c3 hcc
          ·refine go_ite (fun _=>rfl) fun c1=>go_if (fun _=>rfl) fun c2=>go_if (fun _=>rfl) fun c3=>?_
           exfalso
           rw [c1,decide_eq_false c2,Bool.false_or,Bool.false_or,decide_eq_true_iff] at hcc
           exact c3 hcc
        | false=>
          rw [hcv] at hst hcc
          rw [Bool.or_eq_false_iff,Bool.or_eq_false_iff,decide_eq_false_iff_not,decide_eq_false_iff_not] at hcc
          exact ⟨_,hR _ (go_ite (fun ce=>go_false hcc.1.1 (go_neg hcc.1.2 (go_neg hcc.2 rfl))) fun ce=>go_false hcc.1.1 (go_neg hcc.1.2 (go_neg hcc.2 rfl))),keep hst⟩
    obtain ⟨ds',k1,k2⟩:=key
    exact .again (x':=[]) (ds':=ds') k1 (fun h=>by cases h) (ih _ _ k2)
   ·cases h
theorem range21 (n:Nat) (hA:AllOK C n sp21) (hI:IterOK C n 84 y84 (mkFY s84 G84)):CodeSim C n 0 21 (rangeOf C.P 21 8).code none 0 (rangeS 0 [3,4,6,7,8,9,29] (rangeOf C.P 21 8).1 it21_8 h21_8 G21_8):=by
 have hS:∀ el,SpOK C (tabOf21 el) n:=fun el=>by
  unfold tabOf21
  split
  ·exact spOK_ofR hA trivial
  ·exact spOK_ofR hA trivial
 refine rangeS_okE hC (tab:=tab21) (tabOf:=tabOf21) hS yOK84 (fun ds el=>?_) (fun ds el=>?_) (by kernel_rfl) (by kernel_rfl) (it:=it21_8) ⟨hI,trivial⟩ (G:=G21_8) fold21
 ·rw [h21_len]
  unfold tabOf21
  split
  ·exact loops_ofG (lp:=lp21n) (rg:=rg21) rfl rfl [] [] (by kernel_rfl) rfl (fun k hk=>by cases hk) (by kernel_rfl) rfl (fun k hk=>by cases hk)
  ·exact loops_ofG (lp:=lp21) (rg:=rg21) rfl rfl [] [] (by kernel_rfl) rfl (fun k hk=>by cases hk) (by kernel_rfl) rfl (fun k hk=>by cases hk)
 ·rw [h21_len]
  unfold tabOf21
  cases hz:((el.headD default).I == 0) with
  | true=>
    have e:(y84.head el).2.length = 0:=by
     show (match (el.headD default).I == 0 with
      | true=>(([SV.nils,.int .i64 (el.getD 1 default).I],[]):List SV × SHeap)
      | false=>((headVs [.sl 0 1,.k (.int .i64)] el.tail).1,(headH [.row [.int .i64]] (headVs [.sl 0 1,.k (.int .i64)] el.tail).2).1)).2.length = 0
     rw [hz]
     rfl
    rw [e]
    exact loops_ofG (lp:=lp21n) (rg:=rg21) rfl rfl [10] [] (by kernel_rfl) (by kernel_rfl) (fun k hk L hL=>by simp at hk; subst hk; cases hL; exact ok21_10n n hA) (by kernel_rfl) rfl (fun k hk=>by cases hk)
  | false=>
    have e:(y84.head el).2.length = 1:=by
     show (match (el.headD default).I == 0 with
      | true=>(([SV.nils,.int .i64 (el.getD 1 default).I],[]):List SV × SHeap)
      | false=>((headVs [.sl 0 1,.k (.int .i64)] el.tail).1,(headH [.row [.int .i64]] (headVs [.sl 0 1,.k (.int .i64)] el.tail).2).1)).2.length = 1
     rw [hz]
     rfl
    rw [e]
    exact loops_ofG (lp:=lp21) (rg:=rg21) rfl rfl [10] [] (by kernel_rfl) (by kernel_rfl) (fun k hk L hL=>by simp at hk; subst hk; cases hL; exact ok21_10 n hA) (by kernel_rfl) rfl (fun k hk=>by cases hk)
theorem use_E {A:Int}:∀ (k:Nat) (cs:List (List D)) (n:Int) (y:List D),y ∈ useF A k cs n → y = yE (ySets y) (yN y)
 | 0, cs,n,y,h=>by
   simp only [useF,List.mem_singleton] at h
   subst h
   obtain ⟨e1,e2⟩:=ySets_E cs n
   rw [e1,e2]
 | k + 1,cs,n,y,h=>by
   simp only [useF] at h
   rw [useW_mem] at h
   obtain ⟨v,-,-,h⟩:=h
   exact use_E k _ _ y h
theorem use_okY {A:Int} {ls:List (List D)} (h1:1 ≤ A) (h8:A ≤ 8):∀ y ∈ useF A ls.length [] 0,okYd ls y:=fun y hy=>by
 obtain ⟨tl,e1,e2,e3,e4⟩:=use_sound ls.length [] 0 y (Int.le_refl _) (by omega) hy
 rw [List.nil_append] at e1
 refine ⟨by rw [e1,e2],⟨e3.1,by omega⟩,use_E _ _ _ y hy,fun e0=>?_⟩
 rw [e0] at e1
 rw [← e1] at e2
 rw [← e2] at e4
 have:=congrArg Prod.fst e4
 exact this.symm
theorem ok21 (n:Nat):FnOKW C (n + 13) 21 (mkFW s21 G21):=by
 have hA:AllOK C (n + 12) sp21:=⟨ok52 (n + 2),ok53 (n + 11),ok54 (n + 7),ok55 (n + 10),trivial⟩
 refine fn_ofRW hC (sp:=sp21) (lp:=lp21) (sw:=sw21) (rg:=rg21) hA trivial (by kernel_rfl) [] [8] (by kernel_rfl) rfl (by kernel_rfl) (by kernel_rfl) (fun k hk=>by cases hk) (fun k hk L hL=>by simp at hk; subst hk; cases hL; exact range21 (n + 12) hA (ok84 n)) fun ds rr h=>?_
 unfold G21 at h
 split at h
 ·rename_i cs ls m
  obtain ⟨hp,h⟩:=need_some h
  rw [yes_iff] at hp
  refine (t21 cs ls m).trans (go_yes hp (go_not (fun c=>?_) fun c=>?_))
  ·rw [c] at h
   exact h
  ·rw [c] at h
   have c':=c
   simp only [taskOk,Bool.and_eq_true,Lite.within_iff,decide_eq_true_iff] at c'
   have hl8:ls.L.length ≤ 8:=c'.1.1.1.2
   have hm:1 ≤ m.I ∧ m.I ≤ 8:=c'.1.1.2
   refine go_yes ⟨by omega,hm.1,hm.2⟩ (go_yes ⟨⟨_,c⟩,use_okY hm.1 hm.2,by simp,by simp⟩ (go_not (fun c2=>?_) fun c2=>?_))
   ·have c2:(tyreF cs.L ls.L m.I).fd = false:=c2
    rw [run_ite,if_pos rfl,c2] at h
    exact h
   ·have c2:(tyreF cs.L ls.L m.I).fd = true:=c2
    rw [run_ite,if_pos rfl,c2] at h
    exact h
 ·cases h
noncomputable section
def consE (c:List D):Nat → Nat → List (List D)
 | _,0=>[]
 | x,k + 1=>[.l (lx c 0 ++ [[.i x]])] :: consE c (x + 1) k
def extE (b:Nat):List (List D) → List (List D)
 | []=>[]
 | c :: r=>consE c 0 b ++ extE b r
def iterE (b:Nat) (L:List (List D)):Nat → List (List D)
 | 0=>L
 | k + 1=>iterE b (extE b L) k
def lstF (b n:Nat):List (List D):=iterE b [[.l []]] n
def rowE (s c:List D):List D:=[.l (lx s 0),.l (lx c 0),.i 0]
def allP (kinds:List (List D)):List (List D) → List (List D)
 | []=>[]
 | s :: r=>kinds.map (rowE s) ++ allP kinds r
def allN (K L:Nat):Nat → Nat → List (List D)
 | _,0=>[]
 | n,k + 1=>allP (lstF K n) (lstF n L) ++ allN K L (n + 1) k
def stepR (cs ls:List (List D)) (A:Int) (p:Pl) (y:List D):Pl:=
 if (possR cs ls (lx y 0) (lx y 1) A).2 && (!p.fd || decide ((possR cs ls (lx y 0) (lx y 1) A).1 < p.w)) then ⟨true,lx y 0,lx y 1,(possR cs ls (lx y 0) (lx y 1) A).1⟩ else p
def foldR (cs ls:List (List D)) (A:Int):List (List D) → Pl → Pl
 | [],p=>p
 | y :: ys,p=>foldR cs ls A ys (stepR cs ls A p y)
def tyreR (cs ls:List (List D)) (A:Int):Pl:=foldR cs ls A (allN cs.length ls.length 0 (A.toNat + 1)) ⟨false,[],[],0⟩
def lenE (o:List (List D)) (i:Nat):Prop:=o.length ≤ 8 ^ i ∧ ∀ k,k < o.length → (lx (o.getD k []) 0).length = i
def G86 (ds:List D):T (List D):=match ds with
 | [n,b]=>.need (yes ((0 ≤ n.I ∧ n.I ≤ 8) ∧ 0 ≤ b.I ∧ b.I ≤ 8)) (.ite (lstF b.I.toNat n.I.toNat).isEmpty (.leaf [.i 0]) (.leaf [.i 1,.i (lstF b.I.toNat n.I.toNat).length,.l (lstF b.I.toNat n.I.toNat)]))
 | _=>.fail
def bdE (n b i:Int):Prop:=(0 ≤ n ∧ n ≤ 8) ∧ (0 ≤ b ∧ b ≤ 8) ∧ 0 ≤ i ∧ i ≤ n
def G86_3 (ds:List D):T (Ex × List D):=match ds with
 | [y,n,b,i]=>.need (yes (y.I = 0 ∧ bdE n.I b.I i.I)) (.leaf (.exit 0,[.i 0]))
 | [y, n,b,s,i,o]=>.need (yes (y.I = 1 ∧ bdE n.I b.I i.I ∧ (s.I = o.L.length ∧ 0 < s.I) ∧ lenE o.L i.I.toNat))
     (.ite (iterE b.I.toNat o.L (n.I - i.I).toNat).isEmpty (.leaf (.exit 0,[.i 0])) (.leaf (.exit 0,[.i 1,.i (iterE b.I.toNat o.L (n.I - i.I).toNat).length,.l (iterE b.I.toNat o.L (n.I - i.I).toNat)])))
 | _=>.fail
def G86_7 (ds:List D):T (Ex × List D):=match ds with
 | [y,n,b,i,k]=>.need (yes (y.I = 0 ∧ 0 ≤ k.I)) (.leaf (.exit 2,[.i 0,.i n.I,.i b.I,.i i.I]))
 | [y, n,b,s,i,k,o]=>.need (yes (y.I = 1 ∧ bdE n.I b.I i.I ∧ i.I < n.I ∧ s.I = o.L.length ∧ lenE o.L i.I.toNat ∧ 0 ≤ k.I ∧ k.I ≤ s.I))
     (.ite (extE b.I.toNat (o.L.drop k.I.toNat)).isEmpty (.leaf (.exit 2,[.i 0,.i n.I,.i b.I,.i i.I])) (.leaf (.exit 2,[.i 1,.i n.I,.i b.I,.i i.I,.i (extE b.I.toNat (o.L.drop k.I.toNat)).length,.l (extE b.I.toNat (o.L.drop k.I.toNat))])))
 | [y, n,b,s,i,t,k,o,x]=>.need (yes (y.I = 2 ∧ bdE n.I b.I i.I ∧ i.I < n.I ∧ s.I = o.L.length ∧ lenE o.L i.I.toNat ∧ (0 ≤ k.I ∧ k.I ≤ s.I) ∧ t.I = x.L.length ∧ t.I ≤ 8 * k.I ∧ 0 < t.I))
     (.leaf (.exit 2,[.i 1,.i n.I,.i b.I,.i i.I,.i (x.L ++ extE b.I.toNat (o.L.drop k.I.toNat)).length,.l (x.L ++ extE b.I.toNat (o.L.drop k.I.toNat))]))
 | _=>.fail
def G86_10 (ds:List D):T (Ex × List D):=match ds with
 | [y, n,b,s,i,k,x,o]=>.need (yes (y.I = 0 ∧ bdE n.I b.I i.I ∧ s.I = o.L.length ∧ lenE o.L i.I.toNat ∧ (0 ≤ k.I ∧ k.I < s.I) ∧ 0 ≤ x.I ∧ x.I ≤ b.I))
     (.ite (consE (o.L.getD k.I.toNat []) x.I.toNat (b.I - x.I).toNat).isEmpty (.leaf (.exit 4,[.i 0,.i n.I,.i b.I,.i s.I,.i i.I,.i k.I,.l o.L]))
      (.leaf (.exit 4,[.i 1,.i n.I,.i b.I,.i s.I,.i i.I,.i (consE (o.L.getD k.I.toNat []) x.I.toNat (b.I - x.I).toNat).length,.i k.I,.l o.L,.l (consE (o.L.getD k.I.toNat []) x.I.toNat (b.I - x.I).toNat)])))
 | [y, n,b,s,i,t,k,x,o,w]=>.need (yes (y.I = 1 ∧ bdE n.I b.I i.I ∧ s.I = o.L.length ∧ lenE o.L i.I.toNat ∧ (0 ≤ k.I ∧ k.I < s.I) ∧ (0 ≤ x.I ∧ x.I ≤ b.I) ∧ t.I = w.L.length ∧ t.I ≤ 8 * k.I + x.I))
     (.leaf (.exit 4,[.i 1,.i n.I,.i b.I,.i s.I,.i i.I,.i (w.L ++ consE (o.L.getD k.I.toNat []) x.I.toNat (b.I - x.I).toNat).length,.i k.I,.l o.L,.l (w.L ++ consE (o.L.getD k.I.toNat []) x.I.toNat (b.I - x.I).toNat)]))
 | _=>.fail
end
def s86:SigW:=⟨[.k (.int .i64),.k (.int .i64)],[],[(.nils,[]),(.sl 0 1,[.row [.ro [.int .i64]]])]⟩
def l86_3:LSig:=mkLS [0,1,5,6] [(40,[(0,.k (.int .i64)),(1,.k (.int .i64)),(5,.nils),(6,.k (.int .i64))],[]),(40,[(0,.k (.int .i64)),(1,.k (.int .i64)),(5,.sl 0 1),(6,.k (.int .i64))],[.row [.ro [.int .i64]]])] [(.exit 0,[5],[(40,[(5,.nils)],[]),(40,[(5,.sl 0 1)],[.row [.ro [.int .i64]]])])]
def l86_7:LSig:=mkLS [0,1,5,6,7,8] [(40,[(0,.k (.int .i64)),(1,.k (.int .i64)),(5,.nils),(6,.k (.int .i64)),(7,.nils),(8,.k (.int .i64))],[]),(40,[(0,.k (.int .i64)),(1,.k (.int .i64)),(5,.sl 0 1),(6,.k (.int .i64)),(7,.nils),(8,.k (.int .i64))],[.row [.ro [.int .i64]]]),(40,[(0,.k (.int .i64)),(1,.k (.int .i64)),(5,.sl 0 1),(6,.k (.int .i64)),(7,.sl 1 1),(8,.k (.int .i64))],[.row [.ro [.int .i64]],.row [.ro [.int .i64]]])] [(.exit 2,[0,1,6,7],[(40,[(0,.k (.int .i64)),(1,.k (.int .i64)),(6,.k (.int .i64)),(7,.nils)],[]),(40,[(0,.k (.int .i64)),(1,.k (.int .i64)),(6,.k (.int .i64)),(7,.sl 0 1)],[.row [.ro [.int .i64]]])])]
def l86_10:LSig:=mkLS [0,1,5,6,7,8,9] [(40,[(0,.k (.int .i64)),(1,.k (.int .i64)),(5,.sl 0 1),(6,.k (.int .i64)),(7,.nils),(8,.k (.int .i64)),(9,.k (.int .i64))],[.row [.ro [.int .i64]]]),(40,[(0,.k (.int .i64)),(1,.k (.int .i64)),(5,.sl 0 1),(6,.k (.int .i64)),(7,.sl 1 1),(8,.k (.int .i64)),(9,.k (.int .i64))],[.row [.ro [.int .i64]],.row [.ro [.int .i64]]])] [(.exit 4,[0,1,5,6,7,8],[(40,[(0,.k (.int .i64)),(1,.k (.int .i64)),(5,.sl 0 1),(6,.k (.int .i64)),(7,.nils),(8,.k (.int .i64))],[.row [.ro [.int .i64]]]),(40,[(0,.k (.int .i64)),(1,.k (.int .i64)),(5,.sl 0 1),(6,.k (.int .i64)),(7,.sl 1 1),(8,.k (.int .i64))],[.row [.ro [.int .i64]],.row [.ro [.int .i64]]])])]
noncomputable def sp86:SpL:=[]
noncomputable def lp86:LpL:=[(3,mkL l86_3 G86_3),(7,mkL l86_7 G86_7),(10,mkL l86_10 G86_10)]
noncomputable def sw86:SwL:=[]
noncomputable def tab86:Tab:=mkTab sp86 lp86 sw86
set_option linter.unusedVariables false
set_option maxRecDepth 100000
theorem t86 (a b:D):(fnTW C tab86 86 s86 [a,b]).run =
 T.run (T.need (yes ((↑(0 + 1):Int) = (1:Int) ∧ bdE a.I b.I (0:Int) ∧ ((↑(List.length [[D.l []]]):Int) = (↑(List.length [[D.l []]]):Int) ∧ (0:Int) < (↑(List.length [[D.l []]]):Int)) ∧ lenE [[D.l []]] (Int.toNat (0:Int)))) (T.ite (List.isEmpty (iterE b.I.toNat [[D.l []]] (Int.toNat (a.I - (0:Int))))) (T.leaf [D.i 0]) (T.leaf [D.i 1,D.i (↑(Int.toNat (↑(List.length (iterE b.I.toNat [[D.l []]] (Int.toNat (a.I - (0:Int))))):Int)):Int),D.l (iterE b.I.toNat [[D.l []]] (Int.toNat (a.I - (0:Int))))]))):=by kernel_rfl
theorem t86_3_0 (a b c:D):(roundT C tab86 86 (loopOf C.P 86 3) l86_3 [.i 0,a,b,c]).run =
 T.run (T.ite (decide (c.I < a.I)) (T.need (yes ((↑0:Int) = (0:Int) ∧ (0:Int) ≤ (0:Int))) (T.leaf (Rd.again [D.i 0,D.i a.I,D.i b.I,D.i (IntKind.i64.wrap (c.I + (1:Int)))]))) (T.leaf (Rd.out (Ex.exit 0) [D.i 0]))):=by kernel_rfl
theorem t86_3_1 (a b c d e:D):(roundT C tab86 86 (loopOf C.P 86 3) l86_3 [.i 1,a,b,c,d,e]).run =
 T.run (T.ite (decide (d.I < a.I)) (T.need (yes ((↑(0 + 1):Int) = (1:Int) ∧ bdE a.I b.I d.I ∧ d.I < a.I ∧ (c.I.toNat:Int) = (e.L.length:Int) ∧ lenE e.L d.I.toNat ∧ (0:Int) ≤ (0:Int) ∧ (0:Int) ≤ (c.I.toNat:Int))) (T.ite (List.isEmpty (extE b.I.toNat (List.drop (Int.toNat (0:Int)) e.L))) (T.leaf (Rd.again [D.i 0,D.i a.I,D.i b.I,D.i (IntKind.i64.wrap (d.I + (1:Int)))])) (T.leaf (Rd.again [D.i 1,D.i a.I,D.i b.I,D.i (↑(Int.toNat (↑(List.length (extE b.I.toNat (List.drop (Int.toNat (0:Int)) e.L))):Int)):Int),D.i (IntKind.i64.wrap (d.I + (1:Int))),D.l (extE b.I.toNat (List.drop (Int.toNat (0:Int)) e.L))])))) (T.leaf (Rd.out (Ex.exit 0) [D.i 1,D.i (c.I.toNat:Int),D.l e.L]))):=by kernel_rfl
theorem t86_7_0 (a b c d:D):(roundT C tab86 86 (loopOf C.P 86 7) l86_7 [.i 0,a,b,c,d]).run =
 T.run (T.ite (decide (d.I < (↑0:Int))) T.fail (T.leaf (Rd.out (Ex.exit 2) [D.i 0,D.i a.I,D.i b.I,D.i c.I]))):=by kernel_rfl
theorem t86_7_1 (a b c d e f:D):(roundT C tab86 86 (loopOf C.P 86 7) l86_7 [.i 1,a,b,c,d,e,f]).run =
 T.run (T.ite (decide (e.I < (c.I.toNat:Int))) (T.need (yes ((↑0:Int) = (0:Int) ∧ bdE a.I b.I d.I ∧ (c.I.toNat:Int) = (f.L.length:Int) ∧ lenE f.L d.I.toNat ∧ ((0:Int) ≤ e.I ∧ e.I < (c.I.toNat:Int)) ∧ (0:Int) ≤ (0:Int) ∧ (0:Int) ≤ b.I)) (T.ite (List.isEmpty (consE (List.getD f.L e.I.toNat []) (Int.toNat (0:Int)) (Int.toNat (b.I - (0:Int))))) (T.leaf (Rd.again [D.i 1,D.i a.I,D.i b.I,D.i (↑(Int.toNat (c.I.toNat:Int)):Int),D.i d.I,D.i (IntKind.i64.wrap (e.I + (1:Int))),D.l f.L])) (T.leaf (Rd.again [D.i 2,D.i a.I,D.i b.I,D.i (↑(Int.toNat (c.I.toNat:Int)):Int),D.i d.I,D.i (↑(Int.toNat (↑(List.length (consE (List.getD f.L e.I.toNat []) (Int.toNat (0:Int)) (Int.toNat (b.I - (0:Int))))):Int)):Int),D.i (IntKind.i64.wrap (e.I + (1:Int))),D.l f.L,D.l (consE (List.getD f.L e.I.toNat []) (Int.toNat (0:Int)) (Int.toNat (b.I - (0:Int))))])))) (T.leaf (Rd.out (Ex.exit 2) [D.i 0,D.i a.I,D.i b.I,D.i d.I]))):=by kernel_rfl
theorem t86_7_2 (a b c d e f g h:D):(roundT C tab86 86 (loopOf C.P 86 7) l86_7 [.i 2,a,b,c,d,e,f,g,h]).run =
 T.run (T.ite (decide (f.I < (c.I.toNat:Int))) (T.need (yes ((↑(0 + 1):Int) = (1:Int) ∧ bdE a.I b.I d.I ∧ (c.I.toNat:Int) = (g.L.length:Int) ∧ lenE g.L d.I.toNat ∧ ((0:Int) ≤ f.I ∧ f.I < (c.I.toNat:Int)) ∧ ((0:Int) ≤ (0:Int) ∧ (0:Int) ≤ b.I) ∧ (e.I.toNat:Int) = (h.L.length:Int) ∧ (e.I.toNat:Int) ≤ (8:Int) * f.I + (0:Int))) (T.leaf (Rd.again [D.i 2,D.i a.I,D.i b.I,D.i (↑(Int.toNat (c.I.toNat:Int)):Int),D.i d.I,D.i (↑(Int.toNat (↑(List.length (h.L ++ consE (List.getD g.L f.I.toNat []) (Int.toNat (0:Int)) (Int.toNat (b.I - (0:Int))))):Int)):Int),D.i (IntKind.i64.wrap (f.I + (1:Int))),D.l g.L,D.l (h.L ++ consE (List.getD g.L f.I.toNat []) (Int.toNat (0:Int)) (Int.toNat (b.I - (0:Int))))]))) (T.leaf (Rd.out (Ex.exit 2) [D.i 1,D.i a.I,D.i b.I,D.i d.I,D.i (e.I.toNat:Int),D.l h.L]))):=by kernel_rfl
theorem t86_10_0 (a b c d e f g:D):(roundT C tab86 86 (loopOf C.P 86 10) l86_10 [.i 0,a,b,c,d,e,f,g]).run =
 T.run (T.ite (decide (f.I < b.I)) (T.need (decide ((0:Int) ≤ e.I ∧ e.I < (c.I.toNat:Int))) (T.need (decide (e.I.toNat < g.L.length)) (T.ite (List.isEmpty (D.L (List.getD (List.getD g.L e.I.toNat []) 0 default))) (T.leaf (Rd.again [D.i 1,D.i a.I,D.i b.I,D.i (c.I.toNat:Int),D.i d.I,D.i 1,D.i e.I,D.i (IntKind.i64.wrap (f.I + (1:Int))),D.l g.L,D.l [[D.l [[D.i f.I]]]]])) (T.need (decide (List.length (D.L (List.getD (List.getD g.L e.I.toNat []) 0 default)) ≤ 2 ^ 62 ∧ List.length (D.L (List.getD (List.getD g.L e.I.toNat []) 0 default)) * Try.prog.types[3].bytes ≤ 2 ^ 47)) (T.need (decide (List.length (D.L (List.getD (List.getD g.L e.I.toNat []) 0 default)) ≤ List.length (D.L (List.getD (List.getD g.L e.I.toNat []) 0 default)) ∧ List.length (D.L (List.getD (List.getD g.L e.I.toNat []) 0 default)) + 1 ≤ 2 ^ 62 ∧ (List.length (D.L (List.getD (List.getD g.L e.I.toNat []) 0 default)) + 1) * Try.prog.types[3].bytes ≤ 2 ^ 47)) (T.need (decide (List.length (D.L (List.getD (List.getD g.L e.I.toNat []) 0 default)) + 1 ≤ List.length (List.take (List.length (D.L (List.getD (List.getD g.L e.I.toNat []) 0 default))) (D.L (List.getD (List.getD g.L e.I.toNat []) 0 default)) ++ List.take (List.length [[D.i f.I]]) [[D.i f.I]]))) (T.leaf (Rd.again [D.i 1,D.i a.I,D.i b.I,D.i (c.I.toNat:Int),D.i d.I,D.i 1,D.i e.I,D.i (IntKind.i64.wrap (f.I + (1:Int))),D.l g.L,D.l [[D.l (List.take (List.length (D.L (List.getD (List.getD g.L e.I.toNat []) 0 default)) + 1) (List.take (List.length (D.L (List.getD (List.getD g.L e.I.toNat []) 0 default))) (D.L (List.getD (List.getD g.L e.I.toNat []) 0 default)) ++ List.take (List.length [[D.i f.I]]) [[D.i f.I]]))]]])))))))) (T.leaf (Rd.out (Ex.exit 4) [D.i 0,D.i a.I,D.i b.I,D.i (c.I.toNat:Int),D.i d.I,D.i e.I,D.l g.L]))):=by kernel_rfl
theorem t86_10_1 (a b c d e f g h i:D):(roundT C tab86 86 (loopOf C.P 86 10) l86_10 [.i 1,a,b,c,d,e,f,g,h,i]).run =
 T.run (T.ite (decide (g.I < b.I)) (T.need (decide ((0:Int) ≤ f.I ∧ f.I < (c.I.toNat:Int))) (T.need (decide (f.I.toNat < h.L.length)) (T.ite (List.isEmpty (D.L (List.getD (List.getD h.L f.I.toNat []) 0 default))) (T.need (decide (e.I.toNat ≤ i.L.length ∧ e.I.toNat + 1 ≤ 2 ^ 62 ∧ (e.I.toNat + 1) * Try.prog.types[23].bytes ≤ 2 ^ 47)) (T.leaf (Rd.again [D.i 1,D.i a.I,D.i b.I,D.i (c.I.toNat:Int),D.i d.I,D.i (↑(e.I.toNat + 1):Int),D.i f.I,D.i (IntKind.i64.wrap (g.I + (1:Int))),D.l h.L,D.l (List.take e.I.toNat i.L ++ List.take (List.length [[D.l (List.take 1 (List.take (List.length [[D.i g.I]]) [[D.i g.I]]))]]) [[D.l (List.take 1 (List.take (List.length [[D.i g.I]]) [[D.i g.I]]))]])]))) (T.need (decide (List.length (D.L (List.getD (List.getD h.L f.I.toNat []) 0 default)) ≤ 2 ^ 62 ∧ List.length (D.L (List.getD (List.getD h.L f.I.toNat []) 0 default)) * Try.prog.types[3].bytes ≤ 2 ^ 47)) (T.need (decide (List.length (D.L (List.getD (List.getD h.L f.I.toNat []) 0 default)) ≤ List.length (D.L (List.getD (List.getD h.L f.I.toNat []) 0 default)) ∧ List.length (D.L (List.getD (List.getD h.L f.I.toNat []) 0 default)) + 1 ≤ 2 ^ 62 ∧ (List.length (D.L (List.getD (List.getD h.L f.I.toNat []) 0 default)) + 1) * Try.prog.types[3].bytes ≤ 2 ^ 47)) (T.need (decide (List.length (D.L (List.getD (List.getD h.L f.I.toNat []) 0 default)) + 1 ≤ List.length (List.take (List.length (D.L (List.getD (List.getD h.L f.I.toNat []) 0 default))) (D.L (List.getD (List.getD h.L f.I.toNat []) 0 default)) ++ List.take (List.length [[D.i g.I]]) [[D.i g.I]]))) (T.need (decide (e.I.toNat ≤ i.L.length ∧ e.I.toNat + 1 ≤ 2 ^ 62 ∧ (e.I.toNat + 1) * Try.prog.types[23].bytes ≤ 2 ^ 47)) (T.leaf (Rd.again [D.i 1,D.i a.I,D.i b.I,D.i (c.I.toNat:Int),D.i d.I,D.i (↑(e.I.toNat + 1):Int),D.i f.I,D.i (IntKind.i64.wrap (g.I + (1:Int))),D.l h.L,D.l (List.take e.I.toNat i.L ++ List.take (List.length [[D.l (List.take (List.length (D.L (List.getD (List.getD h.L f.I.toNat []) 0 default)) + 1) (List.take (List.length (D.L (List.getD (List.getD h.L f.I.toNat []) 0 default))) (D.L (List.getD (List.getD h.L f.I.toNat []) 0 default)) ++ List.take (List.length [[D.i g.I]]) [[D.i g.I]]))]]) [[D.l (List.take (List.length (D.L (List.getD (List.getD h.L f.I.toNat []) 0 default)) + 1) (List.take (List.length (D.L (List.getD (List.getD h.L f.I.toNat []) 0 default))) (D.L (List.getD (List.getD h.L f.I.toNat []) 0 default)) ++ List.take (List.length [[D.i g.I]]) [[D.i g.I]]))]])]))))))))) (T.leaf (Rd.out (Ex.exit 4) [D.i 1,D.i a.I,D.i b.I,D.i (c.I.toNat:Int),D.i d.I,D.i (e.I.toNat:Int),D.i f.I,D.l h.L,D.l i.L]))):=by kernel_rfl
set_option maxRecDepth 100000
set_option linter.unusedSimpArgs false
theorem b3z:Try.prog.types[3].bytes = 8:=by kernel_rfl
theorem b23:Try.prog.types[23].bytes = 24:=by kernel_rfl
theorem consE_len {c:List D}:∀ k x,(consE c x k).length = k
 | 0,_=>rfl
 | k + 1,x=>by simp only [consE,List.length_cons,consE_len k (x + 1)]
theorem consE_mem {c e:List D}:∀ k x,e ∈ consE c x k ↔ ∃ v:Nat,x ≤ v ∧ v < x + k ∧ e = [.l (lx c 0 ++ [[.i v]])]
 | 0, x=>by
   simp only [consE,List.not_mem_nil,false_iff]
   rintro ⟨v,h1,h2,-⟩; omega
 | k + 1,x=>by
   simp only [consE,List.mem_cons,consE_mem k (x + 1)]
   constructor
   ·rintro (rfl | ⟨v,h1,h2,h3⟩)
    ·exact ⟨x,Nat.le_refl _,by omega,rfl⟩
    ·exact ⟨v,by omega,by omega,h3⟩
   ·rintro ⟨v,h1,h2,h3⟩
    by_cases e0:v = x
    ·subst e0; exact .inl h3
    ·exact .inr ⟨v,by omega,by omega,h3⟩
theorem consE_step {c:List D} {b:Int} {x:Nat} (h:(x:Int) < b):consE c x (b - (x:Int)).toNat = [.l (lx c 0 ++ [[.i x]])] :: consE c (x + 1) (b - ((x + 1:Nat):Int)).toNat:=by
 rw [show (b - (x:Int)).toNat = (b - ((x + 1:Nat):Int)).toNat + 1 by omega]
 rfl
theorem consE_end {c:List D} {b:Int} {x:Nat} (h:¬ (x:Int) < b):consE c x (b - (x:Int)).toNat = []:=by
 rw [show (b - (x:Int)).toNat = 0 by omega]
 rfl
theorem extE_len {b:Nat}:∀ L,(extE b L).length = b * L.length
 | []=>rfl
 | c :: r=>by simp only [extE,List.length_append,consE_len,extE_len r,List.length_cons,Nat.mul_add]; omega
theorem extE_mem {b:Nat} {e:List D}:∀ {L:List (List D)},e ∈ extE b L ↔ ∃ c ∈ L,∃ v:Nat,v < b ∧ e = [.l (lx c 0 ++ [[.i v]])]
 | []=>by simp [extE]
 | c :: r=>by
   simp only [extE,List.mem_append,consE_mem,extE_mem (L:=r),List.mem_cons]
   constructor
   ·rintro (⟨v,-,h2,h3⟩ | ⟨c',h1,v,h2,h3⟩)
    ·exact ⟨c,.inl rfl,v,by omega,h3⟩
    ·exact ⟨c',.inr h1,v,h2,h3⟩
   ·rintro ⟨c',h1 | h1,v,h2,h3⟩
    ·subst h1; exact .inl ⟨v,Nat.zero_le _,by omega,h3⟩
    ·exact .inr ⟨c',h1,v,h2,h3⟩
theorem gd_mem {l:List (List D)} {q:Nat} (h:q < l.length):l.getD q [] ∈ l:=by rw [List.getD_eq_getElem?_getD,List.getElem?_eq_getElem h]; exact List.getElem_mem h
theorem lenE_mem {o:List (List D)} {i:Nat} (h:lenE o i):∀ c ∈ o,(lx c 0).length = i:=fun c hc=>by
 obtain ⟨k,hk,rfl⟩:=List.mem_iff_getElem.1 hc
 have:=h.2 k hk
 rwa [List.getD_eq_getElem?_getD,List.getElem?_eq_getElem hk] at this
theorem lenE_ext {o:List (List D)} {i b:Nat} (h:lenE o i) (hb:b ≤ 8):lenE (extE b o) (i + 1):=by
 refine ⟨?_,fun k hk=>?_⟩
 ·rw [extE_len,Nat.pow_succ,Nat.mul_comm]
  exact Nat.mul_le_mul h.1 hb
 ·obtain ⟨c,hc,v,-,e⟩:=extE_mem.1 (gd_mem hk)
  rw [e]
  show (lx c 0 ++ [[D.i v]]).length = i + 1
  rw [List.length_append,lenE_mem h c hc]
  rfl
theorem lenE_big {o:List (List D)} {i:Nat} (h:lenE o i) (hi:i ≤ 8):o.length ≤ 16777216:=
 Nat.le_trans h.1 (Nat.le_trans (Nat.pow_le_pow_right (by decide) hi) (by decide))
theorem extE_step {b:Nat} {o:List (List D)} {k:Nat} (h:k < o.length):extE b (o.drop k) = consE (o.getD k []) 0 b ++ extE b (o.drop (k + 1)):=by
 rw [List.drop_eq_getElem_cons h,List.getD_eq_getElem?_getD,List.getElem?_eq_getElem h]
 rfl
theorem iterE_nil {b:Nat}:∀ k,iterE b [] k = []
 | 0=>rfl
 | k + 1=>iterE_nil k
theorem iterE_step {b:Nat} {o:List (List D)} {n:Int} {i:Nat} (h:(i:Int) < n):iterE b o (n - (i:Int)).toNat = iterE b (extE b o) (n - ((i + 1:Nat):Int)).toNat:=by
 rw [show (n - (i:Int)).toNat = (n - ((i + 1:Nat):Int)).toNat + 1 by omega]
 rfl
theorem iterE_end {b:Nat} {o:List (List D)} {n:Int} {i:Nat} (h:¬ (i:Int) < n):iterE b o (n - (i:Int)).toNat = o:=by
 rw [show (n - (i:Int)).toNat = 0 by omega]
 rfl
theorem ne_len {α:Type} {l:List α} (h:l.isEmpty = false):0 < l.length:=by
 cases l with
 | nil=>cases h
 | cons _ _=>simp
theorem len_ne {α:Type} {l:List α} (h:0 < l.length):l.isEmpty = false:=by
 cases l with
 | nil=>simp at h
 | cons _ _=>rfl
def μ8610 (ds:List D):Nat:=match ds with
 | [_,_,b,_,_,_,x,_]=>(b.I - x.I).toNat
 | [_,_,b,_,_,_,_,x,_,_]=>(b.I - x.I).toNat
 | _=>0
set_option maxHeartbeats 1000000 in
theorem ok86_10 (n:Nat):LoopSim C n 86 (loopOf C.P 86 10) (mkL l86_10 G86_10):=by
 refine loop_ofK hC (sp:=sp86) (lp:=lp86) (sw:=sw86) trivial trivial 0 [] (by kernel_rfl) rfl (fun k hk=>by cases hk) (by kernel_rfl) μ8610 fun ds rr h=>?_
 unfold G86_10 at h
 split at h
 ·rename_i y n' b s i k x o
  obtain ⟨hp,h⟩:=need_some h
  rw [yes_iff] at hp
  obtain ⟨hy,hB,hs,hE,⟨k0,k1⟩,x0,x1⟩:=hp
  obtain ⟨⟨n0,n8⟩,⟨b0,b8⟩,i0,i1⟩:=id hB
  have hel:=hE.2 k.I.toNat (by omega)
  refine ⟨by rw [fuelC]; show (b.I - x.I).toNat < _; omega,?_⟩
  rw [roundTK_head (j:=y) (n:=0) hy (by decide)]
  refine rd_runY (t86_10_0 n' b s i k x o) ?_
  obtain ⟨X,hX⟩:∃ X:Nat,x.I = X:=⟨x.I.toNat,by omega⟩
  have et:∀ l:List (List D),l.take l.length = l:=fun l=>List.take_length
  simp only [hX,hs,et,Int.toNat_natCast,lx_def,b3z,b23] at h x0 x1 ⊢
  refine rd_if (fun hlt=>?_) fun hge=>?_
  ·rw [consE_step hlt] at h
   have hmu:(b.I - ((X + 1:Nat):Int)).toNat < (b.I - x.I).toNat:=by omega
   have fin:∀ w:List (List D),w = [[.l (lx (o.L.getD k.I.toNat []) 0 ++ [[.i X]])]] → (G86_10 [.i 1,.i n'.I,.i b.I,.i (o.L.length:Int),.i i.I,.i 1,.i k.I,.i ((X + 1:Nat):Int),.l o.L,.l w]).run = some rr:=fun w hw=>by
    rw [hw]
    refine (need_yes ⟨rfl,hB,rfl,hE,⟨by simp only [I_i]; omega,by simp only [I_i]; omega⟩,⟨by simp only [I_i]; omega,by simp only [I_i]; omega⟩,rfl,by simp only [I_i]; omega⟩).trans ?_
    simp only [I_i,L_l,Int.toNat_natCast]
    exact h
   rw [wrap_succ (by omega)]
   refine rd_dec (by omega) (rd_dec (by omega) (rd_ite (fun c=>?_) fun c=>?_))
   ·refine rd_again (fin _ ?_) hmu
    rw [List.isEmpty_iff.1 c]; rfl
   ·refine rd_dec (by omega) (rd_dec (by omega) (rd_dec (by simp only [List.length_append,List.length_singleton]; omega) (rd_again (fin _ ?_) hmu)))
    rw [List.take_of_length_le (by simp only [List.length_append,List.length_singleton]; omega)]
  ·rw [consE_end hge] at h
   exact rd_out h
 ·rename_i y n' b s i t k x o w
  obtain ⟨hp,h⟩:=need_some h
  rw [yes_iff] at hp
  obtain ⟨hy,hB,hs,hE,⟨k0,k1⟩,⟨x0,x1⟩,ht,htb⟩:=hp
  obtain ⟨⟨n0,n8⟩,⟨b0,b8⟩,i0,i1⟩:=id hB
  have hel:=hE.2 k.I.toNat (by omega)
  have hbig:=lenE_big hE (by omega)
  refine ⟨by rw [fuelC]; show (b.I - x.I).toNat < _; omega,?_⟩
  rw [roundTK_head (j:=y) (n:=1) hy (by decide)]
  refine rd_runY (t86_10_1 n' b s i t k x o w) ?_
  obtain ⟨X,hX⟩:∃ X:Nat,x.I = X:=⟨x.I.toNat,by omega⟩
  have et:∀ l:List (List D),l.take l.length = l:=fun l=>List.take_length
  simp only [hX,hs,ht,et,Int.toNat_natCast,lx_def,b3z,b23] at h x0 x1 htb ⊢
  refine rd_if (fun hlt=>?_) fun hge=>?_
  ·rw [consE_step hlt] at h
   have hmu:(b.I - ((X + 1:Nat):Int)).toNat < (b.I - x.I).toNat:=by omega
   have fin:∀ v:List (List D),v = w.L ++ [[.l (lx (o.L.getD k.I.toNat []) 0 ++ [[.i X]])]] → (G86_10 [.i 1,.i n'.I,.i b.I,.i (o.L.length:Int),.i i.I,.i ((w.L.length + 1:Nat):Int),.i k.I,.i ((X + 1:Nat):Int),.l o.L,.l v]).run = some rr:=fun v hv=>by
    rw [hv]
    refine (need_yes ⟨rfl,hB,rfl,hE,⟨by simp only [I_i]; omega,by simp only [I_i]; omega⟩,⟨by simp only [I_i]; omega,by simp only [I_i]; omega⟩,by simp only [I_i,L_l,List.length_append,List.length_singleton],by simp only [I_i]; omega⟩).trans ?_
    simp only [I_i,L_l,Int.toNat_natCast,List.append_assoc]
    exact h
   rw [wrap_succ (by omega)]
   refine rd_dec (by omega) (rd_dec (by omega) (rd_ite (fun c=>?_) fun c=>?_))
   ·refine rd_dec (by omega) (rd_again (fin _ ?_) hmu)
    rw [List.isEmpty_iff.1 c]; rfl
   ·refine rd_dec (by omega) (rd_dec (by omega) (rd_dec (by simp only [List.length_append,List.length_singleton]; omega) (rd_dec (by omega) (rd_again (fin _ ?_) hmu))))
    rw [List.take_of_length_le (l:=lx (o.L.getD k.I.toNat []) 0 ++ [[D.i (X:Int)]]) (by simp only [List.length_append,List.length_singleton]; omega)]
  ·rw [consE_end hge,List.append_nil] at h
   exact rd_out h
 ·cases h
def μ867 (ds:List D):Nat:=match ds with
 | [_,_,_,s,_,k,_]=>(s.I - k.I).toNat
 | [_,_,_,s,_,_,k,_,_]=>(s.I - k.I).toNat
 | _=>0
set_option maxHeartbeats 1000000 in
theorem ok86_7 (n:Nat):LoopSim C n 86 (loopOf C.P 86 7) (mkL l86_7 G86_7):=by
 refine loop_ofK hC (sp:=sp86) (lp:=lp86) (sw:=sw86) trivial trivial 0 [10] (by kernel_rfl) (by kernel_rfl) (fun k hk L hL=>by simp at hk; subst hk; cases hL; exact ok86_10 n) (by kernel_rfl) μ867 fun ds rr h=>?_
 unfold G86_7 at h
 split at h
 ·rename_i y n' b i k
  obtain ⟨hp,h⟩:=need_some h
  rw [yes_iff] at hp
  refine ⟨by rw [fuelC]; show 0 < _; omega,?_⟩
  rw [roundTK_head (j:=y) (n:=0) hp.1 (by decide)]
  exact rd_runY (t86_7_0 n' b i k) (rd_neg (by have:=hp.2; simp; omega) (rd_out h))
 ·rename_i y n' b s i k o
  obtain ⟨hp,h⟩:=need_some h
  rw [yes_iff] at hp
  obtain ⟨hy,hB,hin,hs,hE,k0,k1⟩:=hp
  obtain ⟨⟨n0,n8⟩,⟨b0,b8⟩,i0,i1⟩:=id hB
  have hbig:=lenE_big hE (by omega)
  refine ⟨by rw [fuelC]; show (s.I - k.I).toNat < _; omega,?_⟩
  rw [roundTK_head (j:=y) (n:=1) hy (by decide)]
  refine rd_runY (t86_7_1 n' b s i k o) ?_
  obtain ⟨K,hK⟩:∃ K:Nat,k.I = K:=⟨k.I.toNat,by omega⟩
  have z0:Int.toNat 0 = 0:=rfl
  simp only [hK,hs,z0,Int.toNat_natCast,Int.sub_zero] at h k0 k1 ⊢
  refine rd_if (fun hlt=>?_) fun hge=>?_
  ·have hkl:K < o.L.length:=by omega
   rw [extE_step hkl] at h
   have hmu:((o.L.length:Int) - ((K + 1:Nat):Int)).toNat < (s.I - k.I).toNat:=by omega
   have hcl:=consE_len (c:=o.L.getD K []) b.I.toNat 0
   rw [wrap_succ (by omega)]
   refine rd_yes ⟨by trivial,hB,by trivial,hE,⟨by omega,by omega⟩,by omega,by omega⟩ (rd_ite (fun c=>?_) fun c=>?_)
   ·rw [List.isEmpty_iff.1 c,List.nil_append] at h
    refine rd_again ((need_yes ⟨rfl,hB,hin,rfl,hE,by simp only [I_i]; omega,by simp only [I_i]; omega⟩).trans ?_) hmu
    simp only [I_i,L_l,Int.toNat_natCast]
    exact h
   ·have hpos:=ne_len c
    have hne:(consE (o.L.getD K []) 0 b.I.toNat ++ extE b.I.toNat (o.L.drop (K + 1))).isEmpty = false:=len_ne (by rw [List.length_append]; omega)
    rw [run_ite,if_neg (by rw [hne]; decide)] at h
    refine rd_again ((need_yes ⟨rfl,hB,hin,rfl,hE,⟨by simp only [I_i]; omega,by simp only [I_i]; omega⟩,rfl,by simp only [I_i]; omega,by simp only [I_i]; omega⟩).trans ?_) hmu
    simp only [I_i,L_l,Int.toNat_natCast]
    exact h
  ·rw [List.drop_eq_nil_of_le (by omega)] at h
   exact rd_out h
 ·rename_i y n' b s i t k o x
  obtain ⟨hp,h⟩:=need_some h
  rw [yes_iff] at hp
  obtain ⟨hy,hB,hin,hs,hE,⟨k0,k1⟩,ht,ht8,ht0⟩:=hp
  obtain ⟨⟨n0,n8⟩,⟨b0,b8⟩,i0,i1⟩:=id hB
  have hbig:=lenE_big hE (by omega)
  refine ⟨by rw [fuelC]; show (s.I - k.I).toNat < _; omega,?_⟩
  rw [roundTK_head (j:=y) (n:=2) hy (by decide)]
  refine rd_runY (t86_7_2 n' b s i t k o x) ?_
  obtain ⟨K,hK⟩:∃ K:Nat,k.I = K:=⟨k.I.toNat,by omega⟩
  have z0:Int.toNat 0 = 0:=rfl
  simp only [hK,hs,ht,z0,Int.toNat_natCast,Int.sub_zero] at h k0 k1 ht8 ht0 ⊢
  refine rd_if (fun hlt=>?_) fun hge=>?_
  ·have hkl:K < o.L.length:=by omega
   rw [extE_step hkl,← List.append_assoc] at h
   have hmu:((o.L.length:Int) - ((K + 1:Nat):Int)).toNat < (s.I - k.I).toNat:=by omega
   have hcl:=consE_len (c:=o.L.getD K []) b.I.toNat 0
   rw [wrap_succ (by omega)]
   refine rd_yes ⟨by trivial,hB,by trivial,hE,⟨by omega,by omega⟩,⟨by omega,by omega⟩,by trivial,by omega⟩ (rd_again ((need_yes ⟨rfl,hB,hin,rfl,hE,⟨by simp only [I_i]; omega,by simp only [I_i]; omega⟩,rfl,by simp only [I_i,List.length_append]; omega,by simp only [I_i,List.length_append]; omega⟩).trans ?_) hmu)
   simp only [I_i,L_l,Int.toNat_natCast]
   exact h
  ·rw [List.drop_eq_nil_of_le (by omega)] at h
   simp only [extE,List.append_nil] at h
   exact rd_out h
 ·cases h
def μ863 (ds:List D):Nat:=match ds with
 | [_,n,_,i]=>(n.I - i.I).toNat
 | [_,n,_,_,i,_]=>(n.I - i.I).toNat
 | _=>0
set_option maxHeartbeats 1000000 in
theorem ok86_3 (n:Nat):LoopSim C n 86 (loopOf C.P 86 3) (mkL l86_3 G86_3):=by
 refine loop_ofK hC (sp:=sp86) (lp:=lp86) (sw:=sw86) trivial trivial 0 [7] (by kernel_rfl) (by kernel_rfl) (fun k hk L hL=>by simp at hk; subst hk; cases hL; exact ok86_7 n) (by kernel_rfl) μ863 fun ds rr h=>?_
 unfold G86_3 at h
 split at h
 ·rename_i y n' b i
  obtain ⟨hp,h⟩:=need_some h
  rw [yes_iff] at hp
  obtain ⟨hy,hB⟩:=hp
  obtain ⟨⟨n0,n8⟩,⟨b0,b8⟩,i0,i1⟩:=id hB
  refine ⟨by rw [fuelC]; show (n'.I - i.I).toNat < _; omega,?_⟩
  rw [roundTK_head (j:=y) (n:=0) hy (by decide)]
  refine rd_runY (t86_3_0 n' b i) ?_
  refine rd_if (fun hlt=>?_) fun hge=>rd_out h
  have w1:IntKind.i64.wrap (i.I + 1) = i.I + 1:=wrap_id (by omega) (by omega)
  rw [w1]
  exact rd_yes ⟨by trivial,by omega⟩ (rd_again ((need_yes ⟨rfl,⟨⟨n0,n8⟩,⟨b0,b8⟩,by simp only [I_i]; omega,by simp only [I_i]; omega⟩⟩).trans h) (show (n'.I - (i.I + 1)).toNat < (n'.I - i.I).toNat by omega))
 ·rename_i y n' b s i o
  obtain ⟨hp,h⟩:=need_some h
  rw [yes_iff] at hp
  obtain ⟨hy,hB,⟨hs,hs0⟩,hE⟩:=hp
  obtain ⟨⟨n0,n8⟩,⟨b0,b8⟩,i0,i1⟩:=id hB
  refine ⟨by rw [fuelC]; show (n'.I - i.I).toNat < _; omega,?_⟩
  rw [roundTK_head (j:=y) (n:=1) hy (by decide)]
  refine rd_runY (t86_3_1 n' b s i o) ?_
  obtain ⟨X,hX⟩:∃ X:Nat,i.I = X:=⟨i.I.toNat,by omega⟩
  have z0:Int.toNat 0 = 0:=rfl
  rw [hX] at hE
  have hE':=lenE_ext hE (b:=b.I.toNat) (by omega)
  simp only [hX,hs,z0,Int.toNat_natCast,List.drop_zero] at h i0 i1 hB hE ⊢
  refine rd_if (fun hlt=>?_) fun hge=>?_
  ·rw [iterE_step hlt] at h
   have hmu:(n'.I - ((X + 1:Nat):Int)).toNat < (n'.I - i.I).toNat:=by omega
   have hB':bdE n'.I b.I ((X + 1:Nat):Int):=⟨⟨n0,n8⟩,⟨b0,b8⟩,by omega,by omega⟩
   rw [wrap_succ (by omega)]
   refine rd_yes ⟨by trivial,hB,hlt,by trivial,hE,by omega,by omega⟩ (rd_ite (fun c=>?_) fun c=>?_)
   ·rw [List.isEmpty_iff.1 c,iterE_nil] at h
    exact rd_again ((need_yes ⟨rfl,hB'⟩).trans h) hmu
   ·refine rd_again ((need_yes ⟨rfl,hB',⟨rfl,by have:=ne_len c; simp only [I_i]; omega⟩,hE'⟩).trans ?_) hmu
    simp only [I_i,L_l,Int.toNat_natCast]
    exact h
  ·rw [iterE_end hge] at h
   rw [run_ite,if_neg (by rw [len_ne (by omega:0 < o.L.length)]; decide)] at h
   exact rd_out h
 ·cases h
theorem ok86 (n:Nat):FnOKW C (n + 1) 86 (mkFW s86 G86):=by
 refine fn_ofW hC (sp:=sp86) (lp:=lp86) (sw:=sw86) trivial trivial (by kernel_rfl) [3] (by kernel_rfl) (by kernel_rfl) (fun k hk L hL=>by simp at hk; subst hk; cases hL; exact ok86_3 n) fun ds rr h=>?_
 unfold G86 at h
 split at h
 ·rename_i a b
  obtain ⟨hp,h⟩:=need_some h
  rw [yes_iff] at hp
  refine (t86 a b).trans ?_
  simp only [Int.toNat_natCast,Int.sub_zero]
  refine go_yes ⟨by trivial,⟨hp.1,hp.2,by omega,hp.1.1⟩,by first | trivial | exact ⟨by trivial,by simp⟩,⟨by simp,fun k hk=>?_⟩⟩ h
  have hk:k < 1:=hk
  have:k = 0:=by omega
  subst this
  rfl
 ·cases h
noncomputable section
def partX (S M:List (List D)) (i k:Int):List (List D):=(M.drop k.toNat).map (rowE (S.getD i.toNat []))
def bd57 (K L A n:Int):Prop:=(1 ≤ K ∧ K ≤ 4) ∧ (0 ≤ L ∧ L ≤ 4) ∧ (0 ≤ A ∧ A ≤ 4) ∧ 0 ≤ n ∧ n ≤ A + 1
def bdX (S M:List (List D)) (s m i:Int):Prop:=(s = S.length ∧ S.length ≤ 256) ∧ (m = M.length ∧ M.length ≤ 256) ∧ 0 ≤ i ∧ i ≤ s
def G57_11_2 (y K L A n s m i k S M:D):T (Ex × List D):=.need (yes (y.I = 2 ∧ (0 ≤ n.I ∧ n.I ≤ 4) ∧ bdX S.L M.L s.I m.I i.I ∧ i.I < s.I ∧ 0 ≤ k.I ∧ k.I ≤ m.I))
 (.ite (partX S.L M.L i.I k.I).isEmpty (.leaf (.exit 4,[.i 2,.i K.I,.i L.I,.i A.I,.i n.I,.i s.I,.i m.I,.i i.I,.l S.L,.l M.L]))
  (.leaf (.exit 4,[.i 3,.i K.I,.i L.I,.i A.I,.i (partX S.L M.L i.I k.I).length,.i n.I,.i s.I,.i m.I,.i i.I,.l (partX S.L M.L i.I k.I),.l S.L,.l M.L])))
def G57_11_3 (y K L A u n s m i k O S M:D):T (Ex × List D):=.need (yes (y.I = 3 ∧ (0 ≤ n.I ∧ n.I ≤ 4) ∧ bdX S.L M.L s.I m.I i.I ∧ i.I < s.I ∧ (0 ≤ k.I ∧ k.I ≤ m.I) ∧ u.I = O.L.length ∧ u.I ≤ 65536 * n.I + 256 * i.I + k.I))
 (.leaf (.exit 4,[.i 3,.i K.I,.i L.I,.i A.I,.i (O.L ++ partX S.L M.L i.I k.I).length,.i n.I,.i s.I,.i m.I,.i i.I,.l (O.L ++ partX S.L M.L i.I k.I),.l S.L,.l M.L]))
def G57_11 (ds:List D):T (Ex × List D):=match ds with
 | [y,K,L,A,n,s,m,i,k,S,M]=>bif y.I == 2 then G57_11_2 y K L A n s m i k S M else .fail
 | [y,K,L,A,u,n,s,m,i,k,O,S,M]=>G57_11_3 y K L A u n s m i k O S M
 | _=>.fail
def restX (S M:List (List D)) (i:Int):List (List D):=allP M (S.drop i.toNat)
def G57_8_2 (y K L A n _m i _M:D):T (Ex × List D):=.need (yes (y.I = 2 ∧ 0 ≤ i.I)) (.leaf (.exit 2,[.i 0,.i K.I,.i L.I,.i A.I,.i n.I]))
def G57_8_3 (y K L A u n _m i O _M:D):T (Ex × List D):=.need (yes (y.I = 3 ∧ 0 ≤ i.I ∧ u.I = O.L.length ∧ n.I ≤ 4)) (.leaf (.exit 2,[.i 1,.i K.I,.i L.I,.i A.I,.i u.I,.i n.I,.l O.L]))
def G57_8_6 (y K L A n s m i S M:D):T (Ex × List D):=.need (yes (y.I = 6 ∧ (0 ≤ n.I ∧ n.I ≤ 4) ∧ bdX S.L M.L s.I m.I i.I))
 (.ite (restX S.L M.L i.I).isEmpty (.leaf (.exit 2,[.i 0,.i K.I,.i L.I,.i A.I,.i n.I])) (.leaf (.exit 2,[.i 1,.i K.I,.i L.I,.i A.I,.i (restX S.L M.L i.I).length,.i n.I,.l (restX S.L M.L i.I)])))
def G57_8_7 (y K L A u n s m i O S M:D):T (Ex × List D):=.need (yes (y.I = 7 ∧ (0 ≤ n.I ∧ n.I ≤ 4) ∧ bdX S.L M.L s.I m.I i.I ∧ u.I = O.L.length ∧ u.I ≤ 65536 * n.I + 256 * i.I))
 (.leaf (.exit 2,[.i 1,.i K.I,.i L.I,.i A.I,.i (O.L ++ restX S.L M.L i.I).length,.i n.I,.l (O.L ++ restX S.L M.L i.I)]))
def G57_8 (ds:List D):T (Ex × List D):=match ds with
 | [y,K,L,A,n,m,i,M]=>bif y.I == 2 then G57_8_2 y K L A n m i M else .fail
 | [y,K,L,A,n,s,m,i,S,M]=>bif y.I == 3 then G57_8_3 y K L A n s m i S M else (bif y.I == 6 then G57_8_6 y K L A n s m i S M else .fail)
 | [y,K,L,A,u,n,s,m,i,O,S,M]=>G57_8_7 y K L A u n s m i O S M
 | _=>.fail
def restN (K L A n:Int):List (List D):=allN K.toNat L.toNat n.toNat (A + 1 - n).toNat
def G57_3 (ds:List D):T (Ex × List D):=match ds with
 | [y,K,L,A,n]=>.need (yes (y.I = 0 ∧ bd57 K.I L.I A.I n.I)) (.ite (restN K.I L.I A.I n.I).isEmpty (.leaf (.exit 0,[.i 0])) (.leaf (.exit 0,[.i 1,.i (restN K.I L.I A.I n.I).length,.l (restN K.I L.I A.I n.I)])))
 | [y,K,L,A,u,n,O]=>.need (yes (y.I = 1 ∧ bd57 K.I L.I A.I n.I ∧ u.I = O.L.length ∧ u.I ≤ 65536 * n.I ∧ 0 < u.I)) (.leaf (.exit 0,[.i 1,.i (O.L ++ restN K.I L.I A.I n.I).length,.l (O.L ++ restN K.I L.I A.I n.I)]))
 | _=>.fail
def G57 (ds:List D):T (List D):=match ds with
 | [K,L,A]=>.need (yes (bd57 K.I L.I A.I 0)) (.ite (restN K.I L.I A.I 0).isEmpty (.leaf [.i 0]) (.leaf [.i 1,.i (restN K.I L.I A.I 0).length,.l (restN K.I L.I A.I 0)]))
 | _=>.fail
def plR (bs bc bw met:D):Pl:=⟨met.B,bs.L,bc.L,bw.I⟩
def G23_4 (ds:List D):T (Ex × List D):=match ds with
 | [y,_cs,_ls,_A,met,i,rw,bs,bc,bw]=>.need (yes (y.I = 0 ∧ 0 ≤ i.I)) (.leaf (.exit 0,[.b met.B,.i rw.I,.l bs.L,.l bc.L,.i bw.I]))
 | [y, cs,ls,A,s,met,i,rw,al,bs,bc,bw]=>.need (yes (y.I = 1 ∧ taskOk cs.L ls.L A.I = true ∧ s.I = al.L.length ∧ al.L.length ≤ 1000000 ∧ 0 ≤ i.I ∧ i.I ≤ s.I))
     (.leaf (.exit 0,[.b (foldR cs.L ls.L A.I (al.L.drop i.I.toNat) (plR bs bc bw met)).fd,.i rw.I,.l (foldR cs.L ls.L A.I (al.L.drop i.I.toNat) (plR bs bc bw met)).sets,.l (foldR cs.L ls.L A.I (al.L.drop i.I.toNat) (plR bs bc bw met)).cp,.i (foldR cs.L ls.L A.I (al.L.drop i.I.toNat) (plR bs bc bw met)).w]))
 | _=>.fail
def G23 (ds:List D):T (List D):=match ds with
 | [cs, ls,A]=>.need (yes (taskOk cs.L ls.L A.I = true ∧ cs.L.length ≤ 4 ∧ ls.L.length ≤ 4 ∧ A.I ≤ 4))
     (.leaf [.l (tyreR cs.L ls.L A.I).sets,.l (tyreR cs.L ls.L A.I).cp,.i (tyreR cs.L ls.L A.I).w,.b (tyreR cs.L ls.L A.I).fd])
 | _=>.fail
end
def s57:SigW:=⟨[.k (.int .i64),.k (.int .i64),.k (.int .i64)],[],[(.nils,[]),(.sl 0 3,[.row [.ro [.int .i64],.ro [.int .i64],.int .i64]])]⟩
def l57_3:LSig:=mkLS [0,1,2,7,8] [(49,[(0,.k (.int .i64)),(1,.k (.int .i64)),(2,.k (.int .i64)),(7,.nils),(8,.k (.int .i64))],[]),(49,[(0,.k (.int .i64)),(1,.k (.int .i64)),(2,.k (.int .i64)),(7,.sl 0 3),(8,.k (.int .i64))],[.row [.ro [.int .i64],.ro [.int .i64],.int .i64]])] [(.exit 0,[7],[(49,[(7,.nils)],[]),(49,[(7,.sl 0 3)],[.row [.ro [.int .i64],.ro [.int .i64],.int .i64]])])]
def l57_8:LSig:=mkLS [0,1,2,7,8,9,10,11] [(49,[(0,.k (.int .i64)),(1,.k (.int .i64)),(2,.k (.int .i64)),(7,.nils),(8,.k (.int .i64)),(9,.nils),(10,.nils),(11,.k (.int .i64))],[]),(49,[(0,.k (.int .i64)),(1,.k (.int .i64)),(2,.k (.int .i64)),(7,.sl 0 3),(8,.k (.int .i64)),(9,.nils),(10,.nils),(11,.k (.int .i64))],[.row [.ro [.int .i64],.ro [.int .i64],.int .i64]]),(49,[(0,.k (.int .i64)),(1,.k (.int .i64)),(2,.k (.int .i64)),(7,.nils),(8,.k (.int .i64)),(9,.nils),(10,.sl 0 1),(11,.k (.int .i64))],[.row [.ro [.int .i64]]]),(49,[(0,.k (.int .i64)),(1,.k (.int .i64)),(2,.k (.int .i64)),(7,.sl 0 3),(8,.k (.int .i64)),(9,.nils),(10,.sl 1 1),(11,.k (.int .i64))],[.row [.ro [.int .i64],.ro [.int .i64],.int .i64],.row [.ro [.int .i64]]]),(49,[(0,.k (.int .i64)),(1,.k (.int .i64)),(2,.k (.int .i64)),(7,.nils),(8,.k (.int .i64)),(9,.sl 0 1),(10,.nils),(11,.k (.int .i64))],[.row [.ro [.int .i64]]]),(49,[(0,.k (.int .i64)),(1,.k (.int .i64)),(2,.k (.int .i64)),(7,.sl 0 3),(8,.k (.int .i64)),(9,.sl 1 1),(10,.nils),(11,.k (.int .i64))],[.row [.ro [.int .i64],.ro [.int .i64],.int .i64],.row [.ro [.int .i64]]]),(49,[(0,.k (.int .i64)),(1,.k (.int .i64)),(2,.k (.int .i64)),(7,.nils),(8,.k (.int .i64)),(9,.sl 0 1),(10,.sl 1 1),(11,.k (.int .i64))],[.row [.ro [.int .i64]],.row [.ro [.int .i64]]]),(49,[(0,.k (.int .i64)),(1,.k (.int .i64)),(2,.k (.int .i64)),(7,.sl 0 3),(8,.k (.int .i64)),(9,.sl 1 1),(10,.sl 2 1),(11,.k (.int .i64))],[.row [.ro [.int .i64],.ro [.int .i64],.int .i64],.row [.ro [.int .i64]],.row [.ro [.int .i64]]])] [(.exit 2,[0,1,2,7,8],[(49,[(0,.k (.int .i64)),(1,.k (.int .i64)),(2,.k (.int .i64)),(7,.nils),(8,.k (.int .i64))],[]),(49,[(0,.k (.int .i64)),(1,.k (.int .i64)),(2,.k (.int .i64)),(7,.sl 0 3),(8,.k (.int .i64))],[.row [.ro [.int .i64],.ro [.int .i64],.int .i64]])])]
def l57_11:LSig:=mkLS [0,1,2,7,8,9,10,11,12] [(49,[(0,.k (.int .i64)),(1,.k (.int .i64)),(2,.k (.int .i64)),(7,.nils),(8,.k (.int .i64)),(9,.sl 0 1),(10,.nils),(11,.k (.int .i64)),(12,.k (.int .i64))],[.row [.ro [.int .i64]]]),(49,[(0,.k (.int .i64)),(1,.k (.int .i64)),(2,.k (.int .i64)),(7,.sl 0 3),(8,.k (.int .i64)),(9,.sl 1 1),(10,.nils),(11,.k (.int .i64)),(12,.k (.int .i64))],[.row [.ro [.int .i64],.ro [.int .i64],.int .i64],.row [.ro [.int .i64]]]),(49,[(0,.k (.int .i64)),(1,.k (.int .i64)),(2,.k (.int .i64)),(7,.nils),(8,.k (.int .i64)),(9,.sl 0 1),(10,.sl 1 1),(11,.k (.int .i64)),(12,.k (.int .i64))],[.row [.ro [.int .i64]],.row [.ro [.int .i64]]]),(49,[(0,.k (.int .i64)),(1,.k (.int .i64)),(2,.k (.int .i64)),(7,.sl 0 3),(8,.k (.int .i64)),(9,.sl 1 1),(10,.sl 2 1),(11,.k (.int .i64)),(12,.k (.int .i64))],[.row [.ro [.int .i64],.ro [.int .i64],.int .i64],.row [.ro [.int .i64]],.row [.ro [.int .i64]]])] [(.exit 4,[0,1,2,7,8,9,10,11],[(49,[(0,.k (.int .i64)),(1,.k (.int .i64)),(2,.k (.int .i64)),(7,.nils),(8,.k (.int .i64)),(9,.sl 0 1),(10,.nils),(11,.k (.int .i64))],[.row [.ro [.int .i64]]]),(49,[(0,.k (.int .i64)),(1,.k (.int .i64)),(2,.k (.int .i64)),(7,.sl 0 3),(8,.k (.int .i64)),(9,.sl 1 1),(10,.nils),(11,.k (.int .i64))],[.row [.ro [.int .i64],.ro [.int .i64],.int .i64],.row [.ro [.int .i64]]]),(49,[(0,.k (.int .i64)),(1,.k (.int .i64)),(2,.k (.int .i64)),(7,.nils),(8,.k (.int .i64)),(9,.sl 0 1),(10,.sl 1 1),(11,.k (.int .i64))],[.row [.ro [.int .i64]],.row [.ro [.int .i64]]]),(49,[(0,.k (.int .i64)),(1,.k (.int .i64)),(2,.k (.int .i64)),(7,.sl 0 3),(8,.k (.int .i64)),(9,.sl 1 1),(10,.sl 2 1),(11,.k (.int .i64))],[.row [.ro [.int .i64],.ro [.int .i64],.int .i64],.row [.ro [.int .i64]],.row [.ro [.int .i64]]])])]
def s23:SigW:=⟨[.k (.ro [.ro [.ro [.int .i64,.int .i64]],.ro [.ro [.int .i64,.int .i64]],.ro [.int .i64],.int .i64]),.k (.ro [.ro [.int .i64,.int .i64,.int .i64,.bool]]),.k (.int .i64)],[],[(.tup [.agg [.k (.ro [.int .i64]),.k (.ro [.int .i64]),.k (.int .i64)],.k .bool],[])]⟩
def l23_4:LSig:=mkLS [0,1,2,6,8,9,10,11] [(57,[(0,.k (.ro [.ro [.ro [.int .i64,.int .i64]],.ro [.ro [.int .i64,.int .i64]],.ro [.int .i64],.int .i64])),(1,.k (.ro [.ro [.int .i64,.int .i64,.int .i64,.bool]])),(2,.k (.int .i64)),(6,.ptr 0 3 0 0),(8,.nils),(9,.ptr 1 3 0 0),(10,.k .bool),(11,.k (.int .i64))],[.box [.nils,.nils,.k (.int .i64)],.box [.k (.ro [.int .i64]),.k (.ro [.int .i64]),.k (.int .i64)]]),(57,[(0,.k (.ro [.ro [.ro [.int .i64,.int .i64]],.ro [.ro [.int .i64,.int .i64]],.ro [.int .i64],.int .i64])),(1,.k (.ro [.ro [.int .i64,.int .i64,.int .i64,.bool]])),(2,.k (.int .i64)),(6,.ptr 0 3 0 0),(8,.sl 1 3),(9,.ptr 2 3 0 0),(10,.k .bool),(11,.k (.int .i64))],[.box [.nils,.nils,.k (.int .i64)],.row [.ro [.int .i64],.ro [.int .i64],.int .i64],.box [.k (.ro [.int .i64]),.k (.ro [.int .i64]),.k (.int .i64)]])] [(.exit 0,[6,9,10],[(57,[(6,.ptr 0 3 0 0),(9,.ptr 1 3 0 0),(10,.k .bool)],[.box [.nils,.nils,.k (.int .i64)],.box [.k (.ro [.int .i64]),.k (.ro [.int .i64]),.k (.int .i64)]])])]
noncomputable section
def G16 (ds:List D):T (List D):=match ds with
 | []=>.leaf [.b true]
 | _=>.fail
end
def s4:Sig:=⟨[.k (.ro [.ro [.ro [.int .i64,.int .i64]],.ro [.ro [.int .i64,.int .i64]],.ro [.int .i64],.int .i64]),.k (.ro [.ro [.int .i64,.int .i64,.int .i64,.bool]]),.k (.int .i64)],[(.k .bool,[])]⟩
noncomputable def sp4:SpL:=[(20,mkF s20 G20),(16,mkF s16 G16),(22,mkF s22 G22),(24,mkF s24 G24)]
noncomputable def lp4:LpL:=[]
noncomputable def sw4:SwL:=[(21,mkFW s21 G21),(23,mkFW s23 G23)]
noncomputable def tab4:Tab:=mkTab sp4 lp4 sw4
set_option linter.unusedVariables false
set_option maxRecDepth 100000
theorem t4 (a b c:D):(fnT C tab4 4 s4 [a,b,c]).run =
 T.run (T.ite (!fewOk a.L b.L) (T.leaf [D.b true]) (T.ite (decide ((a.L.length:Int) > (2:Int))) (T.ite (decide ((a.L.length:Int) ≤ (8:Int))) (T.leaf [D.b true]) (T.ite (decide ((b.L.length:Int) > (4:Int))) (T.ite (decide ((b.L.length:Int) ≤ (8:Int))) (T.leaf [D.b true]) (T.ite (decide (c.I > (3:Int))) (T.ite (decide (c.I ≤ (8:Int))) (T.leaf [D.b true]) (T.need (yes (smallCs a.L)) (T.ite (taskOk a.L b.L c.I) (T.ite (tyreF a.L b.L c.I).fd (T.need (yes (smallCs a.L ∧ ∀ (j:Nat),j < b.L.length → List.length (rowAt b.L j) < lim)) (T.ite (!taskOk a.L b.L c.I) (T.leaf [D.b false]) (T.need (yes (taskOk a.L b.L c.I = true ∧ a.L.length ≤ 4 ∧ b.L.length ≤ 4 ∧ c.I ≤ (4:Int))) (T.ite (!(tyreR a.L b.L c.I).fd) (T.leaf [D.b false]) (T.need (yes (List.length (tyreF a.L b.L c.I).sets < big)) (T.ite (sameL (tyreF a.L b.L c.I).sets (tyreR a.L b.L c.I).sets) (T.need (yes (List.length (tyreF a.L b.L c.I).cp < big)) (T.ite (sameL (tyreF a.L b.L c.I).cp (tyreR a.L b.L c.I).cp) (T.ite ((tyreF a.L b.L c.I).w == (tyreR a.L b.L c.I).w) (T.leaf [D.b true]) (T.leaf [D.b false])) (T.leaf [D.b false]))) (T.leaf [D.b false]))))))) (T.need (yes (smallCs a.L ∧ ∀ (j:Nat),j < b.L.length → List.length (rowAt b.L j) < lim)) (T.ite (!taskOk a.L b.L c.I) (T.leaf [D.b false]) (T.need (yes (taskOk a.L b.L c.I = true ∧ a.L.length ≤ 4 ∧ b.L.length ≤ 4 ∧ c.I ≤ (4:Int))) (T.ite (!(tyreR a.L b.L c.I).fd) (T.leaf [D.b true]) (T.leaf [D.b false])))))) (T.need (yes (smallCs a.L ∧ ∀ (j:Nat),j < b.L.length → List.length (rowAt b.L j) < lim)) (T.ite (!taskOk a.L b.L c.I) (T.leaf [D.b true]) (T.need (yes (taskOk a.L b.L c.I = true ∧ a.L.length ≤ 4 ∧ b.L.length ≤ 4 ∧ c.I ≤ (4:Int))) (T.ite (!(tyreR a.L b.L c.I).fd) (T.leaf [D.b false]) (T.leaf [D.b false])))))))) (T.need (yes (smallCs a.L)) (T.ite (taskOk a.L b.L c.I) (T.ite (tyreF a.L b.L c.I).fd (T.need (yes (smallCs a.L ∧ ∀ (j:Nat),j < b.L.length → List.length (rowAt b.L j) < lim)) (T.ite (!taskOk a.L b.L c.I) (T.leaf [D.b false]) (T.need (yes (taskOk a.L b.L c.I = true ∧ a.L.length ≤ 4 ∧ b.L.length ≤ 4 ∧ c.I ≤ (4:Int))) (T.ite (!(tyreR a.L b.L c.I).fd) (T.leaf [D.b false]) (T.need (yes (List.length (tyreF a.L b.L c.I).sets < big)) (T.ite (sameL (tyreF a.L b.L c.I).sets (tyreR a.L b.L c.I).sets) (T.need (yes (List.length (tyreF a.L b.L c.I).cp < big)) (T.ite (sameL (tyreF a.L b.L c.I).cp (tyreR a.L b.L c.I).cp) (T.ite ((tyreF a.L b.L c.I).w == (tyreR a.L b.L c.I).w) (T.leaf [D.b true]) (T.leaf [D.b false])) (T.leaf [D.b false]))) (T.leaf [D.b false]))))))) (T.need (yes (smallCs a.L ∧ ∀ (j:Nat),j < b.L.length → List.length (rowAt b.L j) < lim)) (T.ite (!taskOk a.L b.L c.I) (T.leaf [D.b false]) (T.need (yes (taskOk a.L b.L c.I = true ∧ a.L.length ≤ 4 ∧ b.L.length ≤ 4 ∧ c.I ≤ (4:Int))) (T.ite (!(tyreR a.L b.L c.I).fd) (T.leaf [D.b true]) (T.leaf [D.b false])))))) (T.need (yes (smallCs a.L ∧ ∀ (j:Nat),j < b.L.length → List.length (rowAt b.L j) < lim)) (T.ite (!taskOk a.L b.L c.I) (T.leaf [D.b true]) (T.need (yes (taskOk a.L b.L c.I = true ∧ a.L.length ≤ 4 ∧ b.L.length ≤ 4 ∧ c.I ≤ (4:Int))) (T.ite (!(tyreR a.L b.L c.I).fd) (T.leaf [D.b false]) (T.leaf [D.b false]))))))))) (T.ite (decide (c.I > (3:Int))) (T.ite (decide (c.I ≤ (8:Int))) (T.leaf [D.b true]) (T.need (yes (smallCs a.L)) (T.ite (taskOk a.L b.L c.I) (T.ite (tyreF a.L b.L c.I).fd (T.need (yes (smallCs a.L ∧ ∀ (j:Nat),j < b.L.length → List.length (rowAt b.L j) < lim)) (T.ite (!taskOk a.L b.L c.I) (T.leaf [D.b false]) (T.need (yes (taskOk a.L b.L c.I = true ∧ a.L.length ≤ 4 ∧ b.L.length ≤ 4 ∧ c.I ≤ (4:Int))) (T.ite (!(tyreR a.L b.L c.I).fd) (T.leaf [D.b false]) (T.need (yes (List.length (tyreF a.L b.L c.I).sets < big)) (T.ite (sameL (tyreF a.L b.L c.I).sets (tyreR a.L b.L c.I).sets) (T.need (yes (List.length (tyreF a.L b.L c.I).cp < big)) (T.ite (sameL (tyreF a.L b.L c.I).cp (tyreR a.L b.L c.I).cp) (T.ite ((tyreF a.L b.L c.I).w == (tyreR a.L b.L c.I).w) (T.leaf [D.b true]) (T.leaf [D.b false])) (T.leaf [D.b false]))) (T.leaf [D.b false]))))))) (T.need (yes (smallCs a.L ∧ ∀ (j:Nat),j < b.L.length → List.length (rowAt b.L j) < lim)) (T.ite (!taskOk a.L b.L c.I) (T.leaf [D.b false]) (T.need (yes (taskOk a.L b.L c.I = true ∧ a.L.length ≤ 4 ∧ b.L.length ≤ 4 ∧ c.I ≤ (4:Int))) (T.ite (!(tyreR a.L b.L c.I).fd) (T.leaf [D.b true]) (T.leaf [D.b false])))))) (T.need (yes (smallCs a.L ∧ ∀ (j:Nat),j < b.L.length → List.length (rowAt b.L j) < lim)) (T.ite (!taskOk a.L b.L c.I) (T.leaf [D.b true]) (T.need (yes (taskOk a.L b.L c.I = true ∧ a.L.length ≤ 4 ∧ b.L.length ≤ 4 ∧ c.I ≤ (4:Int))) (T.ite (!(tyreR a.L b.L c.I).fd) (T.leaf [D.b false]) (T.leaf [D.b false])))))))) (T.need (yes (smallCs a.L)) (T.ite (taskOk a.L b.L c.I) (T.ite (tyreF a.L b.L c.I).fd (T.need (yes (smallCs a.L ∧ ∀ (j:Nat),j < b.L.length → List.length (rowAt b.L j) < lim)) (T.ite (!taskOk a.L b.L c.I) (T.leaf [D.b false]) (T.need (yes (taskOk a.L b.L c.I = true ∧ a.L.length ≤ 4 ∧ b.L.length ≤ 4 ∧ c.I ≤ (4:Int))) (T.ite (!(tyreR a.L b.L c.I).fd) (T.leaf [D.b false]) (T.need (yes (List.length (tyreF a.L b.L c.I).sets < big)) (T.ite (sameL (tyreF a.L b.L c.I).sets (tyreR a.L b.L c.I).sets) (T.need (yes (List.length (tyreF a.L b.L c.I).cp < big)) (T.ite (sameL (tyreF a.L b.L c.I).cp (tyreR a.L b.L c.I).cp) (T.ite ((tyreF a.L b.L c.I).w == (tyreR a.L b.L c.I).w) (T.leaf [D.b true]) (T.leaf [D.b false])) (T.leaf [D.b false]))) (T.leaf [D.b false]))))))) (T.need (yes (smallCs a.L ∧ ∀ (j:Nat),j < b.L.length → List.length (rowAt b.L j) < lim)) (T.ite (!taskOk a.L b.L c.I) (T.leaf [D.b false]) (T.need (yes (taskOk a.L b.L c.I = true ∧ a.L.length ≤ 4 ∧ b.L.length ≤ 4 ∧ c.I ≤ (4:Int))) (T.ite (!(tyreR a.L b.L c.I).fd) (T.leaf [D.b true]) (T.leaf [D.b false])))))) (T.need (yes (smallCs a.L ∧ ∀ (j:Nat),j < b.L.length → List.length (rowAt b.L j) < lim)) (T.ite (!taskOk a.L b.L c.I) (T.leaf [D.b true]) (T.need (yes (taskOk a.L b.L c.I = true ∧ a.L.length ≤ 4 ∧ b.L.length ≤ 4 ∧ c.I ≤ (4:Int))) (T.ite (!(tyreR a.L b.L c.I).fd) (T.leaf [D.b false]) (T.leaf [D.b false])))))))))) (T.ite (decide ((b.L.length:Int) > (4:Int))) (T.ite (decide ((b.L.length:Int) ≤ (8:Int))) (T.leaf [D.b true]) (T.ite (decide (c.I > (3:Int))) (T.ite (decide (c.I ≤ (8:Int))) (T.leaf [D.b true]) (T.need (yes (smallCs a.L)) (T.ite (taskOk a.L b.L c.I) (T.ite (tyreF a.L b.L c.I).fd (T.need (yes (smallCs a.L ∧ ∀ (j:Nat),j < b.L.length → List.length (rowAt b.L j) < lim)) (T.ite (!taskOk a.L b.L c.I) (T.leaf [D.b false]) (T.need (yes (taskOk a.L b.L c.I = true ∧ a.L.length ≤ 4 ∧ b.L.length ≤ 4 ∧ c.I ≤ (4:Int))) (T.ite (!(tyreR a.L b.L c.I).fd) (T.leaf [D.b false]) (T.need (yes (List.length (tyreF a.L b.L c.I).sets < big)) (T.ite (sameL (tyreF a.L b.L c.I).sets (tyreR a.L b.L c.I).sets) (T.need (yes (List.length (tyreF a.L b.L c.I).cp < big)) (T.ite (sameL (tyreF a.L b.L c.I).cp (tyreR a.L b.L c.I).cp) (T.ite ((tyreF a.L b.L c.I).w == (tyreR a.L b.L c.I).w) (T.leaf [D.b true]) (T.leaf [D.b false])) (T.leaf [D.b false]))) (T.leaf [D.b false]))))))) (T.need (yes (smallCs a.L ∧ ∀ (j:Nat),j < b.L.length → List.length (rowAt b.L j) < lim)) (T.ite (!taskOk a.L b.L c.I) (T.leaf [D.b false]) (T.need (yes (taskOk a.L b.L c.I = true ∧ a.L.length ≤ 4 ∧ b.L.length ≤ 4 ∧ c.I ≤ (4:Int))) (T.ite (!(tyreR a.L b.L c.I).fd) (T.leaf [D.b true]) (T.leaf [D.b false])))))) (T.need (yes (smallCs a.L ∧ ∀ (j:Nat),j < b.L.length → List.length (rowAt b.L j) < lim)) (T.ite (!taskOk a.L b.L c.I) (T.leaf [D.b true]) (T.need (yes (taskOk a.L b.L c.I = true ∧ a.L.length ≤ 4 ∧ b.L.length ≤ 4 ∧ c.I ≤ (4:Int))) (T.ite (!(tyreR a.L b.L c.I).fd) (T.leaf [D.b false]) (T.leaf [D.b false])))))))) (T.need (yes (smallCs a.L)) (T.ite (taskOk a.L b.L c.I) (T.ite (tyreF a.L b.L c.I).fd (T.need (yes (smallCs a.L ∧ ∀ (j:Nat),j < b.L.length → List.length (rowAt b.L j) < lim)) (T.ite (!taskOk a.L b.L c.I) (T.leaf [D.b false]) (T.need (yes (taskOk a.L b.L c.I = true ∧ a.L.length ≤ 4 ∧ b.L.length ≤ 4 ∧ c.I ≤ (4:Int))) (T.ite (!(tyreR a.L b.L c.I).fd) (T.leaf [D.b false]) (T.need (yes (List.length (tyreF a.L b.L c.I).sets < big)) (T.ite (sameL (tyreF a.L b.L c.I).sets (tyreR a.L b.L c.I).sets) (T.need (yes (List.length (tyreF a.L b.L c.I).cp < big)) (T.ite (sameL (tyreF a.L b.L c.I).cp (tyreR a.L b.L c.I).cp) (T.ite ((tyreF a.L b.L c.I).w == (tyreR a.L b.L c.I).w) (T.leaf [D.b true]) (T.leaf [D.b false])) (T.leaf [D.b false]))) (T.leaf [D.b false]))))))) (T.need (yes (smallCs a.L ∧ ∀ (j:Nat),j < b.L.length → List.length (rowAt b.L j) < lim)) (T.ite (!taskOk a.L b.L c.I) (T.leaf [D.b false]) (T.need (yes (taskOk a.L b.L c.I = true ∧ a.L.length ≤ 4 ∧ b.L.length ≤ 4 ∧ c.I ≤ (4:Int))) (T.ite (!(tyreR a.L b.L c.I).fd) (T.leaf [D.b true]) (T.leaf [D.b false])))))) (T.need (yes (smallCs a.L ∧ ∀ (j:Nat),j < b.L.length → List.length (rowAt b.L j) < lim)) (T.ite (!taskOk a.L b.L c.I) (T.leaf [D.b true]) (T.need (yes (taskOk a.L b.L c.I = true ∧ a.L.length ≤ 4 ∧ b.L.length ≤ 4 ∧ c.I ≤ (4:Int))) (T.ite (!(tyreR a.L b.L c.I).fd) (T.leaf [D.b false]) (T.leaf [D.b false]))))))))) (T.ite (decide (c.I > (3:Int))) (T.ite (decide (c.I ≤ (8:Int))) (T.leaf [D.b true]) (T.need (yes (smallCs a.L)) (T.ite (taskOk a.L b.L c.I) (T.ite (tyreF a.L b.L c.I).fd (T.need (yes (smallCs a.L ∧ ∀ (j:Nat),j < b.L.length → List.length (rowAt b.L j) < lim)) (T.ite (!taskOk a.L b.L c.I) (T.leaf [D.b false]) (T.need (yes (taskOk a.L b.L c.I = true ∧ a.L.length ≤ 4 ∧ b.L.length ≤ 4 ∧ c.I ≤ (4:Int))) (T.ite (!(tyreR a.L b.L c.I).fd) (T.leaf [D.b false]) (T.need (yes (List.length (tyreF a.L b.L c.I).sets < big)) (T.ite (sameL (tyreF a.L b.L c.I).sets (tyreR a.L b.L c.I).sets) (T.need (yes (List.length (tyreF a.L b.L c.I).cp < big)) (T.ite (sameL (tyreF a.L b.L c.I).cp (tyreR a.L b.L c.I).cp) (T.ite ((tyreF a.L b.L c.I).w == (tyreR a.L b.L c.I).w) (T.leaf [D.b true]) (T.leaf [D.b false])) (T.leaf [D.b false]))) (T.leaf [D.b false]))))))) (T.need (yes (smallCs a.L ∧ ∀ (j:Nat),j < b.L.length → List.length (rowAt b.L j) < lim)) (T.ite (!taskOk a.L b.L c.I) (T.leaf [D.b false]) (T.need (yes (taskOk a.L b.L c.I = true ∧ a.L.length ≤ 4 ∧ b.L.length ≤ 4 ∧ c.I ≤ (4:Int))) (T.ite (!(tyreR a.L b.L c.I).fd) (T.leaf [D.b true]) (T.leaf [D.b false])))))) (T.need (yes (smallCs a.L ∧ ∀ (j:Nat),j < b.L.length → List.length (rowAt b.L j) < lim)) (T.ite (!taskOk a.L b.L c.I) (T.leaf [D.b true]) (T.need (yes (taskOk a.L b.L c.I = true ∧ a.L.length ≤ 4 ∧ b.L.length ≤ 4 ∧ c.I ≤ (4:Int))) (T.ite (!(tyreR a.L b.L c.I).fd) (T.leaf [D.b false]) (T.leaf [D.b false])))))))) (T.need (yes (smallCs a.L)) (T.ite (taskOk a.L b.L c.I) (T.ite (tyreF a.L b.L c.I).fd (T.need (yes (smallCs a.L ∧ ∀ (j:Nat),j < b.L.length → List.length (rowAt b.L j) < lim)) (T.ite (!taskOk a.L b.L c.I) (T.leaf [D.b false]) (T.need (yes (taskOk a.L b.L c.I = true ∧ a.L.length ≤ 4 ∧ b.L.length ≤ 4 ∧ c.I ≤ (4:Int))) (T.ite (!(tyreR a.L b.L c.I).fd) (T.leaf [D.b false]) (T.need (yes (List.length (tyreF a.L b.L c.I).sets < big)) (T.ite (sameL (tyreF a.L b.L c.I).sets (tyreR a.L b.L c.I).sets) (T.need (yes (List.length (tyreF a.L b.L c.I).cp < big)) (T.ite (sameL (tyreF a.L b.L c.I).cp (tyreR a.L b.L c.I).cp) (T.ite ((tyreF a.L b.L c.I).w == (tyreR a.L b.L c.I).w) (T.leaf [D.b true]) (T.leaf [D.b false])) (T.leaf [D.b false]))) (T.leaf [D.b false]))))))) (T.need (yes (smallCs a.L ∧ ∀ (j:Nat),j < b.L.length → List.length (rowAt b.L j) < lim)) (T.ite (!taskOk a.L b.L c.I) (T.leaf [D.b false]) (T.need (yes (taskOk a.L b.L c.I = true ∧ a.L.length ≤ 4 ∧ b.L.length ≤ 4 ∧ c.I ≤ (4:Int))) (T.ite (!(tyreR a.L b.L c.I).fd) (T.leaf [D.b true]) (T.leaf [D.b false])))))) (T.need (yes (smallCs a.L ∧ ∀ (j:Nat),j < b.L.length → List.length (rowAt b.L j) < lim)) (T.ite (!taskOk a.L b.L c.I) (T.leaf [D.b true]) (T.need (yes (taskOk a.L b.L c.I = true ∧ a.L.length ≤ 4 ∧ b.L.length ≤ 4 ∧ c.I ≤ (4:Int))) (T.ite (!(tyreR a.L b.L c.I).fd) (T.leaf [D.b false]) (T.leaf [D.b false]))))))))))):=by kernel_rfl
noncomputable def sp57:SpL:=[]
noncomputable def lp57:LpL:=[(3,mkL l57_3 G57_3),(8,mkL l57_8 G57_8),(11,mkL l57_11 G57_11)]
noncomputable def sw57:SwL:=[(86,mkFW s86 G86)]
noncomputable def tab57:Tab:=mkTab sp57 lp57 sw57
noncomputable def sp23:SpL:=[(41,mkF s41 G41)]
noncomputable def lp23:LpL:=[(4,mkL l23_4 G23_4)]
noncomputable def sw23:SwL:=[(57,mkFW s57 G57)]
noncomputable def tab23:Tab:=mkTab sp23 lp23 sw23
set_option linter.unusedVariables false
set_option maxRecDepth 100000
theorem t57 (a b c:D):(fnTW C tab57 57 s57 [a,b,c]).run =
 T.run (T.need (yes ((↑0:Int) = (0:Int) ∧ bd57 a.I b.I c.I (0:Int))) (T.ite (List.isEmpty (restN a.I b.I c.I (0:Int))) (T.leaf [D.i 0]) (T.leaf [D.i 1,D.i (↑(Int.toNat (↑(List.length (restN a.I b.I c.I (0:Int))):Int)):Int),D.l (restN a.I b.I c.I (0:Int))]))):=by kernel_rfl
theorem t57_3_0 (a b c d:D):(roundT C tab57 57 (loopOf C.P 57 3) l57_3 [.i 0,a,b,c,d]).run =
 T.run (T.ite (decide (d.I ≤ c.I)) (T.need (yes (((0:Int) ≤ b.I ∧ b.I ≤ (8:Int)) ∧ (0:Int) ≤ d.I ∧ d.I ≤ (8:Int))) (T.ite (List.isEmpty (lstF d.I.toNat b.I.toNat)) (T.need (yes (((0:Int) ≤ d.I ∧ d.I ≤ (8:Int)) ∧ (0:Int) ≤ a.I ∧ a.I ≤ (8:Int))) (T.ite (List.isEmpty (lstF a.I.toNat d.I.toNat)) T.fail (T.need (yes ((↑(0 + 1 + 1):Int) = (2:Int) ∧ (0:Int) ≤ (0:Int))) (T.leaf (Rd.again [D.i 0,D.i a.I,D.i b.I,D.i c.I,D.i (IntKind.i64.wrap (d.I + (1:Int)))]))))) (T.need (yes (((0:Int) ≤ d.I ∧ d.I ≤ (8:Int)) ∧ (0:Int) ≤ a.I ∧ a.I ≤ (8:Int))) (T.ite (List.isEmpty (lstF a.I.toNat d.I.toNat)) T.fail (T.need (yes ((↑(0 + 1 + 1 + 1 + 1 + 1 + 1):Int) = (6:Int) ∧ ((0:Int) ≤ d.I ∧ d.I ≤ (4:Int)) ∧ bdX (lstF d.I.toNat b.I.toNat) (lstF a.I.toNat d.I.toNat) (↑(Int.toNat (↑(List.length (lstF d.I.toNat b.I.toNat)):Int)):Int) (↑(Int.toNat (↑(List.length (lstF a.I.toNat d.I.toNat)):Int)):Int) (0:Int))) (T.ite (List.isEmpty (restX (lstF d.I.toNat b.I.toNat) (lstF a.I.toNat d.I.toNat) (0:Int))) (T.leaf (Rd.again [D.i 0,D.i a.I,D.i b.I,D.i c.I,D.i (IntKind.i64.wrap (d.I + (1:Int)))])) (T.leaf (Rd.again [D.i 1,D.i a.I,D.i b.I,D.i c.I,D.i (↑(Int.toNat (↑(List.length (restX (lstF d.I.toNat b.I.toNat) (lstF a.I.toNat d.I.toNat) (0:Int))):Int)):Int),D.i (IntKind.i64.wrap (d.I + (1:Int))),D.l (restX (lstF d.I.toNat b.I.toNat) (lstF a.I.toNat d.I.toNat) (0:Int))])))))))) (T.leaf (Rd.out (Ex.exit 0) [D.i 0]))):=by kernel_rfl
theorem t57_3_1 (a b c d e f:D):(roundT C tab57 57 (loopOf C.P 57 3) l57_3 [.i 1,a,b,c,d,e,f]).run =
 T.run (T.ite (decide (e.I ≤ c.I)) (T.need (yes (((0:Int) ≤ b.I ∧ b.I ≤ (8:Int)) ∧ (0:Int) ≤ e.I ∧ e.I ≤ (8:Int))) (T.ite (List.isEmpty (lstF e.I.toNat b.I.toNat)) (T.need (yes (((0:Int) ≤ e.I ∧ e.I ≤ (8:Int)) ∧ (0:Int) ≤ a.I ∧ a.I ≤ (8:Int))) (T.ite (List.isEmpty (lstF a.I.toNat e.I.toNat)) T.fail (T.need (yes ((↑(0 + 1 + 1 + 1):Int) = (3:Int) ∧ (0:Int) ≤ (0:Int) ∧ (d.I.toNat:Int) = (f.L.length:Int) ∧ e.I ≤ (4:Int))) (T.leaf (Rd.again [D.i 1,D.i a.I,D.i b.I,D.i c.I,D.i (↑(Int.toNat (d.I.toNat:Int)):Int),D.i (IntKind.i64.wrap (e.I + (1:Int))),D.l f.L]))))) (T.need (yes (((0:Int) ≤ e.I ∧ e.I ≤ (8:Int)) ∧ (0:Int) ≤ a.I ∧ a.I ≤ (8:Int))) (T.ite (List.isEmpty (lstF a.I.toNat e.I.toNat)) T.fail (T.need (yes ((↑(0 + 1 + 1 + 1 + 1 + 1 + 1 + 1):Int) = (7:Int) ∧ ((0:Int) ≤ e.I ∧ e.I ≤ (4:Int)) ∧ bdX (lstF e.I.toNat b.I.toNat) (lstF a.I.toNat e.I.toNat) (↑(Int.toNat (↑(List.length (lstF e.I.toNat b.I.toNat)):Int)):Int) (↑(Int.toNat (↑(List.length (lstF a.I.toNat e.I.toNat)):Int)):Int) (0:Int) ∧ (d.I.toNat:Int) = (f.L.length:Int) ∧ (d.I.toNat:Int) ≤ (65536:Int) * e.I + (256:Int) * (0:Int))) (T.leaf (Rd.again [D.i 1,D.i a.I,D.i b.I,D.i c.I,D.i (↑(Int.toNat (↑(List.length (f.L ++ restX (lstF e.I.toNat b.I.toNat) (lstF a.I.toNat e.I.toNat) (0:Int))):Int)):Int),D.i (IntKind.i64.wrap (e.I + (1:Int))),D.l (f.L ++ restX (lstF e.I.toNat b.I.toNat) (lstF a.I.toNat e.I.toNat) (0:Int))]))))))) (T.leaf (Rd.out (Ex.exit 0) [D.i 1,D.i (d.I.toNat:Int),D.l f.L]))):=by kernel_rfl
theorem t57_8_2 (a b c d e f g:D):(roundT C tab57 57 (loopOf C.P 57 8) l57_8 [.i 2,a,b,c,d,e,f,g]).run =
 T.run (T.ite (decide (f.I < (↑0:Int))) T.fail (T.leaf (Rd.out (Ex.exit 2) [D.i 0,D.i a.I,D.i b.I,D.i c.I,D.i d.I]))):=by kernel_rfl
theorem t57_8_3 (a b c d e f g h i:D):(roundT C tab57 57 (loopOf C.P 57 8) l57_8 [.i 3,a,b,c,d,e,f,g,h,i]).run =
 T.run (T.ite (decide (g.I < (↑0:Int))) T.fail (T.leaf (Rd.out (Ex.exit 2) [D.i 1,D.i a.I,D.i b.I,D.i c.I,D.i (d.I.toNat:Int),D.i e.I,D.l h.L]))):=by kernel_rfl
theorem t57_8_6 (a b c d e f g h i:D):(roundT C tab57 57 (loopOf C.P 57 8) l57_8 [.i 6,a,b,c,d,e,f,g,h,i]).run =
 T.run (T.ite (decide (g.I < (e.I.toNat:Int))) (T.need (yes ((↑(0 + 1 + 1):Int) = (2:Int) ∧ ((0:Int) ≤ d.I ∧ d.I ≤ (4:Int)) ∧ bdX h.L i.L (e.I.toNat:Int) (f.I.toNat:Int) g.I ∧ g.I < (e.I.toNat:Int) ∧ (0:Int) ≤ (0:Int) ∧ (0:Int) ≤ (f.I.toNat:Int))) (T.ite (List.isEmpty (partX h.L i.L g.I (0:Int))) (T.leaf (Rd.again [D.i 6,D.i a.I,D.i b.I,D.i c.I,D.i d.I,D.i (↑(Int.toNat (e.I.toNat:Int)):Int),D.i (↑(Int.toNat (f.I.toNat:Int)):Int),D.i (IntKind.i64.wrap (g.I + (1:Int))),D.l h.L,D.l i.L])) (T.leaf (Rd.again [D.i 7,D.i a.I,D.i b.I,D.i c.I,D.i (↑(Int.toNat (↑(List.length (partX h.L i.L g.I (0:Int))):Int)):Int),D.i d.I,D.i (↑(Int.toNat (e.I.toNat:Int)):Int),D.i (↑(Int.toNat (f.I.toNat:Int)):Int),D.i (IntKind.i64.wrap (g.I + (1:Int))),D.l (partX h.L i.L g.I (0:Int)),D.l h.L,D.l i.L])))) (T.leaf (Rd.out (Ex.exit 2) [D.i 0,D.i a.I,D.i b.I,D.i c.I,D.i d.I]))):=by kernel_rfl
theorem t57_8_7 (a b c d e f g h i j k:D):(roundT C tab57 57 (loopOf C.P 57 8) l57_8 [.i 7,a,b,c,d,e,f,g,h,i,j,k]).run =
 T.run (T.ite (decide (h.I < (f.I.toNat:Int))) (T.need (yes ((↑(0 + 1 + 1 + 1):Int) = (3:Int) ∧ ((0:Int) ≤ e.I ∧ e.I ≤ (4:Int)) ∧ bdX j.L k.L (f.I.toNat:Int) (g.I.toNat:Int) h.I ∧ h.I < (f.I.toNat:Int) ∧ ((0:Int) ≤ (0:Int) ∧ (0:Int) ≤ (g.I.toNat:Int)) ∧ (d.I.toNat:Int) = (i.L.length:Int) ∧ (d.I.toNat:Int) ≤ (65536:Int) * e.I + (256:Int) * h.I + (0:Int))) (T.leaf (Rd.again [D.i 7,D.i a.I,D.i b.I,D.i c.I,D.i (↑(Int.toNat (↑(List.length (i.L ++ partX j.L k.L h.I (0:Int))):Int)):Int),D.i e.I,D.i (↑(Int.toNat (f.I.toNat:Int)):Int),D.i (↑(Int.toNat (g.I.toNat:Int)):Int),D.i (IntKind.i64.wrap (h.I + (1:Int))),D.l (i.L ++ partX j.L k.L h.I (0:Int)),D.l j.L,D.l k.L]))) (T.leaf (Rd.out (Ex.exit 2) [D.i 1,D.i a.I,D.i b.I,D.i c.I,D.i (d.I.toNat:Int),D.i e.I,D.l i.L]))):=by kernel_rfl
theorem t57_11_2 (a b c d e f g h i j:D):(roundT C tab57 57 (loopOf C.P 57 11) l57_11 [.i 2,a,b,c,d,e,f,g,h,i,j]).run =
 T.run (T.ite (decide (h.I < (f.I.toNat:Int))) (T.need (decide ((0:Int) ≤ g.I ∧ g.I < (e.I.toNat:Int))) (T.need (decide (g.I.toNat < i.L.length)) (T.need (decide ((0:Int) ≤ h.I ∧ h.I < (f.I.toNat:Int))) (T.need (decide (h.I.toNat < j.L.length)) (T.leaf (Rd.again [D.i 3,D.i a.I,D.i b.I,D.i c.I,D.i 1,D.i d.I,D.i (e.I.toNat:Int),D.i (f.I.toNat:Int),D.i g.I,D.i (IntKind.i64.wrap (h.I + (1:Int))),D.l [[D.l (D.L (List.getD (List.getD i.L g.I.toNat []) 0 default)),D.l (D.L (List.getD (List.getD j.L h.I.toNat []) 0 default)),D.i 0]],D.l i.L,D.l j.L])))))) (T.leaf (Rd.out (Ex.exit 4) [D.i 2,D.i a.I,D.i b.I,D.i c.I,D.i d.I,D.i (e.I.toNat:Int),D.i (f.I.toNat:Int),D.i g.I,D.l i.L,D.l j.L]))):=by kernel_rfl
theorem t57_11_3 (a b c d e f g h i j k l:D):(roundT C tab57 57 (loopOf C.P 57 11) l57_11 [.i 3,a,b,c,d,e,f,g,h,i,j,k,l]).run =
 T.run (T.ite (decide (i.I < (g.I.toNat:Int))) (T.need (decide ((0:Int) ≤ h.I ∧ h.I < (f.I.toNat:Int))) (T.need (decide (h.I.toNat < k.L.length)) (T.need (decide ((0:Int) ≤ i.I ∧ i.I < (g.I.toNat:Int))) (T.need (decide (i.I.toNat < l.L.length)) (T.need (decide (d.I.toNat ≤ j.L.length ∧ d.I.toNat + 1 ≤ 2 ^ 62 ∧ (d.I.toNat + 1) * Try.prog.types[37].bytes ≤ 2 ^ 47)) (T.leaf (Rd.again [D.i 3,D.i a.I,D.i b.I,D.i c.I,D.i (↑(d.I.toNat + 1):Int),D.i e.I,D.i (f.I.toNat:Int),D.i (g.I.toNat:Int),D.i h.I,D.i (IntKind.i64.wrap (i.I + (1:Int))),D.l (List.take d.I.toNat j.L ++ List.take (List.length [[D.l (D.L (List.getD (List.getD k.L h.I.toNat []) 0 default)),D.l (D.L (List.getD (List.getD l.L i.I.toNat []) 0 default)),D.i 0]]) [[D.l (D.L (List.getD (List.getD k.L h.I.toNat []) 0 default)),D.l (D.L (List.getD (List.getD l.L i.I.toNat []) 0 default)),D.i 0]]),D.l k.L,D.l l.L]))))))) (T.leaf (Rd.out (Ex.exit 4) [D.i 3,D.i a.I,D.i b.I,D.i c.I,D.i (d.I.toNat:Int),D.i e.I,D.i (f.I.toNat:Int),D.i (g.I.toNat:Int),D.i h.I,D.l j.L,D.l k.L,D.l l.L]))):=by kernel_rfl
set_option maxRecDepth 100000
set_option linter.unusedSimpArgs false
theorem b37:Try.prog.types[37].bytes = 56:=by kernel_rfl
theorem partX_step {S M:List (List D)} {i:Int} {k:Nat} (h:k < M.length):partX S M i (k:Int) = rowE (S.getD i.toNat []) (M.getD k []) :: partX S M i ((k + 1:Nat):Int):=by
 unfold partX
 rw [Int.toNat_natCast,Int.toNat_natCast,List.drop_eq_getElem_cons h,List.getD_eq_getElem?_getD (l:=M),List.getElem?_eq_getElem h]
 rfl
theorem partX_end {S M:List (List D)} {i:Int} {k:Nat} (h:M.length ≤ k):partX S M i (k:Int) = []:=by
 unfold partX
 rw [Int.toNat_natCast,List.drop_eq_nil_of_le h]
 rfl
theorem restX_step {S M:List (List D)} {i:Nat} (h:i < S.length):restX S M (i:Int) = partX S M (i:Int) 0 ++ restX S M ((i + 1:Nat):Int):=by
 unfold restX partX
 rw [Int.toNat_natCast,Int.toNat_natCast,List.drop_eq_getElem_cons h,List.getD_eq_getElem?_getD (l:=S),List.getElem?_eq_getElem h]
 rfl
theorem restX_end {S M:List (List D)} {i:Nat} (h:S.length ≤ i):restX S M (i:Int) = []:=by
 unfold restX
 rw [Int.toNat_natCast,List.drop_eq_nil_of_le h]
 rfl
theorem part_len {S M:List (List D)} {i:Int}:(partX S M i 0).length = M.length:=by unfold partX; simp
theorem allP_len {M:List (List D)}:∀ S,(allP M S).length = S.length * M.length
 | []=>by simp [allP]
 | s :: r=>by simp only [allP,List.length_append,List.length_map,allP_len r,List.length_cons,Nat.add_mul]; omega
def μ5711 (ds:List D):Nat:=match ds with
 | [_,_,_,_,_,_,m,_,k,_,_]=>(m.I - k.I).toNat
 | [_,_,_,_,_,_,_,m,_,k,_,_,_]=>(m.I - k.I).toNat
 | _=>0
set_option maxHeartbeats 1000000 in
theorem ok57_11 (n:Nat) (hW:AllOKW C n sw57):LoopSim C n 57 (loopOf C.P 57 11) (mkL l57_11 G57_11):=by
 refine loop_ofK hC (sp:=sp57) (lp:=lp57) (sw:=sw57) trivial hW 0 [] (by kernel_rfl) rfl (fun k hk=>by cases hk) (by kernel_rfl) μ5711 fun ds rr h=>?_
 unfold G57_11 at h
 split at h
 ·rename_i y K L A n' s m i k S M
  cases hz:(y.I == 2) with
  | false=>rw [hz] at h; cases h
  | true=>
    rw [hz] at h
    have h:(G57_11_2 y K L A n' s m i k S M).run = some rr:=h
    unfold G57_11_2 at h
    obtain ⟨hp,h⟩:=need_some h
    rw [yes_iff] at hp
    obtain ⟨hy,hn,hX,his,k0,k1⟩:=hp
    obtain ⟨⟨hs,hs1⟩,⟨hm,hm1⟩,i0,-⟩:=id hX
    refine ⟨by rw [fuelC]; show (m.I - k.I).toNat < _; omega,?_⟩
    rw [roundTK_head (j:=y) (n:=2) hy (by decide)]
    refine rd_runY (t57_11_2 K L A n' s m i k S M) ?_
    obtain ⟨X,hX'⟩:∃ X:Nat,k.I = X:=⟨k.I.toNat,by omega⟩
    rw [hs,hm] at hX
    simp only [hX',hs,hm,Int.toNat_natCast,lx_def] at h k0 k1 his ⊢
    refine rd_if (fun hlt=>?_) fun hge=>?_
    ·have hkl:X < M.L.length:=by omega
     rw [partX_step hkl] at h
     rw [wrap_succ (by omega)]
     refine rd_dec (by omega) (rd_dec (by omega) (rd_dec (by omega) (rd_dec (by omega) (rd_again ((need_yes ⟨rfl,hn,hX,by simp only [I_i]; omega,⟨by simp only [I_i]; omega,by simp only [I_i]; omega⟩,rfl,by simp only [I_i]; omega⟩).trans ?_) ?_))))
     ·simp only [I_i,L_l,Int.toNat_natCast]
      exact h
     ·show ((M.L.length:Int) - ((X + 1:Nat):Int)).toNat < (m.I - k.I).toNat
      omega
    ·rw [partX_end (by omega)] at h
     exact rd_out h
 ·rename_i y K L A u n' s m i k O S M
  unfold G57_11_3 at h
  obtain ⟨hp,h⟩:=need_some h
  rw [yes_iff] at hp
  obtain ⟨hy,hn,hX,his,⟨k0,k1⟩,hu,hub⟩:=hp
  obtain ⟨⟨hs,hs1⟩,⟨hm,hm1⟩,i0,-⟩:=id hX
  refine ⟨by rw [fuelC]; show (m.I - k.I).toNat < _; omega,?_⟩
  rw [roundTK_head (j:=y) (n:=3) hy (by decide)]
  refine rd_runY (t57_11_3 K L A u n' s m i k O S M) ?_
  obtain ⟨X,hX'⟩:∃ X:Nat,k.I = X:=⟨k.I.toNat,by omega⟩
  have et:∀ l:List (List D),l.take l.length = l:=fun l=>List.take_length
  rw [hs,hm] at hX
  simp only [hX',hs,hm,hu,et,b37,Int.toNat_natCast,lx_def] at h k0 k1 his hub ⊢
  refine rd_if (fun hlt=>?_) fun hge=>?_
  ·have hkl:X < M.L.length:=by omega
   rw [partX_step hkl] at h
   rw [wrap_succ (by omega)]
   refine rd_dec (by omega) (rd_dec (by omega) (rd_dec (by omega) (rd_dec (by omega) (rd_dec (by omega) (rd_again ((need_yes ⟨rfl,hn,hX,by simp only [I_i]; omega,⟨by simp only [I_i]; omega,by simp only [I_i]; omega⟩,by simp only [I_i,L_l,List.length_append,List.length_cons,List.length_nil],by simp only [I_i]; omega⟩).trans ?_) ?_)))))
   ·simp only [I_i,L_l,Int.toNat_natCast,List.append_assoc]
    exact h
   ·show ((M.L.length:Int) - ((X + 1:Nat):Int)).toNat < (m.I - k.I).toNat
    omega
  ·rw [partX_end (by omega),List.append_nil] at h
   exact rd_out h
 ·cases h
def μ578 (ds:List D):Nat:=match ds with
 | [_,_,_,_,_,s,_,i,_,_]=>(s.I - i.I).toNat
 | [_,_,_,_,_,_,s,_,i,_,_,_]=>(s.I - i.I).toNat
 | _=>0
set_option maxHeartbeats 1000000 in
theorem ok57_8 (n:Nat) (hW:AllOKW C n sw57):LoopSim C n 57 (loopOf C.P 57 8) (mkL l57_8 G57_8):=by
 refine loop_ofK hC (sp:=sp57) (lp:=lp57) (sw:=sw57) trivial hW 0 [11] (by kernel_rfl) (by kernel_rfl) (fun k hk L hL=>by simp at hk; subst hk; cases hL; exact ok57_11 n hW) (by kernel_rfl) μ578 fun ds rr h=>?_
 unfold G57_8 at h
 split at h
 ·rename_i y K L A n' m i M
  cases hz:(y.I == 2) with
  | false=>rw [hz] at h; cases h
  | true=>
    rw [hz] at h
    have h:(G57_8_2 y K L A n' m i M).run = some rr:=h
    unfold G57_8_2 at h
    obtain ⟨hp,h⟩:=need_some h
    rw [yes_iff] at hp
    refine ⟨by rw [fuelC]; show 0 < _; omega,?_⟩
    rw [roundTK_head (j:=y) (n:=2) hp.1 (by decide)]
    exact rd_runY (t57_8_2 K L A n' m i M) (rd_neg (by have:=hp.2; simp; omega) (rd_out h))
 ·rename_i y K L A n' s m i S M
  cases hz:(y.I == 3) with
  | true=>
    rw [hz] at h
    have h:(G57_8_3 y K L A n' s m i S M).run = some rr:=h
    unfold G57_8_3 at h
    obtain ⟨hp,h⟩:=need_some h
    rw [yes_iff] at hp
    refine ⟨by rw [fuelC]; show (s.I - i.I).toNat < _; have:=hp.2.2.2; have:=hp.2.1; omega,?_⟩
    rw [roundTK_head (j:=y) (n:=3) hp.1 (by decide)]
    have e:((n'.I.toNat:Nat):Int) = n'.I:=by have:=hp.2.2.1; omega
    refine rd_runY (t57_8_3 K L A n' s m i S M) (rd_neg (by have:=hp.2.1; simp; omega) ?_)
    rw [e]
    exact rd_out h
  | false =>
    rw [hz] at h
    cases hz2:(y.I == 6) with
    | false=>rw [hz2] at h; cases h
    | true=>
      rw [hz2] at h
      have h:(G57_8_6 y K L A n' s m i S M).run = some rr:=h
      unfold G57_8_6 at h
      obtain ⟨hp,h⟩:=need_some h
      rw [yes_iff] at hp
      obtain ⟨hy,hn,hX⟩:=hp
      obtain ⟨⟨hs,hs1⟩,⟨hm,hm1⟩,i0,i1⟩:=id hX
      refine ⟨by rw [fuelC]; show (s.I - i.I).toNat < _; omega,?_⟩
      rw [roundTK_head (j:=y) (n:=6) hy (by decide)]
      refine rd_runY (t57_8_6 K L A n' s m i S M) ?_
      obtain ⟨X,hX'⟩:∃ X:Nat,i.I = X:=⟨i.I.toNat,by omega⟩
      rw [hs,hm,hX'] at hX
      simp only [hX',hs,hm,Int.toNat_natCast] at h i0 i1 ⊢
      refine rd_if (fun hlt=>?_) fun hge=>?_
      ·have hil:X < S.L.length:=by omega
       rw [restX_step hil] at h
       have hpl:=part_len (S:=S.L) (M:=M.L) (i:=(X:Int))
       have hmu:((S.L.length:Int) - ((X + 1:Nat):Int)).toNat < (s.I - i.I).toNat:=by omega
       have hX2:bdX S.L M.L (S.L.length:Int) (M.L.length:Int) ((X + 1:Nat):Int):=⟨⟨rfl,hs1⟩,⟨rfl,hm1⟩,by omega,by omega⟩
       rw [wrap_succ (by omega)]
       refine rd_yes ⟨by trivial,hn,hX,hlt,by omega,by omega⟩ (rd_ite (fun c=>?_) fun c=>?_)
       ·rw [List.isEmpty_iff.1 c,List.nil_append] at h
        refine rd_again ((need_yes ⟨rfl,hn,hX2⟩).trans ?_) hmu
        simp only [I_i,L_l,Int.toNat_natCast]
        exact h
       ·have hpos:=ne_len c
        rw [run_ite,if_neg (by rw [len_ne (by rw [List.length_append]; omega)]; decide)] at h
        refine rd_again ((need_yes ⟨rfl,hn,hX2,rfl,by simp only [I_i]; omega⟩).trans ?_) hmu
        simp only [I_i,L_l,Int.toNat_natCast]
        exact h
      ·rw [restX_end (by omega)] at h
       exact rd_out h
 ·rename_i y K L A u n' s m i O S M
  unfold G57_8_7 at h
  obtain ⟨hp,h⟩:=need_some h
  rw [yes_iff] at hp
  obtain ⟨hy,hn,hX,hu,hub⟩:=hp
  obtain ⟨⟨hs,hs1⟩,⟨hm,hm1⟩,i0,i1⟩:=id hX
  refine ⟨by rw [fuelC]; show (s.I - i.I).toNat < _; omega,?_⟩
  rw [roundTK_head (j:=y) (n:=7) hy (by decide)]
  refine rd_runY (t57_8_7 K L A u n' s m i O S M) ?_
  obtain ⟨X,hX'⟩:∃ X:Nat,i.I = X:=⟨i.I.toNat,by omega⟩
  rw [hs,hm,hX'] at hX
  simp only [hX',hs,hm,hu,Int.toNat_natCast] at h i0 i1 hub ⊢
  refine rd_if (fun hlt=>?_) fun hge=>?_
  ·have hil:X < S.L.length:=by omega
   rw [restX_step hil,← List.append_assoc] at h
   have hpl:=part_len (S:=S.L) (M:=M.L) (i:=(X:Int))
   have hmu:((S.L.length:Int) - ((X + 1:Nat):Int)).toNat < (s.I - i.I).toNat:=by omega
   have hX2:bdX S.L M.L (S.L.length:Int) (M.L.length:Int) ((X + 1:Nat):Int):=⟨⟨rfl,hs1⟩,⟨rfl,hm1⟩,by omega,by omega⟩
   rw [wrap_succ (by omega)]
   refine rd_yes ⟨by trivial,hn,hX,hlt,⟨by omega,by omega⟩,by trivial,by omega⟩ (rd_again ((need_yes ⟨rfl,hn,hX2,rfl,by simp only [I_i,List.length_append]; omega⟩).trans ?_) hmu)
   simp only [I_i,L_l,Int.toNat_natCast]
   exact h
  ·rw [restX_end (by omega),List.append_nil] at h
   exact rd_out h
 ·cases h
theorem iterE_len {b:Nat}:∀ k L,(iterE b L k).length = b ^ k * L.length
 | 0,L=>by simp [iterE]
 | k + 1,L=>by rw [iterE,iterE_len k,extE_len,Nat.pow_succ,Nat.mul_assoc]
theorem lstF_len (b n:Nat):(lstF b n).length = b ^ n:=by unfold lstF; rw [iterE_len]; simp
theorem lst_256 {b n:Nat} (hb:b ≤ 4) (hn:n ≤ 4):(lstF b n).length ≤ 256:=by
 rw [lstF_len]
 exact Nat.le_trans (Nat.pow_le_pow_left hb n) (Nat.le_trans (Nat.pow_le_pow_right (by decide) hn) (by decide))
theorem lst_pos {b n:Nat} (hb:1 ≤ b):0 < (lstF b n).length:=by rw [lstF_len]; exact Nat.pow_pos hb
theorem restN_step {K L A:Int} {n:Nat} (h:(n:Int) ≤ A):restN K L A (n:Int) = restX (lstF n L.toNat) (lstF K.toNat n) 0 ++ restN K L A ((n + 1:Nat):Int):=by
 unfold restN restX
 rw [Int.toNat_natCast,Int.toNat_natCast,show (A + 1 - (n:Int)).toNat = (A + 1 - ((n + 1:Nat):Int)).toNat + 1 by omega]
 rfl
theorem restN_end {K L A:Int} {n:Nat} (h:¬ (n:Int) ≤ A):restN K L A (n:Int) = []:=by
 unfold restN
 rw [show (A + 1 - (n:Int)).toNat = 0 by omega]
 rfl
theorem restX_nil {M:List (List D)}:restX [] M 0 = []:=rfl
theorem restX_len {S M:List (List D)} (hs:S.length ≤ 256) (hm:M.length ≤ 256):(restX S M 0).length ≤ 65536:=by
 unfold restX
 rw [allP_len]
 exact Nat.mul_le_mul (by simpa using hs) hm
def μ573 (ds:List D):Nat:=match ds with
 | [_,_,_,A,n]=>(A.I + 1 - n.I).toNat
 | [_,_,_,A,_,n,_]=>(A.I + 1 - n.I).toNat
 | _=>0
set_option maxHeartbeats 1000000 in
theorem ok57_3 (n:Nat) (hW:AllOKW C n sw57):LoopSim C n 57 (loopOf C.P 57 3) (mkL l57_3 G57_3):=by
 refine loop_ofK hC (sp:=sp57) (lp:=lp57) (sw:=sw57) trivial hW 0 [8] (by kernel_rfl) (by kernel_rfl) (fun k hk L hL=>by simp at hk; subst hk; cases hL; exact ok57_8 n hW) (by kernel_rfl) μ573 fun ds rr h=>?_
 unfold G57_3 at h
 split at h
 ·rename_i y K L A n'
  obtain ⟨hp,h⟩:=need_some h
  rw [yes_iff] at hp
  obtain ⟨hy,hB⟩:=hp
  obtain ⟨⟨K1,K4⟩,⟨L0,L4⟩,⟨A0,A4⟩,n0,n1⟩:=id hB
  refine ⟨by rw [fuelC]; show (A.I + 1 - n'.I).toNat < _; omega,?_⟩
  rw [roundTK_head (j:=y) (n:=0) hy (by decide)]
  refine rd_runY (t57_3_0 K L A n') ?_
  obtain ⟨X,hX'⟩:∃ X:Nat,n'.I = X:=⟨n'.I.toNat,by omega⟩
  simp only [hX',Int.toNat_natCast] at h n0 n1 ⊢
  refine rd_if (fun hlt=>?_) fun hge=>?_
  ·rw [restN_step hlt] at h
   have hmu:(A.I + 1 - ((X + 1:Nat):Int)).toNat < (A.I + 1 - n'.I).toNat:=by omega
   have hB':bd57 K.I L.I A.I ((X + 1:Nat):Int):=⟨⟨K1,K4⟩,⟨L0,L4⟩,⟨A0,A4⟩,by omega,by omega⟩
   have hM:=lst_256 (b:=K.I.toNat) (n:=X) (by omega) (by omega)
   have hS:=lst_256 (b:=X) (n:=L.I.toNat) (by omega) (by omega)
   have hM0:=len_ne (lst_pos (b:=K.I.toNat) (n:=X) (by omega))
   have hR:=restX_len hS hM
   rw [wrap_succ (by omega)]
   refine rd_yes ⟨by omega,by omega,by omega⟩ (rd_ite (fun c=>?_) fun c=>?_)
   ·rw [List.isEmpty_iff.1 c,restX_nil,List.nil_append] at h
    exact rd_yes ⟨by omega,by omega,by omega⟩ (rd_false hM0 (rd_yes ⟨by trivial,by omega⟩ (rd_again ((need_yes ⟨rfl,hB'⟩).trans h) hmu)))
   ·refine rd_yes ⟨by omega,by omega,by omega⟩ (rd_false hM0 (rd_yes ⟨by trivial,by omega,⟨⟨by trivial,hS⟩,⟨by trivial,hM⟩,by omega,by omega⟩⟩ (rd_ite (fun c2=>?_) fun c2=>?_)))
    ·rw [List.isEmpty_iff.1 c2,List.nil_append] at h
     exact rd_again ((need_yes ⟨rfl,hB'⟩).trans h) hmu
    ·have hpos:=ne_len c2
     rw [run_ite,if_neg (by rw [len_ne (by rw [List.length_append]; omega)]; decide)] at h
     exact rd_again ((need_yes ⟨rfl,hB',rfl,by simp only [I_i]; omega,by simp only [I_i]; omega⟩).trans h) hmu
  ·rw [restN_end hge] at h
   exact rd_out h
 ·rename_i y K L A u n' O
  obtain ⟨hp,h⟩:=need_some h
  rw [yes_iff] at hp
  obtain ⟨hy,hB,hu,hub,hu0⟩:=hp
  obtain ⟨⟨K1,K4⟩,⟨L0,L4⟩,⟨A0,A4⟩,n0,n1⟩:=id hB
  refine ⟨by rw [fuelC]; show (A.I + 1 - n'.I).toNat < _; omega,?_⟩
  rw [roundTK_head (j:=y) (n:=1) hy (by decide)]
  refine rd_runY (t57_3_1 K L A u n' O) ?_
  obtain ⟨X,hX'⟩:∃ X:Nat,n'.I = X:=⟨n'.I.toNat,by omega⟩
  simp only [hX',hu,Int.toNat_natCast] at h n0 n1 hub hu0 ⊢
  refine rd_if (fun hlt=>?_) fun hge=>?_
  ·rw [restN_step hlt,← List.append_assoc] at h
   have hmu:(A.I + 1 - ((X + 1:Nat):Int)).toNat < (A.I + 1 - n'.I).toNat:=by omega
   have hB':bd57 K.I L.I A.I ((X + 1:Nat):Int):=⟨⟨K1,K4⟩,⟨L0,L4⟩,⟨A0,A4⟩,by omega,by omega⟩
   have hM:=lst_256 (b:=K.I.toNat) (n:=X) (by omega) (by omega)
   have hS:=lst_256 (b:=X) (n:=L.I.toNat) (by omega) (by omega)
   have hM0:=len_ne (lst_pos (b:=K.I.toNat) (n:=X) (by omega))
   have hR:=restX_len hS hM
   rw [wrap_succ (by omega)]
   refine rd_yes ⟨by omega,by omega,by omega⟩ (rd_ite (fun c=>?_) fun c=>?_)
   ·rw [List.isEmpty_iff.1 c,restX_nil,List.append_nil] at h
    exact rd_yes ⟨by omega,by omega,by omega⟩ (rd_false hM0 (rd_yes ⟨by trivial,by omega,by trivial,by omega⟩ (rd_again ((need_yes ⟨rfl,hB',rfl,by simp only [I_i]; omega,by simp only [I_i]; omega⟩).trans h) hmu)))
   ·exact rd_yes ⟨by omega,by omega,by omega⟩ (rd_false hM0 (rd_yes ⟨by trivial,by omega,⟨⟨by trivial,hS⟩,⟨by trivial,hM⟩,by omega,by omega⟩,by trivial,by omega⟩
     (rd_again ((need_yes ⟨rfl,hB',rfl,by simp only [I_i,List.length_append]; omega,by simp only [I_i,List.length_append]; omega⟩).trans h) hmu)))
  ·rw [restN_end hge,List.append_nil] at h
   exact rd_out h
 ·cases h
theorem ok57 (n:Nat):FnOKW C (n + 2) 57 (mkFW s57 G57):=by
 have hW:AllOKW C (n + 1) sw57:=⟨ok86 n,trivial⟩
 refine fn_ofW hC (sp:=sp57) (lp:=lp57) (sw:=sw57) trivial hW (by kernel_rfl) [3] (by kernel_rfl) (by kernel_rfl) (fun k hk L hL=>by simp at hk; subst hk; cases hL; exact ok57_3 (n + 1) hW) fun ds rr h=>?_
 unfold G57 at h
 split at h
 ·rename_i K L A
  obtain ⟨hp,h⟩:=need_some h
  rw [yes_iff] at hp
  refine (t57 K L A).trans ?_
  simp only [Int.toNat_natCast]
  exact go_yes ⟨by trivial,hp⟩ h
 ·cases h
def ltL:List (List D) → List (List D) → Prop
 | x :: a,y :: b=>ix x 0 < ix y 0 ∨ (ix x 0 = ix y 0 ∧ ltL a b)
 | _,_=>False
def cnL (l:List (List D)):Prop:=∀ x ∈ l,∃ v:Nat,x = [.i v]
theorem ltL_irr:∀ a,¬ ltL a a
 | [],h=>h
 | x :: a,h=>by
   rcases h with h | ⟨-,h⟩
   ·omega
   ·exact ltL_irr a h
theorem ltL_trans:∀ {a b c:List (List D)},ltL a b → ltL b c → ltL a c
 | x :: a,y :: b,z :: c,h1,h2=>by
   rcases h1 with h1 | ⟨h1,k1⟩ <;> rcases h2 with h2 | ⟨h2,k2⟩
   ·exact .inl (by omega)
   ·exact .inl (by omega)
   ·exact .inl (by omega)
   ·exact .inr ⟨by omega,ltL_trans k1 k2⟩
 | [],_,_,h,_=>h.elim
 | _ :: _,[],_,h,_=>h.elim
 | _ :: _,_ :: _,[],_,h=>h.elim
theorem cn_eq {x y:List D} (hx:∃ v:Nat,x = [.i v]) (hy:∃ v:Nat,y = [.i v]) (h:ix x 0 = ix y 0):x = y:=by
 obtain ⟨v,rfl⟩:=hx
 obtain ⟨w,rfl⟩:=hy
 have h:(v:Int) = w:=h
 rw [h]
theorem le_lex:∀ {a b:List (List D)},cnL a → cnL b → a.length = b.length → (∀ j,j < a.length → ix (a.getD j []) 0 ≤ ix (b.getD j []) 0) → a = b ∨ ltL a b
 | [],[],_,_,_,_=>.inl rfl
 | x :: a,y :: b,ha,hb,hl,h=>by
   have h0:ix x 0 ≤ ix y 0:=h 0 (by simp)
   by_cases e:ix x 0 = ix y 0
   ·have e2:=cn_eq (ha x (List.mem_cons_self ..)) (hb y (List.mem_cons_self ..)) e
    rcases le_lex (a:=a) (b:=b) (fun z hz=>ha z (List.mem_cons_of_mem _ hz)) (fun z hz=>hb z (List.mem_cons_of_mem _ hz)) (by simpa using hl) (fun j hj=>h (j + 1) (by simpa using hj)) with k | k
    ·exact .inl (by rw [e2,k])
    ·exact .inr (.inr ⟨e,k⟩)
   ·exact .inr (.inl (by omega))
 | [],_ :: _,_,_,hl,_=>by simp at hl
 | _ :: _,[],_,_,hl,_=>by simp at hl
theorem cnL_app {a b:List (List D)} (ha:cnL a) (hb:cnL b):cnL (a ++ b):=fun x hx=>by
 rw [List.mem_append] at hx
 rcases hx with h | h
 ·exact ha x h
 ·exact hb x h
theorem cnL_one (v:Nat):cnL [[.i v]]:=fun x hx=>⟨v,by simpa using hx⟩
theorem ltL_pre:∀ (c:List (List D)) {a b:List (List D)},ltL a b → ltL (c ++ a) (c ++ b)
 | [],_,_,h=>h
 | _ :: c,_,_,h=>.inr ⟨rfl,ltL_pre c h⟩
theorem ltL_ext:∀ {a b:List (List D)} (x y:List (List D)),a.length = b.length → ltL a b → ltL (a ++ x) (b ++ y)
 | x :: a,y :: b,p,q,hl,h=>by
   rcases h with h | ⟨h,k⟩
   ·exact .inl h
   ·exact .inr ⟨h,ltL_ext p q (by simpa using hl) k⟩
 | [],_,_,_,_,h=>h.elim
 | _ :: _,[],_,_,_,h=>h.elim
theorem use_tl {A:Int}:∀ (k:Nat) (cs:List (List D)) (n:Int) (y:List D),y ∈ useF A k cs n → ∃ tl,ySets y = cs ++ tl ∧ cnL tl
 | 0, cs,n,y,h=>by
   simp only [useF,List.mem_singleton] at h
   subst h
   exact ⟨[],by rw [(ySets_E cs n).1]; simp,fun x hx=>by cases hx⟩
 | k + 1,cs,n,y,h=>by
   simp only [useF] at h
   rw [useW_mem] at h
   obtain ⟨v,-,-,h⟩:=h
   obtain ⟨tl,e1,e2⟩:=use_tl k _ _ y h
   exact ⟨[.i v] :: tl,by rw [e1]; simp,cnL_app (cnL_one v) e2⟩
theorem useW_sorted {F:List (List D) → Int → List (List D)} {cs:List (List D)} {n:Int} (hF:∀ c m,(F c m).Pairwise fun y z=>ltL (ySets y) (ySets z)) (hp:∀ c m,∀ y ∈ F c m,∃ tl,ySets y = c ++ tl) :
    ∀ (k x:Nat),(useW F cs n x k).Pairwise fun y z=>ltL (ySets y) (ySets z)
 | 0,_=>List.Pairwise.nil
 | k + 1,x=>by
   simp only [useW]
   rw [List.pairwise_append]
   refine ⟨hF _ _,useW_sorted hF hp k (x + 1),fun y hy z hz=>?_⟩
   rw [useW_mem] at hz
   obtain ⟨v,hv,-,hz⟩:=hz
   obtain ⟨t1,e1⟩:=hp _ _ y hy
   obtain ⟨t2,e2⟩:=hp _ _ z hz
   rw [e1,e2,List.append_assoc,List.append_assoc]
   exact ltL_pre cs (.inl (by show (x:Int) < v; omega))
theorem use_sorted {A:Int}:∀ (k:Nat) (cs:List (List D)) (n:Int),(useF A k cs n).Pairwise fun y z=>ltL (ySets y) (ySets z)
 | 0,_,_=>List.pairwise_singleton _ _
 | k + 1,cs,n=>by
   simp only [useF]
   exact useW_sorted (use_sorted k) (fun c m y hy=>(use_tl k c m y hy).imp fun _ h=>h.1) _ _
theorem bestO_first:∀ (l:List (List D)) (o:List D),(∀ x ∈ l,ix o 0 < ix x 0) → l.Pairwise (fun x y=>ix x 0 < ix y 0) →
    (ix o 1 = ix (bestO o l) 1 → ix (bestO o l) 0 ≤ ix o 0) ∧ ∀ x ∈ l,ix x 1 = ix (bestO o l) 1 → ix (bestO o l) 0 ≤ ix x 0
 | [],o,_,_=>⟨fun _=>Int.le_refl _,fun _ h=>by cases h⟩
 | x :: l,o,ho,hp=>by
   rw [List.pairwise_cons] at hp
   have hb:bestO o (x :: l) = bestO (lessO x o) l:=rfl
   rw [hb]
   by_cases c:ix x 1 < ix o 1
   ·have e:lessO x o = mkR x:=if_pos c
    rw [e]
    obtain ⟨h1,h2⟩:=bestO_first l (mkR x) hp.1 hp.2
    have hle:=(bestO_le l (mkR x)).1
    have e1:ix (mkR x) 1 = ix x 1:=rfl
    have e0:ix (mkR x) 0 = ix x 0:=rfl
    rw [e1,e0] at h1
    rw [e1] at hle
    refine ⟨fun h=>by omega,fun z hz hl=>?_⟩
    rw [List.mem_cons] at hz
    rcases hz with rfl | hz
    ·exact h1 hl
    ·exact h2 z hz hl
   ·have e:lessO x o = o:=if_neg c
    rw [e]
    obtain ⟨h1,h2⟩:=bestO_first l o (fun z hz=>ho z (List.mem_cons_of_mem _ hz)) hp.2
    have hle:=(bestO_le l o).1
    have hox:=ho x (List.mem_cons_self ..)
    refine ⟨h1,fun z hz hl=>?_⟩
    rw [List.mem_cons] at hz
    rcases hz with rfl | hz
    ·have:=h1 (by omega)
     omega
    ·exact h2 z hz hl
theorem optF_sorted {cs ls sets:List (List D)} {set:Int}:∀ (k i:Nat),(optF cs ls sets set i k).Pairwise fun x y=>ix x 0 < ix y 0
 | 0,_=>List.Pairwise.nil
 | k + 1,i=>by
   simp only [optF]
   split
   ·rw [List.pairwise_cons]
    refine ⟨fun y hy=>?_,optF_sorted k (i + 1)⟩
    obtain ⟨j,h1,-,-,rfl⟩:=optF_mem _ _ _ hy
    show (i:Int) < j
    omega
   ·exact optF_sorted k (i + 1)
theorem opt_first {cs ls sets:List (List D)} {set:Int} {j:Nat} (hj:j < cs.length) (h:(usedAll (cs.getD j []) ls sets set).2 = true) (he:(usedAll (cs.getD j []) ls sets set).1 = ix (bestL (optA cs ls sets set)) 1):ix (bestL (optA cs ls sets set)) 0 ≤ j:=by
 have hm:[D.i j,.i (usedAll (cs.getD j []) ls sets set).1] ∈ optA cs ls sets set:=optF_all cs.length 0 j (Nat.zero_le _) (by omega) h
 have hs:(optA cs ls sets set).Pairwise fun x y=>ix x 0 < ix y 0:=optF_sorted cs.length 0
 generalize optA cs ls sets set = l at hm hs he ⊢
 cases l with
 | nil=>cases hm
 | cons a l=>
   have e:bestL (a :: l) = bestO (mkR a) l:=rfl
   rw [e] at he ⊢
   rw [List.pairwise_cons] at hs
   obtain ⟨h1,h2⟩:=bestO_first l (mkR a) hs.1 hs.2
   rw [List.mem_cons] at hm
   rcases hm with hm | hm
   ·have:=h1 (by rw [← he]; show ix a 1 = _; rw [← hm]; rfl)
    have e0:ix (mkR a) 0 = j:=by show ix a 0 = _; rw [← hm]; rfl
    rw [e0] at this
    exact this
   ·exact h2 _ hm he
theorem sets_first {cs ls sets comps:List (List D)} (ht:TaskP cs ls) {fd:Bool} {w:Int}:∀ (k i:Nat) (cp:List (List D)) (s t:Int) (r:List (List D) × Int),cp.length = i → s ≤ t → setsF cs ls sets fd w i k cp s = some r → (sumsFrom cs ls sets comps i k t).2 = true →
    (sumsFrom cs ls sets comps i k t).1 = r.2 → s = t ∧ ∀ j,i ≤ j → j < i + k → ix (r.1.getD j []) 0 ≤ ix (comps.getD j []) 0
 | 0, i,cp,s,t,r,hl,hst,hr,h,he=>by
   cases hr
   exact ⟨he.symm,fun j h1 h2=>by omega⟩
 | k + 1, i,cp,s,t,r,hl,hst,hr,h,he=>by
   simp only [sumsFrom] at h he
   split at h
   ·rename_i c
    rw [if_pos c] at he
    split at h
    ·rename_i c2
     rw [if_pos c2] at he
     have hw:=Lite.within_iff.1 c
     obtain ⟨o1,o2⟩:=opt_least (j:=(ix (comps.getD i []) 0).toNat) (by omega) c2
     have hr0:=hr
     simp only [setsF,o1,Bool.false_eq_true,if_false] at hr
     split at hr
     ·cases hr
     obtain ⟨k1,k2⟩:=sets_first ht k (i + 1) _ _ _ r (by simp [hl]) (by omega) hr h he
     obtain ⟨tl,e1,-,-⟩:=sets_ok k (i + 1) _ _ r (by simp [hl]) hr
     refine ⟨by omega,fun j h1 h2=>?_⟩
     by_cases e:j = i
     ·subst e
      have eg:ix (r.1.getD j []) 0 = ix (bestL (optA cs ls sets j)) 0:=by
       rw [e1,List.getD_eq_getElem?_getD,List.getElem?_append_left (by simp [hl]),← List.getD_eq_getElem?_getD,getD_app hl]
       rfl
      rw [eg]
      have:=opt_first (j:=(ix (comps.getD j []) 0).toNat) (by omega) c2 (by omega)
      omega
     ·exact k2 j (by omega) (by omega)
    ·cases h
   ·cases h
theorem sets_cn {cs ls sets:List (List D)} {fd:Bool} {w:Int}:∀ (k i:Nat) (cp:List (List D)) (s:Int) (r:List (List D) × Int),cnL cp → setsF cs ls sets fd w i k cp s = some r → cnL r.1
 | 0,i,cp,s,r,hc,h=>by cases h; exact hc
 | k + 1,i,cp,s,r,hc,h=>by
   simp only [setsF] at h
   split at h
   ·cases h
   rename_i c
   split at h
   ·cases h
   obtain ⟨j,hj,h1,h2,h3⟩:=opt_best (by simpa using c)
   refine sets_cn k (i + 1) _ _ r (cnL_app hc ?_) h
   rw [h2]
   exact cnL_one j
def befP (S c S' c':List (List D)):Prop:=c.length < c'.length ∨ (c.length = c'.length ∧ (ltL S S' ∨ (S = S' ∧ ltL c c')))
def leqP (S c S' c':List (List D)):Prop:=(S = S' ∧ c = c') ∨ befP S c S' c'
theorem bef_trans {S c S' c' S'' c'':List (List D)} (h1:befP S c S' c') (h2:befP S' c' S'' c''):befP S c S'' c'':=by
 rcases h1 with h1 | ⟨h1,k1⟩ <;> rcases h2 with h2 | ⟨h2,k2⟩
 ·exact .inl (by omega)
 ·exact .inl (by omega)
 ·exact .inl (by omega)
 ·refine .inr ⟨by omega,?_⟩
  rcases k1 with k1 | ⟨k1,j1⟩ <;> rcases k2 with k2 | ⟨k2,j2⟩
  ·exact .inl (ltL_trans k1 k2)
  ·exact .inl (k2 ▸ k1)
  ·exact .inl (k1 ▸ k2)
  ·exact .inr ⟨k1.trans k2,ltL_trans j1 j2⟩
theorem bef_irr {S c:List (List D)}:¬ befP S c S c:=by
 rintro (h | ⟨-,h | ⟨-,h⟩⟩)
 ·omega
 ·exact ltL_irr _ h
 ·exact ltL_irr _ h
theorem leq_anti {S c S' c':List (List D)} (h1:leqP S c S' c') (h2:leqP S' c' S c):S = S' ∧ c = c':=by
 rcases h1 with h1 | h1
 ·exact h1
 ·rcases h2 with ⟨rfl,rfl⟩ | h2
  ·exact ⟨rfl,rfl⟩
  ·exact (bef_irr (bef_trans h1 h2)).elim
def InvF (cs ls:List (List D)) (done:List (List D)) (p:Pl):Prop:=
 (p.fd = true → cnL p.cp ∧ ∃ y ∈ done,p.sets = ySets y) ∧ (p.fd = false → p = ⟨false,[],[],0⟩) ∧
 ∀ y ∈ done,∀ comps:List (List D),cnL comps → (comps.length:Int) = yN y → (sumsFrom cs ls (ySets y) comps 0 comps.length 0).2 = true →
   p.fd = true ∧ (p.w < (sumsFrom cs ls (ySets y) comps 0 comps.length 0).1 ∨ (p.w = (sumsFrom cs ls (ySets y) comps 0 comps.length 0).1 ∧ leqP p.sets p.cp (ySets y) comps))
theorem step_F {cs ls:List (List D)} {A:Int} (ht:TaskP cs ls) {done:List (List D)} {p:Pl} {y:List D} (hy:okY ls A y) (hsort:∀ z ∈ done,ltL (ySets z) (ySets y)) (hP:InvP cs ls A done p) (h:InvF cs ls done p) :
    InvF cs ls (y :: done) (stepT cs ls p (ySets y) (yN y)):=by
 obtain ⟨h1,h2,h3⟩:=h
 obtain ⟨y0,y1,y2,y3⟩:=hy
 unfold stepT
 have hle:=fun (comps:List (List D)) (hs:(sumsFrom cs ls (ySets y) comps 0 comps.length 0).2 = true)=>sets_le (fd:=p.fd) (w:=p.w) (cp:=[]) (s:=0) ht comps.length 0 0 (Int.le_refl _) hs
 have hn:∀ comps:List (List D),(comps.length:Int) = yN y → comps.length = (yN y).toNat:=fun c e=>by omega
 cases hq:setsF cs ls (ySets y) p.fd p.w 0 (yN y).toNat [] 0 with
 | none=>
   refine ⟨fun hf=>⟨(h1 hf).1,(h1 hf).2.imp fun z hz=>⟨List.mem_cons_of_mem _ hz.1,hz.2⟩⟩,h2,fun z hz comps hcn hc hs=>?_⟩
   rw [List.mem_cons] at hz
   rcases hz with rfl | hz
   ·have:=hle comps hs
    rw [hn comps hc,hq] at this
    rw [hn comps hc]
    have h7:p.fd = true ∧ p.w < (sumsFrom cs ls (ySets z) comps 0 (yN z).toNat 0).1:=this
    exact ⟨h7.1,.inl h7.2⟩
   ·exact h3 z hz comps hcn hc hs
 | some r =>
   obtain ⟨tl,e1,e2,e3⟩:=sets_ok _ 0 [] 0 r rfl hq
   rw [List.nil_append] at e1
   have el:r.1.length = (yN y).toNat:=by rw [e1,e2]
   have hrc:=sets_cn _ 0 [] 0 r (fun x hx=>by cases hx) hq
   have hr:∀ comps:List (List D),(comps.length:Int) = yN y → (sumsFrom cs ls (ySets y) comps 0 comps.length 0).2 = true → r.2 ≤ (sumsFrom cs ls (ySets y) comps 0 comps.length 0).1:=fun comps hc hs=>by
    have:=hle comps hs
    rw [hn comps hc,hq] at this
    rw [hn comps hc]
    exact this
   by_cases c:(!p.fd || decide (r.2 < p.w) || decide (yN y < p.cp.length)) = true
   ·simp only [c,if_true]
    refine ⟨fun _=>⟨hrc,y,List.mem_cons_self ..,rfl⟩,fun hf=>(by cases hf),fun z hz comps hcn hc hs=>⟨rfl,?_⟩⟩
    show r.2 < _ ∨ (r.2 = _ ∧ leqP (ySets y) r.1 (ySets z) comps)
    rw [List.mem_cons] at hz
    rcases hz with rfl | hz
    ·have hk:=hr comps hc hs
     by_cases e:r.2 = (sumsFrom cs ls (ySets z) comps 0 comps.length 0).1
     ·refine .inr ⟨e,?_⟩
      rw [hn comps hc] at hs e
      obtain ⟨-,hj⟩:=sets_first ht _ 0 [] 0 0 r rfl (Int.le_refl _) hq hs e.symm
      rcases le_lex hrc hcn (by rw [el,hn comps hc]) (fun j hjl=>hj j (Nat.zero_le _) (by omega)) with k | k
      ·exact .inl ⟨rfl,k⟩
      ·exact .inr (.inr ⟨by rw [el,hn comps hc],.inr ⟨rfl,k⟩⟩)
     ·exact .inl (by omega)
    ·obtain ⟨k1,k2⟩:=h3 z hz comps hcn hc hs
     have hw:=(hP.1 k1).1
     rw [k1] at hq c
     have hrw:=sets_w _ _ _ _ _ hw hq
     rcases k2 with k2 | ⟨k2,k3⟩
     ·exact .inl (by omega)
     ·by_cases e:r.2 < p.w
      ·exact .inl (by omega)
      ·have c:yN y < p.cp.length:=by
        rw [decide_eq_false e] at c
        simpa using c
       refine .inr ⟨by omega,.inr (.inl ?_)⟩
       rcases k3 with ⟨-,k3⟩ | k3 | ⟨k3,-⟩
       ·rw [← k3]; omega
       ·omega
       ·omega
   ·have c':(!p.fd || decide (r.2 < p.w) || decide (yN y < p.cp.length)) = false:=by simpa using c
    simp only [c',Bool.false_eq_true,if_false]
    rw [Bool.or_eq_false_iff,Bool.or_eq_false_iff,decide_eq_false_iff_not,decide_eq_false_iff_not] at c'
    refine ⟨fun hf=>⟨(h1 hf).1,(h1 hf).2.imp fun z hz=>⟨List.mem_cons_of_mem _ hz.1,hz.2⟩⟩,h2,fun z hz comps hcn hc hs=>?_⟩
    rw [List.mem_cons] at hz
    rcases hz with rfl | hz
    ·have hk:=hr comps hc hs
     have hf:p.fd = true:=by simpa using c'.1.1
     refine ⟨hf,?_⟩
     by_cases e:p.w = (sumsFrom cs ls (ySets z) comps 0 comps.length 0).1
     ·refine .inr ⟨e,.inr ?_⟩
      obtain ⟨-,u,hu,hs'⟩:=h1 hf
      by_cases e2:p.cp.length = comps.length
      ·exact .inr ⟨e2,.inl (by rw [hs']; exact hsort u hu)⟩
      ·exact .inl (by omega)
     ·exact .inl (by omega)
    ·exact h3 z hz comps hcn hc hs
theorem fold_F {cs ls:List (List D)} {A:Int} (ht:TaskP cs ls):∀ (l done:List (List D)) (p:Pl),(∀ y ∈ l,okY ls A y) → l.Pairwise (fun y z=>ltL (ySets y) (ySets z)) → (∀ z ∈ done,∀ y ∈ l,ltL (ySets z) (ySets y)) → InvP cs ls A done p → InvF cs ls done p →
    ∃ d',(∀ y,y ∈ d' ↔ y ∈ l ∨ y ∈ done) ∧ InvF cs ls d' (foldT cs ls l p)
 | [],done,p,_,_,_,_,h=>⟨done,fun y=>by simp,h⟩
 | y :: l,done,p,hl,hs,hd,hP,h=>by
   rw [List.pairwise_cons] at hs
   have hy:=hl y (List.mem_cons_self ..)
   obtain ⟨d',h1,h2⟩:=fold_F ht l (y :: done) _ (fun z hz=>hl z (List.mem_cons_of_mem _ hz)) hs.2 (fun z hz u hu=>by
    rw [List.mem_cons] at hz
    rcases hz with rfl | hz
    ·exact hs.1 u hu
    ·exact hd z hz u (List.mem_cons_of_mem _ hu)) (step_inv ht hy hP) (step_F ht hy (fun z hz=>hd z hz y (List.mem_cons_self ..)) hP h)
   exact ⟨d',fun z=>by rw [h1,List.mem_cons,List.mem_cons]; grind,h2⟩
theorem tyre_F {cs ls:List (List D)} {A:Int} (ht:taskOk cs ls A = true):∃ d',(∀ y,y ∈ d' ↔ y ∈ useF A ls.length [] 0) ∧ InvF cs ls d' (tyreF cs ls A):=by
 have hA:1 ≤ A:=by
  simp only [taskOk,Bool.and_eq_true,Lite.within_iff] at ht
  omega
 obtain ⟨d',h1,h2⟩:=fold_F (A:=A) ⟨A,ht⟩ (useF A ls.length [] 0) [] ⟨false,[],[],0⟩ (fun y hy=>by
  obtain ⟨tl,e1,e2,e3,e4⟩:=use_sound ls.length [] 0 y (Int.le_refl _) (by omega) hy
  rw [List.nil_append] at e1
  have el:(ySets y).length = ls.length:=by rw [e1,e2]
  exact ⟨e3.1,e3.2,el,by rw [el]; exact e4⟩) (use_sorted _ _ _) (fun z hz=>(by cases hz)) ⟨fun h=>(by cases h),fun y hy=>(by cases hy)⟩ ⟨fun h=>(by cases h),fun _=>rfl,fun y hy=>(by cases hy)⟩
 exact ⟨d',fun y=>by rw [h1]; simp,h2⟩
def belowL (b:Nat) (l:List (List D)):Prop:=∀ x ∈ l,∃ v:Nat,v < b ∧ x = [.i v]
theorem below_cn {b:Nat} {l:List (List D)} (h:belowL b l):cnL l:=fun x hx=>(h x hx).imp fun _ k=>k.2
theorem iter_mem {b:Nat} {y:List D}:∀ (k:Nat) (L:List (List D)),y ∈ iterE b L k → ∃ c ∈ L,∃ tl,tl.length = k ∧ belowL b tl ∧ lx y 0 = lx c 0 ++ tl
 | 0,L,h=>⟨y,h,[],rfl,fun x hx=>(by cases hx),by simp⟩
 | k + 1,L,h=>by
   obtain ⟨c,hc,tl,h1,h2,h3⟩:=iter_mem k (extE b L) h
   obtain ⟨c',hc',v,hv,e⟩:=extE_mem.1 hc
   refine ⟨c',hc',[.i v] :: tl,by simp [h1],fun x hx=>?_,?_⟩
   ·rw [List.mem_cons] at hx
    rcases hx with rfl | hx
    ·exact ⟨v,hv,rfl⟩
    ·exact h2 x hx
   ·rw [h3,e]
    show (lx c' 0 ++ [[D.i v]]) ++ tl = _
    simp
theorem iter_all {b:Nat}:∀ (tl:List (List D)) (L:List (List D)) (c:List D),c ∈ L → belowL b tl → ∃ y ∈ iterE b L tl.length,lx y 0 = lx c 0 ++ tl
 | [],L,c,hc,_=>⟨c,hc,by simp⟩
 | x :: tl,L,c,hc,h=>by
   obtain ⟨v,hv,e⟩:=h x (List.mem_cons_self ..)
   obtain ⟨y,hy,e2⟩:=iter_all tl (extE b L) [.l (lx c 0 ++ [[.i v]])] (extE_mem.2 ⟨c,hc,v,hv,rfl⟩) fun z hz=>h z (List.mem_cons_of_mem _ hz)
   refine ⟨y,hy,?_⟩
   rw [e2,e]
   show (lx c 0 ++ [[D.i v]]) ++ tl = _
   simp
theorem cons_sorted {c:List D}:∀ (k x:Nat),(consE c x k).Pairwise fun y z=>ltL (lx y 0) (lx z 0)
 | 0,_=>List.Pairwise.nil
 | k + 1,x=>by
   simp only [consE]
   rw [List.pairwise_cons]
   refine ⟨fun z hz=>?_,cons_sorted k (x + 1)⟩
   obtain ⟨v,h1,-,rfl⟩:=(consE_mem _ _).1 hz
   exact ltL_pre (lx c 0) (.inl (by show (x:Int) < v; omega))
theorem ext_sorted {b m:Nat}:∀ {L:List (List D)},(∀ y ∈ L,(lx y 0).length = m) → L.Pairwise (fun y z=>ltL (lx y 0) (lx z 0)) → (extE b L).Pairwise fun y z=>ltL (lx y 0) (lx z 0)
 | [],_,_=>List.Pairwise.nil
 | c :: r,hl,hs=>by
   rw [List.pairwise_cons] at hs
   simp only [extE]
   rw [List.pairwise_append]
   refine ⟨cons_sorted _ _,ext_sorted (fun y hy=>hl y (List.mem_cons_of_mem _ hy)) hs.2,fun y hy z hz=>?_⟩
   obtain ⟨v,-,-,rfl⟩:=(consE_mem _ _).1 hy
   obtain ⟨c',hc',w,-,rfl⟩:=extE_mem.1 hz
   exact ltL_ext [[.i v]] [[.i w]] (by rw [hl c (List.mem_cons_self ..),hl c' (List.mem_cons_of_mem _ hc')]) (hs.1 c' hc')
theorem iter_sorted {b:Nat}:∀ (k m:Nat) (L:List (List D)),(∀ y ∈ L,(lx y 0).length = m) → L.Pairwise (fun y z=>ltL (lx y 0) (lx z 0)) → (iterE b L k).Pairwise fun y z=>ltL (lx y 0) (lx z 0)
 | 0,_,_,_,h=>h
 | k + 1,m,L,hl,h=>iter_sorted k (m + 1) (extE b L) (fun y hy=>by
     obtain ⟨c,hc,v,-,rfl⟩:=extE_mem.1 hy
     show (lx c 0 ++ [[D.i v]]).length = m + 1
     rw [List.length_append,hl c hc]
     rfl) (ext_sorted hl h)
theorem lst_mem {b n:Nat} {y:List D} (h:y ∈ lstF b n):(lx y 0).length = n ∧ belowL b (lx y 0):=by
 obtain ⟨c,hc,tl,h1,h2,h3⟩:=iter_mem n _ h
 rw [List.mem_singleton] at hc
 subst hc
 have h3:lx y 0 = [] ++ tl:=h3
 rw [List.nil_append] at h3
 rw [h3]
 exact ⟨h1,h2⟩
theorem lst_all {b:Nat} {l:List (List D)} (h:belowL b l):∃ y ∈ lstF b l.length,lx y 0 = l:=by
 obtain ⟨y,hy,e⟩:=iter_all l [[.l []]] [.l []] (List.mem_singleton.2 rfl) h
 exact ⟨y,hy,e⟩
theorem lst_sorted {b n:Nat}:(lstF b n).Pairwise fun y z=>ltL (lx y 0) (lx z 0):=
 iter_sorted n 0 _ (fun y hy=>by rw [List.mem_singleton] at hy; subst hy; rfl) (List.pairwise_singleton _ _)
theorem allP_mem {M:List (List D)} {y:List D}:∀ {S:List (List D)},y ∈ allP M S ↔ ∃ s ∈ S,∃ c ∈ M,y = rowE s c
 | []=>by simp [allP]
 | s :: r=>by
   simp only [allP,List.mem_append,List.mem_map,allP_mem (S:=r),List.mem_cons]
   constructor
   ·rintro (⟨c,hc,rfl⟩ | ⟨s',h1,c,h2,h3⟩)
    ·exact ⟨s,.inl rfl,c,hc,rfl⟩
    ·exact ⟨s',.inr h1,c,h2,h3⟩
   ·rintro ⟨s',h1 | h1,c,h2,h3⟩
    ·subst h1; exact .inl ⟨c,h2,h3.symm⟩
    ·exact .inr ⟨s',h1,c,h2,h3⟩
def befY (y z:List D):Prop:=befP (lx y 0) (lx y 1) (lx z 0) (lx z 1)
theorem allP_sorted {M:List (List D)} {n:Nat} (hm:∀ c ∈ M,(lx c 0).length = n) (hM:M.Pairwise fun y z=>ltL (lx y 0) (lx z 0)):∀ {S:List (List D)},S.Pairwise (fun y z=>ltL (lx y 0) (lx z 0)) → (allP M S).Pairwise befY
 | [],_=>List.Pairwise.nil
 | s :: r,hs=>by
   rw [List.pairwise_cons] at hs
   simp only [allP]
   rw [List.pairwise_append]
   refine ⟨?_,allP_sorted hm hM hs.2,fun y hy z hz=>?_⟩
   ·rw [List.pairwise_map]
    refine List.Pairwise.imp_of_mem (fun {a b} ha hb hab=>?_) hM
    exact .inr ⟨by show (lx a 0).length = (lx b 0).length; rw [hm a ha,hm b hb],.inr ⟨rfl,hab⟩⟩
   ·rw [List.mem_map] at hy
    obtain ⟨c,hc,rfl⟩:=hy
    obtain ⟨s',hs',c',hc',rfl⟩:=allP_mem.1 hz
    exact .inr ⟨by show (lx c 0).length = (lx c' 0).length; rw [hm c hc,hm c' hc'],.inl (hs.1 s' hs')⟩
theorem allN_mem {K L:Nat} {y:List D}:∀ (k n:Nat),y ∈ allN K L n k ↔ ∃ m,n ≤ m ∧ m < n + k ∧ ∃ s ∈ lstF m L,∃ c ∈ lstF K m,y = rowE s c
 | 0, n=>by
   simp only [allN,List.not_mem_nil,false_iff]
   rintro ⟨m,h1,h2,-⟩; omega
 | k + 1,n=>by
   simp only [allN,List.mem_append,allP_mem,allN_mem k (n + 1)]
   constructor
   ·rintro (h | ⟨m,h1,h2,h3⟩)
    ·exact ⟨n,Nat.le_refl _,by omega,h⟩
    ·exact ⟨m,by omega,by omega,h3⟩
   ·rintro ⟨m,h1,h2,h3⟩
    by_cases e:m = n
    ·subst e; exact .inl h3
    ·exact .inr ⟨m,by omega,by omega,h3⟩
theorem allN_sorted {K L:Nat}:∀ (k n:Nat),(allN K L n k).Pairwise befY
 | 0,_=>List.Pairwise.nil
 | k + 1,n=>by
   simp only [allN]
   rw [List.pairwise_append]
   refine ⟨allP_sorted (n:=n) (fun c hc=>(lst_mem hc).1) lst_sorted lst_sorted,allN_sorted k (n + 1),fun y hy z hz=>?_⟩
   obtain ⟨s,-,c,hc,rfl⟩:=allP_mem.1 hy
   obtain ⟨m,h1,-,s',-,c',hc',rfl⟩:=(allN_mem _ _).1 hz
   refine .inl ?_
   show (lx c 0).length < (lx c' 0).length
   rw [(lst_mem hc).1,(lst_mem hc').1]
   omega
def InvR (cs ls:List (List D)) (A:Int) (done:List (List D)) (p:Pl):Prop:=
 (p.fd = true → ∃ y ∈ done,p.sets = lx y 0 ∧ p.cp = lx y 1 ∧ possR cs ls (lx y 0) (lx y 1) A = (p.w,true)) ∧ (p.fd = false → p = ⟨false,[],[],0⟩) ∧
 ∀ y ∈ done,(possR cs ls (lx y 0) (lx y 1) A).2 = true → p.fd = true ∧ (p.w < (possR cs ls (lx y 0) (lx y 1) A).1 ∨ (p.w = (possR cs ls (lx y 0) (lx y 1) A).1 ∧ leqP p.sets p.cp (lx y 0) (lx y 1)))
theorem step_R {cs ls:List (List D)} {A:Int} {done:List (List D)} {p:Pl} {y:List D} (hs:∀ z ∈ done,befY z y) (h:InvR cs ls A done p):InvR cs ls A (y :: done) (stepR cs ls A p y):=by
 obtain ⟨h1,h2,h3⟩:=h
 unfold stepR
 generalize hR:possR cs ls (lx y 0) (lx y 1) A = R
 split
 ·rename_i c
  rw [Bool.and_eq_true] at c
  refine ⟨fun _=>⟨y,List.mem_cons_self ..,rfl,rfl,by rw [hR]; exact Prod.ext rfl c.1⟩,fun hf=>(by cases hf),fun z hz hp=>⟨rfl,?_⟩⟩
  show R.1 < _ ∨ (R.1 = _ ∧ leqP (lx y 0) (lx y 1) (lx z 0) (lx z 1))
  rw [List.mem_cons] at hz
  rcases hz with rfl | hz
  ·rw [hR]
   exact .inr ⟨rfl,.inl ⟨rfl,rfl⟩⟩
  ·obtain ⟨k1,k2⟩:=h3 z hz hp
   have c2:R.1 < p.w:=by have:=c.2; rw [k1] at this; simpa using this
   rcases k2 with k2 | ⟨k2,-⟩
   ·exact .inl (by omega)
   ·exact .inl (by omega)
 ·rename_i c
  have c:(R.2 && (!p.fd || decide (R.1 < p.w))) = false:=by simpa using c
  refine ⟨fun hf=>(h1 hf).imp fun z hz=>⟨List.mem_cons_of_mem _ hz.1,hz.2⟩,h2,fun z hz hp=>?_⟩
  rw [List.mem_cons] at hz
  rcases hz with rfl | hz
  ·rw [hR] at hp ⊢
   rw [hp,Bool.true_and,Bool.or_eq_false_iff,decide_eq_false_iff_not] at c
   have hf:p.fd = true:=by simpa using c.1
   refine ⟨hf,?_⟩
   by_cases e:p.w = R.1
   ·obtain ⟨u,hu,e1,e2,-⟩:=h1 hf
    refine .inr ⟨e,.inr ?_⟩
    rw [e1,e2]
    exact hs u hu
   ·exact .inl (by omega)
  ·exact h3 z hz hp
theorem fold_R {cs ls:List (List D)} {A:Int}:∀ (l done:List (List D)) (p:Pl),l.Pairwise befY → (∀ z ∈ done,∀ y ∈ l,befY z y) → InvR cs ls A done p → ∃ d',(∀ y,y ∈ d' ↔ y ∈ l ∨ y ∈ done) ∧ InvR cs ls A d' (foldR cs ls A l p)
 | [],done,p,_,_,h=>⟨done,fun y=>by simp,h⟩
 | y :: l,done,p,hs,hd,h=>by
   rw [List.pairwise_cons] at hs
   obtain ⟨d',h1,h2⟩:=fold_R l (y :: done) _ hs.2 (fun z hz u hu=>by
    rw [List.mem_cons] at hz
    rcases hz with rfl | hz
    ·exact hs.1 u hu
    ·exact hd z hz u (List.mem_cons_of_mem _ hu)) (step_R (fun z hz=>hd z hz y (List.mem_cons_self ..)) h)
   exact ⟨d',fun z=>by rw [h1,List.mem_cons,List.mem_cons]; grind,h2⟩
theorem cn_ext:∀ {a b:List (List D)},cnL a → cnL b → a.length = b.length → (∀ j,j < a.length → ix (a.getD j []) 0 = ix (b.getD j []) 0) → a = b
 | [],[],_,_,_,_=>rfl
 | x :: a,y :: b,ha,hb,hl,h=>by
   rw [cn_eq (ha x (List.mem_cons_self ..)) (hb y (List.mem_cons_self ..)) (h 0 (by simp)),cn_ext (a:=a) (b:=b) (fun z hz=>ha z (List.mem_cons_of_mem _ hz)) (fun z hz=>hb z (List.mem_cons_of_mem _ hz)) (by simpa using hl) fun j hj=>h (j + 1) (by simpa using hj)]
 | [],_ :: _,_,_,hl,_=>by simp at hl
 | _ :: _,[],_,_,hl,_=>by simp at hl
theorem sums_in {cs ls sets comps:List (List D)}:∀ (k i:Nat) (t:Int),(sumsFrom cs ls sets comps i k t).2 = true → ∀ j,i ≤ j → j < i + k → 0 ≤ ix (comps.getD j []) 0 ∧ ix (comps.getD j []) 0 < cs.length
 | 0,i,t,_,j,h1,h2=>by omega
 | k + 1,i,t,h,j,h1,h2=>by
   simp only [sumsFrom] at h
   split at h
   ·rename_i c
    split at h
    ·by_cases e:j = i
     ·subst e
      have:=Lite.within_iff.1 c
      omega
     ·exact sums_in k (i + 1) _ h j (by omega) (by omega)
    ·cases h
   ·cases h
theorem cn_below {b:Nat} {l:List (List D)} (h:cnL l) (hb:∀ j,j < l.length → ix (l.getD j []) 0 < b):belowL b l:=fun x hx=>by
 obtain ⟨v,e⟩:=h x hx
 obtain ⟨j,hj,rfl⟩:=List.mem_iff_getElem.1 hx
 have:=hb j hj
 rw [List.getD_eq_getElem?_getD,List.getElem?_eq_getElem hj,Option.getD_some,e] at this
 have this:(v:Int) < b:=this
 exact ⟨v,by omega,e⟩
theorem tyre_same {cs ls:List (List D)} {A:Int} (ht:taskOk cs ls A = true):tyreR cs ls A = tyreF cs ls A:=by
 have hA:1 ≤ A:=by
  have ht:=ht
  simp only [taskOk,Bool.and_eq_true,Lite.within_iff] at ht
  omega
 obtain ⟨dF,mF,F1,F2,F3⟩:=tyre_F ht
 obtain ⟨dP,mP,P1,-⟩:=tyre_inv ht
 obtain ⟨dR,mR,R1,R2,R3⟩:=fold_R (cs:=cs) (ls:=ls) (A:=A) (allN cs.length ls.length 0 (A.toNat + 1)) [] ⟨false,[],[],0⟩ (allN_sorted _ _) (fun z hz=>(by cases hz)) ⟨fun h=>(by cases h),fun _=>rfl,fun y hy=>(by cases hy)⟩
 have hR:foldR cs ls A (allN cs.length ls.length 0 (A.toNat + 1)) ⟨false,[],[],0⟩ = tyreR cs ls A:=rfl
 rw [hR] at R1 R2 R3
 have mR:∀ y,y ∈ dR ↔ y ∈ allN cs.length ls.length 0 (A.toNat + 1):=fun y=>by rw [mR]; simp
 -- what the document's plan says of the search's
 have q_of:(tyreR cs ls A).fd = true → (tyreF cs ls A).fd = true ∧ ((tyreF cs ls A).w < (tyreR cs ls A).w ∨ ((tyreF cs ls A).w = (tyreR cs ls A).w ∧ leqP (tyreF cs ls A).sets (tyreF cs ls A).cp (tyreR cs ls A).sets (tyreR cs ls A).cp)):=fun hq=>by
  obtain ⟨u,hu,e1,e2,e3⟩:=R1 hq
  obtain ⟨m,-,hm,s,hs,c,hc,rfl⟩:=(allN_mem _ _).1 ((mR u).1 hu)
  have e1:(tyreR cs ls A).sets = lx s 0:=e1
  have e2:(tyreR cs ls A).cp = lx c 0:=e2
  have e3:possR cs ls (lx s 0) (lx c 0) A = ((tyreR cs ls A).w,true):=e3
  rw [← poss_eq ht] at e3
  obtain ⟨s1,s2⟩:=lst_mem hs
  obtain ⟨c1,c2⟩:=lst_mem hc
  obtain ⟨-,k2,k3,k4,k5,k6⟩:=poss_iff.1 (by rw [e3]:(possC cs ls (lx s 0) (lx c 0) A).2 = true)
  rw [k6] at e3
  rw [k3] at k4
  obtain ⟨y,hy,tl,t1,t2,t3,t4⟩:=use_all k2 ls.length 0 [] 0 k4
  rw [List.nil_append] at t1
  obtain ⟨tl',t5,t6⟩:=use_tl _ _ _ y hy
  rw [List.nil_append] at t5
  have hcn:cnL (ySets y):=by rw [t5]; exact t6
  have hS:ySets y = lx s 0:=cn_ext hcn (below_cn s2) (by rw [t1,t2,k3]) fun j hj=>by
   rw [t1] at hj ⊢
   rw [t4 j (by omega),Nat.zero_add]
  have:=F3 y ((mF y).2 hy) (lx c 0) (below_cn c2) t3.symm (by rw [hS,e3])
  rw [hS,e3] at this
  rw [e1,e2]
  exact this
 by_cases hf:(tyreF cs ls A).fd = true
 ·obtain ⟨p0,p1,p2,p3,p4⟩:=P1 hf
  obtain ⟨f1,y,hy,f2⟩:=F1 hf
  obtain ⟨tl',t5,t6⟩:=use_tl _ _ _ y ((mF y).1 hy)
  rw [List.nil_append] at t5
  have hcn:cnL (tyreF cs ls A).sets:=by rw [f2,t5]; exact t6
  have hcount:=count_lt (sets:=(tyreF cs ls A).sets) (tyreF cs ls A).sets.length 0 0 (by rw [p3])
  rw [p3] at hcount
  have hbS:belowL (tyreF cs ls A).cp.length (tyreF cs ls A).sets:=cn_below hcn fun j hj=>by
   have:=(hcount.2 j (Nat.zero_le _) (by omega)).2
   exact this
  have hbC:belowL cs.length (tyreF cs ls A).cp:=cn_below f1 fun j hj=>(sums_in _ 0 0 (by rw [p4]) j (Nat.zero_le _) (by omega)).2
  obtain ⟨s,hs,es⟩:=lst_all hbS
  obtain ⟨c,hc,ec⟩:=lst_all hbC
  rw [p2] at hs
  have hm:rowE s c ∈ allN cs.length ls.length 0 (A.toNat + 1):=(allN_mem _ _).2 ⟨(tyreF cs ls A).cp.length,Nat.zero_le _,by omega,s,hs,c,hc,rfl⟩
  have hp:=tyre_poss ht hf
  rw [poss_eq ht] at hp
  have r0:possR cs ls (lx (rowE s c) 0) (lx (rowE s c) 1) A = ((tyreF cs ls A).w,true):=by
   show possR cs ls (lx s 0) (lx c 0) A = _
   rw [es,ec]
   exact hp
  obtain ⟨g1,g2⟩:=R3 _ ((mR _).2 hm) (by rw [r0])
  rw [r0] at g2
  have g2:(tyreR cs ls A).w < (tyreF cs ls A).w ∨ ((tyreR cs ls A).w = (tyreF cs ls A).w ∧ leqP (tyreR cs ls A).sets (tyreR cs ls A).cp (lx s 0) (lx c 0)):=g2
  rw [es,ec] at g2
  obtain ⟨-,q2⟩:=q_of g1
  rcases g2 with g2 | ⟨g2,g3⟩
  ·rcases q2 with q2 | ⟨q2,-⟩
   ·omega
   ·omega
  ·rcases q2 with q2 | ⟨-,q3⟩
   ·omega
   ·obtain ⟨a1,a2⟩:=leq_anti g3 q3
    generalize tyreR cs ls A = q at g1 g2 a1 a2
    generalize tyreF cs ls A = p at hf g2 a1 a2
    obtain ⟨qf,qs,qc,qw⟩:=q
    obtain ⟨pf,ps,pc,pw⟩:=p
    simp only at g1 g2 a1 a2 hf
    subst g1 g2 a1 a2 hf
    rfl
 ·have hf:(tyreF cs ls A).fd = false:=by simpa using hf
  have hq:(tyreR cs ls A).fd = false:=by
   cases hq:(tyreR cs ls A).fd with
   | false=>rfl
   | true=>
     have:=(q_of hq).1
     rw [hf] at this
     cases this
  rw [R2 hq,F2 hf]
set_option linter.unusedVariables false
set_option maxRecDepth 100000
theorem t23 (a b c:D):(fnTW C tab23 23 s23 [a,b,c]).run =
 T.run (T.need (yes (bd57 (a.L.length:Int) (b.L.length:Int) c.I (0:Int))) (T.ite (List.isEmpty (restN (a.L.length:Int) (b.L.length:Int) c.I (0:Int))) (T.need (yes ((↑0:Int) = (0:Int) ∧ (0:Int) ≤ (0:Int))) (T.leaf [D.l [],D.l [],D.i 0,D.b false])) (T.need (yes ((↑(0 + 1):Int) = (1:Int) ∧ taskOk a.L b.L c.I = true ∧ (↑(Int.toNat (↑(List.length (restN (a.L.length:Int) (b.L.length:Int) c.I (0:Int))):Int)):Int) = (↑(List.length (restN (a.L.length:Int) (b.L.length:Int) c.I (0:Int))):Int) ∧ List.length (restN (a.L.length:Int) (b.L.length:Int) c.I (0:Int)) ≤ 1000000 ∧ (0:Int) ≤ (0:Int) ∧ (0:Int) ≤ (↑(Int.toNat (↑(List.length (restN (a.L.length:Int) (b.L.length:Int) c.I (0:Int))):Int)):Int))) (T.leaf [D.l (foldR a.L b.L c.I (List.drop (Int.toNat (0:Int)) (restN (a.L.length:Int) (b.L.length:Int) c.I (0:Int))) (plR (D.l []) (D.l []) (D.i 0) (D.b false))).sets,D.l (foldR a.L b.L c.I (List.drop (Int.toNat (0:Int)) (restN (a.L.length:Int) (b.L.length:Int) c.I (0:Int))) (plR (D.l []) (D.l []) (D.i 0) (D.b false))).cp,D.i (foldR a.L b.L c.I (List.drop (Int.toNat (0:Int)) (restN (a.L.length:Int) (b.L.length:Int) c.I (0:Int))) (plR (D.l []) (D.l []) (D.i 0) (D.b false))).w,D.b (foldR a.L b.L c.I (List.drop (Int.toNat (0:Int)) (restN (a.L.length:Int) (b.L.length:Int) c.I (0:Int))) (plR (D.l []) (D.l []) (D.i 0) (D.b false))).fd])))):=by kernel_rfl
theorem t23_4_0 (a b c d e f g h i:D):(roundT C tab23 23 (loopOf C.P 23 4) l23_4 [.i 0,a,b,c,d,e,f,g,h,i]).run =
 T.run (T.ite (decide (e.I < (↑0:Int))) T.fail (T.leaf (Rd.out (Ex.exit 0) [D.b d.B,D.i f.I,D.l g.L,D.l h.L,D.i i.I]))):=by kernel_rfl
theorem t23_4_1 (a b c d e f g h i j k:D):(roundT C tab23 23 (loopOf C.P 23 4) l23_4 [.i 1,a,b,c,d,e,f,g,h,i,j,k]).run =
 T.run (T.ite (decide (f.I < (d.I.toNat:Int))) (T.need (decide ((0:Int) ≤ f.I ∧ f.I < (d.I.toNat:Int))) (T.need (decide (f.I.toNat < h.L.length)) (T.need (yes (taskOk a.L b.L c.I = true)) (T.ite (possR a.L b.L (D.L (List.getD (List.getD h.L f.I.toNat []) 0 default)) (D.L (List.getD (List.getD h.L f.I.toNat []) (0 + 1) default)) c.I).snd (T.ite (!e.B) (T.need (decide ((0:Int) ≤ f.I ∧ f.I < (d.I.toNat:Int))) (T.need (decide (f.I.toNat < h.L.length)) (T.leaf (Rd.again [D.i 1,D.l a.L,D.l b.L,D.i c.I,D.i (d.I.toNat:Int),D.b true,D.i (IntKind.i64.wrap (f.I + (1:Int))),D.i g.I,D.l h.L,D.l (D.L (List.getD (List.getD h.L f.I.toNat []) 0 default)),D.l (D.L (List.getD (List.getD h.L f.I.toNat []) (0 + 1) default)),D.i (possR a.L b.L (D.L (List.getD (List.getD h.L f.I.toNat []) 0 default)) (D.L (List.getD (List.getD h.L f.I.toNat []) (0 + 1) default)) c.I).fst])))) (T.ite (decide ((possR a.L b.L (D.L (List.getD (List.getD h.L f.I.toNat []) 0 default)) (D.L (List.getD (List.getD h.L f.I.toNat []) (0 + 1) default)) c.I).fst < k.I)) (T.need (decide ((0:Int) ≤ f.I ∧ f.I < (d.I.toNat:Int))) (T.need (decide (f.I.toNat < h.L.length)) (T.leaf (Rd.again [D.i 1,D.l a.L,D.l b.L,D.i c.I,D.i (d.I.toNat:Int),D.b true,D.i (IntKind.i64.wrap (f.I + (1:Int))),D.i g.I,D.l h.L,D.l (D.L (List.getD (List.getD h.L f.I.toNat []) 0 default)),D.l (D.L (List.getD (List.getD h.L f.I.toNat []) (0 + 1) default)),D.i (possR a.L b.L (D.L (List.getD (List.getD h.L f.I.toNat []) 0 default)) (D.L (List.getD (List.getD h.L f.I.toNat []) (0 + 1) default)) c.I).fst])))) (T.leaf (Rd.again [D.i 1,D.l a.L,D.l b.L,D.i c.I,D.i (d.I.toNat:Int),D.b e.B,D.i (IntKind.i64.wrap (f.I + (1:Int))),D.i g.I,D.l h.L,D.l i.L,D.l j.L,D.i k.I])))) (T.leaf (Rd.again [D.i 1,D.l a.L,D.l b.L,D.i c.I,D.i (d.I.toNat:Int),D.b e.B,D.i (IntKind.i64.wrap (f.I + (1:Int))),D.i g.I,D.l h.L,D.l i.L,D.l j.L,D.i k.I])))))) (T.leaf (Rd.out (Ex.exit 0) [D.b e.B,D.i g.I,D.l i.L,D.l j.L,D.i k.I]))):=by kernel_rfl
set_option maxRecDepth 100000
set_option linter.unusedSimpArgs false
theorem foldR_step {cs ls al:List (List D)} {A:Int} {p:Pl} {i:Nat} (h:i < al.length):foldR cs ls A (al.drop i) p = foldR cs ls A (al.drop (i + 1)) (stepR cs ls A p (al.getD i [])):=by
 rw [List.drop_eq_getElem_cons h,List.getD_eq_getElem?_getD,List.getElem?_eq_getElem h]
 rfl
def μ234 (ds:List D):Nat:=match ds with
 | [_,_,_,_,s,_,i,_,_,_,_,_]=>(s.I - i.I).toNat
 | _=>0
set_option maxHeartbeats 1000000 in
theorem ok23_4 (n:Nat) (hA:AllOK C n sp23) (hW:AllOKW C n sw23):LoopSim C n 23 (loopOf C.P 23 4) (mkL l23_4 G23_4):=by
 refine loop_ofK hC (sp:=sp23) (lp:=lp23) (sw:=sw23) hA hW 0 [] (by kernel_rfl) rfl (fun k hk=>by cases hk) (by kernel_rfl) μ234 fun ds rr h=>?_
 unfold G23_4 at h
 split at h
 ·rename_i y cs ls A met i rv bs bc bw
  obtain ⟨hp,h⟩:=need_some h
  rw [yes_iff] at hp
  refine ⟨by rw [fuelC]; show 0 < _; omega,?_⟩
  rw [roundTK_head (j:=y) (n:=0) hp.1 (by decide)]
  exact rd_runY (t23_4_0 cs ls A met i rv bs bc bw) (rd_neg (by have:=hp.2; simp; omega) (rd_out h))
 ·rename_i y cs ls A s met i rv al bs bc bw
  obtain ⟨hp,h⟩:=need_some h
  rw [yes_iff] at hp
  obtain ⟨hy,hT,hs,hb,i0,i1⟩:=hp
  refine ⟨by rw [fuelC]; show (s.I - i.I).toNat < _; omega,?_⟩
  rw [roundTK_head (j:=y) (n:=1) hy (by decide)]
  refine rd_runY (t23_4_1 cs ls A s met i rv al bs bc bw) ?_
  obtain ⟨X,hX⟩:∃ X:Nat,i.I = X:=⟨i.I.toNat,by omega⟩
  simp only [hX,hs,Int.toNat_natCast,lx_def] at h i0 i1 ⊢
  refine rd_if (fun hlt=>?_) fun hge=>?_
  ·have hil:X < al.L.length:=by omega
   rw [foldR_step hil] at h
   have hmu:((al.L.length:Int) - ((X + 1:Nat):Int)).toNat < (s.I - i.I).toNat:=by omega
   generalize hR:possR cs.L ls.L (lx (al.L.getD X []) 0) (lx (al.L.getD X []) 1) A.I = R at h ⊢
   have hst:stepR cs.L ls.L A.I (plR bs bc bw met) (al.L.getD X []) = if R.2 && (!met.B || decide (R.1 < bw.I)) then ⟨true,lx (al.L.getD X []) 0,lx (al.L.getD X []) 1,R.1⟩ else plR bs bc bw met:=by
    unfold stepR
    rw [hR]
    rfl
   have keep:(R.2 && (!met.B || decide (R.1 < bw.I))) = false → (G23_4 [.i 1,.l cs.L,.l ls.L,.i A.I,.i (al.L.length:Int),.b met.B,.i ((X + 1:Nat):Int),.i rv.I,.l al.L,.l bs.L,.l bc.L,.i bw.I]).run = some rr:=fun hc=>by
    rw [hst,hc] at h
    exact (need_yes ⟨rfl,hT,rfl,hb,by simp only [I_i]; omega,by simp only [I_i]; omega⟩).trans h
   have store:(R.2 && (!met.B || decide (R.1 < bw.I))) = true → (G23_4 [.i 1,.l cs.L,.l ls.L,.i A.I,.i (al.L.length:Int),.b true,.i ((X + 1:Nat):Int),.i rv.I,.l al.L,.l (lx (al.L.getD X []) 0),.l (lx (al.L.getD X []) 1),.i R.1]).run = some rr:=fun hc=>by
    rw [hst,hc] at h
    exact (need_yes ⟨rfl,hT,rfl,hb,by simp only [I_i]; omega,by simp only [I_i]; omega⟩).trans h
   rw [wrap_succ (by omega)]
   refine rd_dec (by omega) (rd_dec (by omega) (rd_yes hT (rd_ite (fun c=>?_) fun c=>rd_again (keep (by rw [c]; rfl)) hmu)))
   refine rd_not (fun c1=>?_) fun c1=>?_
   ·refine rd_dec (by omega) (rd_dec (by omega) (rd_again (store (by rw [c,c1]; rfl)) hmu))
   ·refine rd_if (fun c2=>?_) fun c2=>rd_again (keep (by rw [c,c1,decide_eq_false c2]; rfl)) hmu
    exact rd_dec (by omega) (rd_dec (by omega) (rd_again (store (by rw [c,c1,decide_eq_true c2]; rfl)) hmu))
  ·rw [List.drop_eq_nil_of_le (by omega)] at h
   exact rd_out h
 ·cases h
theorem allN_len {K L:Nat} (hK:K ≤ 4) (hL:L ≤ 4):∀ k n,n + k ≤ 5 → (allN K L n k).length ≤ 65536 * k
 | 0,n,_=>by simp [allN]
 | k + 1,n,h=>by
   have h1:=allN_len hK hL k (n + 1) (by omega)
   have h2:(allP (lstF K n) (lstF n L)).length ≤ 256 * 256:=by
    rw [allP_len]
    exact Nat.mul_le_mul (lst_256 (by omega) hL) (lst_256 hK (by omega))
   simp only [allN,List.length_append]
   omega
theorem ok23 (n:Nat) (hA:AllOK C (n + 2) sp23):FnOKW C (n + 3) 23 (mkFW s23 G23):=by
 have hW:AllOKW C (n + 2) sw23:=⟨ok57 n,trivial⟩
 refine fn_ofW hC (sp:=sp23) (lp:=lp23) (sw:=sw23) hA hW (by kernel_rfl) [4] (by kernel_rfl) (by kernel_rfl) (fun k hk L hL=>by simp at hk; subst hk; cases hL; exact ok23_4 (n + 2) hA hW) fun ds rr h=>?_
 unfold G23 at h
 split at h
 ·rename_i cs ls A
  obtain ⟨hp,h⟩:=need_some h
  rw [yes_iff] at hp
  obtain ⟨hT,h1,h2,h3⟩:=hp
  have hT':=hT
  simp only [taskOk,Bool.and_eq_true,Lite.within_iff] at hT'
  have hk:1 ≤ (cs.L.length:Int):=hT'.1.1.1.1.1
  have ha:1 ≤ A.I:=hT'.1.1.2.1
  refine (t23 cs ls A).trans ?_
  have hl:=allN_len (K:=cs.L.length) (L:=ls.L.length) (by omega) (by omega) (A.I.toNat + 1) 0 (by omega)
  have hB:bd57 (cs.L.length:Int) (ls.L.length:Int) A.I 0:=⟨⟨by omega,by omega⟩,⟨by omega,by omega⟩,⟨by omega,by omega⟩,by omega,by omega⟩
  have e:restN (cs.L.length:Int) (ls.L.length:Int) A.I 0 = allN cs.L.length ls.L.length 0 (A.I.toNat + 1):=by
   unfold restN
   rw [Int.toNat_natCast,Int.toNat_natCast,show (A.I + 1 - 0).toNat = A.I.toNat + 1 by omega]
   rfl
  have z0:Int.toNat 0 = 0:=rfl
  rw [e]
  simp only [Int.toNat_natCast,z0,List.drop_zero]
  refine go_yes hB (go_ite (fun c=>?_) fun c=>?_)
  ·have ht:tyreR cs.L ls.L A.I = ⟨false,[],[],0⟩:=by unfold tyreR; rw [List.isEmpty_iff.1 c]; rfl
   rw [ht] at h
   exact go_yes ⟨by trivial,by omega⟩ h
  ·exact go_yes ⟨by trivial,hT,by trivial,by omega,by omega,by omega⟩ h
 ·cases h
noncomputable def sp3:SpL:=[(15,mkF s15 G15),(16,mkF s16 G16),(17,mkF s17 G17),(18,mkF s18 G18),(19,mkF s19 G19)]
noncomputable def lp3:LpL:=[]
noncomputable def tab3:Tab:=mkTab sp3 lp3
set_option linter.unusedVariables false
set_option maxRecDepth 100000
theorem t3 (a b c d e f g h i:D):fnT C tab3 3 s3 [a,b,c,d,e,f,g,h,i] =
 T.ite (!shortOk a.L b.L c.L) (T.leaf [D.b true]) (T.need (yes (smallRows a.L ∧ smallRows b.L ∧ c.L.length < big)) (T.ite (compoundOk a.L b.L c.L d.I && within e.I (0:Int) ((a.L.length:Int) - (1:Int)) && within f.I (-40:Int) (80:Int) && within h.I (0:Int) (1000000:Int)) (T.need (yes (a.L.length < big ∧ b.L.length < big ∧ c.L.length < big)) (T.ite (compoundOk a.L b.L c.L d.I) (T.ite (decide (e.I ≥ (0:Int))) (T.ite (decide (e.I < (a.L.length:Int))) (T.ite (decide (f.I ≥ (-40:Int))) (T.ite (!decide (f.I ≤ (80:Int))) (T.ite false (T.ite (gripC a.L b.L d.I e.I f.I g.B h.I == (0:Int)) (T.leaf [D.b true]) (T.leaf [D.b false])) (T.leaf [D.b false])) (T.ite (decide (h.I < (0:Int))) (T.ite false (T.ite (gripC a.L b.L d.I e.I f.I g.B h.I == (0:Int)) (T.leaf [D.b true]) (T.leaf [D.b false])) (T.leaf [D.b false])) (T.ite (decide (h.I > (1000000:Int))) (T.ite false (T.ite (gripC a.L b.L d.I e.I f.I g.B h.I == (0:Int)) (T.leaf [D.b true]) (T.leaf [D.b false])) (T.leaf [D.b false])) (T.ite false (T.leaf [D.b false]) (T.need (yes (surfOk a.L b.L e.I g.B ∧ (-40:Int) ≤ f.I ∧ f.I ≤ (80:Int) ∧ (0:Int) ≤ d.I ∧ d.I ≤ (1000:Int) ∧ (0:Int) ≤ h.I ∧ h.I ≤ (1000000:Int))) (T.ite (gripC a.L b.L d.I e.I f.I g.B h.I != gripC a.L b.L d.I e.I f.I g.B h.I) (T.leaf [D.b false]) (T.ite (decide (gripC a.L b.L d.I e.I f.I g.B h.I < (0:Int))) (T.leaf [D.b false]) (T.ite (decide (gripC a.L b.L d.I e.I f.I g.B h.I > (1000:Int))) (T.leaf [D.b false]) (T.ite (decide (i.I < (0:Int))) (T.leaf [D.b true]) (T.ite (decide (i.I > IntKind.i64.wrap ((1000000:Int) - h.I))) (T.leaf [D.b true]) (T.need (yes (smallRows a.L ∧ smallRows b.L ∧ c.L.length < big)) (T.ite (compoundOk a.L b.L c.L d.I && within e.I (0:Int) ((a.L.length:Int) - (1:Int)) && within f.I (-40:Int) (80:Int) && within (IntKind.i64.wrap (h.I + i.I)) (0:Int) (1000000:Int)) (T.ite true (T.ite (decide (gripC a.L b.L d.I e.I f.I g.B (IntKind.i64.wrap (h.I + i.I)) ≤ gripC a.L b.L d.I e.I f.I g.B h.I)) (T.leaf [D.b true]) (T.leaf [D.b false])) (T.leaf [D.b false])) (T.ite false (T.ite (decide ((0:Int) ≤ gripC a.L b.L d.I e.I f.I g.B h.I)) (T.leaf [D.b true]) (T.leaf [D.b false])) (T.leaf [D.b false])))))))))))))) (T.ite false (T.ite (gripC a.L b.L d.I e.I f.I g.B h.I == (0:Int)) (T.leaf [D.b true]) (T.leaf [D.b false])) (T.leaf [D.b false]))) (T.ite false (T.ite (gripC a.L b.L d.I e.I f.I g.B h.I == (0:Int)) (T.leaf [D.b true]) (T.leaf [D.b false])) (T.leaf [D.b false]))) (T.ite false (T.ite (gripC a.L b.L d.I e.I f.I g.B h.I == (0:Int)) (T.leaf [D.b true]) (T.leaf [D.b false])) (T.leaf [D.b false]))) (T.ite false (T.ite (gripC a.L b.L d.I e.I f.I g.B h.I == (0:Int)) (T.leaf [D.b true]) (T.leaf [D.b false])) (T.leaf [D.b false])))) (T.need (yes (a.L.length < big ∧ b.L.length < big ∧ c.L.length < big)) (T.ite (compoundOk a.L b.L c.L d.I) (T.ite (decide (e.I ≥ (0:Int))) (T.ite (decide (e.I < (a.L.length:Int))) (T.ite (decide (f.I ≥ (-40:Int))) (T.ite (!decide (f.I ≤ (80:Int))) (T.ite true (T.ite true (T.leaf [D.b true]) (T.leaf [D.b false])) (T.leaf [D.b false])) (T.ite (decide (h.I < (0:Int))) (T.ite true (T.ite true (T.leaf [D.b true]) (T.leaf [D.b false])) (T.leaf [D.b false])) (T.ite (decide (h.I > (1000000:Int))) (T.ite true (T.ite true (T.leaf [D.b true]) (T.leaf [D.b false])) (T.leaf [D.b false])) (T.ite true (T.leaf [D.b false]) (T.need (yes (surfOk a.L b.L e.I g.B ∧ (-40:Int) ≤ f.I ∧ f.I ≤ (80:Int) ∧ (0:Int) ≤ d.I ∧ d.I ≤ (1000:Int) ∧ (0:Int) ≤ h.I ∧ h.I ≤ (1000000:Int))) (T.ite ((0:Int) != gripC a.L b.L d.I e.I f.I g.B h.I) (T.leaf [D.b false]) (T.ite false (T.leaf [D.b false]) (T.ite false (T.leaf [D.b false]) (T.ite (decide (i.I < (0:Int))) (T.leaf [D.b true]) (T.ite (decide (i.I > IntKind.i64.wrap ((1000000:Int) - h.I))) (T.leaf [D.b true]) (T.need (yes (smallRows a.L ∧ smallRows b.L ∧ c.L.length < big)) (T.ite (compoundOk a.L b.L c.L d.I && within e.I (0:Int) ((a.L.length:Int) - (1:Int)) && within f.I (-40:Int) (80:Int) && within (IntKind.i64.wrap (h.I + i.I)) (0:Int) (1000000:Int)) (T.ite true (T.ite (decide (gripC a.L b.L d.I e.I f.I g.B (IntKind.i64.wrap (h.I + i.I)) ≤ (0:Int))) (T.leaf [D.b true]) (T.leaf [D.b false])) (T.leaf [D.b false])) (T.ite false (T.ite true (T.leaf [D.b true]) (T.leaf [D.b false])) (T.leaf [D.b false])))))))))))))) (T.ite true (T.ite true (T.leaf [D.b true]) (T.leaf [D.b false])) (T.leaf [D.b false]))) (T.ite true (T.ite true (T.leaf [D.b true]) (T.leaf [D.b false])) (T.leaf [D.b false]))) (T.ite true (T.ite true (T.leaf [D.b true]) (T.leaf [D.b false])) (T.leaf [D.b false]))) (T.ite true (T.ite true (T.leaf [D.b true]) (T.leaf [D.b false])) (T.leaf [D.b false])))))):=by kernel_rfl
end Go.Proofs.Ytlofnkkokcihnaa
