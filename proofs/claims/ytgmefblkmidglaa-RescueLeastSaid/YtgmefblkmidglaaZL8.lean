/-
 What the claim rescue_least rests on,part 8.
-/
import Derived.Test.YtgmefblkmidglaaZL7
namespace Go.Proofs.Ytgmefblkmidglaa
open Go.Lite
set_option maxRecDepth 100000
set_option linter.unusedVariables false
theorem ok81 (n:Nat):FnOKW C (n + 1) 81 (mkFW s81 G81):=by
 refine fn_ofW hC (sp:=sp81) (lp:=lp81) (sw:=sw81) trivial trivial (by kernel_rfl) [] (by kernel_rfl) rfl (fun k hk=>by cases hk) fun ds r h=>?_
 unfold G81 at h
 split at h
 ·rename_i m r v a b c t
  exact (congrArg T.run (t81 m r v a b c t)).trans h
 ·cases h
theorem gapP_len (i:Int) (e:List D) (s:List (List D) × Bool):s.1.length ≤ (gapP i e s).1.length ∧ (gapP i e s).1.length ≤ s.1.length + 1:=by
 unfold gapP
 split
 ·exact ⟨Nat.le_refl _,Nat.le_succ _⟩
 ·split
  ·simp only [setTo_len]; omega
  ·simp only [List.length_append,List.length_cons,List.length_nil]; omega
theorem gapsF_len (i:Int):∀ (L:List (List D)) (s:List (List D) × Bool),s.1.length ≤ (gapsF i L s).1.length ∧ (gapsF i L s).1.length ≤ s.1.length + L.length
 | [],s=>⟨Nat.le_refl _,Nat.le_refl _⟩
 | e :: es,s=>by
   have h1:=gapsF_len i es (gapP i e s)
   have h2:=gapP_len i e s
   simp only [gapsF,List.length_cons]
   omega
theorem head96 (e:List D):y96.head e = y96.head [e.getD 0 default,e.getD 1 default,e.getD 2 default]:=by
 match e with
 | []=>rfl
 | [_]=>rfl
 | [_,_]=>rfl
 | _ :: _ :: _ :: _=>rfl
noncomputable def R53 (ds el:List D):Option (Rd × List D):=(roundRT C tab53 53 (rangeOf C.P 53 10) 0 ((headA h53_10 ds).h.length + (y96.head el).2.length) [1,3,4,8,9,10,12,14,15,16,25] h53_10 y96 ds el).run
theorem R53_eq {j:D} {n:Int} (r:List D) (e:List D) (h:j.I = n):R53 (j :: r) e = R53 (.i n :: r) [e.getD 0 default,e.getD 1 default,e.getD 2 default]:=by
 unfold R53 roundRT
 rw [headA_head r h (by decide),head96 e]
theorem fold53 (L:List (List D)):∀ (ds:List D) (rr:Ex × List D),(G53_10 L ds).run = some rr → FoldR R53 y96.give (fun a b=>headA h53_10 a = headA h53_10 b) ds L rr.1 rr.2:=by
 have hby:Try.prog.types[57].bytes = 24:=by kernel_rfl
 induction L with
 | nil=>
   intro ds rr hh
   unfold G53_10 at hh
   split at hh
   ·rename_i j v h z q i n r i' o
    obtain ⟨hp,hh⟩:=need_some hh
    rw [yes_iff] at hp
    cases hh
    refine .nil ?_
    rw [headA_head _ hp.1 (by decide)]
    rw [show headA h53_10 [.i 0,v,h,z,q,i,n,r,i',o] = headA h53_10 [.i 0,.l v.L,.i h.I,.l z.L,.i q.I,.i i.I,.i n.I,.l r.L,.i i'.I,.b o.B] from rfl,hp.2.1]
   ·rename_i j v h z q i n r m i' o g
    obtain ⟨hp,hh⟩:=need_some hh
    rw [yes_iff] at hp
    cases hh
    refine .nil ?_
    rw [headA_head _ hp.1 (by decide)]
    rw [show headA h53_10 [.i 1,v,h,z,q,i,n,r,m,i',o,g] = headA h53_10 [.i 1,.l v.L,.i h.I,.l z.L,.i q.I,.i i.I,.i n.I,.l r.L,.i m.I,.i i'.I,.b o.B,.l g.L] from rfl,hp.2.1]
    rfl
   ·cases hh
 | cons e es ih=>
   intro ds rr hh
   unfold G53_10 at hh
   split at hh
   ·rename_i j v h z q i n r i' o
    obtain ⟨hp,hh⟩:=need_some hh
    rw [yes_iff] at hp
    obtain ⟨hj,ho,hl⟩:=hp
    simp only [List.length_cons] at hl
    simp only [gapsF] at hh
    have key:∃ ds',R53 [.i 0,v,h,z,q,i,n,r,i',o] [e.getD 0 default,e.getD 1 default,e.getD 2 default] = some (.again ds',[]) ∧ (G53_10 es ds').run = some rr:=by
     rw [show R53 [.i 0,v,h,z,q,i,n,r,i',o] [e.getD 0 default,e.getD 1 default,e.getD 2 default] = _ from congrArg T.run (t53_r10_0 v h z q i n r i' o (e.getD 0 default) (e.getD 1 default) (e.getD 2 default))]
     cases hc:(e.getD 2 default).B with
     | true=>
       have hg:gapP i'.I e ([],false) = ([],false):=by
        have:bx e 2 = true:=hc
        unfold gapP
        rw [this]; rfl
       rw [hg] at hh
       exact ⟨_,rfl,(need_yes ⟨rfl,rfl,by omega⟩).trans hh⟩
     | false=>
       have hg:gapP i'.I e ([],false) = ([[.i i'.I,.i (ix e 0),.i (ix e 1)]],true):=by
        have:bx e 2 = false:=hc
        unfold gapP
        rw [this]; rfl
       rw [hg] at hh
       have hne:=(gapsF_len i'.I es ([[.i i'.I,.i (ix e 0),.i (ix e 1)]],true)).1
       rw [empty_false (Nat.lt_of_lt_of_le (by simp) hne)] at hh
       refine ⟨_,go_false rfl (go_false ho (go_need rfl (go_false rfl (go_need rfl rfl)))),(need_yes ⟨rfl,rfl,by simp only [L_l]; exact Nat.zero_lt_one,by omega,by simp only [I_i]; omega⟩).trans hh⟩
    obtain ⟨ds',k1,k2⟩:=key
    refine .again (x':=[]) (ds':=ds') ?_ (fun h=>by cases h) (ih _ _ k2)
    rw [R53_eq _ e hj]
    exact k1
   ·rename_i j v h z q i n r m i' o g
    obtain ⟨hp,hh⟩:=need_some hh
    rw [yes_iff] at hp
    obtain ⟨hj,hm,hg0,hl,hml⟩:=hp
    simp only [List.length_cons] at hl hml
    simp only [gapsF] at hh
    have hnext:∀ (x:List (List D)) (b:Bool),gapP i'.I e (g.L,o.B) = (x,b) → (G53_10 es [.i 1,.l v.L,.i h.I,.l z.L,.i q.I,.i i.I,.i n.I,.l r.L,.i x.length,.i i'.I,.b b,.l x]).run = some rr:=fun x b hx=>by
     have h1:=gapP_len i'.I e (g.L,o.B)
     rw [hx] at hh h1
     simp only at h1
     exact (need_yes ⟨rfl,rfl,by simp only [L_l]; omega,by omega,by simp only [I_i]; omega⟩).trans hh
    have key:∃ ds',R53 [.i 1,v,h,z,q,i,n,r,m,i',o,g] [e.getD 0 default,e.getD 1 default,e.getD 2 default] = some (.again ds',[]) ∧ (G53_10 es ds').run = some rr:=by
     rw [show R53 [.i 1,v,h,z,q,i,n,r,m,i',o,g] [e.getD 0 default,e.getD 1 default,e.getD 2 default] = _ from congrArg T.run (t53_r10_1 v h z q i n r m i' o g (e.getD 0 default) (e.getD 1 default) (e.getD 2 default))]
     simp only [hm,Int.toNat_natCast,upd3']
     cases hc:(e.getD 2 default).B with
     | true=>
       have hb:bx e 2 = true:=hc
       exact ⟨_,rfl,hnext g.L false (by unfold gapP; rw [hb]; rfl)⟩
     | false=>
       have hb:bx e 2 = false:=hc
       cases ho:o.B with
       | true=>
         have hw:IntKind.i64.wrap ((g.L.length:Int) - 1) = (g.L.length:Int) - 1:=wrap_pred (by omega)
         have:=hnext (setTo g.L (ix e 1)) true (by unfold gapP; rw [hb,ho]; rfl)
         rw [setTo_len] at this
         simp only [hw,toNat_pred]
         exact ⟨_,go_false rfl (go_true rfl (go_dec (by omega) (go_dec (by omega) rfl))),this⟩
       | false=>
         have:=hnext (g.L ++ [[.i i'.I,.i (ix e 0),.i (ix e 1)]]) true (by unfold gapP; rw [hb,ho]; rfl)
         simp only [List.length_append,List.length_cons,List.length_nil,Nat.zero_add] at this
         simp only [List.take_length]
         simp only [List.length_cons,List.length_nil,Nat.zero_add]
         exact ⟨_,go_false rfl (go_false rfl (go_need rfl (go_false rfl (go_dec (by rw [hby]; omega) rfl)))),this⟩
    obtain ⟨ds',k1,k2⟩:=key
    refine .again (x':=[]) (ds':=ds') ?_ (fun h=>by cases h) (ih _ _ k2)
    rw [R53_eq _ e hj]
    exact k1
   ·cases hh
theorem ok53_10 (n:Nat):CodeSim C (n + 7) 0 53 (rangeOf C.P 53 10).code none 0 (rangeS 0 [1,3,4,8,9,10,12,14,15,16,25] (rangeOf C.P 53 10).1 it53_10 h53_10 G53_10):=
 range_of0 hC (sp:=sp53) (lp:=lp53) (sw:=sw53) (rg:=rg53) (Y:=y96) (yOK_mk _ _ _) trivial ⟨ok81 (n + 6),trivial⟩ 10 0 (by exact ⟨by kernel_rfl,by kernel_rfl⟩) (by exact ⟨by kernel_rfl,by kernel_rfl⟩)
  (by kernel_rfl) (by kernel_rfl) (it:=it53_10) ⟨ok96 n,trivial⟩ fun L ds rr h=>fold53 L ds rr h
def mu53:List D → Nat
 | [_,_,_,_,q,i,_,_]=>(q.I - i.I).toNat
 | [_,_,_,_,q,i,_,_,_,_]=>(q.I - i.I).toNat
 | _=>0
theorem gapsZ_len (n:Int) (r v z:List (List D)) (h:Int):∀ (k i:Nat) (g:List (List D)),g.length ≤ (gapsZ n r v z h i k g).length
 | 0,_,g=>Nat.le_refl _
 | k + 1,i,g=>by
   simp only [gapsZ]
   exact Nat.le_trans (show g.length ≤ _ from (gapsF_len _ _ (g,false)).1) (gapsZ_len n r v z h k (i + 1) _)
theorem ok53_3 (n:Nat):LoopSim C (n + 7) 53 (loopOf C.P 53 3) (mkL l53_3 G53_3):=by
 refine loop_ofR hC (sp:=sp53) (lp:=lp53) (sw:=sw53) (rg:=rg53) trivial ⟨ok81 (n + 6),trivial⟩ 0 [] [10] (by kernel_rfl) rfl (by kernel_rfl) (by kernel_rfl) (fun k hk=>by cases hk)
  (fun k hk L hL=>by simp at hk; subst hk; cases hL; exact ok53_10 n) (by kernel_rfl) mu53 fun ds rr hh=>?_
 unfold G53_3 at hh
 split at hh
 ·rename_i j v h z q i n' r
  obtain ⟨hp,hh⟩:=need_some hh
  rw [yes_iff] at hp
  obtain ⟨hj,hG,hq,hi0,hi1⟩:=hp
  have hG':=hG
  obtain ⟨hN,hv,hz,hvl,hzl,hh0,hh1⟩:=hG'
  refine ⟨by rw [fuelC]; show (q.I - i.I).toNat < _; omega,?_⟩
  rw [roundTK_head (j:=j) (n:=0) hj (by decide),show roundTK C (mkTabR sp53 lp53 sw53 rg53) 53 (loopOf C.P 53 3) 0 l53_3 [.i 0,v,h,z,q,i,n',r] = _ from t53_3_0 v h z q i n' r]
  obtain ⟨k,hke⟩:∃ k:Nat,i.I = k:=⟨i.I.toNat,by omega⟩
  simp only [hke,hq,Int.toNat_natCast,Nat.reduceAdd,ix_def] at hh hi0 hi1 ⊢
  refine rd_if (fun hlt=>?_) fun hge=>?_
  ·have hmu:((z.L.length:Int) - ((k + 1:Nat):Int)).toNat < (q.I - i.I).toNat:=by omega
   rw [wrap_succ (by omega)]
   rw [show z.L.length - k = (z.L.length - (k + 1)) + 1 by omega] at hh
   simp only [gapsZ] at hh
   have hpl:=piece_len n'.I r.L v.L (mk3 (.i (ix (z.L.getD k []) 0)) (.i (ix (z.L.getD k []) 1)) (.i (ix (z.L.getD k []) 2))) h.I h.I.toNat 0
   have hl:=(gapsF_len (k:Int) (pieceL n'.I r.L v.L (mk3 (.i (ix (z.L.getD k []) 0)) (.i (ix (z.L.getD k []) 1)) (.i (ix (z.L.getD k []) 2))) h.I h.I.toNat 0) ([],false)).2
   simp only [List.length_nil,Nat.zero_add] at hl
   refine rd_dec (by omega) (rd_yes ⟨hN,hv,zon_of hz (by omega:k < z.L.length),hvl,hh0,hh1⟩ (rd_yes ⟨trivial,trivial,by omega⟩ (rd_ite (fun c=>?_) fun c=>?_)))
   ·rw [empty_nil c] at hh
    exact rd_again ((need_yes ⟨rfl,hG,rfl,by simp only [I_i]; omega,by simp only [I_i,L_l]; omega⟩).trans hh) hmu
   ·have hpos:0 < (gapsF (k:Int) (pieceL n'.I r.L v.L (mk3 (.i (ix (z.L.getD k []) 0)) (.i (ix (z.L.getD k []) 1)) (.i (ix (z.L.getD k []) 2))) h.I h.I.toNat 0) ([],false)).1.length:=by
     rw [List.length_pos_iff]
     intro he
     rw [he] at c
     cases c
    rw [empty_false (Nat.lt_of_lt_of_le hpos (gapsZ_len n'.I r.L v.L z.L h.I _ _ _))] at hh
    exact rd_again ((need_yes ⟨rfl,hG,rfl,by simp only [I_i,L_l]; omega,rfl,hpos,by simp only [I_i]; omega⟩).trans hh) hmu
  ·rw [show z.L.length - k = 0 by omega] at hh
   exact rd_out hh
 ·rename_i j v h z q i n' r m g
  obtain ⟨hp,hh⟩:=need_some hh
  rw [yes_iff] at hp
  obtain ⟨hj,hG,hq,hi,hm,hg0,hmb⟩:=hp
  have hG':=hG
  obtain ⟨hN,hv,hz,hvl,hzl,hh0,hh1⟩:=hG'
  refine ⟨by rw [fuelC]; show (q.I - i.I).toNat < _; omega,?_⟩
  rw [roundTK_head (j:=j) (n:=1) hj (by decide),show roundTK C (mkTabR sp53 lp53 sw53 rg53) 53 (loopOf C.P 53 3) 0 l53_3 [.i 1,v,h,z,q,i,n',r,m,g] = _ from t53_3_1 v h z q i n' r m g]
  obtain ⟨k,hke⟩:∃ k:Nat,i.I = k:=⟨i.I.toNat,by omega⟩
  rw [hm] at hmb
  simp only [hke,hq,hm,Int.toNat_natCast,Nat.reduceAdd,ix_def] at hh hi hmb ⊢
  refine rd_if (fun hlt=>?_) fun hge=>?_
  ·have hmu:((z.L.length:Int) - ((k + 1:Nat):Int)).toNat < (q.I - i.I).toNat:=by omega
   rw [wrap_succ (by omega)]
   rw [show z.L.length - k = (z.L.length - (k + 1)) + 1 by omega] at hh
   simp only [gapsZ] at hh
   have hpl:=piece_len n'.I r.L v.L (mk3 (.i (ix (z.L.getD k []) 0)) (.i (ix (z.L.getD k []) 1)) (.i (ix (z.L.getD k []) 2))) h.I h.I.toNat 0
   have hl:=gapsF_len (k:Int) (pieceL n'.I r.L v.L (mk3 (.i (ix (z.L.getD k []) 0)) (.i (ix (z.L.getD k []) 1)) (.i (ix (z.L.getD k []) 2))) h.I h.I.toNat 0) (g.L,false)
   simp only at hl
   refine rd_dec (by omega) (rd_yes ⟨hN,hv,zon_of hz (by omega:k < z.L.length),hvl,hh0,hh1⟩ (rd_yes ⟨rfl,trivial,hg0,by omega,by omega⟩ (rd_again ((need_yes ⟨rfl,hG,rfl,by simp only [I_i,L_l]; omega,rfl,by simp only [L_l]; omega,by simp only [I_i]; omega⟩).trans hh) hmu)))
  ·rw [show z.L.length - k = 0 by omega] at hh
   exact rd_out hh
 ·cases hh
theorem ok53 (n:Nat):FnOK C (n + 8) 53 (mkF s53 G53):=by
 refine fn_ofR hC (sp:=sp53) (lp:=lp53) (sw:=sw53) (rg:=rg53) trivial ⟨ok81 (n + 6),trivial⟩ (by kernel_rfl) [3] [] (by kernel_rfl) (by kernel_rfl) (by kernel_rfl) rfl (fun k hk L hL=>by
  simp at hk; subst hk; cases hL; exact ok53_3 n) (fun k hk=>by cases hk) fun ds rr hh=>?_
 unfold G53 at hh
 split at hh
 ·rename_i m r v z t
  obtain ⟨hp,hh⟩:=need_some hh
  rw [yes_iff] at hp
  refine (congrArg T.run (t53 m r v z t)).trans ?_
  rw [← hh]
  simp only [Int.toNat_zero,Nat.sub_zero,Int.toNat_natCast]
  exact go_yes ⟨trivial,hp,trivial,by omega,by omega⟩ rfl
 ·cases hh
theorem cover_parts {n:Int} {r v:List (List D)} {most:Int} {z:List (List D)} {h:Int} (hm:most ≤ 1000) (hc:coverB n r v most z h = true):okG n r v z h:=by
 unfold coverB at hc
 rw [Bool.and_eq_true,Bool.and_eq_true,Bool.and_eq_true,decide_eq_true_iff] at hc
 exact ⟨hc.1.1.1,hc.1.2,hc.2,by omega,by omega,by omega,by omega⟩
theorem candT_zero {v cs:List (List D)} {i:Nat}:candT v cs 0 i = [cs]:=by
 unfold candT
 simp only [chF,List.map_cons,List.map_nil]
 show [cs ++ []] = _
 rw [List.append_nil]
theorem candT_pos {v cs:List (List D)} {m i:Nat} (h:0 < m):candT v cs m i = restT v cs m i:=by
 obtain ⟨k,rfl⟩:∃ k,m = k + 1:=⟨m - 1,by omega⟩
 rfl
theorem restT_step {v cs:List (List D)} {m k:Nat} (h:k < v.length):restT v cs m k = candT v (cs ++ [[.i k]]) (m - 1) (k + 1) ++ restT v cs m (k + 1):=by
 unfold restT candT
 rw [show v.length - k = (v.length - (k + 1)) + 1 by omega]
 simp only [chW,List.map_append,List.map_map]
 congr 1
 refine List.map_congr_left fun c _=>?_
 show cs ++ ([D.i k] :: lx c 0) = _
 simp
theorem restT_end {v cs:List (List D)} {m k:Nat} (h:v.length ≤ k):restT v cs m k = []:=by
 unfold restT
 rw [show v.length - k = 0 by omega]
 rfl
theorem findT_append {n:Int} {r v z:List (List D)} {h:Int} {a b:List (List (List D))}:findT n r v z h (a ++ b) = (findT n r v z h a).or (findT n r v z h b):=List.find?_append
theorem findT_one {n:Int} {r v z:List (List D)} {h:Int} {c:List (List D)}:(findT n r v z h [c]).isSome = covT n r v z h c:=by
 unfold findT
 simp only [List.find?_cons,List.find?_nil]
 split <;> rename_i e
 ·rw [e]; rfl
 ·rw [e]; rfl
theorem fndT_one {n:Int} {r v z:List (List D)} {h:Int} {f c:List (List D)}:fndT n r v z h f [c] = c:=by
 unfold fndT findT
 simp only [List.find?_cons,List.find?_nil]
 split <;> rfl
theorem getLastD_append {α:Type} {f:α}:∀ {a b:List α},(a ++ b).getLastD f = b.getLastD (a.getLastD f)
 | a,[]=>by simp
 | a, x :: b=>by
   rw [List.getLastD_eq_getLast?,List.getLastD_eq_getLast?,List.getLast?_append]
   simp [List.getLast?_cons]
theorem fndT_some {n:Int} {r v z:List (List D)} {h:Int} {f:List (List D)} {a b:List (List (List D))} (e:(findT n r v z h a).isSome = true):fndT n r v z h f (a ++ b) = fndT n r v z h f a:=by
 obtain ⟨c,hc⟩:=Option.isSome_iff_exists.1 e
 unfold fndT
 rw [findT_append,hc]
 rfl
theorem fndT_none {n:Int} {r v z:List (List D)} {h:Int} {f:List (List D)} {a b:List (List (List D))} (e:(findT n r v z h a).isSome = false):fndT n r v z h f (a ++ b) = fndT n r v z h (fndT n r v z h f a) b:=by
 have hn:findT n r v z h a = none:=by simpa using e
 unfold fndT
 rw [findT_append,hn,getLastD_append]
 rfl
theorem msetD_pos {kk:List K} {key:List D} {d:D} {l:List (List D)}:0 < (msetD kk key d l).length:=by
 unfold msetD
 split
 ·rename_i i hi
  rw [List.length_set]
  cases l with
  | nil=>cases hi
  | cons _ _=>simp
 ·simp
theorem openF_pos:∀ (g:List (List D)) (l:List (List D)),0 < l.length → 0 < (openF l g).length
 | [],_,h=>h
 | _ :: g,_,_=>openF_pos g _ msetD_pos
theorem openF_len {g:List (List D)}:((openF [] g).length:Int) = 0 ↔ g = []:=by
 cases g with
 | nil=>exact ⟨fun _=>rfl,fun _=>rfl⟩
 | cons c g=>
   have:=openF_pos g _ (msetD_pos (kk:=[.int .i64]) (key:=[.i (ix c 0)]) (d:=.b true) (l:=[]))
   have h2:openF [] (c :: g) = openF (msetD [.int .i64] [.i (ix c 0)] (.b true) []) g:=rfl
   rw [h2]
   constructor
   ·intro h; omega
   ·intro h; cases h
theorem gapsZ_few {n:Int} {r v z:List (List D)} {h:Int} (hh:h ≤ 100000):∀ (k i:Nat) (g:List (List D)),(gapsZ n r v z h i k g).length ≤ g.length + 100000 * k
 | 0,i,g=>by simp [gapsZ]
 | k + 1,i,g=>by
   simp only [gapsZ]
   refine Nat.le_trans (gapsZ_few hh k _ _) ?_
   have h1:=(gapsF_len (i:Int) (pieceL n r v (mk3 (.i (ix (z.getD i []) 0)) (.i (ix (z.getD i []) 1)) (.i (ix (z.getD i []) 2))) h h.toNat 0) (g,false)).2
   have h2:=piece_len n r v (mk3 (.i (ix (z.getD i []) 0)) (.i (ix (z.getD i []) 1)) (.i (ix (z.getD i []) 2))) h h.toNat 0
   simp only at h1
   omega
theorem gapsA_len {n:Int} {r v z:List (List D)} {h:Int} (hG:okG n r v z h):(gapsA n r v z h).length ≤ 10000000:=by
 obtain ⟨-,-,-,-,h5,h6,h7⟩:=hG
 have:=gapsZ_few (n:=n) (r:=r) (v:=v) (z:=z) h7 z.length 0 []
 unfold gapsA
 simp only [List.length_nil] at this
 omega
theorem chos_ent {v cs:List (List D)} (h:chosOk v cs):∀ x ∈ cs,0 ≤ ix x 0 ∧ ix x 0 < v.length:=fun x hx=>by
 obtain ⟨j,hj,rfl⟩:=List.mem_iff_getElem.1 hx
 have:=h.2 j hj
 rwa [List.getD_eq_getElem?_getD,List.getElem?_eq_getElem hj] at this
theorem chos_ok {n:Int} {r v z:List (List D)} {h:Int} {cs:List (List D)} (hG:okG n r v z h) (hc:chosOk v cs):okG n r (teamL v cs) z h:=
 team_ok hG (by have:=hc.1; omega) (chos_ent hc)
theorem chos_more {v cs:List (List D)} {k:Nat} (hc:chosOk v cs) (h12:cs.length + 1 ≤ 12) (hk:k < v.length):chosOk v (cs ++ [[.i k]]):=by
 refine ⟨by simpa using h12,fun j hj=>?_⟩
 rw [List.length_append,List.length_singleton] at hj
 by_cases h:j < cs.length
 ·rw [List.getD_eq_getElem?_getD,List.getElem?_append_left h,← List.getD_eq_getElem?_getD]
  exact hc.2 j h
 ·have:j = cs.length:=by omega
  subst this
  rw [List.getD_eq_getElem?_getD,List.getElem?_append_right (Nat.le_refl _),Nat.sub_self]
  show 0 ≤ (k:Int) ∧ (k:Int) < v.length
  omega
noncomputable def leastP (n:Int) (r v z:List (List D)) (h:Int):Nat → Nat → Option (List (List D))
 | _,0=>none
 | m, k + 1=>match findT n r v z h (candT v [] m 0) with
   | some c=>some c
   | none=>leastP n r v z h (m + 1) k
theorem leastP_step {n:Int} {r v z:List (List D)} {h:Int} {m k:Nat}:leastP n r v z h m (k + 1) = match findT n r v z h (candT v [] m 0) with
    | some c=>some c
    | none=>leastP n r v z h (m + 1) k:=rfl
theorem find_congr {α:Type} {p q:α → Bool}:∀ {l:List α},(∀ x ∈ l,p x = q x) → l.find? p = l.find? q
 | [],_=>rfl
 | x :: l,h=>by
   rw [List.find?_cons,List.find?_cons,h x (List.mem_cons_self ..),find_congr fun y hy=>h y (List.mem_cons_of_mem _ hy)]
theorem covT_cov {n:Int} {r v z:List (List D)} {h:Int} {c:List D} (hG:okG n r (teamF v c) z h):covT n r v z h (lx c 0) = cov n r v z h c:=by
 unfold covT cov gapsA
 rw [show teamL v (lx c 0) = teamF v c from rfl,gaps_same hG _ _ _ (by omega)]
theorem findT_first {n:Int} {r v z:List (List D)} {h:Int} {m:Nat} (hG:okG n r v z h) (hm:m ≤ 12):findT n r v z h (candT v [] m 0) = (firstC n r v z h (chF v.length m 0)).map fun c=>lx c 0:=by
 unfold findT candT firstC
 rw [List.find?_map]
 congr 1
 refine find_congr fun c hc=>?_
 obtain ⟨k,hk,rfl⟩:=List.mem_iff_getElem.1 hc
 have:=chF_teams (v:=v) hG hm k hk
 rw [List.getD_eq_getElem?_getD,List.getElem?_eq_getElem hk] at this
 exact covT_cov this
theorem leastP_same {n:Int} {r v z:List (List D)} {h:Int} (hG:okG n r v z h):∀ (k m:Nat),m + k ≤ 13 → leastP n r v z h m k = (leastN n r v z h m k).map fun c=>lx c 0
 | 0,_,_=>rfl
 | k + 1,m,hm=>by
   rw [leastP_step,leastN_step,findT_first hG (by omega)]
   cases firstC n r v z h (chF v.length m 0) with
   | some c=>rfl
   | none=>exact leastP_same hG k (m + 1) (by omega)
def incL (i n:Nat):List (List D) → Prop
 | []=>True
 | x :: l=>∃ k:Nat,x = [D.i k] ∧ i ≤ k ∧ k < n ∧ incL (k + 1) n l
theorem incL_le {n:Nat}:∀ {l:List (List D)} {i j:Nat},i ≤ j → incL j n l → incL i n l
 | [],_,_,_,_=>trivial
 | _ :: _,_,_,h,⟨k,e,h1,h2,h3⟩=>⟨k,e,by omega,h2,h3⟩
theorem chW_inc {ch:Nat → List (List D)} {n:Nat} (hc:∀ j,∀ c ∈ ch j,incL j n (lx c 0)):∀ k i,i + k ≤ n → ∀ c ∈ chW ch i k,incL i n (lx c 0)
 | 0,_,_,_,h=>by cases h
 | k + 1,i,hi,c,h=>by
   simp only [chW,List.mem_append,List.mem_map] at h
   rcases h with ⟨a,ha,rfl⟩ | h
   ·show incL i n ([D.i i] :: lx a 0)
    exact ⟨i,rfl,Nat.le_refl _,by omega,hc _ a ha⟩
   ·exact incL_le (by omega) (chW_inc hc k (i + 1) (by omega) c h)
theorem chF_inc {n:Nat}:∀ m i,∀ c ∈ chF n m i,incL i n (lx c 0)
 | 0, i,c,h=>by
   simp only [chF,List.mem_singleton] at h
   rw [h]; trivial
 | m + 1,i,c,h=>by
   by_cases hi:i ≤ n
   ·exact chW_inc (fun j=>chF_inc m j) _ _ (by omega) c h
   ·simp only [chF] at h
    rw [show n - i = 0 by omega] at h
    cases h
theorem leastP_mem {n:Int} {r v z:List (List D)} {h:Int} {c:List (List D)}:∀ (k m:Nat),leastP n r v z h m k = some c → covT n r v z h c = true ∧ incL 0 v.length c ∧ m ≤ c.length
 | 0,_,e=>by cases e
 | k + 1,m,e=>by
   rw [leastP_step] at e
   cases hq:findT n r v z h (candT v [] m 0) with
   | some d=>
     rw [hq] at e
     cases e
     have h1:=List.find?_some hq
     have h2:=List.mem_of_find?_eq_some hq
     unfold candT at h2
     rw [List.mem_map] at h2
     obtain ⟨a,ha,rfl⟩:=h2
     have h3:=chF_mem m 0 a ha
     exact ⟨h1,chF_inc m 0 a ha,by rw [List.nil_append,h3]; exact Nat.le_refl _⟩
   | none=>
     rw [hq] at e
     have:=leastP_mem k (m + 1) e
     exact ⟨this.1,this.2.1,by omega⟩
def s32:SigW:=⟨[.agg [.k (.int .i64),.k (.ro [.int .i64,.int .i64,.int .i64,.ro [.int .i64,.int .i64]])],.k (.ro [.int .i64,.int .i64,.int .i64,.int .i64]),.k (.ro [.int .i64,.int .i64,.int .i64]),.k (.int .i64)],[],[(.tup [.k (.ro [.int .i64]),.k (.int .i64)],[])]⟩
def l32_8:LSig:=mkLS [5,10,11,12] [(32,[(5,.ptr 0 1 0 0),(10,.ptr 1 1 0 0),(11,.ptr 2 1 0 0),(12,.k (.int .i64))],[.box [.k (.ro [.int .i64,.int .i64,.int .i64,.int .i64])],.box [.k (.ro [.int .i64])],.box [.fn 55 [] [.ptr 0 1 0 0,.ptr 1 1 0 0,.ptr 3 2 0 0,.ptr 4 1 0 0,.ptr 5 1 0 0,.ptr 2 1 0 0]],.box [.k (.int .i64),.k (.ro [.int .i64,.int .i64,.int .i64,.ro [.int .i64,.int .i64]])],.box [.k (.ro [.int .i64,.int .i64,.int .i64])],.box [.k (.int .i64)]])] [(.ret,[8,9],[(32,[(8,.k (.ro [.int .i64])),(9,.k (.int .i64))],[])]),(.exit 0,[10],[(32,[(10,.ptr 0 1 0 0)],[.box [.k (.ro [.int .i64])]])])]
noncomputable section
def leastF (n:Int) (r v z:List (List D)) (h:Int):Option (List (List D)):=leastP n r v z h 0 (v.length + 1)
def G32 (ds:List D):T (List D):=match ds with
 | [n, r,v,z,h]=>.ite (coverB n.I r.L v.L 12 z.L h.I)
     (.ite (leastF n.I r.L v.L z.L h.I).isSome (.leaf [.l ((leastF n.I r.L v.L z.L h.I).getD []),.i 0]) (.leaf [.l [],.i 5])) (.leaf [.l [],.i 2])
 | _=>.fail
def G32_8 (ds:List D):T (Ex × List D):=match ds with
 | [s, v,_f,n,r,z,h]=>.need (yes (okG n.I r.L v.L z.L h.I ∧ v.L.length ≤ 12 ∧ 0 ≤ s.I ∧ s.I ≤ v.L.length + 1))
     (.ite (leastP n.I r.L v.L z.L h.I s.I.toNat (v.L.length + 1 - s.I.toNat)).isSome (.leaf (.exit 0,[.l ((leastP n.I r.L v.L z.L h.I s.I.toNat (v.L.length + 1 - s.I.toNat)).getD [])])) (.leaf (.ret,[.l [],.i 5])))
 | _=>.fail
end
def s9:Sig:=⟨[.agg [.k (.int .i64),.k (.ro [.int .i64,.int .i64,.int .i64,.ro [.int .i64,.int .i64]])],.k (.ro [.int .i64,.int .i64,.int .i64,.int .i64]),.k (.ro [.int .i64,.int .i64,.int .i64]),.k (.int .i64)],[(.k .bool,[])]⟩
noncomputable def sp9:SpL:=[(15,mkF s15 G15),(26,mkF s26 G26),(19,mkF s19 G19),(28,mkF s28 G28),(29,mkF s29 G29),(21,mkF s21 G21)]
noncomputable def lp9:LpL:=[]
noncomputable def sw9:SwL:=[(32,mkFW s32 G32),(33,mkFW s33 G33)]
noncomputable def tab9:Tab:=mkTab sp9 lp9 sw9
set_option linter.unusedVariables false
set_option maxRecDepth 100000
theorem t9 (a b c d e:D):(fnT C tab9 9 s9 [a,b,c,d,e]).run =
 T.run (T.ite (!smallB a.I b.L) (T.leaf [D.b true]) (T.ite (!fewC (c.L.length:Int) (d.L.length:Int) e.I (12:Int)) (T.leaf [D.b true]) (T.ite (decide ((c.L.length:Int) > (5:Int))) (T.ite (decide ((c.L.length:Int) ≤ (12:Int))) (T.leaf [D.b true]) (T.ite (decide (e.I > (20:Int))) (T.ite (decide (e.I ≤ (100000:Int))) (T.leaf [D.b true]) (T.ite (coverB a.I b.L c.L (12:Int) d.L e.I) (T.ite (Option.isSome (leastF a.I b.L c.L d.L e.I)) (T.ite (!netB a.I b.L) (T.leaf [D.b false]) (T.ite (decide ((c.L.length:Int) > (12:Int))) (T.leaf [D.b false]) (T.need (yes (((1:Int) ≤ a.I ∧ a.I ≤ (200:Int)) ∧ c.L.length < big)) (T.ite (!vehs a.I c.L) (T.leaf [D.b false]) (T.need (yes (((1:Int) ≤ a.I ∧ a.I ≤ (200:Int)) ∧ d.L.length < big)) (T.ite (!(zons a.I d.L && decide (d.L.length ≤ 100))) (T.leaf [D.b false]) (T.ite (decide (e.I < (0:Int))) (T.leaf [D.b false]) (T.ite (decide (e.I > (100000:Int))) (T.leaf [D.b false]) (T.need (yes (okG a.I b.L c.L d.L e.I ∧ c.L.length ≤ 12)) (T.ite (Option.isSome (leastN a.I b.L c.L d.L e.I 0 (c.L.length + 1))) (T.need (yes (List.length (Option.getD (leastF a.I b.L c.L d.L e.I) []) < big)) (T.ite (sameR (Option.getD (leastF a.I b.L c.L d.L e.I) []) (theC (leastN a.I b.L c.L d.L e.I 0 (c.L.length + 1)))) (T.leaf [D.b true]) (T.leaf [D.b false]))) (T.leaf [D.b false]))))))))))) (T.ite (!netB a.I b.L) (T.leaf [D.b false]) (T.ite (decide ((c.L.length:Int) > (12:Int))) (T.leaf [D.b false]) (T.need (yes (((1:Int) ≤ a.I ∧ a.I ≤ (200:Int)) ∧ c.L.length < big)) (T.ite (!vehs a.I c.L) (T.leaf [D.b false]) (T.need (yes (((1:Int) ≤ a.I ∧ a.I ≤ (200:Int)) ∧ d.L.length < big)) (T.ite (!(zons a.I d.L && decide (d.L.length ≤ 100))) (T.leaf [D.b false]) (T.ite (decide (e.I < (0:Int))) (T.leaf [D.b false]) (T.ite (decide (e.I > (100000:Int))) (T.leaf [D.b false]) (T.need (yes (okG a.I b.L c.L d.L e.I ∧ c.L.length ≤ 12)) (T.ite (Option.isSome (leastN a.I b.L c.L d.L e.I 0 (c.L.length + 1))) (T.leaf [D.b false]) (T.leaf [D.b true])))))))))))) (T.ite (!netB a.I b.L) (T.leaf [D.b true]) (T.ite (decide ((c.L.length:Int) > (12:Int))) (T.leaf [D.b true]) (T.need (yes (((1:Int) ≤ a.I ∧ a.I ≤ (200:Int)) ∧ c.L.length < big)) (T.ite (!vehs a.I c.L) (T.leaf [D.b true]) (T.need (yes (((1:Int) ≤ a.I ∧ a.I ≤ (200:Int)) ∧ d.L.length < big)) (T.ite (!(zons a.I d.L && decide (d.L.length ≤ 100))) (T.leaf [D.b true]) (T.ite (decide (e.I < (0:Int))) (T.leaf [D.b true]) (T.ite (decide (e.I > (100000:Int))) (T.leaf [D.b true]) (T.need (yes (okG a.I b.L c.L d.L e.I ∧ c.L.length ≤ 12)) (T.ite (Option.isSome (leastN a.I b.L c.L d.L e.I 0 (c.L.length + 1))) (T.leaf [D.b false]) (T.leaf [D.b false]))))))))))))) (T.ite (coverB a.I b.L c.L (12:Int) d.L e.I) (T.ite (Option.isSome (leastF a.I b.L c.L d.L e.I)) (T.ite (!netB a.I b.L) (T.leaf [D.b false]) (T.ite (decide ((c.L.length:Int) > (12:Int))) (T.leaf [D.b false]) (T.need (yes (((1:Int) ≤ a.I ∧ a.I ≤ (200:Int)) ∧ c.L.length < big)) (T.ite (!vehs a.I c.L) (T.leaf [D.b false]) (T.need (yes (((1:Int) ≤ a.I ∧ a.I ≤ (200:Int)) ∧ d.L.length < big)) (T.ite (!(zons a.I d.L && decide (d.L.length ≤ 100))) (T.leaf [D.b false]) (T.ite (decide (e.I < (0:Int))) (T.leaf [D.b false]) (T.ite (decide (e.I > (100000:Int))) (T.leaf [D.b false]) (T.need (yes (okG a.I b.L c.L d.L e.I ∧ c.L.length ≤ 12)) (T.ite (Option.isSome (leastN a.I b.L c.L d.L e.I 0 (c.L.length + 1))) (T.need (yes (List.length (Option.getD (leastF a.I b.L c.L d.L e.I) []) < big)) (T.ite (sameR (Option.getD (leastF a.I b.L c.L d.L e.I) []) (theC (leastN a.I b.L c.L d.L e.I 0 (c.L.length + 1)))) (T.leaf [D.b true]) (T.leaf [D.b false]))) (T.leaf [D.b false]))))))))))) (T.ite (!netB a.I b.L) (T.leaf [D.b false]) (T.ite (decide ((c.L.length:Int) > (12:Int))) (T.leaf [D.b false]) (T.need (yes (((1:Int) ≤ a.I ∧ a.I ≤ (200:Int)) ∧ c.L.length < big)) (T.ite (!vehs a.I c.L) (T.leaf [D.b false]) (T.need (yes (((1:Int) ≤ a.I ∧ a.I ≤ (200:Int)) ∧ d.L.length < big)) (T.ite (!(zons a.I d.L && decide (d.L.length ≤ 100))) (T.leaf [D.b false]) (T.ite (decide (e.I < (0:Int))) (T.leaf [D.b false]) (T.ite (decide (e.I > (100000:Int))) (T.leaf [D.b false]) (T.need (yes (okG a.I b.L c.L d.L e.I ∧ c.L.length ≤ 12)) (T.ite (Option.isSome (leastN a.I b.L c.L d.L e.I 0 (c.L.length + 1))) (T.leaf [D.b false]) (T.leaf [D.b true])))))))))))) (T.ite (!netB a.I b.L) (T.leaf [D.b true]) (T.ite (decide ((c.L.length:Int) > (12:Int))) (T.leaf [D.b true]) (T.need (yes (((1:Int) ≤ a.I ∧ a.I ≤ (200:Int)) ∧ c.L.length < big)) (T.ite (!vehs a.I c.L) (T.leaf [D.b true]) (T.need (yes (((1:Int) ≤ a.I ∧ a.I ≤ (200:Int)) ∧ d.L.length < big)) (T.ite (!(zons a.I d.L && decide (d.L.length ≤ 100))) (T.leaf [D.b true]) (T.ite (decide (e.I < (0:Int))) (T.leaf [D.b true]) (T.ite (decide (e.I > (100000:Int))) (T.leaf [D.b true]) (T.need (yes (okG a.I b.L c.L d.L e.I ∧ c.L.length ≤ 12)) (T.ite (Option.isSome (leastN a.I b.L c.L d.L e.I 0 (c.L.length + 1))) (T.leaf [D.b false]) (T.leaf [D.b false])))))))))))))) (T.ite (decide (e.I > (20:Int))) (T.ite (decide (e.I ≤ (100000:Int))) (T.leaf [D.b true]) (T.ite (coverB a.I b.L c.L (12:Int) d.L e.I) (T.ite (Option.isSome (leastF a.I b.L c.L d.L e.I)) (T.ite (!netB a.I b.L) (T.leaf [D.b false]) (T.ite (decide ((c.L.length:Int) > (12:Int))) (T.leaf [D.b false]) (T.need (yes (((1:Int) ≤ a.I ∧ a.I ≤ (200:Int)) ∧ c.L.length < big)) (T.ite (!vehs a.I c.L) (T.leaf [D.b false]) (T.need (yes (((1:Int) ≤ a.I ∧ a.I ≤ (200:Int)) ∧ d.L.length < big)) (T.ite (!(zons a.I d.L && decide (d.L.length ≤ 100))) (T.leaf [D.b false]) (T.ite (decide (e.I < (0:Int))) (T.leaf [D.b false]) (T.ite (decide (e.I > (100000:Int))) (T.leaf [D.b false]) (T.need (yes (okG a.I b.L c.L d.L e.I ∧ c.L.length ≤ 12)) (T.ite (Option.isSome (leastN a.I b.L c.L d.L e.I 0 (c.L.length + 1))) (T.need (yes (List.length (Option.getD (leastF a.I b.L c.L d.L e.I) []) < big)) (T.ite (sameR (Option.getD (leastF a.I b.L c.L d.L e.I) []) (theC (leastN a.I b.L c.L d.L e.I 0 (c.L.length + 1)))) (T.leaf [D.b true]) (T.leaf [D.b false]))) (T.leaf [D.b false]))))))))))) (T.ite (!netB a.I b.L) (T.leaf [D.b false]) (T.ite (decide ((c.L.length:Int) > (12:Int))) (T.leaf [D.b false]) (T.need (yes (((1:Int) ≤ a.I ∧ a.I ≤ (200:Int)) ∧ c.L.length < big)) (T.ite (!vehs a.I c.L) (T.leaf [D.b false]) (T.need (yes (((1:Int) ≤ a.I ∧ a.I ≤ (200:Int)) ∧ d.L.length < big)) (T.ite (!(zons a.I d.L && decide (d.L.length ≤ 100))) (T.leaf [D.b false]) (T.ite (decide (e.I < (0:Int))) (T.leaf [D.b false]) (T.ite (decide (e.I > (100000:Int))) (T.leaf [D.b false]) (T.need (yes (okG a.I b.L c.L d.L e.I ∧ c.L.length ≤ 12)) (T.ite (Option.isSome (leastN a.I b.L c.L d.L e.I 0 (c.L.length + 1))) (T.leaf [D.b false]) (T.leaf [D.b true])))))))))))) (T.ite (!netB a.I b.L) (T.leaf [D.b true]) (T.ite (decide ((c.L.length:Int) > (12:Int))) (T.leaf [D.b true]) (T.need (yes (((1:Int) ≤ a.I ∧ a.I ≤ (200:Int)) ∧ c.L.length < big)) (T.ite (!vehs a.I c.L) (T.leaf [D.b true]) (T.need (yes (((1:Int) ≤ a.I ∧ a.I ≤ (200:Int)) ∧ d.L.length < big)) (T.ite (!(zons a.I d.L && decide (d.L.length ≤ 100))) (T.leaf [D.b true]) (T.ite (decide (e.I < (0:Int))) (T.leaf [D.b true]) (T.ite (decide (e.I > (100000:Int))) (T.leaf [D.b true]) (T.need (yes (okG a.I b.L c.L d.L e.I ∧ c.L.length ≤ 12)) (T.ite (Option.isSome (leastN a.I b.L c.L d.L e.I 0 (c.L.length + 1))) (T.leaf [D.b false]) (T.leaf [D.b false]))))))))))))) (T.ite (coverB a.I b.L c.L (12:Int) d.L e.I) (T.ite (Option.isSome (leastF a.I b.L c.L d.L e.I)) (T.ite (!netB a.I b.L) (T.leaf [D.b false]) (T.ite (decide ((c.L.length:Int) > (12:Int))) (T.leaf [D.b false]) (T.need (yes (((1:Int) ≤ a.I ∧ a.I ≤ (200:Int)) ∧ c.L.length < big)) (T.ite (!vehs a.I c.L) (T.leaf [D.b false]) (T.need (yes (((1:Int) ≤ a.I ∧ a.I ≤ (200:Int)) ∧ d.L.length < big)) (T.ite (!(zons a.I d.L && decide (d.L.length ≤ 100))) (T.leaf [D.b false]) (T.ite (decide (e.I < (0:Int))) (T.leaf [D.b false]) (T.ite (decide (e.I > (100000:Int))) (T.leaf [D.b false]) (T.need (yes (okG a.I b.L c.L d.L e.I ∧ c.L.length ≤ 12)) (T.ite (Option.isSome (leastN a.I b.L c.L d.L e.I 0 (c.L.length + 1))) (T.need (yes (List.length (Option.getD (leastF a.I b.L c.L d.L e.I) []) < big)) (T.ite (sameR (Option.getD (leastF a.I b.L c.L d.L e.I) []) (theC (leastN a.I b.L c.L d.L e.I 0 (c.L.length + 1)))) (T.leaf [D.b true]) (T.leaf [D.b false]))) (T.leaf [D.b false]))))))))))) (T.ite (!netB a.I b.L) (T.leaf [D.b false]) (T.ite (decide ((c.L.length:Int) > (12:Int))) (T.leaf [D.b false]) (T.need (yes (((1:Int) ≤ a.I ∧ a.I ≤ (200:Int)) ∧ c.L.length < big)) (T.ite (!vehs a.I c.L) (T.leaf [D.b false]) (T.need (yes (((1:Int) ≤ a.I ∧ a.I ≤ (200:Int)) ∧ d.L.length < big)) (T.ite (!(zons a.I d.L && decide (d.L.length ≤ 100))) (T.leaf [D.b false]) (T.ite (decide (e.I < (0:Int))) (T.leaf [D.b false]) (T.ite (decide (e.I > (100000:Int))) (T.leaf [D.b false]) (T.need (yes (okG a.I b.L c.L d.L e.I ∧ c.L.length ≤ 12)) (T.ite (Option.isSome (leastN a.I b.L c.L d.L e.I 0 (c.L.length + 1))) (T.leaf [D.b false]) (T.leaf [D.b true])))))))))))) (T.ite (!netB a.I b.L) (T.leaf [D.b true]) (T.ite (decide ((c.L.length:Int) > (12:Int))) (T.leaf [D.b true]) (T.need (yes (((1:Int) ≤ a.I ∧ a.I ≤ (200:Int)) ∧ c.L.length < big)) (T.ite (!vehs a.I c.L) (T.leaf [D.b true]) (T.need (yes (((1:Int) ≤ a.I ∧ a.I ≤ (200:Int)) ∧ d.L.length < big)) (T.ite (!(zons a.I d.L && decide (d.L.length ≤ 100))) (T.leaf [D.b true]) (T.ite (decide (e.I < (0:Int))) (T.leaf [D.b true]) (T.ite (decide (e.I > (100000:Int))) (T.leaf [D.b true]) (T.need (yes (okG a.I b.L c.L d.L e.I ∧ c.L.length ≤ 12)) (T.ite (Option.isSome (leastN a.I b.L c.L d.L e.I 0 (c.L.length + 1))) (T.leaf [D.b false]) (T.leaf [D.b false])))))))))))))))):=by kernel_rfl
noncomputable def sp32:SpL:=[(52,mkF s52 G52)]
noncomputable def lp32:LpL:=[(8,mkL l32_8 G32_8)]
noncomputable def sw32:SwL:=[(55,mkFW s55 (G55 13))]
noncomputable def tab32:Tab:=mkTab sp32 lp32 sw32
set_option linter.unusedVariables false
set_option maxRecDepth 100000
theorem t32 (a b c d e:D):(fnTW C tab32 32 s32 [a,b,c,d,e]).run =
 T.run (T.need (yes ((12:Int) ≤ (1000:Int))) (T.ite (!coverB a.I b.L c.L (12:Int) d.L e.I) (T.leaf [D.l [],D.i 2]) (T.need (yes (okG a.I b.L c.L d.L e.I ∧ c.L.length ≤ 12 ∧ (0:Int) ≤ (0:Int) ∧ (0:Int) ≤ (c.L.length:Int) + (1:Int))) (T.ite (Option.isSome (leastP a.I b.L c.L d.L e.I (Int.toNat (0:Int)) (c.L.length + 1 - Int.toNat (0:Int)))) (T.leaf [D.l (Option.getD (leastP a.I b.L c.L d.L e.I (Int.toNat (0:Int)) (c.L.length + 1 - Int.toNat (0:Int))) []),D.i 0]) (T.leaf [D.l [],D.i 5]))))):=by kernel_rfl
theorem t32_8 (a b c d e f g:D):(roundT C tab32 32 (loopOf C.P 32 8) l32_8 [a,b,c,d,e,f,g]).run =
 T.run (T.ite (decide (a.I > (b.L.length:Int))) (T.leaf (Rd.out Ex.ret [D.l [],D.i 5])) (T.need (yes (choP 13 d.I e.L b.L f.L g.I [] (0:Int) a.I)) (T.ite (Option.isSome (findT d.I e.L b.L f.L g.I (candT b.L [] a.I.toNat (Int.toNat (0:Int))))) (T.leaf (Rd.out (Ex.exit 0) [D.l (fndT d.I e.L b.L f.L g.I c.L (candT b.L [] a.I.toNat (Int.toNat (0:Int))))])) (T.leaf (Rd.again [D.i (IntKind.i64.wrap (a.I + (1:Int))),D.l b.L,D.l (fndT d.I e.L b.L f.L g.I c.L (candT b.L [] a.I.toNat (Int.toNat (0:Int)))),D.i d.I,D.l e.L,D.l f.L,D.i g.I]))))):=by kernel_rfl
noncomputable def sp56:SpL:=[]
noncomputable def lp56:LpL:=[]
noncomputable def sw56:SwL:=[]
noncomputable def tab56:Tab:=mkTab sp56 lp56 sw56
noncomputable def sp1055:SpL:=[(53,mkF s53 G53),(56,mkF s56 Gcl)]
noncomputable def lp1055 (q:Nat):LpL:=[(4,mkLK 7 l1055_4 (G55_4 q)),(11,mkLK 7 l1055_11 (G55_11 q)),(17,mkLK 7 l1055_17 (G55_17 q))]
noncomputable def sw1055 (q:Nat):SwL:=[(55,mkFW s1055 (G1055 q))]
noncomputable def tab1055 (q:Nat):Tab:=mkTab sp1055 (lp1055 q) (sw1055 q)
noncomputable def sp55:SpL:=[(53,mkF s53 G53),(56,mkF s56 Gcl)]
noncomputable def lp55 (q:Nat):LpL:=[(4,mkLK 6 l55_4 (G55_4 q)),(11,mkLK 6 l55_11 (G55_11 q)),(17,mkLK 6 l55_17 (G55_17 q))]
noncomputable def sw55 (q:Nat):SwL:=[(55,mkFW s1055 (G1055 q))]
noncomputable def tab55 (q:Nat):Tab:=mkTab sp55 (lp55 q) (sw55 q)
set_option linter.unusedVariables false
set_option maxRecDepth 100000
theorem t56 (a:D):(fnT C tab56 56 s56 [a]).run =
 T.run (T.need (!List.isEmpty a.L) (T.ite (List.isEmpty a.L) (T.leaf [D.i 1]) (T.need (decide (a.L.length ≤ 2 ^ 62 ∧ a.L.length * Try.prog.types[3].bytes ≤ 2 ^ 47)) (T.leaf [D.i 0,D.i (a.L.length:Int),D.l a.L])))):=by kernel_rfl
theorem t1055 (q:Nat) (a b c d e f g h i j:D):(fnTW C (tab1055 q) 55 s1055 [a,b,c,d,e,f,g,h,i,j]).run =
 T.run (T.need (decide (a.I.toNat ≤ d.L.length)) (T.ite (c.I == (0:Int)) (T.need (yes ((↑0:Int) = (0:Int) ∧ List.take a.I.toNat d.L = List.take a.I.toNat d.L ∧ (↑(List.length (List.take a.I.toNat d.L)):Int) = (↑(List.length (List.take a.I.toNat d.L)):Int) ∧ chosOk e.L (List.take a.I.toNat d.L) ∧ (0:Int) ≤ (0:Int) ∧ (0:Int) ≤ (↑(List.length (List.take a.I.toNat d.L)):Int))) (T.ite (List.isEmpty (List.drop (Int.toNat (0:Int)) (List.take a.I.toNat d.L))) (T.need (yes (okG g.I h.L [] i.L j.I)) (T.ite (List.isEmpty (gapsA g.I h.L [] i.L j.I)) (T.need (yes ((↑0:Int) = (0:Int) ∧ (↑0:Int) ≤ (0:Int))) (T.leaf [D.b true,D.l e.L,D.l (List.take a.I.toNat d.L),D.i g.I,D.l h.L,D.l i.L,D.i j.I])) (T.need (yes ((↑(0 + 1):Int) = (1:Int) ∧ (↑(Int.toNat (↑(List.length (gapsA g.I h.L [] i.L j.I)):Int)):Int) = (↑(List.length (gapsA g.I h.L [] i.L j.I)):Int) ∧ (↑(Int.toNat (↑(List.length (gapsA g.I h.L [] i.L j.I)):Int)):Int) = (↑(Int.toNat (↑(List.length (gapsA g.I h.L [] i.L j.I)):Int)):Int) ∧ (↑(Int.toNat (↑(List.length (gapsA g.I h.L [] i.L j.I)):Int)):Int) ≤ (1000000000:Int) ∧ (0:Int) ≤ (0:Int) ∧ (0:Int) ≤ (↑(Int.toNat (↑(List.length (gapsA g.I h.L [] i.L j.I)):Int)):Int))) (T.leaf [D.b ((↑(List.length (openF [] (List.drop (Int.toNat (0:Int)) (gapsA g.I h.L [] i.L j.I)))):Int) == (0:Int)),D.l e.L,D.l (List.take a.I.toNat d.L),D.i g.I,D.l h.L,D.l i.L,D.i j.I])))) (T.need (decide (Int.toNat (↑(List.length (teamL e.L (List.drop (Int.toNat (0:Int)) (List.take a.I.toNat d.L)))):Int) ≤ List.length (teamL e.L (List.drop (Int.toNat (0:Int)) (List.take a.I.toNat d.L))))) (T.need (yes (okG g.I h.L (List.take (Int.toNat (↑(List.length (teamL e.L (List.drop (Int.toNat (0:Int)) (List.take a.I.toNat d.L)))):Int)) (teamL e.L (List.drop (Int.toNat (0:Int)) (List.take a.I.toNat d.L)))) i.L j.I)) (T.ite (List.isEmpty (gapsA g.I h.L (List.take (Int.toNat (↑(List.length (teamL e.L (List.drop (Int.toNat (0:Int)) (List.take a.I.toNat d.L)))):Int)) (teamL e.L (List.drop (Int.toNat (0:Int)) (List.take a.I.toNat d.L)))) i.L j.I)) (T.need (yes ((↑0:Int) = (0:Int) ∧ (↑0:Int) ≤ (0:Int))) (T.leaf [D.b true,D.l e.L,D.l (List.take a.I.toNat d.L),D.i g.I,D.l h.L,D.l i.L,D.i j.I])) (T.need (yes ((↑(0 + 1):Int) = (1:Int) ∧ (↑(Int.toNat (↑(List.length (gapsA g.I h.L (List.take (Int.toNat (↑(List.length (teamL e.L (List.drop (Int.toNat (0:Int)) (List.take a.I.toNat d.L)))):Int)) (teamL e.L (List.drop (Int.toNat (0:Int)) (List.take a.I.toNat d.L)))) i.L j.I)):Int)):Int) = (↑(List.length (gapsA g.I h.L (List.take (Int.toNat (↑(List.length (teamL e.L (List.drop (Int.toNat (0:Int)) (List.take a.I.toNat d.L)))):Int)) (teamL e.L (List.drop (Int.toNat (0:Int)) (List.take a.I.toNat d.L)))) i.L j.I)):Int) ∧ (↑(Int.toNat (↑(List.length (gapsA g.I h.L (List.take (Int.toNat (↑(List.length (teamL e.L (List.drop (Int.toNat (0:Int)) (List.take a.I.toNat d.L)))):Int)) (teamL e.L (List.drop (Int.toNat (0:Int)) (List.take a.I.toNat d.L)))) i.L j.I)):Int)):Int) = (↑(Int.toNat (↑(List.length (gapsA g.I h.L (List.take (Int.toNat (↑(List.length (teamL e.L (List.drop (Int.toNat (0:Int)) (List.take a.I.toNat d.L)))):Int)) (teamL e.L (List.drop (Int.toNat (0:Int)) (List.take a.I.toNat d.L)))) i.L j.I)):Int)):Int) ∧ (↑(Int.toNat (↑(List.length (gapsA g.I h.L (List.take (Int.toNat (↑(List.length (teamL e.L (List.drop (Int.toNat (0:Int)) (List.take a.I.toNat d.L)))):Int)) (teamL e.L (List.drop (Int.toNat (0:Int)) (List.take a.I.toNat d.L)))) i.L j.I)):Int)):Int) ≤ (1000000000:Int) ∧ (0:Int) ≤ (0:Int) ∧ (0:Int) ≤ (↑(Int.toNat (↑(List.length (gapsA g.I h.L (List.take (Int.toNat (↑(List.length (teamL e.L (List.drop (Int.toNat (0:Int)) (List.take a.I.toNat d.L)))):Int)) (teamL e.L (List.drop (Int.toNat (0:Int)) (List.take a.I.toNat d.L)))) i.L j.I)):Int)):Int))) (T.leaf [D.b ((↑(List.length (openF [] (List.drop (Int.toNat (0:Int)) (gapsA g.I h.L (List.take (Int.toNat (↑(List.length (teamL e.L (List.drop (Int.toNat (0:Int)) (List.take a.I.toNat d.L)))):Int)) (teamL e.L (List.drop (Int.toNat (0:Int)) (List.take a.I.toNat d.L)))) i.L j.I)))):Int) == (0:Int)),D.l e.L,D.l (List.take a.I.toNat d.L),D.i g.I,D.l h.L,D.l i.L,D.i j.I]))))))) (T.need (yes (choP (q + 1) g.I h.L e.L i.L j.I (List.take a.I.toNat d.L) b.I c.I ∧ (1:Int) ≤ c.I)) (T.ite (Option.isSome (findT g.I h.L e.L i.L j.I (restT e.L (List.take a.I.toNat d.L) c.I.toNat b.I.toNat))) (T.leaf [D.b true,D.l e.L,D.l (fndT g.I h.L e.L i.L j.I f.L (restT e.L (List.take a.I.toNat d.L) c.I.toNat b.I.toNat)),D.i g.I,D.l h.L,D.l i.L,D.i j.I]) (T.leaf [D.b false,D.l e.L,D.l (fndT g.I h.L e.L i.L j.I f.L (restT e.L (List.take a.I.toNat d.L) c.I.toNat b.I.toNat)),D.i g.I,D.l h.L,D.l i.L,D.i j.I]))))):=by kernel_rfl
theorem t1055_4_0 (q:Nat) (a b c d e f g h i j:D):(roundTK C (tab1055 q) 55 (loopOf C.P 55 4) 7 l1055_4 [.i 0,a,b,c,d,e,f,g,h,i,j]).run =
 T.run (T.ite (decide (d.I < c.I)) (T.need (decide ((0:Int) ≤ d.I ∧ d.I < (b.L.length:Int))) (T.need (decide ((0:Int) ≤ D.I (List.getD (List.getD b.L d.I.toNat []) 0 default) ∧ D.I (List.getD (List.getD b.L d.I.toNat []) 0 default) < (e.L.length:Int))) (T.leaf (Rd.again [D.i 1,D.l a.L,D.i 1,D.l b.L,D.i c.I,D.i (IntKind.i64.wrap (d.I + (1:Int))),D.l e.L,D.l f.L,D.i g.I,D.l h.L,D.l i.L,D.i j.I,D.l [[D.i (D.I (List.getD (List.getD e.L (Int.toNat (D.I (List.getD (List.getD b.L d.I.toNat []) 0 default))) []) 0 default)),D.i (D.I (List.getD (List.getD e.L (Int.toNat (D.I (List.getD (List.getD b.L d.I.toNat []) 0 default))) []) (0 + 1) default)),D.i (D.I (List.getD (List.getD e.L (Int.toNat (D.I (List.getD (List.getD b.L d.I.toNat []) 0 default))) []) (0 + 1 + 1) default)),D.i (D.I (List.getD (List.getD e.L (Int.toNat (D.I (List.getD (List.getD b.L d.I.toNat []) 0 default))) []) (0 + 1 + 1 + 1) default))]]])))) (T.leaf (Rd.out (Ex.exit 0) [D.i 0,D.l a.L,D.l e.L,D.l f.L,D.i g.I,D.l h.L,D.l i.L,D.i j.I]))):=by kernel_rfl
theorem t1055_4_1 (q:Nat) (a b c d e f g h i j k l:D):(roundTK C (tab1055 q) 55 (loopOf C.P 55 4) 7 l1055_4 [.i 1,a,b,c,d,e,f,g,h,i,j,k,l]).run =
 T.run (T.ite (decide (e.I < d.I)) (T.need (decide ((0:Int) ≤ e.I ∧ e.I < (c.L.length:Int))) (T.need (decide ((0:Int) ≤ D.I (List.getD (List.getD c.L e.I.toNat []) 0 default) ∧ D.I (List.getD (List.getD c.L e.I.toNat []) 0 default) < (f.L.length:Int))) (T.need (decide (b.I.toNat ≤ l.L.length ∧ b.I.toNat + 1 ≤ 2 ^ 62 ∧ (b.I.toNat + 1) * Try.prog.types[60].bytes ≤ 2 ^ 47)) (T.leaf (Rd.again [D.i 1,D.l a.L,D.i (↑(b.I.toNat + 1):Int),D.l c.L,D.i d.I,D.i (IntKind.i64.wrap (e.I + (1:Int))),D.l f.L,D.l g.L,D.i h.I,D.l i.L,D.l j.L,D.i k.I,D.l (List.take b.I.toNat l.L ++ List.take (List.length [[D.i (D.I (List.getD (List.getD f.L (Int.toNat (D.I (List.getD (List.getD c.L e.I.toNat []) 0 default))) []) 0 default)),D.i (D.I (List.getD (List.getD f.L (Int.toNat (D.I (List.getD (List.getD c.L e.I.toNat []) 0 default))) []) (0 + 1) default)),D.i (D.I (List.getD (List.getD f.L (Int.toNat (D.I (List.getD (List.getD c.L e.I.toNat []) 0 default))) []) (0 + 1 + 1) default)),D.i (D.I (List.getD (List.getD f.L (Int.toNat (D.I (List.getD (List.getD c.L e.I.toNat []) 0 default))) []) (0 + 1 + 1 + 1) default))]]) [[D.i (D.I (List.getD (List.getD f.L (Int.toNat (D.I (List.getD (List.getD c.L e.I.toNat []) 0 default))) []) 0 default)),D.i (D.I (List.getD (List.getD f.L (Int.toNat (D.I (List.getD (List.getD c.L e.I.toNat []) 0 default))) []) (0 + 1) default)),D.i (D.I (List.getD (List.getD f.L (Int.toNat (D.I (List.getD (List.getD c.L e.I.toNat []) 0 default))) []) (0 + 1 + 1) default)),D.i (D.I (List.getD (List.getD f.L (Int.toNat (D.I (List.getD (List.getD c.L e.I.toNat []) 0 default))) []) (0 + 1 + 1 + 1) default))]])]))))) (T.leaf (Rd.out (Ex.exit 0) [D.i 1,D.l a.L,D.i (b.I.toNat:Int),D.l f.L,D.l g.L,D.i h.I,D.l i.L,D.l j.L,D.i k.I,D.l l.L]))):=by kernel_rfl
theorem t1055_11_0 (q:Nat) (a b c d e f g h i:D):(roundTK C (tab1055 q) 55 (loopOf C.P 55 11) 7 l1055_11 [.i 0,a,b,c,d,e,f,g,h,i]).run =
 T.run (T.ite (decide (b.I < a.I)) T.fail (T.leaf (Rd.out (Ex.exit 2) [D.l c.L,D.l d.L,D.i e.I,D.l f.L,D.l g.L,D.i h.I,D.l i.L]))):=by kernel_rfl
theorem t1055_11_1 (q:Nat) (a b c d e f g h i j k:D):(roundTK C (tab1055 q) 55 (loopOf C.P 55 11) 7 l1055_11 [.i 1,a,b,c,d,e,f,g,h,i,j,k]).run =
 T.run (T.ite (decide (c.I < b.I)) (T.need (decide ((0:Int) ≤ c.I ∧ c.I < (a.I.toNat:Int))) (T.need (decide (c.I.toNat < k.L.length)) (T.leaf (Rd.again [D.i 1,D.i (a.I.toNat:Int),D.i b.I,D.i (IntKind.i64.wrap (c.I + (1:Int))),D.l d.L,D.l e.L,D.i f.I,D.l g.L,D.l h.L,D.i i.I,D.l (msetD [K.int IntKind.i64] [D.i (D.I (List.getD (List.getD k.L c.I.toNat []) 0 default))] (D.b true) j.L),D.l k.L])))) (T.leaf (Rd.out (Ex.exit 2) [D.l d.L,D.l e.L,D.i f.I,D.l g.L,D.l h.L,D.i i.I,D.l j.L]))):=by kernel_rfl
theorem t1055_17 (q:Nat) (a b c d e f g h i:D):(roundTK C (tab1055 q) 55 (loopOf C.P 55 17) 7 l1055_17 [a,b,c,d,e,f,g,h,i]).run =
 T.run (T.ite (decide (c.I < (d.L.length:Int))) (T.need (yes (a.L.length ≤ 1073741824)) (T.ite (List.isEmpty a.L) (T.need (yes ((↑1:Int) = (↑(List.length (List.take (List.length [[D.i c.I]]) [[D.i c.I]])):Int) ∧ choP q f.I g.L d.L h.L i.I (List.take (List.length [[D.i c.I]]) [[D.i c.I]]) (IntKind.i64.wrap (c.I + (1:Int))) (IntKind.i64.wrap (b.I - (1:Int))))) (T.ite (Option.isSome (findT f.I g.L d.L h.L i.I (candT d.L (List.take (List.length [[D.i c.I]]) [[D.i c.I]]) (Int.toNat (IntKind.i64.wrap (b.I - (1:Int)))) (Int.toNat (IntKind.i64.wrap (c.I + (1:Int))))))) (T.leaf (Rd.out Ex.ret [D.b true,D.l d.L,D.l (fndT f.I g.L d.L h.L i.I e.L (candT d.L (List.take (List.length [[D.i c.I]]) [[D.i c.I]]) (Int.toNat (IntKind.i64.wrap (b.I - (1:Int)))) (Int.toNat (IntKind.i64.wrap (c.I + (1:Int)))))),D.i f.I,D.l g.L,D.l h.L,D.i i.I])) (T.leaf (Rd.again [D.l a.L,D.i b.I,D.i (IntKind.i64.wrap (c.I + (1:Int))),D.l d.L,D.l (fndT f.I g.L d.L h.L i.I e.L (candT d.L (List.take (List.length [[D.i c.I]]) [[D.i c.I]]) (Int.toNat (IntKind.i64.wrap (b.I - (1:Int)))) (Int.toNat (IntKind.i64.wrap (c.I + (1:Int)))))),D.i f.I,D.l g.L,D.l h.L,D.i i.I])))) (T.need (decide (Int.toNat (a.L.length:Int) ≤ a.L.length ∧ Int.toNat (a.L.length:Int) + 1 ≤ 2 ^ 62 ∧ (Int.toNat (a.L.length:Int) + 1) * Try.prog.types[3].bytes ≤ 2 ^ 47)) (T.need (yes ((↑(Int.toNat (a.L.length:Int) + 1):Int) = (↑(List.length (List.take (Int.toNat (a.L.length:Int)) a.L ++ List.take (List.length [[D.i c.I]]) [[D.i c.I]])):Int) ∧ choP q f.I g.L d.L h.L i.I (List.take (Int.toNat (a.L.length:Int)) a.L ++ List.take (List.length [[D.i c.I]]) [[D.i c.I]]) (IntKind.i64.wrap (c.I + (1:Int))) (IntKind.i64.wrap (b.I - (1:Int))))) (T.ite (Option.isSome (findT f.I g.L d.L h.L i.I (candT d.L (List.take (Int.toNat (a.L.length:Int)) a.L ++ List.take (List.length [[D.i c.I]]) [[D.i c.I]]) (Int.toNat (IntKind.i64.wrap (b.I - (1:Int)))) (Int.toNat (IntKind.i64.wrap (c.I + (1:Int))))))) (T.leaf (Rd.out Ex.ret [D.b true,D.l d.L,D.l (fndT f.I g.L d.L h.L i.I e.L (candT d.L (List.take (Int.toNat (a.L.length:Int)) a.L ++ List.take (List.length [[D.i c.I]]) [[D.i c.I]]) (Int.toNat (IntKind.i64.wrap (b.I - (1:Int)))) (Int.toNat (IntKind.i64.wrap (c.I + (1:Int)))))),D.i f.I,D.l g.L,D.l h.L,D.i i.I])) (T.leaf (Rd.again [D.l a.L,D.i b.I,D.i (IntKind.i64.wrap (c.I + (1:Int))),D.l d.L,D.l (fndT f.I g.L d.L h.L i.I e.L (candT d.L (List.take (Int.toNat (a.L.length:Int)) a.L ++ List.take (List.length [[D.i c.I]]) [[D.i c.I]]) (Int.toNat (IntKind.i64.wrap (b.I - (1:Int)))) (Int.toNat (IntKind.i64.wrap (c.I + (1:Int)))))),D.i f.I,D.l g.L,D.l h.L,D.i i.I]))))))) (T.leaf (Rd.out (Ex.exit 4) [D.l d.L,D.l e.L,D.i f.I,D.l g.L,D.l h.L,D.i i.I]))):=by kernel_rfl
theorem t55 (q:Nat) (a b c d e f g h i:D):(fnTW C (tab55 q) 55 s55 [a,b,c,d,e,f,g,h,i]).run =
 T.run (T.ite (c.I == (0:Int)) (T.need (yes ((↑0:Int) = (0:Int) ∧ a.L = a.L ∧ (a.L.length:Int) = (a.L.length:Int) ∧ chosOk d.L a.L ∧ (0:Int) ≤ (0:Int) ∧ (0:Int) ≤ (a.L.length:Int))) (T.ite (List.isEmpty (List.drop (Int.toNat (0:Int)) a.L)) (T.need (yes (okG f.I g.L [] h.L i.I)) (T.ite (List.isEmpty (gapsA f.I g.L [] h.L i.I)) (T.need (yes ((↑0:Int) = (0:Int) ∧ (↑0:Int) ≤ (0:Int))) (T.leaf [D.b true,D.l d.L,D.l a.L,D.i f.I,D.l g.L,D.l h.L,D.i i.I])) (T.need (yes ((↑(0 + 1):Int) = (1:Int) ∧ (↑(Int.toNat (↑(List.length (gapsA f.I g.L [] h.L i.I)):Int)):Int) = (↑(List.length (gapsA f.I g.L [] h.L i.I)):Int) ∧ (↑(Int.toNat (↑(List.length (gapsA f.I g.L [] h.L i.I)):Int)):Int) = (↑(Int.toNat (↑(List.length (gapsA f.I g.L [] h.L i.I)):Int)):Int) ∧ (↑(Int.toNat (↑(List.length (gapsA f.I g.L [] h.L i.I)):Int)):Int) ≤ (1000000000:Int) ∧ (0:Int) ≤ (0:Int) ∧ (0:Int) ≤ (↑(Int.toNat (↑(List.length (gapsA f.I g.L [] h.L i.I)):Int)):Int))) (T.leaf [D.b ((↑(List.length (openF [] (List.drop (Int.toNat (0:Int)) (gapsA f.I g.L [] h.L i.I)))):Int) == (0:Int)),D.l d.L,D.l a.L,D.i f.I,D.l g.L,D.l h.L,D.i i.I])))) (T.need (decide (Int.toNat (↑(List.length (teamL d.L (List.drop (Int.toNat (0:Int)) a.L))):Int) ≤ List.length (teamL d.L (List.drop (Int.toNat (0:Int)) a.L)))) (T.need (yes (okG f.I g.L (List.take (Int.toNat (↑(List.length (teamL d.L (List.drop (Int.toNat (0:Int)) a.L))):Int)) (teamL d.L (List.drop (Int.toNat (0:Int)) a.L))) h.L i.I)) (T.ite (List.isEmpty (gapsA f.I g.L (List.take (Int.toNat (↑(List.length (teamL d.L (List.drop (Int.toNat (0:Int)) a.L))):Int)) (teamL d.L (List.drop (Int.toNat (0:Int)) a.L))) h.L i.I)) (T.need (yes ((↑0:Int) = (0:Int) ∧ (↑0:Int) ≤ (0:Int))) (T.leaf [D.b true,D.l d.L,D.l a.L,D.i f.I,D.l g.L,D.l h.L,D.i i.I])) (T.need (yes ((↑(0 + 1):Int) = (1:Int) ∧ (↑(Int.toNat (↑(List.length (gapsA f.I g.L (List.take (Int.toNat (↑(List.length (teamL d.L (List.drop (Int.toNat (0:Int)) a.L))):Int)) (teamL d.L (List.drop (Int.toNat (0:Int)) a.L))) h.L i.I)):Int)):Int) = (↑(List.length (gapsA f.I g.L (List.take (Int.toNat (↑(List.length (teamL d.L (List.drop (Int.toNat (0:Int)) a.L))):Int)) (teamL d.L (List.drop (Int.toNat (0:Int)) a.L))) h.L i.I)):Int) ∧ (↑(Int.toNat (↑(List.length (gapsA f.I g.L (List.take (Int.toNat (↑(List.length (teamL d.L (List.drop (Int.toNat (0:Int)) a.L))):Int)) (teamL d.L (List.drop (Int.toNat (0:Int)) a.L))) h.L i.I)):Int)):Int) = (↑(Int.toNat (↑(List.length (gapsA f.I g.L (List.take (Int.toNat (↑(List.length (teamL d.L (List.drop (Int.toNat (0:Int)) a.L))):Int)) (teamL d.L (List.drop (Int.toNat (0:Int)) a.L))) h.L i.I)):Int)):Int) ∧ (↑(Int.toNat (↑(List.length (gapsA f.I g.L (List.take (Int.toNat (↑(List.length (teamL d.L (List.drop (Int.toNat (0:Int)) a.L))):Int)) (teamL d.L (List.drop (Int.toNat (0:Int)) a.L))) h.L i.I)):Int)):Int) ≤ (1000000000:Int) ∧ (0:Int) ≤ (0:Int) ∧ (0:Int) ≤ (↑(Int.toNat (↑(List.length (gapsA f.I g.L (List.take (Int.toNat (↑(List.length (teamL d.L (List.drop (Int.toNat (0:Int)) a.L))):Int)) (teamL d.L (List.drop (Int.toNat (0:Int)) a.L))) h.L i.I)):Int)):Int))) (T.leaf [D.b ((↑(List.length (openF [] (List.drop (Int.toNat (0:Int)) (gapsA f.I g.L (List.take (Int.toNat (↑(List.length (teamL d.L (List.drop (Int.toNat (0:Int)) a.L))):Int)) (teamL d.L (List.drop (Int.toNat (0:Int)) a.L))) h.L i.I)))):Int) == (0:Int)),D.l d.L,D.l a.L,D.i f.I,D.l g.L,D.l h.L,D.i i.I]))))))) (T.need (yes (choP (q + 1) f.I g.L d.L h.L i.I a.L b.I c.I ∧ (1:Int) ≤ c.I)) (T.ite (Option.isSome (findT f.I g.L d.L h.L i.I (restT d.L a.L c.I.toNat b.I.toNat))) (T.leaf [D.b true,D.l d.L,D.l (fndT f.I g.L d.L h.L i.I e.L (restT d.L a.L c.I.toNat b.I.toNat)),D.i f.I,D.l g.L,D.l h.L,D.i i.I]) (T.leaf [D.b false,D.l d.L,D.l (fndT f.I g.L d.L h.L i.I e.L (restT d.L a.L c.I.toNat b.I.toNat)),D.i f.I,D.l g.L,D.l h.L,D.i i.I])))):=by kernel_rfl
theorem t55_4_0 (q:Nat) (a b c d e f g h i j:D):(roundTK C (tab55 q) 55 (loopOf C.P 55 4) 6 l55_4 [.i 0,a,b,c,d,e,f,g,h,i,j]).run =
 T.run (T.ite (decide (d.I < c.I)) (T.need (decide ((0:Int) ≤ d.I ∧ d.I < (b.L.length:Int))) (T.need (decide ((0:Int) ≤ D.I (List.getD (List.getD b.L d.I.toNat []) 0 default) ∧ D.I (List.getD (List.getD b.L d.I.toNat []) 0 default) < (e.L.length:Int))) (T.leaf (Rd.again [D.i 1,D.l a.L,D.i 1,D.l b.L,D.i c.I,D.i (IntKind.i64.wrap (d.I + (1:Int))),D.l e.L,D.l f.L,D.i g.I,D.l h.L,D.l i.L,D.i j.I,D.l [[D.i (D.I (List.getD (List.getD e.L (Int.toNat (D.I (List.getD (List.getD b.L d.I.toNat []) 0 default))) []) 0 default)),D.i (D.I (List.getD (List.getD e.L (Int.toNat (D.I (List.getD (List.getD b.L d.I.toNat []) 0 default))) []) (0 + 1) default)),D.i (D.I (List.getD (List.getD e.L (Int.toNat (D.I (List.getD (List.getD b.L d.I.toNat []) 0 default))) []) (0 + 1 + 1) default)),D.i (D.I (List.getD (List.getD e.L (Int.toNat (D.I (List.getD (List.getD b.L d.I.toNat []) 0 default))) []) (0 + 1 + 1 + 1) default))]]])))) (T.leaf (Rd.out (Ex.exit 0) [D.i 0,D.l a.L,D.l e.L,D.l f.L,D.i g.I,D.l h.L,D.l i.L,D.i j.I]))):=by kernel_rfl
theorem t55_4_1 (q:Nat) (a b c d e f g h i j k l:D):(roundTK C (tab55 q) 55 (loopOf C.P 55 4) 6 l55_4 [.i 1,a,b,c,d,e,f,g,h,i,j,k,l]).run =
 T.run (T.ite (decide (e.I < d.I)) (T.need (decide ((0:Int) ≤ e.I ∧ e.I < (c.L.length:Int))) (T.need (decide ((0:Int) ≤ D.I (List.getD (List.getD c.L e.I.toNat []) 0 default) ∧ D.I (List.getD (List.getD c.L e.I.toNat []) 0 default) < (f.L.length:Int))) (T.need (decide (b.I.toNat ≤ l.L.length ∧ b.I.toNat + 1 ≤ 2 ^ 62 ∧ (b.I.toNat + 1) * Try.prog.types[60].bytes ≤ 2 ^ 47)) (T.leaf (Rd.again [D.i 1,D.l a.L,D.i (↑(b.I.toNat + 1):Int),D.l c.L,D.i d.I,D.i (IntKind.i64.wrap (e.I + (1:Int))),D.l f.L,D.l g.L,D.i h.I,D.l i.L,D.l j.L,D.i k.I,D.l (List.take b.I.toNat l.L ++ List.take (List.length [[D.i (D.I (List.getD (List.getD f.L (Int.toNat (D.I (List.getD (List.getD c.L e.I.toNat []) 0 default))) []) 0 default)),D.i (D.I (List.getD (List.getD f.L (Int.toNat (D.I (List.getD (List.getD c.L e.I.toNat []) 0 default))) []) (0 + 1) default)),D.i (D.I (List.getD (List.getD f.L (Int.toNat (D.I (List.getD (List.getD c.L e.I.toNat []) 0 default))) []) (0 + 1 + 1) default)),D.i (D.I (List.getD (List.getD f.L (Int.toNat (D.I (List.getD (List.getD c.L e.I.toNat []) 0 default))) []) (0 + 1 + 1 + 1) default))]]) [[D.i (D.I (List.getD (List.getD f.L (Int.toNat (D.I (List.getD (List.getD c.L e.I.toNat []) 0 default))) []) 0 default)),D.i (D.I (List.getD (List.getD f.L (Int.toNat (D.I (List.getD (List.getD c.L e.I.toNat []) 0 default))) []) (0 + 1) default)),D.i (D.I (List.getD (List.getD f.L (Int.toNat (D.I (List.getD (List.getD c.L e.I.toNat []) 0 default))) []) (0 + 1 + 1) default)),D.i (D.I (List.getD (List.getD f.L (Int.toNat (D.I (List.getD (List.getD c.L e.I.toNat []) 0 default))) []) (0 + 1 + 1 + 1) default))]])]))))) (T.leaf (Rd.out (Ex.exit 0) [D.i 1,D.l a.L,D.i (b.I.toNat:Int),D.l f.L,D.l g.L,D.i h.I,D.l i.L,D.l j.L,D.i k.I,D.l l.L]))):=by kernel_rfl
theorem t55_11_0 (q:Nat) (a b c d e f g h i:D):(roundTK C (tab55 q) 55 (loopOf C.P 55 11) 6 l55_11 [.i 0,a,b,c,d,e,f,g,h,i]).run =
 T.run (T.ite (decide (b.I < a.I)) T.fail (T.leaf (Rd.out (Ex.exit 2) [D.l c.L,D.l d.L,D.i e.I,D.l f.L,D.l g.L,D.i h.I,D.l i.L]))):=by kernel_rfl
theorem t55_11_1 (q:Nat) (a b c d e f g h i j k:D):(roundTK C (tab55 q) 55 (loopOf C.P 55 11) 6 l55_11 [.i 1,a,b,c,d,e,f,g,h,i,j,k]).run =
 T.run (T.ite (decide (c.I < b.I)) (T.need (decide ((0:Int) ≤ c.I ∧ c.I < (a.I.toNat:Int))) (T.need (decide (c.I.toNat < k.L.length)) (T.leaf (Rd.again [D.i 1,D.i (a.I.toNat:Int),D.i b.I,D.i (IntKind.i64.wrap (c.I + (1:Int))),D.l d.L,D.l e.L,D.i f.I,D.l g.L,D.l h.L,D.i i.I,D.l (msetD [K.int IntKind.i64] [D.i (D.I (List.getD (List.getD k.L c.I.toNat []) 0 default))] (D.b true) j.L),D.l k.L])))) (T.leaf (Rd.out (Ex.exit 2) [D.l d.L,D.l e.L,D.i f.I,D.l g.L,D.l h.L,D.i i.I,D.l j.L]))):=by kernel_rfl
theorem t55_17 (q:Nat) (a b c d e f g h i:D):(roundTK C (tab55 q) 55 (loopOf C.P 55 17) 6 l55_17 [a,b,c,d,e,f,g,h,i]).run =
 T.run (T.ite (decide (c.I < (d.L.length:Int))) (T.need (yes (a.L.length ≤ 1073741824)) (T.ite (List.isEmpty a.L) (T.need (yes ((↑1:Int) = (↑(List.length (List.take (List.length [[D.i c.I]]) [[D.i c.I]])):Int) ∧ choP q f.I g.L d.L h.L i.I (List.take (List.length [[D.i c.I]]) [[D.i c.I]]) (IntKind.i64.wrap (c.I + (1:Int))) (IntKind.i64.wrap (b.I - (1:Int))))) (T.ite (Option.isSome (findT f.I g.L d.L h.L i.I (candT d.L (List.take (List.length [[D.i c.I]]) [[D.i c.I]]) (Int.toNat (IntKind.i64.wrap (b.I - (1:Int)))) (Int.toNat (IntKind.i64.wrap (c.I + (1:Int))))))) (T.leaf (Rd.out Ex.ret [D.b true,D.l d.L,D.l (fndT f.I g.L d.L h.L i.I e.L (candT d.L (List.take (List.length [[D.i c.I]]) [[D.i c.I]]) (Int.toNat (IntKind.i64.wrap (b.I - (1:Int)))) (Int.toNat (IntKind.i64.wrap (c.I + (1:Int)))))),D.i f.I,D.l g.L,D.l h.L,D.i i.I])) (T.leaf (Rd.again [D.l a.L,D.i b.I,D.i (IntKind.i64.wrap (c.I + (1:Int))),D.l d.L,D.l (fndT f.I g.L d.L h.L i.I e.L (candT d.L (List.take (List.length [[D.i c.I]]) [[D.i c.I]]) (Int.toNat (IntKind.i64.wrap (b.I - (1:Int)))) (Int.toNat (IntKind.i64.wrap (c.I + (1:Int)))))),D.i f.I,D.l g.L,D.l h.L,D.i i.I])))) (T.need (decide (Int.toNat (a.L.length:Int) ≤ a.L.length ∧ Int.toNat (a.L.length:Int) + 1 ≤ 2 ^ 62 ∧ (Int.toNat (a.L.length:Int) + 1) * Try.prog.types[3].bytes ≤ 2 ^ 47)) (T.need (yes ((↑(Int.toNat (a.L.length:Int) + 1):Int) = (↑(List.length (List.take (Int.toNat (a.L.length:Int)) a.L ++ List.take (List.length [[D.i c.I]]) [[D.i c.I]])):Int) ∧ choP q f.I g.L d.L h.L i.I (List.take (Int.toNat (a.L.length:Int)) a.L ++ List.take (List.length [[D.i c.I]]) [[D.i c.I]]) (IntKind.i64.wrap (c.I + (1:Int))) (IntKind.i64.wrap (b.I - (1:Int))))) (T.ite (Option.isSome (findT f.I g.L d.L h.L i.I (candT d.L (List.take (Int.toNat (a.L.length:Int)) a.L ++ List.take (List.length [[D.i c.I]]) [[D.i c.I]]) (Int.toNat (IntKind.i64.wrap (b.I - (1:Int)))) (Int.toNat (IntKind.i64.wrap (c.I + (1:Int))))))) (T.leaf (Rd.out Ex.ret [D.b true,D.l d.L,D.l (fndT f.I g.L d.L h.L i.I e.L (candT d.L (List.take (Int.toNat (a.L.length:Int)) a.L ++ List.take (List.length [[D.i c.I]]) [[D.i c.I]]) (Int.toNat (IntKind.i64.wrap (b.I - (1:Int)))) (Int.toNat (IntKind.i64.wrap (c.I + (1:Int)))))),D.i f.I,D.l g.L,D.l h.L,D.i i.I])) (T.leaf (Rd.again [D.l a.L,D.i b.I,D.i (IntKind.i64.wrap (c.I + (1:Int))),D.l d.L,D.l (fndT f.I g.L d.L h.L i.I e.L (candT d.L (List.take (Int.toNat (a.L.length:Int)) a.L ++ List.take (List.length [[D.i c.I]]) [[D.i c.I]]) (Int.toNat (IntKind.i64.wrap (b.I - (1:Int)))) (Int.toNat (IntKind.i64.wrap (c.I + (1:Int)))))),D.i f.I,D.l g.L,D.l h.L,D.i i.I]))))))) (T.leaf (Rd.out (Ex.exit 4) [D.l d.L,D.l e.L,D.i f.I,D.l g.L,D.l h.L,D.i i.I]))):=by kernel_rfl
set_option maxRecDepth 100000
theorem ok56 (n:Nat):FnOK C (n + 1) 56 (mkF s56 Gcl):=by
 refine clone_ok (ks:=[.int .i64]) (by kernel_rfl) (fun kd c0=>by cases kd <;> cases c0 <;> kernel_rfl) ?_
 refine fn_ofS hC (sp:=sp56) (lp:=lp56) (sw:=sw56) trivial trivial (by kernel_rfl) [] (by kernel_rfl) rfl (fun k hk=>by cases hk) fun ds rr h=>?_
 unfold Gcl1 at h
 split at h
 ·rename_i l
  obtain ⟨hp,h⟩:=need_some h
  rw [yes_iff] at hp
  obtain ⟨h1,h2⟩:=hp
  refine (t56 l).trans ?_
  have hne:l.L.isEmpty = false:=by cases hl:l.L with
   | nil=>exact absurd hl h1
   | cons c cs=>rfl
  rw [bytes3]
  refine go_need (by rw [hne]; rfl) (go_false hne (go_dec (by omega) h))
 ·cases h
theorem drop_team {v cs:List (List D)} {k:Nat} (h:k < cs.length):teamL v (cs.drop k) = vehR (v.getD (ix (cs.getD k []) 0).toNat []) :: teamL v (cs.drop (k + 1)):=by
 rw [List.drop_eq_getElem_cons h,List.getD_eq_getElem?_getD (l:=cs),List.getElem?_eq_getElem h]
 rfl
theorem drop_open {l g:List (List D)} {k:Nat} (h:k < g.length):openF l (g.drop k) = openF (msetD [.int .i64] [.i (ix (g.getD k []) 0)] (.b true) l) (g.drop (k + 1)):=by
 rw [List.drop_eq_getElem_cons h,List.getD_eq_getElem?_getD (l:=g),List.getElem?_eq_getElem h]
 rfl
theorem drop_ne {cs:List (List D)} {k:Nat} (h:k < cs.length):(cs.drop k).isEmpty = false:=by
 rw [List.drop_eq_getElem_cons h]; rfl
theorem drop_e {cs:List (List D)} {k:Nat} (h:cs.length ≤ k):cs.drop k = []:=List.drop_eq_nil_of_le h
def μ554 (ds:List D):Nat:=match ds with
 | [_,_,_,m,i,_,_,_,_,_,_]=>(m.I - i.I).toNat
 | [_,_,_,_,m,i,_,_,_,_,_,_,_]=>(m.I - i.I).toNat
 | _=>0
def μ5511 (ds:List D):Nat:=match ds with
 | [_,m,i,_,_,_,_,_,_,_]=>(m.I - i.I).toNat
 | [_,_,m,i,_,_,_,_,_,_,_,_]=>(m.I - i.I).toNat
 | _=>0
def μ5517 (ds:List D):Nat:=match ds with
 | [_,_,k,v,_,_,_,_,_]=>((v.L.length:Int) - k.I).toNat
 | _=>0
set_option maxHeartbeats 1000000 in
theorem ok1055_4 (n q:Nat) (hA:AllOK C n sp1055) (hW:AllOKW C n (sw1055 q)):LoopSimK C n 7 55 (loopOf C.P 55 4) (mkLK 7 l1055_4 (G55_4 q)):=by
 refine loop_ofK hC (sp:=sp1055) (lp:=lp1055 q) (sw:=sw1055 q) hA hW 7 [] (by kernel_rfl) rfl (fun k hk=>by cases hk) (by kernel_rfl) μ554 fun ds rr h=>?_
 unfold G55_4 at h
 split at h
 ·rename_i y cs c2 m i v f nn r z h'
  obtain ⟨hp,h⟩:=need_some h
  rw [yes_iff] at hp
  obtain ⟨hy,hc,hm,hC,i0,i1⟩:=hp
  have h12:=hC.1
  refine ⟨by rw [fuelC]; show (m.I - i.I).toNat < _; omega,?_⟩
  rw [roundTK_head (j:=y) (n:=0) hy (by decide)]
  refine rd_runT (t1055_4_0 q cs c2 m i v f nn r z h') ?_
  obtain ⟨k,hk⟩:∃ k:Nat,i.I = k:=⟨i.I.toNat,by omega⟩
  simp only [hk,hc,Int.toNat_natCast,ix_def] at h i0 i1 ⊢
  refine rd_if (fun hlt=>?_) fun hge=>?_
  ·have hkl:k < cs.L.length:=by omega
   have hck:=hC.2 k hkl
   rw [run_ite,if_neg (by rw [drop_ne hkl]; decide),drop_team hkl] at h
   refine rd_dec (by omega) (rd_dec hck ?_)
   rw [wrap_succ (by omega)]
   refine rd_again ((need_yes ⟨rfl,rfl,hm,hC,⟨by simp only [I_i]; omega,by simp only [I_i]; omega⟩,rfl,by simp only [I_i]; omega⟩).trans ?_) ?_
   ·simp only [I_i,L_l,Int.toNat_natCast]
    exact h
   ·show (m.I - ((k + 1:Nat):Int)).toNat < (m.I - i.I).toNat
    omega
  ·rw [drop_e (by omega)] at h
   exact rd_out h
 ·rename_i y cs t c2 m i v f nn r z h' o
  obtain ⟨hp,h⟩:=need_some h
  rw [yes_iff] at hp
  obtain ⟨hy,hc,hm,hC,⟨i0,i1⟩,ht,hti⟩:=hp
  have h12:=hC.1
  refine ⟨by rw [fuelC]; show (m.I - i.I).toNat < _; omega,?_⟩
  rw [roundTK_head (j:=y) (n:=1) hy (by decide)]
  refine rd_runT (t1055_4_1 q cs t c2 m i v f nn r z h' o) ?_
  obtain ⟨k,hk⟩:∃ k:Nat,i.I = k:=⟨i.I.toNat,by omega⟩
  have et:t.I.toNat = o.L.length:=by omega
  have eo:o.L.take o.L.length = o.L:=List.take_length
  simp only [hk,hc,et,eo,Int.toNat_natCast,ix_def,bytes60] at h i0 i1 hti ⊢
  refine rd_if (fun hlt=>?_) fun hge=>?_
  ·have hkl:k < cs.L.length:=by omega
   have hck:=hC.2 k hkl
   rw [drop_team hkl] at h
   refine rd_dec (by omega) (rd_dec hck (rd_dec (by omega) ?_))
   rw [wrap_succ (by omega)]
   refine rd_again ((need_yes ⟨rfl,rfl,hm,hC,⟨by simp only [I_i]; omega,by simp only [I_i]; omega⟩,by simp only [I_i,L_l,List.length_append,List.length_take,List.length_cons,List.length_nil]; omega,by simp only [I_i]; omega⟩).trans ?_) ?_
   ·simp only [L_l,I_i,Int.toNat_natCast,List.append_assoc]
    exact h
   ·show (m.I - ((k + 1:Nat):Int)).toNat < (m.I - i.I).toNat
    omega
  ·rw [drop_e (by omega)] at h
   simp only [teamL,List.map_nil,List.append_nil] at h
   exact rd_out h
 ·cases h
set_option maxHeartbeats 1000000 in
theorem ok1055_11 (n q:Nat) (hA:AllOK C n sp1055) (hW:AllOKW C n (sw1055 q)):LoopSimK C n 7 55 (loopOf C.P 55 11) (mkLK 7 l1055_11 (G55_11 q)):=by
 refine loop_ofK hC (sp:=sp1055) (lp:=lp1055 q) (sw:=sw1055 q) hA hW 7 [] (by kernel_rfl) rfl (fun k hk=>by cases hk) (by kernel_rfl) μ5511 fun ds rr h=>?_
 unfold G55_11 at h
 split at h
 ·rename_i y m i v f nn r z h' mp
  obtain ⟨hp,h⟩:=need_some h
  rw [yes_iff] at hp
  refine ⟨by rw [fuelC]; show (m.I - i.I).toNat < _; omega,?_⟩
  rw [roundTK_head (j:=y) (n:=0) hp.1 (by decide)]
  exact rd_runT (t1055_11_0 q m i v f nn r z h' mp) (rd_neg (by have:=hp.2; simp; omega) (rd_out h))
 ·rename_i y s m i v f nn r z h' mp g
  obtain ⟨hp,h⟩:=need_some h
  rw [yes_iff] at hp
  obtain ⟨hy,hs,hm,hb,i0,i1⟩:=hp
  refine ⟨by rw [fuelC]; show (m.I - i.I).toNat < _; omega,?_⟩
  rw [roundTK_head (j:=y) (n:=1) hy (by decide)]
  refine rd_runT (t1055_11_1 q s m i v f nn r z h' mp g) ?_
  obtain ⟨k,hk⟩:∃ k:Nat,i.I = k:=⟨i.I.toNat,by omega⟩
  have es:s.I.toNat = g.L.length:=by omega
  simp only [hk,es,Int.toNat_natCast,ix_def] at h i0 i1 ⊢
  refine rd_if (fun hlt=>?_) fun hge=>?_
  ·have hkl:k < g.L.length:=by omega
   rw [drop_open hkl] at h
   refine rd_dec (by omega) (rd_dec hkl ?_)
   rw [wrap_succ (by omega)]
   refine rd_again ((need_yes ⟨rfl,rfl,by simp only [I_i]; omega,by simp only [I_i]; omega,by simp only [I_i]; omega,by simp only [I_i]; omega⟩).trans h) ?_
   show (m.I - ((k + 1:Nat):Int)).toNat < (m.I - i.I).toNat
   omega
  ·rw [drop_e (by omega)] at h
   exact rd_out h
 ·cases h
set_option maxHeartbeats 1000000 in
theorem ok1055_17 (n q:Nat) (hA:AllOK C n sp1055) (hW:AllOKW C n (sw1055 q)):LoopSimK C n 7 55 (loopOf C.P 55 17) (mkLK 7 l1055_17 (G55_17 q)):=by
 refine loop_ofK hC (sp:=sp1055) (lp:=lp1055 q) (sw:=sw1055 q) hA hW 7 [] (by kernel_rfl) rfl (fun k hk=>by cases hk) (by kernel_rfl) μ5517 fun ds rr h=>?_
 unfold G55_17 at h
 split at h
 ·rename_i cs m k v f nn r z h'
  obtain ⟨hp,h⟩:=need_some h
  rw [yes_iff] at hp
  obtain ⟨hP,m1⟩:=hp
  obtain ⟨hG,hv12,hC,⟨k0,k1⟩,⟨m0,mq⟩,hcm⟩:=id hP
  have h12:=hC.1
  refine ⟨by rw [fuelC]; show ((v.L.length:Int) - k.I).toNat < _; omega,?_⟩
  refine rd_runT (t1055_17 q cs m k v f nn r z h') ?_
  obtain ⟨x,hx⟩:∃ x:Nat,k.I = x:=⟨k.I.toNat,by omega⟩
  have w1:IntKind.i64.wrap (m.I - 1) = m.I - 1:=wrap_id (by omega) (by omega)
  have em:(m.I - 1).toNat = m.I.toNat - 1:=by omega
  have et:∀ l:List (List D),l.take l.length = l:=fun l=>List.take_length
  simp only [hx,w1,em,Int.toNat_natCast,bytes3,et] at h k0 k1 ⊢
  rw [wrap_succ (by omega)]
  refine rd_if (fun hlt=>?_) fun hge=>?_
  ·have hxl:x < v.L.length:=by omega
   rw [restT_step hxl] at h
   have hcho:choP q nn.I r.L v.L z.L h'.I (cs.L ++ [[.i x]]) ((x + 1:Nat):Int) (m.I - 1):=
    ⟨hG,hv12,chos_more hC (by omega) hxl,by omega,by omega,by simp only [List.length_append,List.length_singleton]; omega⟩
   have hP':choP (q + 1) nn.I r.L v.L z.L h'.I cs.L ((x + 1:Nat):Int) m.I:=⟨hG,hv12,hC,by omega,⟨m0,mq⟩,hcm⟩
   have hmu:((v.L.length:Int) - ((x + 1:Nat):Int)).toNat < ((v.L.length:Int) - k.I).toNat:=by omega
   have fin:∀ A:List (List (List D)),A = candT v.L (cs.L ++ [[.i x]]) (m.I.toNat - 1) (x + 1) → RdOK (G55_17 q) μ5517 [cs,m,k,v,f,nn,r,z,h'] rr
       (T.run (T.ite (findT nn.I r.L v.L z.L h'.I A).isSome (T.leaf (Rd.out Ex.ret [.b true,.l v.L,.l (fndT nn.I r.L v.L z.L h'.I f.L A),.i nn.I,.l r.L,.l z.L,.i h'.I]))
        (T.leaf (Rd.again [.l cs.L,.i m.I,.i ((x + 1:Nat):Int),.l v.L,.l (fndT nn.I r.L v.L z.L h'.I f.L A),.i nn.I,.l r.L,.l z.L,.i h'.I])))):=fun A hA=>by
    rw [← hA] at h
    refine rd_ite (fun c=>?_) fun c=>?_
    ·rw [findT_append,fndT_some c] at h
     obtain ⟨b,hb⟩:=Option.isSome_iff_exists.1 c
     rw [hb] at h
     exact rd_out h
    ·have hn:findT nn.I r.L v.L z.L h'.I A = none:=by simpa using c
     rw [findT_append,fndT_none c,hn] at h
     refine rd_again ((need_yes ⟨hP',m1⟩).trans ?_) hmu
     simp only [L_l,I_i,Int.toNat_natCast]
     exact h
   refine rd_yes (by omega) (rd_ite (fun c=>?_) fun c=>?_)
   ·have e0:cs.L = []:=List.isEmpty_iff.1 c
    have e1:[[D.i (x:Int)]] = cs.L ++ [[.i x]]:=by rw [e0]; rfl
    rw [e1]
    refine rd_yes ⟨by rw [e0]; rfl,hcho⟩ (fin _ rfl)
   ·refine rd_dec (by omega) (rd_yes ⟨by simp only [List.length_append,List.length_singleton],hcho⟩ (fin _ rfl))
  ·rw [restT_end (by omega)] at h
   exact rd_out h
 ·cases h
set_option maxHeartbeats 1000000 in
theorem ok55_4 (n q:Nat) (hA:AllOK C n sp55) (hW:AllOKW C n (sw55 q)):LoopSimK C n 6 55 (loopOf C.P 55 4) (mkLK 6 l55_4 (G55_4 q)):=by
 refine loop_ofK hC (sp:=sp55) (lp:=lp55 q) (sw:=sw55 q) hA hW 6 [] (by kernel_rfl) rfl (fun k hk=>by cases hk) (by kernel_rfl) μ554 fun ds rr h=>?_
 unfold G55_4 at h
 split at h
 ·rename_i y cs c2 m i v f nn r z h'
  obtain ⟨hp,h⟩:=need_some h
  rw [yes_iff] at hp
  obtain ⟨hy,hc,hm,hC,i0,i1⟩:=hp
  have h12:=hC.1
  refine ⟨by rw [fuelC]; show (m.I - i.I).toNat < _; omega,?_⟩
  rw [roundTK_head (j:=y) (n:=0) hy (by decide)]
  refine rd_runT (t55_4_0 q cs c2 m i v f nn r z h') ?_
  obtain ⟨k,hk⟩:∃ k:Nat,i.I = k:=⟨i.I.toNat,by omega⟩
  simp only [hk,hc,Int.toNat_natCast,ix_def] at h i0 i1 ⊢
  refine rd_if (fun hlt=>?_) fun hge=>?_
  ·have hkl:k < cs.L.length:=by omega
   have hck:=hC.2 k hkl
   rw [run_ite,if_neg (by rw [drop_ne hkl]; decide),drop_team hkl] at h
   refine rd_dec (by omega) (rd_dec hck ?_)
   rw [wrap_succ (by omega)]
   refine rd_again ((need_yes ⟨rfl,rfl,hm,hC,⟨by simp only [I_i]; omega,by simp only [I_i]; omega⟩,rfl,by simp only [I_i]; omega⟩).trans ?_) ?_
   ·simp only [I_i,L_l,Int.toNat_natCast]
    exact h
   ·show (m.I - ((k + 1:Nat):Int)).toNat < (m.I - i.I).toNat
    omega
  ·rw [drop_e (by omega)] at h
   exact rd_out h
 ·rename_i y cs t c2 m i v f nn r z h' o
  obtain ⟨hp,h⟩:=need_some h
  rw [yes_iff] at hp
  obtain ⟨hy,hc,hm,hC,⟨i0,i1⟩,ht,hti⟩:=hp
  have h12:=hC.1
  refine ⟨by rw [fuelC]; show (m.I - i.I).toNat < _; omega,?_⟩
  rw [roundTK_head (j:=y) (n:=1) hy (by decide)]
  refine rd_runT (t55_4_1 q cs t c2 m i v f nn r z h' o) ?_
  obtain ⟨k,hk⟩:∃ k:Nat,i.I = k:=⟨i.I.toNat,by omega⟩
  have et:t.I.toNat = o.L.length:=by omega
  have eo:o.L.take o.L.length = o.L:=List.take_length
  simp only [hk,hc,et,eo,Int.toNat_natCast,ix_def,bytes60] at h i0 i1 hti ⊢
  refine rd_if (fun hlt=>?_) fun hge=>?_
  ·have hkl:k < cs.L.length:=by omega
   have hck:=hC.2 k hkl
   rw [drop_team hkl] at h
   refine rd_dec (by omega) (rd_dec hck (rd_dec (by omega) ?_))
   rw [wrap_succ (by omega)]
   refine rd_again ((need_yes ⟨rfl,rfl,hm,hC,⟨by simp only [I_i]; omega,by simp only [I_i]; omega⟩,by simp only [I_i,L_l,List.length_append,List.length_take,List.length_cons,List.length_nil]; omega,by simp only [I_i]; omega⟩).trans ?_) ?_
   ·simp only [L_l,I_i,Int.toNat_natCast,List.append_assoc]
    exact h
   ·show (m.I - ((k + 1:Nat):Int)).toNat < (m.I - i.I).toNat
    omega
  ·rw [drop_e (by omega)] at h
   simp only [teamL,List.map_nil,List.append_nil] at h
   exact rd_out h
 ·cases h
set_option maxHeartbeats 1000000 in
theorem ok55_11 (n q:Nat) (hA:AllOK C n sp55) (hW:AllOKW C n (sw55 q)):LoopSimK C n 6 55 (loopOf C.P 55 11) (mkLK 6 l55_11 (G55_11 q)):=by
 refine loop_ofK hC (sp:=sp55) (lp:=lp55 q) (sw:=sw55 q) hA hW 6 [] (by kernel_rfl) rfl (fun k hk=>by cases hk) (by kernel_rfl) μ5511 fun ds rr h=>?_
 unfold G55_11 at h
 split at h
 ·rename_i y m i v f nn r z h' mp
  obtain ⟨hp,h⟩:=need_some h
  rw [yes_iff] at hp
  refine ⟨by rw [fuelC]; show (m.I - i.I).toNat < _; omega,?_⟩
  rw [roundTK_head (j:=y) (n:=0) hp.1 (by decide)]
  exact rd_runT (t55_11_0 q m i v f nn r z h' mp) (rd_neg (by have:=hp.2; simp; omega) (rd_out h))
 ·rename_i y s m i v f nn r z h' mp g
  obtain ⟨hp,h⟩:=need_some h
  rw [yes_iff] at hp
  obtain ⟨hy,hs,hm,hb,i0,i1⟩:=hp
  refine ⟨by rw [fuelC]; show (m.I - i.I).toNat < _; omega,?_⟩
  rw [roundTK_head (j:=y) (n:=1) hy (by decide)]
  refine rd_runT (t55_11_1 q s m i v f nn r z h' mp g) ?_
  obtain ⟨k,hk⟩:∃ k:Nat,i.I = k:=⟨i.I.toNat,by omega⟩
  have es:s.I.toNat = g.L.length:=by omega
  simp only [hk,es,Int.toNat_natCast,ix_def] at h i0 i1 ⊢
  refine rd_if (fun hlt=>?_) fun hge=>?_
  ·have hkl:k < g.L.length:=by omega
   rw [drop_open hkl] at h
   refine rd_dec (by omega) (rd_dec hkl ?_)
   rw [wrap_succ (by omega)]
   refine rd_again ((need_yes ⟨rfl,rfl,by simp only [I_i]; omega,by simp only [I_i]; omega,by simp only [I_i]; omega,by simp only [I_i]; omega⟩).trans h) ?_
   show (m.I - ((k + 1:Nat):Int)).toNat < (m.I - i.I).toNat
   omega
  ·rw [drop_e (by omega)] at h
   exact rd_out h
 ·cases h
set_option maxHeartbeats 1000000 in
theorem ok55_17 (n q:Nat) (hA:AllOK C n sp55) (hW:AllOKW C n (sw55 q)):LoopSimK C n 6 55 (loopOf C.P 55 17) (mkLK 6 l55_17 (G55_17 q)):=by
 refine loop_ofK hC (sp:=sp55) (lp:=lp55 q) (sw:=sw55 q) hA hW 6 [] (by kernel_rfl) rfl (fun k hk=>by cases hk) (by kernel_rfl) μ5517 fun ds rr h=>?_
 unfold G55_17 at h
 split at h
 ·rename_i cs m k v f nn r z h'
  obtain ⟨hp,h⟩:=need_some h
  rw [yes_iff] at hp
  obtain ⟨hP,m1⟩:=hp
  obtain ⟨hG,hv12,hC,⟨k0,k1⟩,⟨m0,mq⟩,hcm⟩:=id hP
  have h12:=hC.1
  refine ⟨by rw [fuelC]; show ((v.L.length:Int) - k.I).toNat < _; omega,?_⟩
  refine rd_runT (t55_17 q cs m k v f nn r z h') ?_
  obtain ⟨x,hx⟩:∃ x:Nat,k.I = x:=⟨k.I.toNat,by omega⟩
  have w1:IntKind.i64.wrap (m.I - 1) = m.I - 1:=wrap_id (by omega) (by omega)
  have em:(m.I - 1).toNat = m.I.toNat - 1:=by omega
  have et:∀ l:List (List D),l.take l.length = l:=fun l=>List.take_length
  simp only [hx,w1,em,Int.toNat_natCast,bytes3,et] at h k0 k1 ⊢
  rw [wrap_succ (by omega)]
  refine rd_if (fun hlt=>?_) fun hge=>?_
  ·have hxl:x < v.L.length:=by omega
   rw [restT_step hxl] at h
   have hcho:choP q nn.I r.L v.L z.L h'.I (cs.L ++ [[.i x]]) ((x + 1:Nat):Int) (m.I - 1):=
    ⟨hG,hv12,chos_more hC (by omega) hxl,by omega,by omega,by simp only [List.length_append,List.length_singleton]; omega⟩
   have hP':choP (q + 1) nn.I r.L v.L z.L h'.I cs.L ((x + 1:Nat):Int) m.I:=⟨hG,hv12,hC,by omega,⟨m0,mq⟩,hcm⟩
   have hmu:((v.L.length:Int) - ((x + 1:Nat):Int)).toNat < ((v.L.length:Int) - k.I).toNat:=by omega
   have fin:∀ A:List (List (List D)),A = candT v.L (cs.L ++ [[.i x]]) (m.I.toNat - 1) (x + 1) → RdOK (G55_17 q) μ5517 [cs,m,k,v,f,nn,r,z,h'] rr
       (T.run (T.ite (findT nn.I r.L v.L z.L h'.I A).isSome (T.leaf (Rd.out Ex.ret [.b true,.l v.L,.l (fndT nn.I r.L v.L z.L h'.I f.L A),.i nn.I,.l r.L,.l z.L,.i h'.I]))
        (T.leaf (Rd.again [.l cs.L,.i m.I,.i ((x + 1:Nat):Int),.l v.L,.l (fndT nn.I r.L v.L z.L h'.I f.L A),.i nn.I,.l r.L,.l z.L,.i h'.I])))):=fun A hA=>by
    rw [← hA] at h
    refine rd_ite (fun c=>?_) fun c=>?_
    ·rw [findT_append,fndT_some c] at h
     obtain ⟨b,hb⟩:=Option.isSome_iff_exists.1 c
     rw [hb] at h
     exact rd_out h
    ·have hn:findT nn.I r.L v.L z.L h'.I A = none:=by simpa using c
     rw [findT_append,fndT_none c,hn] at h
     refine rd_again ((need_yes ⟨hP',m1⟩).trans ?_) hmu
     simp only [L_l,I_i,Int.toNat_natCast]
     exact h
   refine rd_yes (by omega) (rd_ite (fun c=>?_) fun c=>?_)
   ·have e0:cs.L = []:=List.isEmpty_iff.1 c
    have e1:[[D.i (x:Int)]] = cs.L ++ [[.i x]]:=by rw [e0]; rfl
    rw [e1]
    refine rd_yes ⟨by rw [e0]; rfl,hcho⟩ (fin _ rfl)
   ·refine rd_dec (by omega) (rd_yes ⟨by simp only [List.length_append,List.length_singleton],hcho⟩ (fin _ rfl))
  ·rw [restT_end (by omega)] at h
   exact rd_out h
 ·cases h
set_option maxRecDepth 100000
theorem go_open {nn h':Int} {r z t v cs:List (List D)} {rr:List D} {P Q:Prop} (hP:P) (hQ:Q) (e:covT nn r v z h' cs = (gapsA nn r t z h').isEmpty)
    (h:(T.leaf [D.b (covT nn r v z h' cs),.l v,.l cs,.i nn,.l r,.l z,.i h']).run = some rr) :
    T.run (T.ite (gapsA nn r t z h').isEmpty (T.need (yes P) (T.leaf [D.b true,.l v,.l cs,.i nn,.l r,.l z,.i h']))
     (T.need (yes Q) (T.leaf [D.b (((openF [] (gapsA nn r t z h')).length:Int) == 0),.l v,.l cs,.i nn,.l r,.l z,.i h']))) = some rr:=by
 rw [e] at h
 refine go_ite (fun c=>?_) fun c=>?_
 ·rw [c] at h
  exact go_yes hP h
 ·rw [c] at h
  refine go_yes hQ ?_
  have:(((openF [] (gapsA nn r t z h')).length:Int) == 0) = false:=by
   rw [beq_eq_false_iff_ne]
   intro hh
   rw [openF_len.1 hh] at c
   cases c
  rw [this]
  exact h
set_option maxHeartbeats 1000000 in
theorem ok1055_ (n q:Nat) (hA:AllOK C n sp1055) (hW:AllOKW C n (sw1055 q)):FnOKW C (n + 1) 55 (mkFW s1055 (G1055 (q + 1))):=by
 refine fn_ofW hC (sp:=sp1055) (lp:=lp1055 q) (sw:=sw1055 q) hA hW (by kernel_rfl) [4,11,17] (by kernel_rfl) (by kernel_rfl) (fun k hk L hL=>by
  simp only [List.mem_cons,List.not_mem_nil,or_false] at hk
  rcases hk with rfl | rfl | rfl <;> cases hL
  ·exact ok1055_4 n q hA hW
  ·exact ok1055_11 n q hA hW
  ·exact ok1055_17 n q hA hW) fun ds rr h=>?_
 unfold G1055 at h
 split at h
 ·rename_i s i m cs v f nn r z h'
  obtain ⟨hp,h⟩:=need_some h
  rw [yes_iff] at hp
  obtain ⟨hs,hP⟩:=hp
  obtain ⟨hG,hv12,hC,⟨i0,i1⟩,⟨m0,mq⟩,hcm⟩:=id hP
  refine (t1055 q s i m cs v f nn r z h').trans ?_
  have es:s.I.toNat = cs.L.length:=by omega
  have et:∀ l:List (List D),l.take l.length = l:=fun l=>List.take_length
  have z0:Int.toNat 0 = 0:=rfl
  simp only [es,et,z0,Int.toNat_natCast,List.drop_zero]
  refine go_dec (by omega) ?_
  refine go_ite (fun c=>?_) fun c=>?_
  ·have hm:m.I = 0:=by simpa using c
   rw [hm] at h
   simp only [z0,candT_zero,findT_one,fndT_one] at h
   have hT:=chos_ok hG hC
   refine go_yes ⟨by trivial,by trivial,by trivial,hC,by omega,by omega⟩ (go_ite (fun c=>?_) fun c=>?_)
   ·have en:teamL v.L cs.L = []:=by rw [List.isEmpty_iff.1 c]; rfl
    rw [en] at hT
    have hgl:=gapsA_len hT
    exact go_yes hT (go_open (by simp) (by simp; try omega) (by unfold covT; rw [en]) h)
   ·have hgl:=gapsA_len hT
    exact go_dec (by omega) (go_yes hT (go_open (by simp) (by simp; try omega) rfl h))
  ·have hm:¬ m.I = 0:=by simpa using c
   rw [candT_pos (by omega)] at h
   refine go_yes ⟨hP,by omega⟩ (go_ite (fun c=>?_) fun c=>?_)
   ·rw [c] at h; exact h
   ·rw [c] at h; exact h
 ·cases h
set_option maxHeartbeats 1000000 in
theorem ok55_ (n q:Nat) (hA:AllOK C n sp55) (hW:AllOKW C n (sw55 q)):FnOKW C (n + 1) 55 (mkFW s55 (G55 (q + 1))):=by
 refine fn_ofW hC (sp:=sp55) (lp:=lp55 q) (sw:=sw55 q) hA hW (by kernel_rfl) [4,11,17] (by kernel_rfl) (by kernel_rfl) (fun k hk L hL=>by
  simp only [List.mem_cons,List.not_mem_nil,or_false] at hk
  rcases hk with rfl | rfl | rfl <;> cases hL
  ·exact ok55_4 n q hA hW
  ·exact ok55_11 n q hA hW
  ·exact ok55_17 n q hA hW) fun ds rr h=>?_
 unfold G55 at h
 split at h
 ·rename_i cs i m v f nn r z h'
  obtain ⟨hp,h⟩:=need_some h
  rw [yes_iff] at hp
  have hP:=hp
  obtain ⟨hG,hv12,hC,⟨i0,i1⟩,⟨m0,mq⟩,hcm⟩:=id hP
  refine (t55 q cs i m v f nn r z h').trans ?_
  have et:∀ l:List (List D),l.take l.length = l:=fun l=>List.take_length
  have z0:Int.toNat 0 = 0:=rfl
  simp only [et,z0,Int.toNat_natCast,List.drop_zero]
  refine go_ite (fun c=>?_) fun c=>?_
  ·have hm:m.I = 0:=by simpa using c
   rw [hm] at h
   simp only [z0,candT_zero,findT_one,fndT_one] at h
   have hT:=chos_ok hG hC
   refine go_yes ⟨by trivial,by trivial,by trivial,hC,by omega,by omega⟩ (go_ite (fun c=>?_) fun c=>?_)
   ·have en:teamL v.L cs.L = []:=by rw [List.isEmpty_iff.1 c]; rfl
    rw [en] at hT
    have hgl:=gapsA_len hT
    exact go_yes hT (go_open (by simp) (by simp; try omega) (by unfold covT; rw [en]) h)
   ·have hgl:=gapsA_len hT
    exact go_dec (by omega) (go_yes hT (go_open (by simp) (by simp; try omega) rfl h))
  ·have hm:¬ m.I = 0:=by simpa using c
   rw [candT_pos (by omega)] at h
   refine go_yes ⟨hP,by omega⟩ (go_ite (fun c=>?_) fun c=>?_)
   ·rw [c] at h; exact h
   ·rw [c] at h; exact h
 ·cases h
theorem ok1055:∀ q n:Nat,FnOKW C (n + q + 9) 55 (mkFW s1055 (G1055 q))
 | 0, n=>by
   refine fn_ofW hC (sp:=[]) (lp:=[]) (sw:=[]) trivial trivial (by kernel_rfl) [4,11,17] (by kernel_rfl) (by kernel_rfl) (fun k hk L hL=>by cases hL) fun ds r h=>?_
   unfold G1055 at h
   split at h
   ·obtain ⟨hp,h⟩:=need_some h
    rw [yes_iff] at hp
    obtain ⟨-,-,-,-,-,⟨m0,m1⟩,-⟩:=hp
    omega
   ·cases h
 | q + 1,n=>by
   have:=ok1055_ (n + q + 9) q ⟨by have:=ok53 (n + q + 1); exact this,by have:=ok56 (n + q + 8); exact this,trivial⟩ ⟨ok1055 q n,trivial⟩
   exact this
theorem ok55 (n q:Nat):FnOKW C (n + q + 10) 55 (mkFW s55 (G55 (q + 1))):=ok55_ (n + q + 9) q ⟨by have:=ok53 (n + q + 1); exact this,by have:=ok56 (n + q + 8); exact this,trivial⟩ ⟨ok1055 q n,trivial⟩
set_option maxRecDepth 100000
theorem leastP_end {n:Int} {r v z:List (List D)} {h:Int} {m:Nat}:leastP n r v z h m 0 = none:=rfl
theorem cover12 {n:Int} {r v z:List (List D)} {h:Int} (hc:coverB n r v 12 z h = true):okG n r v z h ∧ v.length ≤ 12:=by
 refine ⟨cover_parts (by omega) hc,?_⟩
 unfold coverB at hc
 rw [Bool.and_eq_true,Bool.and_eq_true,Bool.and_eq_true,decide_eq_true_iff] at hc
 omega
set_option maxHeartbeats 1000000 in
theorem ok32_8 (n:Nat) (hA:AllOK C n sp32) (hW:AllOKW C n sw32):LoopSim C n 32 (loopOf C.P 32 8) (mkL l32_8 G32_8):=by
 refine loop_ofK hC (sp:=sp32) (lp:=lp32) (sw:=sw32) hA hW 0 [] (by kernel_rfl) rfl (fun k hk=>by cases hk) (by kernel_rfl) (fun ds=>(((ds.getD 1 default).L.length:Int) + 1 - (ds.getD 0 default).I).toNat) fun ds rr h=>?_
 unfold G32_8 at h
 split at h
 ·rename_i s v f nn r z h'
  obtain ⟨hp,h⟩:=need_some h
  rw [yes_iff] at hp
  obtain ⟨hG,h12,s0,s1⟩:=hp
  refine ⟨by rw [fuelC]; show ((v.L.length:Int) + 1 - s.I).toNat < _; omega,?_⟩
  refine rd_runT (t32_8 s v f nn r z h') ?_
  obtain ⟨m,hm⟩:∃ m:Nat,s.I = m:=⟨s.I.toNat,by omega⟩
  have z0:Int.toNat 0 = 0:=rfl
  simp only [hm,z0,Int.toNat_natCast] at h s0 s1 ⊢
  refine rd_if (fun hgt=>?_) fun hle=>?_
  ·rw [show v.L.length + 1 - m = 0 by omega,leastP_end] at h
   exact rd_out h
  ·rw [show v.L.length + 1 - m = (v.L.length - m) + 1 by omega,leastP_step] at h
   refine rd_yes ⟨hG,h12,⟨by simp,fun j hj=>by simp at hj⟩,by omega,by omega,by simp; omega⟩ (rd_ite (fun c=>?_) fun c=>?_)
   ·obtain ⟨x,hx⟩:=Option.isSome_iff_exists.1 c
    unfold fndT
    rw [hx] at h ⊢
    exact rd_out h
   ·have hn:findT nn.I r.L v.L z.L h'.I (candT v.L [] m 0) = none:=by simpa using c
    rw [hn] at h
    rw [wrap_succ (by omega)]
    refine rd_again ((need_yes ⟨hG,h12,by simp only [I_i]; omega,by simp only [I_i,L_l]; omega⟩).trans ?_) ?_
    ·simp only [I_i,L_l,Int.toNat_natCast]
     rw [show v.L.length + 1 - (m + 1) = v.L.length - m by omega]
     exact h
    ·show ((v.L.length:Int) + 1 - ((m + 1:Nat):Int)).toNat < ((v.L.length:Int) + 1 - s.I).toNat
     omega
 ·cases h
theorem ok32 (n:Nat):FnOKW C (n + 23) 32 (mkFW s32 G32):=by
 have hA:AllOK C (n + 22) sp32:=⟨ok52 (n + 16),trivial⟩
 have hW:AllOKW C (n + 22) sw32:=⟨ok55 n 12,trivial⟩
 refine fn_ofW hC (sp:=sp32) (lp:=lp32) (sw:=sw32) hA hW (by kernel_rfl) [8] (by kernel_rfl) (by kernel_rfl) (fun k hk L hL=>by simp at hk; subst hk; cases hL; exact ok32_8 (n + 22) hA hW) fun ds rr h=>?_
 unfold G32 at h
 split at h
 ·rename_i nn r v z h'
  refine (t32 nn r v z h').trans ?_
  have z0:Int.toNat 0 = 0:=rfl
  simp only [z0,Nat.sub_zero]
  refine go_yes (by omega) (go_not (fun c=>?_) fun c=>?_)
  ·rw [c] at h
   exact h
  ·rw [c] at h
   obtain ⟨hG,h12⟩:=cover12 c
   exact go_yes ⟨hG,h12,by omega,by omega⟩ h
 ·cases h
end Go.Proofs.Ytgmefblkmidglaa
