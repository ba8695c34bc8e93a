/-
 What the claim top_closed rests on,part 8.
-/
import Derived.Test.YtgoedfonmocafaaV7
namespace Go.Proofs.Ytgoedfonmocafaa.Rs
open Go.Lite
set_option maxRecDepth 100000
theorem ok38_10 (n:Nat):LoopSim C (n + 1) 38 (loopOf C.P 38 10) (mkL l38_10 G38_10):=by
 refine loop_ofK hC (sp:=sp38) (lp:=lp38) (sw:=sw38) ⟨ok83 n,trivial⟩ trivial 0 [] (by kernel_rfl) rfl (fun k hk=>by cases hk) (by kernel_rfl) (fun ds=>(((ds.getD 4 default).L.length:Int) - (ds.getD 6 default).I).toNat) fun ds rr h=>?_
 unfold G38_10 at h
 split at h
 ·rename_i la r m i l m' j n' r'
  obtain ⟨hp,h⟩:=need_some h
  rw [yes_iff] at hp
  obtain ⟨h1,hm,hi0,hi1,hla⟩:=hp
  refine ⟨by rw [fuelC]; simp; omega,?_⟩
  rw [show roundTK C (mkTab sp38 lp38 sw38) 38 (loopOf C.P 38 10) 0 l38_10 [la,r,m,i,l,m',j,n',r'] = _ from t38_10 la r m i l m' j n' r']
  obtain ⟨k,hk⟩:∃ k:Nat,j.I = k:=⟨j.I.toNat,by omega⟩
  simp only [hk,hm,Int.toNat_natCast,Nat.reduceAdd,ix_def] at h hi0 hi1 hla ⊢
  refine rd_if (fun hlt=>?_) fun hge=>rd_out (all_end h (by omega))
  obtain ⟨s1,s2⟩:=all_step h (by omega:k < l.L.length)
  unfold clB at s1 s2
  rw [wrap_succ (by omega)]
  have hla2:(k = 0 ∧ la.I = -1) ∨ (0 < k ∧ la.I = ix (l.L.getD (k - 1) []) 1):=by
   by_cases h0:(k:Int) = 0
   ·rw [if_pos h0] at hla; exact .inl ⟨by omega,hla⟩
   ·rw [if_neg h0] at hla; exact .inr ⟨by omega,hla⟩
  refine rd_dec (by omega) (rd_if (fun c1=>?_) fun c1=>rd_if (fun c2=>rd_out (s1 (decide_eq_false (by omega)))) fun c2=>rd_if (fun c3=>rd_out (s1 (decide_eq_false (by omega)))) fun c3=>rd_if (fun c4=>rd_out (s1 (decide_eq_false (by omega)))) fun c4=>?_)
  ·refine rd_out (s1 (decide_eq_false fun hn=>?_))
   rcases hla2 with ⟨e1,e2⟩ | ⟨e1,e2⟩
   ·omega
   ·have:=hn.2.2.2 e1; omega
  ·refine rd_again ((need_yes ⟨h1,by simp only [I_i,L_l],by simp only [I_i]; omega,by simp only [I_i,L_l]; omega,?_⟩).trans (s2 (decide_eq_true ⟨by omega,by omega,by omega,fun h=>by rcases hla2 with ⟨e1,e2⟩ | ⟨e1,e2⟩ <;> omega⟩))) (show ((l.L.length:Int) - ((k + 1:Nat):Int)).toNat < ((l.L.length:Int) - j.I).toNat by rw [hk]; omega)
   simp only [I_i,L_l,Int.toNat_natCast,Nat.add_sub_cancel]
   rw [if_neg (by omega)]
 ·cases h
theorem ok38_4 (n:Nat):LoopSim C (n + 1) 38 (loopOf C.P 38 4) (mkL l38_4 G38_4):=by
 refine loop_ofK hC (sp:=sp38) (lp:=lp38) (sw:=sw38) ⟨ok83 n,trivial⟩ trivial 0 [10] (by kernel_rfl) (by kernel_rfl) (fun k hk L hL=>by simp at hk; subst hk; cases hL; exact ok38_10 n) (by kernel_rfl) (fun ds=>(((ds.getD 0 default).L.length:Int) - (ds.getD 2 default).I).toNat) fun ds rr h=>?_
 unfold G38_4 at h
 split at h
 ·rename_i l m i a r'
  obtain ⟨hp,h⟩:=need_some h
  rw [yes_iff] at hp
  obtain ⟨h0,h1,hm,hi0,hi1⟩:=hp
  refine ⟨by rw [fuelC]; simp; omega,?_⟩
  rw [show roundTK C (mkTab sp38 lp38 sw38) 38 (loopOf C.P 38 4) 0 l38_4 [l,m,i,a,r'] = _ from t38_4 l m i a r']
  obtain ⟨j,hj⟩:∃ j:Nat,i.I = j:=⟨i.I.toNat,by omega⟩
  simp only [hj,hm,Int.toNat_natCast,Nat.reduceAdd,lx_def,ix_def,within_dec] at h hi0 hi1 ⊢
  refine rd_if (fun hlt=>?_) fun hge=>rd_out (all_end h (by omega))
  obtain ⟨s1,s2⟩:=all_step h (by omega:j < l.L.length)
  rw [wrap_succ (by omega),wrap_id (by omega) (by omega)]
  unfold roadB roadH at s1 s2
  generalize l.L.getD j [] = c at *
  have no:¬ ((0 ≤ ix c 0 ∧ ix c 0 < a.I) ∧ (0 ≤ ix c 1 ∧ ix c 1 < a.I) ∧ ix c 0 ≠ ix c 1 ∧ (1 ≤ ix c 2 ∧ ix c 2 ≤ 10000) ∧ (lx c 3).length ≤ 20) → some (Ex.ret,[D.i 2]) = some rr:=fun hn=>s1 (by rw [decide_eq_false hn]; rfl)
  refine rd_dec (by omega) (rd_not (fun c1=>?_) fun c1=>rd_not (fun c2=>?_) fun c2=>rd_ite (fun c3=>?_) fun c3=>rd_not (fun c4=>?_) fun c4=>rd_if (fun c5=>rd_out (no (by omega))) fun c5=>?_)
  ·have c1:=of_decide_eq_false c1; exact rd_out (no (by omega))
  ·have c2:=of_decide_eq_false c2; exact rd_out (no (by omega))
  ·have c3:=eq_of_beq c3; exact rd_out (no (by omega))
  ·have c4:=of_decide_eq_false c4; exact rd_out (no (by omega))
  ·have c1:=of_decide_eq_true c1
   have c2:=of_decide_eq_true c2
   have c3:=ne_of_beq_false c3
   have c4:=of_decide_eq_true c4
   rw [decide_eq_true (by omega),Bool.true_and] at s1 s2
   refine rd_yes ⟨by omega,trivial,by omega,by omega,by simp⟩ ?_
   simp only [Int.toNat_zero,Nat.sub_zero]
   refine rd_ite (fun c6=>?_) fun c6=>rd_out (s1 c6)
   exact rd_again ((need_yes ⟨h0,h1,by simp only [I_i,L_l],by simp only [I_i]; omega,by simp only [I_i,L_l]; omega⟩).trans (s2 c6)) (show ((l.L.length:Int) - ((j + 1:Nat):Int)).toNat < ((l.L.length:Int) - i.I).toNat by rw [hj]; omega)
 ·cases h
theorem ok38 (n:Nat):FnOK C (n + 2) 38 (mkF s38 G38):=by
 refine fn_ofS hC (sp:=sp38) (lp:=lp38) (sw:=sw38) ⟨ok83 n,trivial⟩ trivial (by kernel_rfl) [4] (by kernel_rfl) (by kernel_rfl) (fun k hk L hL=>by
  simp at hk; subst hk; cases hL; exact ok38_4 n) fun ds r h=>?_
 unfold G38 at h
 split at h
 ·rename_i a l
  refine (congrArg T.run (t38 a l)).trans ?_
  rw [← show _ = some r from h]
  show _ = some [D.i (if netB a.I l.L = true then 0 else 2)]
  unfold netB
  simp only [within_dec]
  refine go_not (fun c1=>?_) fun c1=>go_if (fun c2=>?_) fun c2=>?_
  ·have c1:=of_decide_eq_false c1; rw [decide_eq_false (by omega)]; rfl
  ·rw [decide_eq_false (by omega)]; rfl
  ·have c1:=of_decide_eq_true c1
   rw [decide_eq_true (by omega),Bool.true_and]
   simp only [Int.toNat_zero,Nat.sub_zero]
   exact go_yes ⟨c1,by omega,trivial,by omega,by omega⟩ (go_ite (fun c6=>go_leaf (by rw [c6]; rfl)) fun c6=>go_leaf (by rw [c6]; rfl))
 ·cases h
theorem all_at {p:Nat → Bool}:∀ (k i:Nat),allFrom p i k = true ↔ ∀ j,i ≤ j → j < i + k → p j = true
 | 0,i=>⟨fun _ j h1 h2=>by omega,fun _=>rfl⟩
 | k + 1,i=>by
   simp only [allFrom,Bool.and_eq_true,all_at k (i + 1)]
   refine ⟨fun ⟨h1,h2⟩ j h3 h4=>?_,fun h=>⟨h i (Nat.le_refl _) (by omega),fun j h1 h2=>h j (by omega) (by omega)⟩⟩
   by_cases e:j = i
   ·subst e; exact h1
   ·exact h2 j (by omega) (by omega)
theorem net_parts {n:Int} {r:List (List D)} (h:netB n r = true):(1 ≤ n ∧ n ≤ 200) ∧ r.length ≤ 1000 ∧ ∀ i,i < r.length → roadB n (r.getD i []) = true:=by
 unfold netB at h
 rw [Bool.and_eq_true,decide_eq_true_iff,all_at] at h
 exact ⟨h.1.1,h.1.2,fun i hi=>h.2 i (Nat.zero_le _) (by omega)⟩
theorem road_parts {n:Int} {c:List D} (h:roadB n c = true):(0 ≤ ix c 0 ∧ ix c 0 < n) ∧ (0 ≤ ix c 1 ∧ ix c 1 < n) ∧ (1 ≤ ix c 2 ∧ ix c 2 ≤ 10000) ∧ (lx c 3).length ≤ 20 ∧ ∀ i,i < (lx c 3).length → clB (lx c 3) i = true:=by
 unfold roadB roadH at h
 rw [Bool.and_eq_true,decide_eq_true_iff,all_at] at h
 exact ⟨h.1.1,h.1.2.1,h.1.2.2.2.1,h.1.2.2.2.2,fun i hi=>h.2 i (Nat.zero_le _) (by omega)⟩
theorem cl_at {l:List (List D)} (h:∀ i,i < l.length → clB l i = true) (i:Nat):(0 ≤ ix (l.getD i []) 0 ∧ ix (l.getD i []) 0 ≤ 100000) ∧ 0 ≤ ix (l.getD i []) 1 ∧ ix (l.getD i []) 1 ≤ 100000:=by
 by_cases hi:i < l.length
 ·have:=h i hi
  unfold clB at this
  rw [decide_eq_true_iff] at this
  omega
 ·rw [List.getD_eq_getElem?_getD,List.getElem?_eq_none (by omega)]
  have e:∀ k,ix (Option.getD (none:Option (List D)) []) k = 0:=fun k=>rfl
  rw [e,e]
  omega
theorem road_okC {n:Int} {c:List D} (h:roadB n c = true):okT (ix c 2) ∧ okC (lx c 3):=by
 obtain ⟨-,-,h1,h2,h3⟩:=road_parts h
 refine ⟨by unfold okT; omega,?_,fun j=>?_⟩
 ·have:=(show big = 4611686018427387904 from rfl)
  omega
 ·have:=cl_at h3 j
  omega
theorem net_okR {n:Int} {r:List (List D)} (h:netB n r = true):okR r:=by
 obtain ⟨-,h1,h2⟩:=net_parts h
 exact ⟨by omega,fun i hi=>road_okC (h2 i hi)⟩
theorem ent_ge {l:List (List D)} {c:Int}:∀ (k i:Nat) (s:Int),s ≤ entF l c i k s
 | 0,_,_=>Int.le_refl _
 | k + 1,i,s=>by
   simp only [entF]
   refine Int.le_trans ?_ (ent_ge k (i + 1) _)
   split <;> omega
theorem ent_le {l:List (List D)} {c H:Int} (h:∀ j,ix (l.getD j []) 1 ≤ H):∀ (k i:Nat) (s:Int),entF l c i k s ≤ max s H
 | 0,_,s=>by simp only [entF]; omega
 | k + 1,i,s=>by
   simp only [entF]
   refine Int.le_trans (ent_le h k (i + 1) _) ?_
   have:=h i
   split <;> omega
theorem ent_mono {l:List (List D)} {c:Int}:∀ (k i:Nat) (s s':Int),s ≤ s' → entF l c i k s ≤ entF l c i k s'
 | 0,_,_,_,h=>h
 | k + 1,i,s,s',h=>by
   simp only [entF]
   refine ent_mono k (i + 1) _ _ ?_
   split <;> split <;> omega
theorem entW_parts {n:Int} {c:List D} (h:roadB n c = true):(∀ t,t ≤ entW c t) ∧ (∀ t,entW c t ≤ max t 100000) ∧ ∀ t t',t ≤ t' → entW c t ≤ entW c t':=by
 obtain ⟨-,-,-,-,h3⟩:=road_parts h
 exact ⟨fun t=>ent_ge _ _ _,fun t=>ent_le (fun j=>(cl_at h3 j).2.2) _ _ _,fun t t' ht=>ent_mono _ _ _ _ ht⟩
theorem at_mono {n k k':Int} {a:List (List D)} (h:okAt n k a) (hk:k ≤ k'):okAt n k' a:=⟨h.1,fun v=>⟨(h.2 v).1,by have:=(h.2 v).2; omega⟩⟩
theorem hop_ok {n k:Int} {a x:List (List D)} {c:List D} (hc:roadB n c = true) (hk:0 ≤ k) (ha:okAt n k a) (hx:okAt n (k + 1) x):okAt n (k + 1) (hop1 c a x):=by
 obtain ⟨h1,h2,h3,-,-⟩:=road_parts hc
 obtain ⟨e1,e2,e3⟩:=entW_parts hc
 unfold hop1
 split
 ·exact hx
 ·rename_i h4
  split
  ·refine ⟨by rw [len_rs]; exact hx.1,fun v=>?_⟩
   have hxl:=hx.1
   rw [rg_rs (by omega)]
   split
   ·have h5:=ha.2 (ix c 0).toNat
    have h6:=e1 (rg a (ix c 0).toNat)
    have h7:=e2 (rg a (ix c 0).toNat)
    omega
   ·exact hx.2 v
  ·exact hx
theorem hops_ok {n k:Int} {r a:List (List D)} (hN:netB n r = true) (hk:0 ≤ k) (ha:okAt n k a):∀ (m i:Nat) (x:List (List D)),i + m ≤ r.length → okAt n (k + 1) x → okAt n (k + 1) (hopF r a i m x)
 | 0,_,_,_,h=>h
 | m + 1,i,x,hm,h=>hops_ok hN hk ha m (i + 1) _ (by omega) (hop_ok ((net_parts hN).2.2 i (by omega)) hk ha h)
theorem begin_ok {n v t:Int} (hn:0 ≤ n) (hv:0 ≤ v ∧ v < n) (ht:0 ≤ t ∧ t ≤ 1099511627776):okAt n 0 (beginF n v t):=by
 unfold beginF
 refine ⟨by rw [len_rs]; simp; omega,fun u=>?_⟩
 rw [rg_rs (by simp; omega)]
 split
 ·omega
 ·by_cases hu:u < n.toNat
  ·rw [rg_rep hu]; omega
  ·rw [rg_ge (by simp; omega)]; omega
set_option maxRecDepth 100000
theorem ix_rg (X:List (List D)) (j:Nat):ix (X.getD j []) 0 = rg X j:=rfl
def prQ (c:List D):Int × Int:=(ix c 0,ix c 1)
def inQ (s:Sr) (p:Int × Int):Prop:=∃ i,i < s.k ∧ prQ (s.q.getD i []) = p
theorem swap_get {l:List (List D)} {i j k:Nat} (hi:i < l.length) (hj:j < l.length):prQ ((swapR l i j).getD k []) = if k = j then prQ (l.getD i []) else if k = i then prQ (l.getD j []) else prQ (l.getD k []):=by
 unfold swapR
 rw [getD_set (by rw [List.length_set]; exact hj)]
 split
 ·rfl
 ·rw [getD_set hi]
  split
  ·rfl
  ·rfl
def sameQ (n:Nat) (l l':List (List D)):Prop:=l'.length = l.length ∧ ∀ p,(∃ i,i < n ∧ prQ (l'.getD i []) = p) ↔ ∃ i,i < n ∧ prQ (l.getD i []) = p
theorem sameQ.refl (n:Nat) (l:List (List D)):sameQ n l l:=⟨rfl,fun _=>Iff.rfl⟩
theorem sameQ.trans {n:Nat} {a b c:List (List D)} (h:sameQ n a b) (h':sameQ n b c):sameQ n a c:=⟨h'.1.trans h.1,fun p=>(h'.2 p).trans (h.2 p)⟩
theorem swap_same {l:List (List D)} {n i j:Nat} (hn:n ≤ l.length) (hi:i < n) (hj:j < n):sameQ n l (swapR l i j):=by
 refine ⟨len_swap _ _ _,fun p=>⟨fun ⟨k,hk,e⟩=>?_,fun ⟨k,hk,e⟩=>?_⟩⟩
 ·rw [swap_get (by omega) (by omega)] at e
  split at e
  ·exact ⟨i,hi,e⟩
  ·split at e
   ·exact ⟨j,hj,e⟩
   ·exact ⟨k,hk,e⟩
 ·by_cases h1:k = i
  ·subst h1
   exact ⟨j,hj,by rw [swap_get (by omega) (by omega),if_pos rfl]; exact e⟩
  ·by_cases h2:k = j
   ·subst h2
    refine ⟨i,hi,?_⟩
    rw [swap_get (by omega) (by omega),if_neg (fun h=>h1 h.symm),if_pos rfl]
    exact e
   ·exact ⟨k,hk,by rw [swap_get (by omega) (by omega),if_neg h2,if_neg h1]; exact e⟩
theorem up_same {n:Nat}:∀ (f:Nat) (l:List (List D)) (j:Nat),n ≤ l.length → j < n → sameQ n l (upF f l j)
 | 0,l,_,_,_=>sameQ.refl n l
 | f + 1,l,j,hn,hj=>by
   simp only [upF]
   split
   ·exact sameQ.refl n l
   ·exact (swap_same hn (by omega) hj).trans (up_same f _ _ (by rw [len_swap]; exact hn) (by omega))
theorem down_same {n m:Nat} (hm:m ≤ n):∀ (f:Nat) (l:List (List D)) (i:Nat),n ≤ l.length → i < n → sameQ n l (downF f l m i).1
 | 0,l,_,_,_=>sameQ.refl n l
 | f + 1,l,i,hn,hi=>by
   simp only [downF]
   split
   ·exact sameQ.refl n l
   ·rename_i hc
    rw [not_or] at hc
    have hk:=kid_lt (l:=l) (m:=m) (i:=i) (by omega)
    exact (swap_same hn hi (by omega)).trans (down_same hm f _ _ (by rw [len_swap]; exact hn) (by omega))
theorem pop_same {l:List (List D)} {n:Nat} (hn:n ≤ l.length) (h0:0 < n):sameQ n l (popR l n):=
 (swap_same hn h0 (by omega)).trans (down_same (by omega) n _ 0 (by rw [len_swap]; exact hn) h0)
theorem pop_in {s:Sr} (hk:s.k ≠ 0) (hq:s.k ≤ s.q.length) (p:Int × Int):inQ s p ↔ p = (takeV s,takeT s) ∨ inQ ⟨s.o,s.k - 1,popR s.q s.k⟩ p:=by
 have h:=(pop_same hq (by omega)).2 p
 unfold inQ
 rw [← h]
 refine ⟨fun ⟨i,hi,e⟩=>?_,fun hh=>?_⟩
 ·by_cases h1:i = s.k - 1
  ·subst h1
   exact .inl e.symm
  ·exact .inr ⟨i,by simp only; omega,e⟩
 ·rcases hh with rfl | ⟨i,hi,e⟩
  ·exact ⟨s.k - 1,by omega,rfl⟩
  ·exact ⟨i,by simp only at hi; omega,e⟩
theorem push_in {o:List (List D)} {k:Nat} {q:List (List D)} (hq:k ≤ q.length) (v t:Int) (p:Int × Int):inQ ⟨o,k + 1,pushR q k v t⟩ p ↔ p = (v,t) ∨ inQ ⟨o,k,q⟩ p:=by
 have hlen:(q.take k ++ [[D.i v,D.i t]]).length = k + 1:=by rw [List.length_append,List.length_take]; simp; omega
 have h:=(up_same (n:=k + 1) (k + 1) (q.take k ++ [[D.i v,D.i t]]) k (by omega) (by omega)).2 p
 unfold inQ
 simp only
 unfold pushR
 rw [h]
 have hget:∀ i,i < k → (q.take k ++ [[D.i v,D.i t]]).getD i [] = q.getD i []:=fun i hi=>by
  simp only [List.getD_eq_getElem?_getD]
  rw [List.getElem?_append_left (by rw [List.length_take]; omega),List.getElem?_take,if_pos hi]
 have hlast:(q.take k ++ [[D.i v,D.i t]]).getD k [] = [D.i v,D.i t]:=by
  simp only [List.getD_eq_getElem?_getD]
  rw [List.getElem?_append_right (by rw [List.length_take]; omega),List.length_take,Nat.min_eq_left hq,Nat.sub_self]
  rfl
 refine ⟨fun ⟨i,hi,e⟩=>?_,fun hh=>?_⟩
 ·by_cases h1:i = k
  ·subst h1
   rw [hlast] at e
   exact .inl e.symm
  ·rw [hget i (by omega)] at e
   exact .inr ⟨i,by omega,e⟩
 ·rcases hh with rfl | ⟨i,hi,e⟩
  ·exact ⟨k,by omega,by rw [hlast]; rfl⟩
  ·exact ⟨i,by omega,by rw [hget i hi]; exact e⟩
structure Ed where
 m : Nat
 fr:Nat → Int
 to:Nat → Int
 fn:Nat → Int → Int
structure Ed.OK (E:Ed) (n:Nat) (H:Int):Prop where
 fr:∀ j,j < E.m → 0 ≤ E.fr j ∧ E.fr j < n
 to:∀ j,j < E.m → 0 ≤ E.to j ∧ E.to j < n
 up:∀ j,j < E.m → ∀ t,t < E.fn j t
 mono:∀ j,j < E.m → ∀ t t',t ≤ t' → E.fn j t ≤ E.fn j t'
 bnd:∀ j,j < E.m → ∀ t,E.fn j t ≤ max t H + 10000
inductive Walk (E:Ed) (v0 t0:Int):Int → Int → Prop
 | here:Walk E v0 t0 v0 t0
 | step {t:Int} {j:Nat}:Walk E v0 t0 (E.fr j) t → j < E.m → Walk E v0 t0 (E.to j) (E.fn j t)
abbrev INF:Int:=9223372036854775807
def Least (E:Ed) (n:Nat) (v0 t0:Int) (d:Nat → Int):Prop:=(∀ v,v < n → d v ≤ INF) ∧ (∀ v,v < n → d v < INF → Walk E v0 t0 v (d v)) ∧ ∀ v t,Walk E v0 t0 v t → d v.toNat ≤ t
def Yields (E:Ed) (N:Int → Int → List (List D)):Prop:=∀ v t,(∀ e ∈ N v t,∃ j,j < E.m ∧ E.fr j = v ∧ ix e 0 = E.to j ∧ ix e 1 = E.fn j t) ∧ ∀ j,j < E.m → E.fr j = v → ∃ e ∈ N v t,ix e 0 = E.to j ∧ ix e 1 = E.fn j t
def sumN (g:Nat → Nat):Nat → Nat
 | 0=>0
 | n + 1=>sumN g n + g n
theorem sumN_le {g g':Nat → Nat}:∀ {n:Nat},(∀ i,i < n → g i ≤ g' i) → sumN g n ≤ sumN g' n
 | 0,_=>Nat.le_refl _
 | n + 1,h=>by
   simp only [sumN]
   have:=sumN_le (n:=n) fun i hi=>h i (by omega)
   have:=h n (by omega)
   omega
theorem sumN_lt {g g':Nat → Nat}:∀ {n:Nat},(∀ i,i < n → g i ≤ g' i) → (∃ i,i < n ∧ g i < g' i) → sumN g n < sumN g' n
 | 0,_,⟨i,hi,_⟩=>by omega
 | n + 1,h,⟨i,hi,hlt⟩=>by
   simp only [sumN]
   have h1:=sumN_le (n:=n) fun i hi=>h i (by omega)
   have h2:=h n (by omega)
   by_cases he:i = n
   ·subst he; omega
   ·have:=sumN_lt (n:=n) (fun i hi=>h i (by omega)) ⟨i,by omega,hlt⟩
    omega
theorem sumN_const (c:Nat):∀ n,sumN (fun _=>c) n = c * n
 | 0=>rfl
 | n + 1=>by simp only [sumN,sumN_const c n]; rw [Nat.mul_succ]
section
variable {n:Nat}
theorem rel_spec:∀ (es:List (List D)) (s:Sr),s.o.length = n → s.k ≤ s.q.length → (∀ e ∈ es,0 ≤ ix e 0 ∧ ix e 0 < n) →
    (relF es s).o.length = n ∧ (relF es s).k ≤ (relF es s).q.length ∧ (∀ u,rg (relF es s).o u ≤ rg s.o u) ∧ (∀ e ∈ es,rg (relF es s).o (ix e 0).toNat ≤ ix e 1) ∧
     (∀ u,u < n → rg (relF es s).o u = rg s.o u ∨ ∃ e ∈ es,(ix e 0).toNat = u ∧ rg (relF es s).o u = ix e 1 ∧ inQ (relF es s) (ix e 0,ix e 1)) ∧
     (∀ p,inQ s p → inQ (relF es s) p) ∧ ∀ p,inQ (relF es s) p → inQ s p ∨ ∃ e ∈ es,p = (ix e 0,ix e 1)
 | [],s,h1,h2,_=>⟨h1,h2,fun _=>Int.le_refl _,fun e he=>by simp at he,fun u _=>.inl rfl,fun _ h=>h,fun _ h=>.inl h⟩
 | e :: es,s,h1,h2,h3=>by
   obtain ⟨e1,e2⟩:=h3 e List.mem_cons_self
   have h4:∀ x ∈ es,0 ≤ ix x 0 ∧ ix x 0 < n:=fun x hx=>h3 x (List.mem_cons_of_mem _ hx)
   simp only [relF]
   by_cases hc:ix e 1 < rg s.o (ix e 0).toNat
   ·rw [if_pos hc]
    obtain ⟨k1,k2,k3,k4,k5,k6,k7⟩:=rel_spec es ⟨rs s.o (ix e 0).toNat (ix e 1),s.k + 1,pushR s.q s.k (ix e 0) (ix e 1)⟩ (by simp only [len_rs]; exact h1) (by simp only; rw [len_push _ _ _ h2]; exact Nat.le_refl _) h4
    generalize relF es ⟨rs s.o (ix e 0).toNat (ix e 1),s.k + 1,pushR s.q s.k (ix e 0) (ix e 1)⟩ = s' at *
    have hrs:∀ u,rg (rs s.o (ix e 0).toNat (ix e 1)) u = if u = (ix e 0).toNat then ix e 1 else rg s.o u:=fun u=>rg_rs (by omega) _ _
    have hle:∀ u,rg (rs s.o (ix e 0).toNat (ix e 1)) u ≤ rg s.o u:=fun u=>by rw [hrs]; split <;> first | (subst_vars; omega) | exact Int.le_refl _
    refine ⟨k1,k2,fun u=>Int.le_trans (k3 u) (hle u),fun x hx=>?_,fun u hu=>?_,fun p hp=>k6 p ((push_in h2 _ _ p).2 (.inr hp)),fun p hp=>?_⟩
    ·rcases List.mem_cons.1 hx with rfl | hx
     ·refine Int.le_trans (k3 _) ?_
      simp only [hrs,if_true]
      exact Int.le_refl _
     ·exact k4 x hx
    ·rcases k5 u hu with h | ⟨x,hx,h5,h6,h7⟩
     ·rw [h]
      simp only [hrs]
      split
      ·rename_i he
       exact .inr ⟨e,List.mem_cons_self,he.symm,rfl,k6 _ ((push_in h2 _ _ _).2 (.inl rfl))⟩
      ·exact .inl rfl
     ·exact .inr ⟨x,List.mem_cons_of_mem _ hx,h5,h6,h7⟩
    ·rcases k7 p hp with h | ⟨x,hx,h⟩
     ·rcases (push_in h2 _ _ p).1 h with h | h
      ·exact .inr ⟨e,List.mem_cons_self,h⟩
      ·exact .inl h
     ·exact .inr ⟨x,List.mem_cons_of_mem _ hx,h⟩
   ·rw [if_neg hc]
    obtain ⟨k1,k2,k3,k4,k5,k6,k7⟩:=rel_spec es s h1 h2 h4
    refine ⟨k1,k2,k3,fun x hx=>?_,fun u hu=>?_,k6,fun p hp=>?_⟩
    ·rcases List.mem_cons.1 hx with rfl | hx
     ·have:=k3 (ix x 0).toNat; omega
     ·exact k4 x hx
    ·rcases k5 u hu with h | ⟨x,hx,h5⟩
     ·exact .inl h
     ·exact .inr ⟨x,List.mem_cons_of_mem _ hx,h5⟩
    ·rcases k7 p hp with h | ⟨x,hx,h⟩
     ·exact .inl h
     ·exact .inr ⟨x,List.mem_cons_of_mem _ hx,h⟩
def capN (B t0 x:Int):Nat:=(if x < INF then x - t0 else B + 1 - t0).toNat
def potN (n:Nat) (B t0:Int) (s:Sr):Nat:=s.k + 2 * sumN (fun u=>capN B t0 (rg s.o u)) n
theorem rel_pot {B t0:Int} (hB:B < INF):∀ (es:List (List D)) (s:Sr),s.o.length = n → (∀ e ∈ es,(0 ≤ ix e 0 ∧ ix e 0 < n) ∧ t0 ≤ ix e 1 ∧ ix e 1 ≤ B) → potN n B t0 (relF es s) ≤ potN n B t0 s
 | [],_,_,_=>Nat.le_refl _
 | e :: es,s,h1,h3=>by
   obtain ⟨⟨e1,e2⟩,e3,e4⟩:=h3 e List.mem_cons_self
   have h4:∀ x ∈ es,(0 ≤ ix x 0 ∧ ix x 0 < n) ∧ t0 ≤ ix x 1 ∧ ix x 1 ≤ B:=fun x hx=>h3 x (List.mem_cons_of_mem _ hx)
   simp only [relF]
   by_cases hc:ix e 1 < rg s.o (ix e 0).toNat
   ·rw [if_pos hc]
    refine Nat.le_trans (rel_pot hB es _ (by simp only [len_rs]; exact h1) h4) ?_
    have hrs:∀ u,rg (rs s.o (ix e 0).toNat (ix e 1)) u = if u = (ix e 0).toNat then ix e 1 else rg s.o u:=fun u=>rg_rs (by omega) _ _
    have hlt:sumN (fun u=>capN B t0 (rg (rs s.o (ix e 0).toNat (ix e 1)) u)) n < sumN (fun u=>capN B t0 (rg s.o u)) n:=by
     have hone:capN B t0 (ix e 1) < capN B t0 (rg s.o (ix e 0).toNat):=by
      unfold capN
      rw [if_pos (by omega)]
      split <;> omega
     refine sumN_lt (fun u _=>?_) ⟨(ix e 0).toNat,by omega,?_⟩
     ·simp only [hrs]
      split
      ·rename_i he; subst he; exact Nat.le_of_lt hone
      ·exact Nat.le_refl _
     ·simp only [hrs,if_true]; exact hone
    unfold potN
    simp only
    omega
   ·rw [if_neg hc]
    exact rel_pot hB es s h1 h4
end
noncomputable section
def popS (s:Sr):Sr:=⟨s.o,s.k - 1,popR s.q s.k⟩
def stepG (N:Int → Int → List (List D)) (s:Sr):Sr:=if takeT s > rg s.o (takeV s).toNat then popS s else relF (N (takeV s) (takeT s)) (popS s)
def cntN (n:Nat) (o:List (List D)):Nat:=sumN (fun u=>if rg o u < INF then 1 else 0) n
end
structure InvS (E:Ed) (n:Nat) (H v0 t0:Int) (s:Sr):Prop where
 len:s.o.length = n
 kq:s.k ≤ s.q.length
 src:rg s.o v0.toNat ≤ t0
 le:∀ u,u < n → rg s.o u ≤ INF
 q : ∀ p,inQ s p → (0 ≤ p.1 ∧ p.1 < n) ∧ rg s.o p.1.toNat ≤ p.2 ∧ p.2 ≤ max t0 H + 10000 * ((n:Int) + 1)
 walk:∀ u,u < n → rg s.o u < INF → Walk E v0 t0 u (rg s.o u)
 front:∀ u,u < n → rg s.o u < INF → inQ s ((u:Int),rg s.o u) ∨ ∀ j,j < E.m → E.fr j = (u:Int) → rg s.o (E.to j).toNat ≤ E.fn j (rg s.o u)
 bnd:∀ u,u < n → rg s.o u < INF → rg s.o u ≤ max t0 H + 10000 * (cntN n s.o:Int)
theorem walk_lo {E:Ed} {n:Nat} {H v0 t0:Int} (hE:E.OK n H) {v t:Int} (h:Walk E v0 t0 v t):t0 ≤ t:=by
 induction h with
 | here=>exact Int.le_refl _
 | step _ hj ih=>have:=hE.up _ hj; exact Int.le_of_lt (Int.lt_of_le_of_lt ih (this _))
theorem cnt_le (n:Nat) (o:List (List D)):cntN n o ≤ n:=by
 have:=sumN_le (n:=n) (g:=fun u=>if rg o u < INF then 1 else 0) (g':=fun _=>1) fun i _=>by split <;> omega
 rw [sumN_const] at this
 unfold cntN
 omega
theorem pot_pop {n:Nat} {B t0:Int} {s:Sr} (hk:s.k ≠ 0):potN n B t0 (popS s) < potN n B t0 s:=by
 unfold potN popS
 simp only
 omega
section
variable {E:Ed} {N:Int → Int → List (List D)} {n:Nat} {H v0 t0:Int}
theorem inv_step (hE:E.OK n H) (hN:Yields E N) (hB:max t0 H + 10000 * ((n:Int) + 1) < INF) {s:Sr} (I:InvS E n H v0 t0 s) (hk:s.k ≠ 0) :
    InvS E n H v0 t0 (stepG N s) ∧ potN n (max t0 H + 10000 * ((n:Int) + 1)) t0 (stepG N s) < potN n (max t0 H + 10000 * ((n:Int) + 1)) t0 s:=by
 have hpin:=fun p=>pop_in hk I.kq p
 obtain ⟨⟨v1,v2⟩,v3,v4⟩:=I.q _ ((hpin (takeV s,takeT s)).2 (.inl rfl))
 simp only at v1 v2 v3 v4
 have hpq:(popS s).k ≤ (popS s).q.length:=by unfold popS; simp only [len_pop]; have:=I.kq; omega
 unfold stepG
 by_cases hc:takeT s > rg s.o (takeV s).toNat
 ·rw [if_pos hc]
  refine ⟨⟨I.len,hpq,I.src,I.le,fun p hp=>I.q p ((hpin p).2 (.inr hp)),I.walk,fun u hu hf=>?_,I.bnd⟩,pot_pop hk⟩
  rcases I.front u hu hf with h | h
  ·rcases (hpin _).1 h with h | h
   ·exfalso
    simp only [Prod.mk.injEq] at h
    rw [← h.1,← h.2] at hc
    simp at hc
   ·exact .inl h
  ·exact .inr h
 ·rw [if_neg hc]
  have hT:takeT s = rg s.o (takeV s).toNat:=by omega
  have hVn:(takeV s).toNat < n:=by omega
  have hVc:((takeV s).toNat:Int) = takeV s:=by omega
  have hfV:rg s.o (takeV s).toNat < INF:=by omega
  have hbV:=I.bnd _ hVn hfV
  have hcl:=cnt_le n s.o
  have hwV:=I.walk _ hVn hfV
  rw [hVc,← hT] at hwV
  have hloV:=walk_lo hE hwV
  have hes:∀ e ∈ N (takeV s) (takeT s),(0 ≤ ix e 0 ∧ ix e 0 < n) ∧ t0 ≤ ix e 1 ∧ ix e 1 ≤ max t0 H + 10000 * ((cntN n s.o:Int) + 1):=fun e he=>by
   obtain ⟨j,hj,e1,e2,e3⟩:=(hN _ _).1 e he
   rw [e2,e3]
   have h1:=hE.to j hj
   have h2:=hE.up j hj (takeT s)
   have h3:=hE.bnd j hj (takeT s)
   refine ⟨h1,by omega,?_⟩
   rw [hT] at h3 ⊢
   omega
  obtain ⟨k1,k2,k3,k4,k5,k6,k7⟩:=rel_spec (n:=n) (N (takeV s) (takeT s)) (popS s) I.len hpq fun e he=>(hes e he).1
  have hpot:=rel_pot (n:=n) (B:=max t0 H + 10000 * ((n:Int) + 1)) (t0:=t0) hB (N (takeV s) (takeT s)) (popS s) I.len fun e he=>by
   obtain ⟨h1,h2,h3⟩:=hes e he
   exact ⟨h1,h2,by omega⟩
  refine ⟨?_,Nat.lt_of_le_of_lt hpot (pot_pop hk)⟩
  generalize relF (N (takeV s) (takeT s)) (popS s) = s' at *
  have k3:∀ u,rg s'.o u ≤ rg s.o u:=k3
  have k5:∀ u,u < n → rg s'.o u = rg s.o u ∨ ∃ e ∈ N (takeV s) (takeT s),(ix e 0).toNat = u ∧ rg s'.o u = ix e 1 ∧ inQ s' (ix e 0,ix e 1):=k5
  have hcnt:cntN n s.o ≤ cntN n s'.o:=sumN_le fun u _=>by
   have:=k3 u
   split
   ·rw [if_pos (by omega)]; exact Nat.le_refl _
   ·exact Nat.zero_le _
  refine ⟨k1,k2,Int.le_trans (k3 _) I.src,fun u hu=>Int.le_trans (k3 u) (I.le u hu),fun p hp=>?_,fun u hu hf=>?_,fun u hu hf=>?_,fun u hu hf=>?_⟩
  ·rcases k7 p hp with h | ⟨e,he,rfl⟩
   ·obtain ⟨h1,h2,h3⟩:=I.q p ((hpin p).2 (.inr h))
    exact ⟨h1,Int.le_trans (k3 _) h2,h3⟩
   ·obtain ⟨h1,h2,h3⟩:=hes e he
    exact ⟨h1,k4 e he,by simp only; omega⟩
  ·rcases k5 u hu with h | ⟨e,he,h1,h2,-⟩
   ·rw [h] at hf ⊢
    exact I.walk u hu hf
   ·obtain ⟨j,hj,e1,e2,e3⟩:=(hN _ _).1 e he
    have h3:=(hes e he).1
    have hw:Walk E v0 t0 (E.to j) (E.fn j (takeT s)):=.step (by rw [e1]; exact hwV) hj
    rw [h2,e3,show (u:Int) = E.to j by rw [← e2]; omega]
    exact hw
  ·rcases k5 u hu with h | ⟨e,he,h1,h2,h3⟩
   ·rw [h] at hf ⊢
    rcases I.front u hu hf with h5 | h5
    ·rcases (hpin _).1 h5 with h6 | h6
     ·right
      intro j hj hfr
      simp only [Prod.mk.injEq] at h6
      obtain ⟨e,he,e1,e2⟩:=(hN (takeV s) (takeT s)).2 j hj (by rw [hfr,h6.1])
      have:=k4 e he
      rw [e1,e2] at this
      rw [h6.2]
      exact this
     ·exact .inl (k6 _ h6)
    ·exact .inr fun j hj hfr=>Int.le_trans (k3 _) (h5 j hj hfr)
   ·left
    have h4:=(hes e he).1
    rw [h2,show (u:Int) = ix e 0 by omega]
    exact h3
  ·rcases k5 u hu with h | ⟨e,he,h1,h2,-⟩
   ·rw [h] at hf ⊢
    have:=I.bnd u hu hf
    omega
   ·obtain ⟨-,-,h3⟩:=hes e he
    by_cases hfu:rg s.o u < INF
    ·have h4:=I.bnd u hu hfu
     have h5:=k3 u
     omega
    ·have hlt:cntN n s.o < cntN n s'.o:=sumN_lt (fun w _=>by
      have:=k3 w
      split
      ·rw [if_pos (by omega)]; exact Nat.le_refl _
      ·exact Nat.zero_le _) ⟨u,hu,by rw [if_neg hfu,if_pos hf]; exact Nat.zero_lt_one⟩
     rw [h2]
     omega
theorem inv_least (hE:E.OK n H) (hv0:0 ≤ v0 ∧ v0 < n) {s:Sr} (I:InvS E n H v0 t0 s) (hk:s.k = 0):Least E n v0 t0 (rg s.o):=by
 refine ⟨I.le,I.walk,fun v t h=>?_⟩
 have hr:∀ {v t:Int},Walk E v0 t0 v t → 0 ≤ v ∧ v < n:=fun h=>by
  cases h with
  | here=>exact hv0
  | step _ hj=>exact hE.to _ hj
 induction h with
 | here=>exact I.src
 | @step t j hw hj ih=>
   obtain ⟨r1,r2⟩:=hr hw
   have hlt:(E.fr j).toNat < n:=by omega
   have hup:=hE.up j hj t
   have ht:=hE.to j hj
   by_cases hf:rg s.o (E.fr j).toNat < INF
   ·rcases I.front _ hlt hf with ⟨i,hi,-⟩ | h
    ·omega
    ·have:=h j hj (by omega)
     have:=hE.mono j hj _ _ ih
     omega
   ·have:=I.le (E.to j).toNat (by omega)
    have:=I.le _ hlt
    omega
def endsG (need:Sr → Prop) (step:Sr → Sr):Nat → Sr → Prop
 | 0,s=>s.k = 0
 | f + 1,s=>s.k ≠ 0 ∧ need s ∧ endsG need step f (step s)
def runG (step:Sr → Sr):Nat → Sr → List (List D)
 | 0,s=>s.o
 | f + 1,s=>runG step f (step s)
theorem inv_ends (hE:E.OK n H) (hN:Yields E N) (hB:max t0 H + 10000 * ((n:Int) + 1) < INF) (hv0:0 ≤ v0 ∧ v0 < n) {need:Sr → Prop} {Q:Nat} (hneed:∀ s,InvS E n H v0 t0 s → s.k ≠ 0 → potN n (max t0 H + 10000 * ((n:Int) + 1)) t0 s ≤ Q → need s) :
    ∀ (m:Nat) (s:Sr),InvS E n H v0 t0 s → potN n (max t0 H + 10000 * ((n:Int) + 1)) t0 s ≤ m → m ≤ Q → ∃ f,f ≤ m ∧ endsG need (stepG N) f s ∧ Least E n v0 t0 (rg (runG (stepG N) f s))
 | 0, s,I,hm,hQ=>by
   have hk:s.k = 0:=by unfold potN at hm; omega
   exact ⟨0,Nat.le_refl _,hk,inv_least hE hv0 I hk⟩
 | m + 1,s,I,hm,hQ=>by
   by_cases hk:s.k = 0
   ·exact ⟨0,Nat.zero_le _,hk,inv_least hE hv0 I hk⟩
   ·obtain ⟨I',hp⟩:=inv_step hE hN hB I hk
    obtain ⟨f,h1,h2,h3⟩:=inv_ends hE hN hB hv0 hneed m (stepG N s) I' (by omega) (by omega)
    exact ⟨f + 1,by omega,⟨hk,hneed s I hk (by omega),h2⟩,h3⟩
end
def edR (r:List (List D)):Ed:=⟨r.length,fun j=>ix (r.getD j []) 0,fun j=>ix (r.getD j []) 1,fun j t=>entW (r.getD j []) t + ix (r.getD j []) 2⟩
theorem edR_ok {n:Int} {r:List (List D)} (h:netB n r = true):(edR r).OK n.toNat 100000:=by
 obtain ⟨h1,h2,h3⟩:=net_parts h
 refine ⟨fun j hj=>?_,fun j hj=>?_,fun j hj t=>?_,fun j hj t t' ht=>?_,fun j hj t=>?_⟩
 ·have:=(road_parts (h3 j hj)).1
  show 0 ≤ ix (r.getD j []) 0 ∧ ix (r.getD j []) 0 < (n.toNat:Int)
  omega
 ·have:=(road_parts (h3 j hj)).2.1
  show 0 ≤ ix (r.getD j []) 1 ∧ ix (r.getD j []) 1 < (n.toNat:Int)
  omega
 ·have:=(road_parts (h3 j hj)).2.2.1
  have:=(entW_parts (h3 j hj)).1 t
  show t < entW (r.getD j []) t + ix (r.getD j []) 2
  omega
 ·have:=(entW_parts (h3 j hj)).2.2 t t' ht
  show entW (r.getD j []) t + ix (r.getD j []) 2 ≤ entW (r.getD j []) t' + ix (r.getD j []) 2
  omega
 ·have:=(road_parts (h3 j hj)).2.2.1
  have:=(entW_parts (h3 j hj)).2.1 t
  show entW (r.getD j []) t + ix (r.getD j []) 2 ≤ max t 100000 + 10000
  omega
theorem next_of {r:List (List D)} {v t:Int}:∀ (k i j:Nat),i ≤ j → j < i + k → ix (r.getD j []) 0 = v → ∃ e ∈ nextF r v t i k,ix e 0 = ix (r.getD j []) 1 ∧ ix e 1 = entW (r.getD j []) t + ix (r.getD j []) 2
 | 0,i,j,h1,h2,_=>by omega
 | k + 1,i,j,h1,h2,hv=>by
   simp only [nextF]
   by_cases e:j = i
   ·subst e
    rw [if_pos hv]
    exact ⟨_,List.mem_cons_self,rfl,rfl⟩
   ·obtain ⟨x,hx,h3⟩:=next_of k (i + 1) j (by omega) (by omega) hv
    refine ⟨x,?_,h3⟩
    split
    ·exact List.mem_cons_of_mem _ hx
    ·exact hx
def nxR (r:List (List D)):Int → Int → List (List D):=fun v t=>nextF r v t 0 r.length
theorem nxR_ok (r:List (List D)):Yields (edR r) (nxR r):=fun v t=>by
 refine ⟨fun e he=>?_,fun j hj hv=>next_of _ _ j (Nat.zero_le _) (by show j < 0 + r.length; have:j < r.length:=hj; omega) hv⟩
 obtain ⟨j,-,h1,h2,h3,h4⟩:=next_mem _ _ he
 exact ⟨j,by show j < r.length; omega,h3,h2,h4⟩
theorem ends_G {n:Nat} {r:List (List D)}:∀ (f:Nat) (s:Sr),endsG (needS n r) (stepG (nxR r)) f s → endsS n r f s
 | 0,_,h=>h
 | f + 1,_,h=>⟨h.1,h.2.1,ends_G f _ h.2.2⟩
theorem run_G {r:List (List D)}:∀ (f:Nat) (s:Sr),runG (stepG (nxR r)) f s = runSr r f s
 | 0,_=>rfl
 | f + 1,_=>run_G f _
theorem inv_start {E:Ed} {n:Int} {v t:Int} (hv:0 ≤ v ∧ v < n) (ht:t < INF):InvS E n.toNat 100000 v t (startS n v t):=by
 have hrg:∀ u,rg (startS n v t).o u = if u = v.toNat then t else rg (List.replicate n.toNat [.i 9223372036854775807]) u:=fun u=>rg_rs (by simp; omega) _ _
 have hrn:∀ u,u < n.toNat → rg (startS n v t).o u = if u = v.toNat then t else INF:=fun u hu=>by rw [hrg,rg_rep hu]
 have hin:∀ p,inQ (startS n v t) p → p = (v,t):=fun p ⟨i,h1,h2⟩=>by
  have h1:i < 1:=h1
  obtain rfl:i = 0:=by omega
  exact h2.symm
 refine ⟨by simp [startS,len_rs],Nat.le_refl 1,by rw [hrg,if_pos rfl]; exact Int.le_refl _,fun u hu=>?_,fun p hp=>?_,fun u hu hf=>?_,fun u hu hf=>?_,fun u hu hf=>?_⟩
 ·rw [hrn u hu]; split <;> omega
 ·rw [hin p hp]
  refine ⟨by simp only; omega,?_,by simp only; omega⟩
  simp only
  rw [hrg,if_pos rfl]
  exact Int.le_refl _
 ·rw [hrn u hu] at hf ⊢
  split at hf
  ·rename_i e
   rw [if_pos e,show (u:Int) = v by omega]
   exact .here
  ·omega
 ·rw [hrn u hu] at hf ⊢
  split at hf
  ·rename_i e
   rw [if_pos e]
   refine .inl ⟨0,Nat.zero_lt_one,?_⟩
   show (v,t) = _
   rw [show (u:Int) = v by omega]
  ·omega
 ·rw [hrn u hu] at hf ⊢
  split at hf
  ·rename_i e
   rw [if_pos e]
   omega
  ·omega
theorem pot_start {n:Int} {v t B:Int} (hv:0 ≤ v ∧ v < n) (ht:t < INF) (hB:t ≤ B):potN n.toNat B t (startS n v t) ≤ 1 + 2 * ((B + 1 - t).toNat * n.toNat):=by
 unfold potN
 have:=sumN_le (n:=n.toNat) (g:=fun u=>capN B t (rg (startS n v t).o u)) (g':=fun _=>(B + 1 - t).toNat) fun u hu=>by
  have hrg:rg (startS n v t).o u = if u = v.toNat then t else rg (List.replicate n.toNat [.i 9223372036854775807]) u:=rg_rs (by simp; omega) _ _
  rw [hrg,rg_rep hu]
  unfold capN
  by_cases e:u = v.toNat
  ·rw [if_pos e,if_pos ht]; omega
  ·rw [if_neg e,if_neg (show ¬ (9223372036854775807:Int) < 9223372036854775807 by omega)]
   exact Nat.le_refl _
 rw [sumN_const] at this
 have h1:(startS n v t).k = 1:=rfl
 omega
theorem search_ends {n:Int} {r:List (List D)} {v t:Int} (hN:netB n r = true) (hv:0 ≤ v ∧ v < n) (ht:0 ≤ t ∧ t ≤ 1099511627776) (hs:t ≤ 100000:=by omega) :
    haltS n.toNat r (startS n v t) ∧ Least (edR r) n.toNat v t (rg (resS n.toNat r (startS n v t))):=by
 obtain ⟨h1,h2,h3⟩:=net_parts hN
 have hE:=edR_ok hN
 have hI:INF = 9223372036854775807:=rfl
 have hn:(n.toNat:Int) = n:=by omega
 have hB:max t 100000 + 10000 * ((n.toNat:Int) + 1) < INF:=by omega
 have hp:=pot_start (n:=n) (B:=max t 100000 + 10000 * ((n.toNat:Int) + 1)) hv (by omega:t < INF) (by omega)
 have hm:(max t 100000 + 10000 * ((n.toNat:Int) + 1) + 1 - t).toNat * n.toNat ≤ 2200000 * 200:=Nat.mul_le_mul (by omega) (by omega)
 obtain ⟨f,f1,f2,f3⟩:=inv_ends (n:=n.toNat) hE (nxR_ok r) hB (by omega) (need:=needS n.toNat r) (Q:=1000000000) (fun s I hk hQ=>by
  have hkq:s.k ≤ 1000000000:=by unfold potN at hQ; omega
  obtain ⟨⟨v1,v2⟩,v3,v4⟩:=I.q _ ((pop_in hk I.kq (takeV s,takeT s)).2 (.inl rfl))
  simp only at v1 v2 v3 v4
  have hfV:rg s.o (takeV s).toNat < INF:=by omega
  have hlo:=walk_lo hE (I.walk (takeV s).toNat (by omega) hfV)
  refine ⟨I.kq,by omega,by rw [I.len]; exact Nat.le_refl _,⟨v1,v2⟩,⟨by omega,by omega⟩,net_okR hN,by omega,fun i hi=>?_⟩
  have:=(road_parts (h3 i hi)).2.1
  omega) 1000000000 (startS n v t) (inv_start hv (by omega)) (by omega) (Nat.le_refl _)
 have he:=ends_G f _ f2
 refine ⟨⟨f,by omega,he⟩,?_⟩
 rw [resS_eq he,← run_G]
 exact f3
def cv (z:Int):Int:=if z < 0 then INF else z
theorem hop1_spec {n K:Int} {a x:List (List D)} {c:List D} (hc:roadB n c = true) (hK:0 ≤ K ∧ K ≤ 1000) (ha:okAt n K a) (hx:okAt n (K + 1) x) :
    (∀ u,cv (rg (hop1 c a x) u) ≤ cv (rg x u)) ∧ (¬ rg a (ix c 0).toNat < 0 → cv (rg (hop1 c a x) (ix c 1).toNat) ≤ entW c (rg a (ix c 0).toNat) + ix c 2) ∧
     ∀ u,rg (hop1 c a x) u = rg x u ∨ (¬ rg a (ix c 0).toNat < 0 ∧ (ix c 1).toNat = u ∧ rg (hop1 c a x) u = entW c (rg a (ix c 0).toNat) + ix c 2):=by
 obtain ⟨h1,h2,h3,-,-⟩:=road_parts hc
 obtain ⟨e1,e2,-⟩:=entW_parts hc
 have h5:=ha.2 (ix c 0).toNat
 have h6:=e1 (rg a (ix c 0).toNat)
 have h7:=e2 (rg a (ix c 0).toNat)
 have hxl:=hx.1
 have hI:INF = 9223372036854775807:=rfl
 unfold hop1
 by_cases c1:rg a (ix c 0).toNat < 0
 ·rw [if_pos c1]
  exact ⟨fun u=>Int.le_refl _,fun h=>absurd c1 h,fun u=>.inl rfl⟩
 ·rw [if_neg c1]
  by_cases c2:rg x (ix c 1).toNat < 0 ∨ entW c (rg a (ix c 0).toNat) + ix c 2 < rg x (ix c 1).toNat
  ·rw [if_pos c2]
   have hrs:=fun u=>rg_rs (R:=x) (j:=(ix c 1).toNat) (by omega) (entW c (rg a (ix c 0).toNat) + ix c 2) u
   refine ⟨fun u=>?_,fun _=>?_,fun u=>?_⟩
   ·rw [hrs]
    by_cases e:u = (ix c 1).toNat
    ·rw [if_pos e,e]
     unfold cv
     split <;> split <;> omega
    ·rw [if_neg e]; exact Int.le_refl _
   ·rw [hrs,if_pos rfl]
    unfold cv
    rw [if_neg (by omega)]
    exact Int.le_refl _
   ·rw [hrs]
    by_cases e:u = (ix c 1).toNat
    ·rw [if_pos e]
     exact .inr ⟨c1,e.symm,rfl⟩
    ·rw [if_neg e]; exact .inl rfl
  ·rw [if_neg c2]
   refine ⟨fun u=>Int.le_refl _,fun _=>?_,fun u=>.inl rfl⟩
   unfold cv
   split <;> omega
theorem hops_spec {n K:Int} {r a:List (List D)} (hN:netB n r = true) (hK:0 ≤ K ∧ K ≤ 1000) (ha:okAt n K a):∀ (m i:Nat) (x:List (List D)),i + m ≤ r.length → okAt n (K + 1) x →
    (∀ u,cv (rg (hopF r a i m x) u) ≤ cv (rg x u)) ∧ (∀ j,i ≤ j → j < i + m → ¬ rg a ((edR r).fr j).toNat < 0 → cv (rg (hopF r a i m x) ((edR r).to j).toNat) ≤ (edR r).fn j (rg a ((edR r).fr j).toNat)) ∧
     ∀ u,rg (hopF r a i m x) u = rg x u ∨ ∃ j,j < r.length ∧ ¬ rg a ((edR r).fr j).toNat < 0 ∧ ((edR r).to j).toNat = u ∧ rg (hopF r a i m x) u = (edR r).fn j (rg a ((edR r).fr j).toNat)
 | 0,i,x,_,_=>⟨fun u=>Int.le_refl _,fun j h1 h2=>by omega,fun u=>.inl rfl⟩
 | m + 1,i,x,hm,hx=>by
   have hR:=(net_parts hN).2.2 i (by omega)
   obtain ⟨a1,a2,a3⟩:=hop1_spec hR hK ha hx
   obtain ⟨b1,b2,b3⟩:=hops_spec hN hK ha m (i + 1) (hop1 (r.getD i []) a x) (by omega) (hop_ok hR hK.1 ha hx)
   simp only [hopF]
   refine ⟨fun u=>Int.le_trans (b1 u) (a1 u),fun j h1 h2 h3=>?_,fun u=>?_⟩
   ·by_cases e:j = i
    ·subst e
     exact Int.le_trans (b1 _) (a2 h3)
    ·exact b2 j (by omega) (by omega) h3
   ·rcases b3 u with h | h
    ·rw [h]
     rcases a3 u with h' | ⟨h4,h5,h6⟩
     ·exact .inl h'
     ·exact .inr ⟨i,by omega,h4,h5,h6⟩
    ·exact .inr h
theorem walk_inv {E:Ed} {v0 t0 v t:Int} (h:Walk E v0 t0 v t):(v = v0 ∧ t = t0) ∨ ∃ j t',j < E.m ∧ v = E.to j ∧ t = E.fn j t' ∧ Walk E v0 t0 (E.fr j) t':=by
 cases h with
 | here=>exact .inl ⟨rfl,rfl⟩
 | step h hj=>exact .inr ⟨_,_,hj,rfl,rfl,h⟩
structure Sound (r:List (List D)) (n:Int) (v0 t0:Int) (a:List (List D)):Prop where
 src:cv (rg a v0.toNat) ≤ t0
 walk:∀ u,u < n.toNat → ¬ rg a u < 0 → Walk (edR r) v0 t0 u (rg a u)
open Classical in
noncomputable def lateN (d:Nat → Int) (n:Nat) (a:List (List D)):Nat:=sumN (fun u=>if cv (rg a u) = d u then 0 else 1) n
section
variable {n K v0 t0:Int} {r a:List (List D)} {d:Nat → Int}
theorem sound_ge (hL:Least (edR r) n.toNat v0 t0 d) (hS:Sound r n v0 t0 a) {u:Nat} (hu:u < n.toNat):d u ≤ cv (rg a u):=by
 unfold cv
 split
 ·exact hL.1 u hu
 ·rename_i h
  have:=hL.2.2 _ _ (hS.walk u hu h)
  rwa [Int.toNat_natCast] at this
theorem sound_hop (hN:netB n r = true) (hK:0 ≤ K ∧ K ≤ 1000) (ha:okAt n K a) (hS:Sound r n v0 t0 a):Sound r n v0 t0 (hopF r a 0 r.length a):=by
 obtain ⟨b1,b2,b3⟩:=hops_spec hN hK ha r.length 0 a (by omega) (at_mono ha (by omega))
 refine ⟨Int.le_trans (b1 _) hS.src,fun u hu h=>?_⟩
 have hE:=edR_ok hN
 rcases b3 u with e | ⟨j,hj,e1,e2,e3⟩
 ·rw [e] at h ⊢
  exact hS.walk u hu h
 ·rw [e3]
  have h1:=hE.to j hj
  have h2:=hE.fr j hj
  have hw:=hS.walk _ (by omega) e1
  rw [show ((((edR r).fr j).toNat:Nat):Int) = (edR r).fr j by omega] at hw
  rw [show (u:Int) = (edR r).to j by omega]
  exact .step hw hj
theorem late_hop (hN:netB n r = true) (_hv:0 ≤ v0 ∧ v0 < n) (hK:0 ≤ K ∧ K ≤ 1000) (ha:okAt n K a) (hL:Least (edR r) n.toNat v0 t0 d) (hS:Sound r n v0 t0 a) (h0:lateN d n.toNat a ≠ 0) :
    lateN d n.toNat (hopF r a 0 r.length a) < lateN d n.toNat a:=by
 have hE:=edR_ok hN
 obtain ⟨b1,b2,b3⟩:=hops_spec hN hK ha r.length 0 a (by omega) (at_mono ha (by omega))
 have hS':=sound_hop hN hK ha hS
 have stay:∀ u,u < n.toNat → cv (rg a u) = d u → cv (rg (hopF r a 0 r.length a) u) = d u:=fun u hu h=>by
  have:=sound_ge hL hS' hu
  have:=b1 u
  omega
 have hex:∃ u,u < n.toNat ∧ cv (rg a u) ≠ d u:=by
  refine Classical.byContradiction fun hn=>h0 ?_
  unfold lateN
  have:sumN (fun u=>if cv (rg a u) = d u then 0 else 1) n.toNat ≤ sumN (fun _=>0) n.toNat:=sumN_le fun u hu=>by
   rw [if_pos (Classical.byContradiction fun h=>hn ⟨u,hu,h⟩)]
   exact Nat.le_refl _
  rw [sumN_const] at this
  omega
 have hlow:∀ u,u < n.toNat → d u < INF → t0 ≤ d u:=fun u hu h=>walk_lo hE (hL.2.1 u hu h)
 have hlt:∀ u,u < n.toNat → cv (rg a u) ≠ d u → d u < INF:=fun u hu h=>by
  have h1:=sound_ge hL hS hu
  have h2:cv (rg a u) ≤ INF:=by
   unfold cv
   split
   ·exact Int.le_refl _
   ·have hI:INF = 9223372036854775807:=rfl
    have:=(ha.2 u).2; omega
  omega
 obtain ⟨m,⟨u,hu,h1,h2⟩,hmin⟩:=least_of (P:=fun m=>∃ u,u < n.toNat ∧ cv (rg a u) ≠ d u ∧ (d u - t0).toNat = m) (by obtain ⟨u,hu,h⟩:=hex; exact ⟨_,u,hu,h,rfl⟩)
 have hdu:=hlt u hu h1
 have hfin:cv (rg (hopF r a 0 r.length a) u) = d u:=by
  rcases walk_inv (hL.2.1 u hu hdu) with ⟨e1,e2⟩ | ⟨j,t',hj,e1,e2,hw⟩
  ·exfalso
   have:=hS.src
   rw [← e1,Int.toNat_natCast] at this
   have:=sound_ge hL hS hu
   omega
  ·have g1:=hE.up j hj t'
   have g2:=hL.2.2 _ _ hw
   have g3:=hE.fr j hj
   have g4:=hE.to j hj
   have g5:cv (rg a ((edR r).fr j).toNat) = d ((edR r).fr j).toNat:=Classical.byContradiction fun hc=>by
    have k1:=hlt _ (by omega) hc
    have k2:=hlow _ (by omega) k1
    exact hmin _ (by have:=hlow u hu hdu; omega) ⟨_,by omega,hc,rfl⟩
   have g6:¬ rg a ((edR r).fr j).toNat < 0:=fun hc=>by
    unfold cv at g5
    rw [if_pos hc] at g5
    omega
   have g7:=b2 j (Nat.zero_le _) (by show j < 0 + r.length; have:j < r.length:=hj; omega) g6
   have g8:rg a ((edR r).fr j).toNat ≤ t':=by
    unfold cv at g5
    rw [if_neg g6] at g5
    omega
   have g9:=hE.mono j hj _ _ g8
   rw [← e1,Int.toNat_natCast] at g7
   have:=sound_ge hL hS' hu
   omega
 refine sumN_lt (fun w hw=>?_) ⟨u,hu,?_⟩
 ·split
  ·exact Nat.zero_le _
  ·rename_i h
   rw [if_neg fun h'=>h (stay w hw h')]
   exact Nat.le_refl _
 ·rw [if_pos hfin,if_neg h1]
  exact Nat.zero_lt_one
theorem reach_least (hN:netB n r = true) (hv:0 ≤ v0 ∧ v0 < n) (hL:Least (edR r) n.toNat v0 t0 d):∀ (k:Nat) (a:List (List D)) (K:Int),0 ≤ K → K + k ≤ 1000 → okAt n K a → Sound r n v0 t0 a → lateN d n.toNat a ≤ k →
    okAt n 1000 (reachF r k a) ∧ ∀ u,u < n.toNat → cv (rg (reachF r k a) u) = d u
 | 0, a,K,h0,h1,ha,hS,hl=>by
   refine ⟨at_mono ha (by omega),fun u hu=>Classical.byContradiction fun hc=>?_⟩
   have hc:¬ cv (rg a u) = d u:=hc
   have:sumN (fun _=>0) n.toNat < lateN d n.toNat a:=sumN_lt (fun w hw=>Nat.zero_le _) ⟨u,hu,by rw [if_neg hc]; exact Nat.zero_lt_one⟩
   rw [sumN_const] at this
   omega
 | k + 1,a,K,h0,h1,ha,hS,hl=>by
   refine reach_least hN hv hL k (hopF r a 0 r.length a) (K + 1) (by omega) (by omega) (hops_ok hN h0 ha r.length 0 a (by omega) (at_mono ha (by omega))) (sound_hop hN ⟨h0,by omega⟩ ha hS) ?_
   by_cases hz:lateN d n.toNat a = 0
   ·have hS':=sound_hop hN ⟨h0,by omega⟩ ha hS
    obtain ⟨b1,-,-⟩:=hops_spec hN ⟨h0,by omega⟩ ha r.length 0 a (by omega) (at_mono ha (by omega))
    refine Nat.le_trans (sumN_le (g':=fun u=>if cv (rg a u) = d u then 0 else 1) fun w hw=>?_) (by unfold lateN at hz; omega)
    split
    ·exact Nat.zero_le _
    ·rename_i h
     rw [if_neg fun h'=>h (by have:=sound_ge hL hS' hw; have:=b1 w; omega)]
     exact Nat.le_refl _
   ·have:=late_hop hN hv ⟨h0,by omega⟩ ha hL hS hz
    omega
end
theorem none_rg : ∀ (k i : Nat) (l:List (List D)),i + k ≤ l.length → ∀ u,rg (noneF i k l) u = if i ≤ u ∧ u < i + k ∧ rg l u = 9223372036854775807 then -1 else rg l u
 | 0,i,l,_,u=>by simp only [noneF]; rw [if_neg (by omega)]
 | k + 1, i, l, h, u => by
   simp only [noneF]
   rw [none_rg k (i + 1) _ (by split; · rw [len_rs]; omega
                               ·omega) u]
   by_cases c:rg l i = 9223372036854775807
   ·simp only [if_pos c]
    rw [rg_rs (by omega)]
    by_cases e:u = i
    ·subst e
     rw [if_pos rfl,if_neg (by omega),if_pos ⟨Nat.le_refl _,by omega,c⟩]
    ·rw [if_neg e]
     by_cases c2:i + 1 ≤ u ∧ u < i + 1 + k ∧ rg l u = 9223372036854775807
     ·rw [if_pos c2,if_pos (by omega)]
     ·rw [if_neg c2,if_neg (by omega)]
   ·simp only [if_neg c]
    by_cases e:u = i
    ·subst e
     rw [if_neg (by omega),if_neg (by omega)]
    ·by_cases c2:i + 1 ≤ u ∧ u < i + 1 + k ∧ rg l u = 9223372036854775807
     ·rw [if_pos c2,if_pos (by omega)]
     ·rw [if_neg c2,if_neg (by omega)]
theorem begin_sound {r:List (List D)} {n v t:Int} (hv:0 ≤ v ∧ v < n) (ht:0 ≤ t):Sound r n v t (beginF n v t):=by
 have hrg:∀ u,rg (beginF n v t) u = if u = v.toNat then t else rg (List.replicate n.toNat [.i (-1)]) u:=fun u=>rg_rs (by simp; omega) _ _
 refine ⟨?_,fun u hu h=>?_⟩
 ·rw [hrg,if_pos rfl]
  unfold cv
  rw [if_neg (by omega)]
  exact Int.le_refl _
 ·rw [hrg] at h ⊢
  split at h
  ·rename_i e
   rw [if_pos e,show (u:Int) = v by omega]
   exact .here
  ·rw [rg_rep hu] at h
   omega
theorem arr_same {n:Int} {r:List (List D)} {v t:Int} (hN:netB n r = true) (hv:0 ≤ v ∧ v < n) (ht:0 ≤ t ∧ t ≤ 100000) :
    (arrF n r v t).length = n.toNat ∧ (reachF r n.toNat (beginF n v t)).length = n.toNat ∧ ∀ u,u < n.toNat → rg (arrF n r v t) u = rg (reachF r n.toNat (beginF n v t)) u:=by
 obtain ⟨h1,-,-⟩:=net_parts hN
 obtain ⟨-,hL⟩:=search_ends hN hv (by omega:0 ≤ t ∧ t ≤ 1099511627776) ht.2
 have hlen:(resS n.toNat r (startS n v t)).length = n.toNat:=by rw [res_len,len_start]
 obtain ⟨k1,k2⟩:=reach_least hN hv hL n.toNat (beginF n v t) 0 (Int.le_refl _) (by omega) (begin_ok (by omega) hv (by omega)) (begin_sound hv ht.1) (by
  unfold lateN
  refine Nat.le_trans (sumN_le (g':=fun _=>1) fun u hu=>by split <;> omega) ?_
  rw [sumN_const]
  omega)
 refine ⟨by unfold arrF; rw [none_len,hlen],by have:=k1.1; omega,fun u hu=>?_⟩
 unfold arrF
 rw [none_rg _ _ _ (by omega)]
 have k4:=k2 u hu
 obtain ⟨k3,k5⟩:=k1.2 u
 rw [← k4]
 generalize rg (reachF r n.toNat (beginF n v t)) u = z at *
 have hlo:rg (resS n.toNat r (startS n v t)) u < INF → t ≤ rg (resS n.toNat r (startS n v t)) u:=fun h=>walk_lo (edR_ok hN) (hL.2.1 u hu h)
 rw [← k4] at hlo
 unfold cv at hlo ⊢
 by_cases hz:z < 0
 ·rw [if_pos hz,if_pos ⟨Nat.zero_le _,by omega,rfl⟩]
  omega
 ·rw [if_neg hz]
  by_cases hi:z = 9223372036854775807
  ·omega
  ·rw [if_neg (by omega)]
set_option linter.unusedVariables false
set_option maxRecDepth 100000
theorem t33 (a b c d:D):fnT C tab33 33 s33 [a,b,c,d] =
 T.ite ((if netB a.I b.L = true then (0:Int) else (2:Int)) != (0:Int)) (T.leaf [D.l [],D.i 2]) (T.ite (!within c.I (0:Int) (IntKind.i64.wrap (a.I - (1:Int)))) (T.leaf [D.l [],D.i 2]) (T.ite (!within d.I (0:Int) (100000:Int)) (T.leaf [D.l [],D.i 2]) (T.need (yes ((0:Int) ≤ a.I ∧ a.I < (1099511627776:Int) ∧ (0:Int) ≤ c.I ∧ c.I < a.I ∧ haltS a.I.toNat b.L (startS a.I c.I d.I))) (T.need (decide (a.I.toNat ≤ List.length (arrF a.I b.L c.I d.I))) (T.leaf [D.l (List.take a.I.toNat (arrF a.I b.L c.I d.I)),D.i 0]))))):=by kernel_rfl
set_option maxRecDepth 100000
theorem node_iff {n v t:Int}:nodeB n v t = true ↔ (0 ≤ v ∧ v < n) ∧ 0 ≤ t ∧ t ≤ 100000:=by
 unfold nodeB
 rw [decide_eq_true_iff]
theorem arr_ok {n:Int} {r:List (List D)} {v t:Int} (hN:netB n r = true) (hv:0 ≤ v ∧ v < n) (ht:0 ≤ t ∧ t ≤ 100000) :
    okAt n 1000 (arrF n r v t) ∧ ∃ d,Least (edR r) n.toNat v t d ∧ ∀ u,u < n.toNat → cv (rg (arrF n r v t) u) = d u:=by
 obtain ⟨h1,-,-⟩:=net_parts hN
 obtain ⟨-,hL⟩:=search_ends hN hv (by omega:0 ≤ t ∧ t ≤ 1099511627776) ht.2
 obtain ⟨k1,k2⟩:=reach_least hN hv hL n.toNat (beginF n v t) 0 (Int.le_refl _) (by omega) (begin_ok (by omega) hv (by omega)) (begin_sound hv ht.1) (by
  unfold lateN
  refine Nat.le_trans (sumN_le (g':=fun _=>1) fun u hu=>by split <;> omega) ?_
  rw [sumN_const]
  omega)
 obtain ⟨s1,s2,s3⟩:=arr_same hN hv ht
 refine ⟨⟨by omega,fun u=>?_⟩,_,hL,fun u hu=>by rw [s3 u hu]; exact k2 u hu⟩
 by_cases hu:u < n.toNat
 ·rw [s3 u hu]; exact k1.2 u
 ·rw [rg_ge (by omega)]; omega
theorem ok33 (n:Nat):FnOK C (n + 7) 33 (mkF s33 G33):=by
 refine fn_ofS hC (sp:=sp33) (lp:=lp33) (sw:=sw33) ⟨ok38 (n + 4),ok83 (n + 5),ok84 n,trivial⟩ trivial (by kernel_rfl) [] (by kernel_rfl) rfl (fun k hk=>by cases hk) fun ds r h=>?_
 unfold G33 at h
 split at h
 ·rename_i m r' v t
  refine (congrArg T.run (t33 m r' v t)).trans ?_
  rw [← h]
  cases hN:netB m.I r'.L with
  | false=>exact go_true rfl rfl
  | true=>
    obtain ⟨p1,p2,p3⟩:=net_parts hN
    rw [Bool.true_and,wrap_id (by omega) (by omega)]
    refine go_false rfl ?_
    simp only [within_dec]
    refine go_not (fun c1=>?_) fun c1=>go_not (fun c2=>?_) fun c2=>?_
    ·have c1:=of_decide_eq_false c1
     have:nodeB m.I v.I t.I = false:=decide_eq_false (by omega)
     rw [this]
     rfl
    ·have c2:=of_decide_eq_false c2
     have:nodeB m.I v.I t.I = false:=decide_eq_false (by omega)
     rw [this]
     rfl
    ·have c1:=of_decide_eq_true c1
     have c2:=of_decide_eq_true c2
     have hO:nodeB m.I v.I t.I = true:=decide_eq_true (by omega)
     have hh:=(search_ends hN (v:=v.I) (t:=t.I) (by omega) (by omega) (by omega)).1
     have hl:=(arr_ok hN (v:=v.I) (t:=t.I) (by omega) (by omega)).1.1
     rw [hO]
     refine go_yes ⟨by omega,by omega,by omega,by omega,hh⟩ (go_dec (by omega) ?_)
     rw [List.take_of_length_le (by omega)]
     rfl
 ·cases h
set_option maxRecDepth 100000
theorem cv_eq {z d:Int} (h:cv z = d) (hd:d < 9223372036854775807):z = d:=by
 unfold cv at h
 split at h
 ·rw [show INF = 9223372036854775807 from rfl] at h
  omega
 ·exact h
end Go.Proofs.Ytgoedfonmocafaa.Rs
