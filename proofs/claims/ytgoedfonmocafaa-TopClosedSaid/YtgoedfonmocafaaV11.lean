/-
 What the claim top_closed rests on, part 11.
-/
import Derived.Test.YtgoedfonmocafaaV10
namespace Go.Proofs.Ytgoedfonmocafaa
open Go.Lite
set_option maxRecDepth 100000
theorem gd_eq {l:List (List D)} {q:Nat} (h:q < l.length):l.getD q [] = l[q]:=by rw [List.getD_eq_getElem?_getD,List.getElem?_eq_getElem h]; rfl
theorem gd_mem {l:List (List D)} {q:Nat} (h:q < l.length):l.getD q [] ∈ l:=by rw [gd_eq h]; exact List.getElem_mem h
theorem gd_app {l m:List (List D)} {q:Nat} (h:q < l.length):(l ++ m).getD q [] = l.getD q []:=by
 rw [List.getD_eq_getElem?_getD,List.getD_eq_getElem?_getD,List.getElem?_append_left h]
theorem gd_app' {l m:List (List D)} {q:Nat}:(l ++ m).getD (l.length + q) [] = m.getD q []:=by
 rw [List.getD_eq_getElem?_getD,List.getD_eq_getElem?_getD,List.getElem?_append_right (by omega),Nat.add_sub_cancel_left]
def detA (de:List (List D)) (j:Nat):List D:=[.i j,.i (j + 1:Nat),.i (rgI de j),.l []]
def detZ (de:List (List D)) (j:Nat):List D:=[.i (j + 1:Nat),.i j,.i (rgI de j),.l []]
section
variable {w se de cl op:List (List D)}
theorem cut_mem {x:List D}:∀ k,x ∈ cutN se de cl op k → ∃ j,j < k ∧ (x = roadN se cl op j ∨ (rgI de j > 0 ∧ (x = detA de j ∨ x = detZ de j)))
 | 0,h=>by cases h
 | k + 1,h=>by
   simp only [cutN,List.mem_append,List.mem_cons] at h
   rcases h with h | h | h
   ·obtain ⟨j,hj,h⟩:=cut_mem k h
    exact ⟨j,by omega,h⟩
   ·exact ⟨k,by omega,.inl h⟩
   ·unfold detN at h
    split at h
    ·rename_i hd
     simp only [List.mem_cons,List.not_mem_nil,or_false] at h
     exact ⟨k,by omega,.inr ⟨hd,h⟩⟩
    ·cases h
theorem cut_at {q k:Nat} (hq:q < (cutN se de cl op k).length):∃ j,j < k ∧ ((cutN se de cl op k).getD q [] = roadN se cl op j ∨ (rgI de j > 0 ∧ ((cutN se de cl op k).getD q [] = detA de j ∨ (cutN se de cl op k).getD q [] = detZ de j))):=
 cut_mem k (gd_mem hq)
theorem cut_det {j:Nat} (hd:rgI de j > 0):∀ k,j < k → ∃ q,q < (cutN se de cl op k).length ∧ (cutN se de cl op k).getD q [] = detA de j
 | 0,h=>by omega
 | k + 1,h=>by
   by_cases hk:j < k
   ·obtain ⟨q,h1,h2⟩:=cut_det hd k hk
    refine ⟨q,by simp only [cutN,List.length_append]; omega,?_⟩
    rw [← h2]
    simp only [cutN]
    rw [gd_app h1]
   ·obtain rfl:j = k:=by omega
    have e:cutN se de cl op (j + 1) = cutN se de cl op j ++ [roadN se cl op j,detA de j,detZ de j]:=by
     simp only [cutN,detN,if_pos hd]
     rfl
    rw [e]
    refine ⟨(cutN se de cl op j).length + 1,by simp,?_⟩
    rw [gd_app']
    rfl
theorem road_net {k:Nat} (hc:cutP w se de cl op) (hk:k < w.length):Rs.roadB ((w.length + 1:Nat):Int) (roadN se cl op k) = true:=by
 obtain ⟨h1,h2,h3⟩:=hc.2.2.2.2.2 k hk
 have e0:ix (roadN se cl op k) 0 = k:=rfl
 have e1:ix (roadN se cl op k) 1 = (k + 1:Nat):=rfl
 have e2:ix (roadN se cl op k) 2 = rgI se k:=rfl
 have e3:lx (roadN se cl op k) 3 = [[.i (60 * rgI cl k),.i (60 * rgI op k)]]:=rfl
 unfold Rs.roadB Rs.roadH
 rw [e0,e1,e2,e3,Bool.and_eq_true,decide_eq_true_eq]
 refine ⟨⟨by omega,by omega,by omega,by omega,by simp⟩,allFrom_iff.2 fun i _ hi=>?_⟩
 obtain rfl:i = 0:=by simpa using hi
 unfold Rs.clB
 rw [decide_eq_true_eq]
 show 0 ≤ 60 * rgI cl k ∧ 60 * rgI cl k < 60 * rgI op k ∧ 60 * rgI op k ≤ 100000 ∧ (0 < 0 → _)
 exact ⟨by omega,by omega,by omega,fun h=>by omega⟩
theorem det_net {k:Nat} (hc:cutP w se de cl op) (hk:k < w.length) (hd:rgI de k > 0):Rs.roadB ((w.length + 1:Nat):Int) (detA de k) = true ∧ Rs.roadB ((w.length + 1:Nat):Int) (detZ de k) = true:=by
 obtain ⟨h1,h2,h3⟩:=hc.2.2.2.2.2 k hk
 have e0:ix (detA de k) 0 = k:=rfl
 have e1:ix (detA de k) 1 = (k + 1:Nat):=rfl
 have e2:ix (detA de k) 2 = rgI de k:=rfl
 have e3:lx (detA de k) 3 = []:=rfl
 have z0:ix (detZ de k) 0 = (k + 1:Nat):=rfl
 have z1:ix (detZ de k) 1 = k:=rfl
 have z2:ix (detZ de k) 2 = rgI de k:=rfl
 have z3:lx (detZ de k) 3 = []:=rfl
 unfold Rs.roadB Rs.roadH
 rw [e0,e1,e2,e3,z0,z1,z2,z3,Bool.and_eq_true,Bool.and_eq_true,decide_eq_true_eq,decide_eq_true_eq]
 exact ⟨⟨⟨by omega,by omega,by omega,by omega,by decide⟩,rfl⟩,⟨by omega,by omega,by omega,by omega,by decide⟩,rfl⟩
theorem cut_net (hc:cutP w se de cl op):Rs.netB ((w.length + 1:Nat):Int) (cutN se de cl op w.length) = true:=by
 have hl:=cutN_len se de cl op w.length
 have hw:=hc.1
 unfold Rs.netB
 rw [Bool.and_eq_true,decide_eq_true_eq]
 refine ⟨by omega,allFrom_iff.2 fun i _ hi=>?_⟩
 obtain ⟨j,hj,h | ⟨hd,h | h⟩⟩:=cut_at (se:=se) (de:=de) (cl:=cl) (op:=op) (q:=i) (k:=w.length) (by omega)
 ·rw [h]; exact road_net hc hj
 ·rw [h]; exact (det_net hc hj hd).1
 ·rw [h]; exact (det_net hc hj hd).2
theorem ent_free (k:Nat) (t:Int):Rs.entW (roadN se cl op k) t + rgI se k ≤ 60 * rgI cl k ∨ 60 * rgI op k ≤ Rs.entW (roadN se cl op k) t:=by
 have e:Rs.entW (roadN se cl op k) t = if t + rgI se k > 60 * rgI cl k ∧ t < 60 * rgI op k then 60 * rgI op k else t:=rfl
 rw [e]
 split <;> omega
theorem det_walk (hc:cutP w se de cl op) {fr:Nat} {a:Int}:∀ m,fr + m ≤ w.length → (∀ j,fr ≤ j → j < fr + m → rgI de j > 0) →
    Rs.Walk (Rs.edR (cutN se de cl op w.length)) fr a ((fr + m:Nat):Int) (a + sumD de fr m)
 | 0, _,_=>by
   have e:a + sumD de fr 0 = a:=by simp [sumD]
   rw [e]
   exact .here
 | m + 1,hm,hd=>by
   have ih:=det_walk hc (fr:=fr) (a:=a) m (by omega) fun j h1 h2=>hd j h1 (by omega)
   obtain ⟨q,h1,h2⟩:=cut_det (se:=se) (cl:=cl) (op:=op) (hd (fr + m) (by omega) (by omega)) w.length (by omega)
   have e0:(Rs.edR (cutN se de cl op w.length)).fr q = ((fr + m:Nat):Int):=by
    show ix ((cutN se de cl op w.length).getD q []) 0 = _
    rw [h2]; rfl
   have e1:(Rs.edR (cutN se de cl op w.length)).to q = ((fr + (m + 1):Nat):Int):=by
    show ix ((cutN se de cl op w.length).getD q []) 1 = _
    rw [h2]; rfl
   have e2:∀ t,(Rs.edR (cutN se de cl op w.length)).fn q t = t + rgI de (fr + m):=fun t=>by
    show Rs.entW ((cutN se de cl op w.length).getD q []) t + ix ((cutN se de cl op w.length).getD q []) 2 = _
    rw [h2]; rfl
   have es:∀ m j,sumD de j (m + 1) = sumD de j m + rgI de (j + m):=by
    intro m
    induction m with
    | zero=>intro j; simp [sumD]
    | succ m ih=>
      intro j
      have:=ih (j + 1)
      simp only [sumD] at this ⊢
      rw [this,show j + 1 + m = j + (m + 1) by omega]
      omega
   have hs:=Rs.Walk.step (j:=q) (e0 ▸ ih) h1
   rw [e1,e2] at hs
   rw [es,← Int.add_assoc]
   exact hs
theorem det_best (hc:cutP w se de cl op) {fr to:Nat} {a:Int} (h1:fr ≤ to) (h2:to ≤ w.length) (ha:0 ≤ a ∧ a ≤ 100000) (hd:∀ j,fr ≤ j → j < to → rgI de j > 0)
    (hb:¬ Rs.bestF ((w.length + 1:Nat):Int) (cutN se de cl op w.length) fr a to < 0):Rs.bestF ((w.length + 1:Nat):Int) (cutN se de cl op w.length) fr a to ≤ a + sumD de fr (to - fr):=by
 obtain ⟨-,d,hL,he⟩:=Rs.arr_ok (cut_net hc) (v:=(fr:Int)) (t:=a) (by omega) ha
 have hW:=det_walk hc (fr:=fr) (a:=a) (to - fr) (by omega) fun j k1 k2=>hd j k1 (by omega)
 rw [show fr + (to - fr) = to by omega] at hW
 have hl:=hL.2.2 _ _ hW
 have e:=he to (by omega)
 rw [Int.toNat_natCast] at hl
 unfold Rs.bestF at hb ⊢
 rw [Int.toNat_natCast] at hb ⊢
 unfold Rs.cv at e
 rw [if_neg hb] at e
 omega
end
theorem road_lt {p:Nat → Bool} {k:Nat}:∀ m i,Rs.roadF p i m = some k → k < i + m
 | 0,i,h=>by cases h
 | m + 1,i,h=>by
   simp only [Rs.roadF] at h
   split at h
   ·injection h with h; omega
   ·have:=road_lt m (i + 1) h
    omega
theorem way_rows {n:Int} {r:List (List D)} {q:Nat → Int → Int → Bool} (hN:Rs.netB n r = true) {x:List D}:∀ (l:Nat) (v t:Int),0 ≤ t → max t 100000 + 10000 * l ≤ 10100000 → x ∈ Rs.wayF r q l v t →
    ∃ i t',i < r.length ∧ x = [.i (i:Nat),.i (Rs.entW (r.getD i []) t')] ∧ 0 ≤ t' ∧ t' ≤ 10100000
 | 0,_,_,_,_,h=>by cases h
 | l + 1,v,t,h0,h1,h=>by
   simp only [Rs.wayF] at h
   split at h
   ·exact way_rows hN l v t h0 (by omega) h
   ·rename_i i hi
    have hi:=road_lt _ _ hi
    rw [List.mem_cons] at h
    rcases h with h | h
    ·exact ⟨i,t,by omega,h,h0,by omega⟩
    ·obtain ⟨b1,b2,b3⟩:=Rs.net_parts hN
     have hr:=b3 i (by omega)
     obtain ⟨-,-,c3,-⟩:=Rs.road_parts hr
     obtain ⟨e1,e2,-⟩:=Rs.entW_parts hr
     have e1:=e1 t
     have e2:=e2 t
     exact way_rows hN l _ _ (by omega) (by omega) h
theorem way_len {r:List (List D)} {q:Nat → Int → Int → Bool}:∀ (l:Nat) (v t:Int),(Rs.wayF r q l v t).length ≤ l
 | 0,_,_=>Nat.le_refl _
 | l + 1,v,t=>by
   simp only [Rs.wayF]
   split
   ·have:=way_len (r:=r) (q:=q) l v t
    omega
   ·rename_i i _
    have:=way_len (r:=r) (q:=q) l (ix (r.getD i []) 1) (Rs.entW (r.getD i []) t + ix (r.getD i []) 2)
    simp only [List.length_cons]
    omega
theorem seek_le {p:Nat → Bool}:∀ m k,Rs.seekF p m k ≤ k + m
 | 0,_=>Nat.le_refl _
 | m + 1,k=>by
   simp only [Rs.seekF]
   split
   ·omega
   ·have:=seek_le (p:=p) m (k + 1)
    omega
section
variable {w se de cl op:List (List D)}
theorem prog_free (hc:cutP w se de cl op) {v t to:Int} (ht:0 ≤ t ∧ t ≤ 100000):(Rs.progW ((w.length + 1:Nat):Int) (cutN se de cl op w.length) v t to).length ≤ 1000 ∧
    ∀ k,k < (Rs.progW ((w.length + 1:Nat):Int) (cutN se de cl op w.length) v t to).length → hopP w cl op (cutN se de cl op w.length) ((Rs.progW ((w.length + 1:Nat):Int) (cutN se de cl op w.length) v t to).getD k []):=by
 have hN:=cut_net hc
 have hl:Rs.hopsE ((w.length + 1:Nat):Int) (cutN se de cl op w.length) v t to (Rs.bestF ((w.length + 1:Nat):Int) (cutN se de cl op w.length) v t to) 0 ≤ 1000:=by
  have:=seek_le (p:=fun l=>Rs.qE ((w.length + 1:Nat):Int) (cutN se de cl op w.length) to (Rs.bestF ((w.length + 1:Nat):Int) (cutN se de cl op w.length) v t to) l v t) (1000 - 0) 0
  unfold Rs.hopsE
  omega
 refine ⟨Nat.le_trans (way_len _ _ _) hl,fun k hk=>?_⟩
 obtain ⟨i,t',hi,hx,h0,h1⟩:=way_rows hN (Rs.hopsE ((w.length + 1:Nat):Int) (cutN se de cl op w.length) v t to (Rs.bestF ((w.length + 1:Nat):Int) (cutN se de cl op w.length) v t to) 0) v t ht.1 (by omega) (gd_mem hk)
 have hx:(Rs.progW ((w.length + 1:Nat):Int) (cutN se de cl op w.length) v t to).getD k [] = [.i (i:Nat),.i (Rs.entW ((cutN se de cl op w.length).getD i []) t')]:=hx
 rw [hx]
 unfold hopP
 have e0:ix ([.i (i:Nat),.i (Rs.entW ((cutN se de cl op w.length).getD i []) t')]:List D) 0 = (i:Nat):=rfl
 have e1:ix ([.i (i:Nat),.i (Rs.entW ((cutN se de cl op w.length).getD i []) t')]:List D) 1 = Rs.entW ((cutN se de cl op w.length).getD i []) t':=rfl
 rw [e0,e1,Int.toNat_natCast]
 refine ⟨by omega,fun hne=>?_⟩
 obtain ⟨b1,b2,b3⟩:=Rs.net_parts hN
 have hr:=b3 i hi
 obtain ⟨g1,g2,-⟩:=Rs.entW_parts hr
 have g1:=g1 t'
 have g2:=g2 t'
 obtain ⟨j,hj,h | ⟨hd,h | h⟩⟩:=cut_at (se:=se) (de:=de) (cl:=cl) (op:=op) (q:=i) (k:=w.length) hi
 ·rw [h] at g1 g2 ⊢
  have hs:=(hc.2.2.2.2.2 j hj).2.1
  refine ⟨j,hj,rfl,?_,by omega,ent_free j t'⟩
  show 0 ≤ rgI se j ∧ rgI se j ≤ 10000
  omega
 ·rw [h] at hne; exact absurd rfl hne
 ·rw [h] at hne; exact absurd rfl hne
end
section
variable {c f:Int} {w du cl op ch:List (List D)} {lo n n1 n2 n3:Int}
theorem due_in (h:fndT c f w du cl op ch lo n n1 n2 n3) {k:Int} {q:Nat} (k0:0 ≤ k) (k1:k ≤ c - 1) (hq:q < w.length) :
    rgI cl q ≤ dueF w (dueL c f w ch) k q ∧ dueF w (dueL c f w ch) k q + ix (w.getD q []) 0 ≤ rgI op q ∧ 0 ≤ dueF w (dueL c f w ch) k q ∧ dueF w (dueL c f w ch) k q ≤ 3000000:=by
 obtain ⟨-,-,-,-,-,-,-,hco,hb,-⟩:=fnd_of h
 obtain ⟨h1,h2⟩:=hco q hq
 have h3:=hb q
 obtain ⟨a1,a2,a3,a4,-⟩:=wayC_of (way_of h.1 hq).1
 have hc:=(plan_of h.1).1
 have m1:0 ≤ k * ix (w.getD q []) 3:=Int.mul_nonneg k0 (by omega)
 have m2:k * ix (w.getD q []) 3 ≤ (c - 1) * ix (w.getD q []) 3:=Int.mul_le_mul_of_nonneg_right k1 (by omega)
 have m3:(c - 1) * ix (w.getD q []) 3 ≤ 199 * 60:=Int.mul_le_mul (by omega) (by omega) (by omega) (by decide)
 have e1:rg cl q = rgI cl q:=rfl
 have e2:rg op q = rgI op q:=rfl
 rw [e1] at h1
 rw [e2] at h2
 unfold dueF
 unfold busyF spanF at h2
 omega
theorem cut_of (h:fndT c f w du cl op ch lo n n1 n2 n3) (h6:w.length ≤ 6) {se de:List (List D)} (hs:se.length = w.length) (hd:de.length = w.length) (h1:allFrom (detB se de) 0 se.length = true) (h2:allFrom (cutB cl op) 0 w.length = true):cutP w se de cl op:=by
 obtain ⟨-,l2,l3,-,-,-,-,hco,hb,hsol,-⟩:=fnd_of h
 have hw:=(plan_of h.1).2.1
 refine ⟨by omega,hs,hd,l2,l3,fun k hk=>?_⟩
 have a1:=allFrom_iff.1 h1 k (Nat.zero_le _) (by omega)
 have a2:=allFrom_iff.1 h2 k (Nat.zero_le _) (by omega)
 unfold detB at a1
 unfold cutB at a2
 rw [decide_eq_true_eq] at a1 a2
 have h3:=(hco k hk).1
 have h4:=(hsol.2.2 k hk).2.2
 have h5:=(from_of h.1 h.2.1.1 hk).1
 have e1:rg cl k = rgI cl k:=rfl
 exact ⟨⟨by omega,a2⟩,a1⟩
end
noncomputable def sp24:SpL:=[(66,mkF s66 G66)]
noncomputable def lp24:LpL:=[(4,mkL l24_4 G24_4)]
noncomputable def sw24:SwL:=[]
noncomputable def tab24:Tab:=mkTab sp24 lp24 sw24
set_option linter.unusedVariables false
set_option maxRecDepth 100000
theorem t24 (a b c:D):fnT C tab24 24 s24 [a,b,c] =
 T.ite (decide ((c.L.length:Int) > (6:Int))) (T.leaf [D.b false]) (T.need (yes ((0:Int) ≤ (0:Int) ∧ (0:Int) ≤ (c.L.length:Int) ∧ c.L.length ≤ 6)) (T.ite (allFrom (winS c.L) (Int.toNat (0:Int)) (c.L.length - Int.toNat (0:Int))) (T.leaf [D.b (planB a.I b.I c.L)]) (T.leaf [D.b false]))):=by kernel_rfl
theorem t24_4 (a b c d:D):roundT C tab24 24 (loopOf C.P 24 4) l24_4 [a,b,c,d] =
 T.ite (decide (a.I < (d.L.length:Int))) (T.need (decide ((0:Int) ≤ a.I ∧ a.I < (d.L.length:Int))) (T.ite (decide ((↑(List.length (D.L (List.getD (List.getD d.L a.I.toNat []) (0 + 1 + 1 + 1 + 1 + 1 + 1 + 1) default))):Int) > (3:Int))) (T.leaf (Rd.out Ex.ret [D.b false])) (T.leaf (Rd.again [D.i (IntKind.i64.wrap (a.I + (1:Int))),D.i b.I,D.i c.I,D.l d.L])))) (T.leaf (Rd.out (Ex.exit 0) [D.i b.I,D.i c.I,D.l d.L])):=by kernel_rfl
set_option maxRecDepth 100000
theorem ok24_4 (n:Nat) (h66:FnOK C n 66 (mkF s66 G66)):LoopSim C n 24 (loopOf C.P 24 4) (mkL l24_4 G24_4):=by
 refine loop_ofK hC (sp:=sp24) (lp:=lp24) (sw:=sw24) ⟨h66,trivial⟩ trivial 0 [] (by kernel_rfl) rfl (fun k hk=>by cases hk) (by kernel_rfl) (fun ds=>(((ds.getD 3 default).L.length:Int) - (ds.getD 0 default).I).toNat) fun ds rr h=>?_
 unfold G24_4 at h
 split at h
 ·rename_i i c f w
  obtain ⟨hp,h⟩:=need_some h
  rw [yes_iff] at hp
  obtain ⟨i0,i1,hl⟩:=hp
  refine ⟨by rw [fuelC]; show ((w.L.length:Int) - i.I).toNat < _; omega,?_⟩
  rw [show roundTK C (mkTab sp24 lp24 sw24) 24 (loopOf C.P 24 4) 0 l24_4 [i,c,f,w] = _ from t24_4 i c f w]
  obtain ⟨x,hx⟩:∃ x:Nat,i.I = x:=⟨i.I.toNat,by omega⟩
  simp only [hx,Int.toNat_natCast,Nat.reduceAdd,lx_def] at h i0 i1 ⊢
  refine rd_if (fun hlt=>?_) fun hge=>rd_out (all_end h (by omega))
  obtain ⟨s1,s2⟩:=all_step h (show x < w.L.length by omega)
  refine rd_dec (by omega) (rd_if (fun c=>rd_out (s1 ?_)) fun c=>?_)
  ·exact decide_eq_false (by omega)
  ·rw [wrap_succ (by omega)]
   exact rd_again ((need_yes ⟨by simp only [I_i]; omega,by simp only [I_i,L_l]; omega,hl⟩).trans (s2 (decide_eq_true (by omega)))) (show ((w.L.length:Int) - ((x + 1:Nat):Int)).toNat < ((w.L.length:Int) - i.I).toNat by omega)
 ·cases h
theorem ok24 (n:Nat) (h66:FnOK C n 66 (mkF s66 G66)):FnOK C (n + 1) 24 (mkF s24 G24):=by
 refine fn_ofS hC (sp:=sp24) (lp:=lp24) (sw:=sw24) ⟨h66,trivial⟩ trivial (by kernel_rfl) [4] (by kernel_rfl) (by kernel_rfl) (fun k hk L hL=>by simp at hk; subst hk; cases hL; exact ok24_4 n h66) fun ds rr h=>?_
 unfold G24 at h
 split at h
 ·rename_i c f w
  refine (congrArg T.run (t24 c f w)).trans ?_
  rw [← h]
  simp only [Int.toNat_zero,Nat.sub_zero]
  unfold planS
  refine go_if (fun c6=>?_) fun c6=>go_yes ⟨by omega,by omega,by omega⟩ (go_ite (fun c7=>?_) fun c7=>?_)
  ·rw [decide_eq_false (by omega),Bool.false_and,Bool.false_and]
  ·rw [c7,decide_eq_true (show w.L.length ≤ 6 by omega),Bool.and_self,Bool.true_and]
  ·rw [c7,Bool.and_false,Bool.false_and]
 ·cases h
set_option maxRecDepth 100000
theorem ok30x (n:Nat) (h30:FnOK C n 30 (mkF s30 G30)):FnOK C n 30 (mkF s30 G30x):=fn_mono h30 fun ds r h=>by
 unfold G30x at h
 split at h
 ·obtain ⟨hp,h⟩:=need_some h
  rw [yes_iff] at hp
  unfold G30
  exact go_yes hp.1 (go_true hp.2 h)
 ·cases h
set_option maxRecDepth 100000
theorem all_and2 {p q:Nat → Bool} (n:Nat):allFrom (fun j=>p j && q j) 0 n = (allFrom p 0 n && allFrom q 0 n):=by
 rw [Bool.eq_iff_iff,Bool.and_eq_true,allFrom_iff,allFrom_iff,allFrom_iff]
 constructor
 ·intro h
  exact ⟨fun j h1 h2=>by have:=h j h1 h2; rw [Bool.and_eq_true] at this; exact this.1,fun j h1 h2=>by have:=h j h1 h2; rw [Bool.and_eq_true] at this; exact this.2⟩
 ·rintro ⟨h1,h2⟩ j h3 h4
  rw [Bool.and_eq_true]
  exact ⟨h1 j h3 h4,h2 j h3 h4⟩
theorem next_all2 (c:Int) (w du:List (List D)) (n:Nat):allFrom (nextR c w du) 0 (n + 1) = allFrom (nextB c w du) 0 n:=by
 rw [Bool.eq_iff_iff,allFrom_iff,allFrom_iff]
 constructor
 ·intro h j _ h2
  exact h (j + 1) (Nat.zero_le _) (by omega)
 ·intro h j _ h2
  cases j with
  | zero=>rfl
  | succ j=>exact h j (Nat.zero_le _) (by omega)
theorem fits_both {c f:Int} {w du cl op ch:List (List D)} (hp:planB c f w = true):fitsP c f w du cl op ch = fitsR c f w du cl op ch:=by
 unfold fitsP fitsR
 rw [hp,Bool.true_and,next_all2,all_and2]
theorem fnd_fits {c f:Int} {w du cl op ch:List (List D)} {lo n n1 n2 n3:Int} (h:fndT c f w du cl op ch lo n n1 n2 n3):fitsP c f w (dueL c f w ch) cl op ch = true:=by
 obtain ⟨hp,hc,hd,-,rfl,rfl,-⟩:=h
 exact (fits_both hp).trans ((fits_due hp hc.1).trans hd)
theorem ok35x (n:Nat):FnOK C (n + 8) 35 (mkF s35 G35x):=fn_mono (ok35 n) fun ds r h=>by
 unfold G35x at h
 split at h
 ·obtain ⟨hp,h⟩:=need_some h
  rw [yes_iff] at hp
  unfold G35
  refine go_yes hp.1 ?_
  rw [hp.2]
  exact h
 ·cases h
theorem ok37 (n:Nat):FnOK C (n + 7) 37 (mkF s37 G37):=fn_weak (s:=Rs.s37) (Rs.ok37 n) fun ds r h=>by
 unfold G37 at h
 split at h
 ·obtain ⟨hp,h⟩:=need_some h
  rw [yes_iff] at hp
  unfold Rs.G37
  exact go_true (by rw [hp.1.1,hp.1.2,hp.2]; rfl) h
 ·cases h
theorem ok38 (n:Nat):FnOK C (n + 2) 38 (mkF s38 G38):=fn_weak (s:=Rs.s38) (Rs.ok38 n) fun ds r h=>by
 unfold G38 at h
 split at h
 ·obtain ⟨hp,h⟩:=need_some h
  rw [yes_iff] at hp
  rw [← h]
  unfold Rs.G38
  exact congrArg some (by rw [if_pos hp])
 ·cases h
set_option maxRecDepth 100000
def rows34:List (List D):=[[.i 0,.i 1,.i 10,.l []],[.i 1,.i 2,.i 5,.l [[.i 12,.i 20]]],[.i 0,.i 2,.i 30,.l []]]
theorem net34:Rs.netB 3 rows34 = true:=by kernel_rfl
theorem low34:∀ {v t:Int},Rs.Walk (Rs.edR rows34) 0 0 v t → 0 ≤ t ∧ (v = 1 → 10 ≤ t) ∧ (v = 2 → 25 ≤ t):=by
 intro v t h
 induction h with
 | here=>exact ⟨by omega,fun h=>by omega,fun h=>by omega⟩
 | @step t j hw hj ih=>
   have hj:j < 3:=hj
   have hc:j = 0 ∨ j = 1 ∨ j = 2:=by omega
   rcases hc with rfl | rfl | rfl
   ·have ih:0 ≤ t ∧ ((0:Int) = 1 → 10 ≤ t) ∧ ((0:Int) = 2 → 25 ≤ t):=ih
    show 0 ≤ t + 10 ∧ ((1:Int) = 1 → 10 ≤ t + 10) ∧ ((1:Int) = 2 → 25 ≤ t + 10)
    omega
   ·have ih:0 ≤ t ∧ ((1:Int) = 1 → 10 ≤ t) ∧ ((1:Int) = 2 → 25 ≤ t):=ih
    show 0 ≤ (if t + 5 > 12 ∧ t < 20 then 20 else t) + 5 ∧ ((2:Int) = 1 → 10 ≤ (if t + 5 > 12 ∧ t < 20 then 20 else t) + 5) ∧ ((2:Int) = 2 → 25 ≤ (if t + 5 > 12 ∧ t < 20 then 20 else t) + 5)
    split <;> omega
   ·have ih:0 ≤ t ∧ ((0:Int) = 1 → 10 ≤ t) ∧ ((0:Int) = 2 → 25 ≤ t):=ih
    show 0 ≤ t + 30 ∧ ((2:Int) = 1 → 10 ≤ t + 30) ∧ ((2:Int) = 2 → 25 ≤ t + 30)
    omega
theorem arr34:(Rs.arrF 3 rows34 0 0).length = 3 ∧ rgI (Rs.arrF 3 rows34 0 0) 2 = 25:=by
 obtain ⟨hO,d,hL,hd⟩:=Rs.arr_ok net34 (v:=0) (t:=0) (by decide) (by decide)
 have w1:Rs.Walk (Rs.edR rows34) 0 0 1 10:=Rs.Walk.step (E:=Rs.edR rows34) (j:=0) (t:=0) (show Rs.Walk (Rs.edR rows34) 0 0 0 0 from .here) (by decide)
 have w2:Rs.Walk (Rs.edR rows34) 0 0 2 25:=Rs.Walk.step (E:=Rs.edR rows34) (j:=1) (t:=10) w1 (by decide)
 have h1:=hL.2.2 _ _ w2
 have h2:=hd 2 (by decide)
 have e:(2:Int).toNat = 2:=rfl
 rw [e] at h1
 have h3:=(low34 (hL.2.1 2 (by decide) (by have:Rs.INF = 9223372036854775807:=rfl; omega))).2.2 rfl
 have h4:d 2 = 25:=by omega
 rw [h4] at h2
 have h5:=Rs.cv_eq h2 (by decide)
 refine ⟨?_,h5⟩
 have:=hO.1
 omega
theorem ok34 (n:Nat):FnOK C (n + 8) 34 (mkF s34 G34):=by
 refine fn_ofS hC (sp:=sp34) (lp:=lp34) (sw:=sw34) ⟨ok33 n,trivial⟩ trivial (by kernel_rfl) [] (by kernel_rfl) rfl (fun k hk=>by cases hk) fun ds rr h=>?_
 unfold G34 at h
 split at h
 ·refine t34.trans ?_
  obtain ⟨h1,h2⟩:=arr34
  have e:List.take (List.length rows34) rows34 = rows34:=rfl
  show (T.need (yes (Rs.netB 3 (List.take (List.length rows34) rows34) = true ∧ Rs.nodeB 3 0 0 = true)) (T.ite (((Rs.arrF 3 (List.take (List.length rows34) rows34) 0 0).length:Int) == 3)
   (T.need (decide ((0:Int) ≤ 2 ∧ (2:Int) < ((Rs.arrF 3 (List.take (List.length rows34) rows34) 0 0).length:Int))) (T.leaf [D.b (rgI (Rs.arrF 3 (List.take (List.length rows34) rows34) 0 0) 2 == 25)])) (T.leaf [D.b false]))).run = _
  rw [e,h1,h2]
  exact go_yes ⟨net34,by kernel_rfl⟩ (go_true rfl (go_dec (by decide) h))
 ·cases h
set_option maxHeartbeats 1000000 in
theorem ok7_4 (hA:AllOK C 12 sp7) (hW:AllOKW C 12 sw7):LoopSim C 12 7 (loopOf C.P 7 4) (mkL l7_4 G7_4):=by
 refine loop_ofK hC (sp:=sp7) (lp:=lp7) (sw:=sw7) hA hW 0 [] (by kernel_rfl) rfl (fun k hk=>by cases hk) (by kernel_rfl) (fun ds=>(((ds.getD 0 default).L.length:Int) - (ds.getD 5 default).I).toNat) fun ds rr h=>?_
 unfold G7_4 at h
 split at h
 ·rename_i se de fr a to i c f w
  obtain ⟨hp,h⟩:=need_some h
  rw [yes_iff] at hp
  obtain ⟨hl,i0,i1,hl2⟩:=hp
  refine ⟨by rw [fuelC]; show ((se.L.length:Int) - i.I).toNat < _; omega,?_⟩
  refine rd_runR (t7_4 se de fr a to i c f w) ?_
  obtain ⟨x,hx⟩:∃ x:Nat,i.I = x:=⟨i.I.toNat,by omega⟩
  simp only [hx,Int.toNat_natCast,rgI_def] at h i0 i1 ⊢
  refine rd_if (fun hlt=>?_) fun hge=>rd_out (all_end h (by omega))
  obtain ⟨s1,s2⟩:=all_step h (show x < se.L.length by omega)
  refine rd_dec (by omega) (rd_if (fun c=>rd_out (s1 (decide_eq_false (by omega)))) fun c1=>rd_dec (by omega) (rd_if (fun c=>rd_out (s1 (decide_eq_false (by omega)))) fun c2=>rd_dec (by omega) (rd_if (fun c=>rd_out (s1 (decide_eq_false (by omega)))) fun c3=>rd_dec (by omega) (rd_if (fun c=>rd_out (s1 (decide_eq_false (by omega)))) fun c4=>?_))))
  rw [wrap_succ (by omega)]
  exact rd_again ((need_yes ⟨hl,by simp only [I_i]; omega,by simp only [I_i,L_l]; omega,hl2⟩).trans (s2 (decide_eq_true (by omega)))) (show ((se.L.length:Int) - ((x + 1:Nat):Int)).toNat < ((se.L.length:Int) - i.I).toNat by omega)
 ·cases h
set_option maxHeartbeats 1000000 in
theorem ok7_14 (hA:AllOK C 12 sp7) (hW:AllOKW C 12 sw7):LoopSim C 12 7 (loopOf C.P 7 14) (mkL l7_14 G7_14):=by
 refine loop_ofK hC (sp:=sp7) (lp:=lp7) (sw:=sw7) hA hW 0 [] (by kernel_rfl) rfl (fun k hk=>by cases hk) (by kernel_rfl) (fun ds=>(((ds.getD 8 default).L.length:Int) - (ds.getD 5 default).I).toNat) fun ds rr h=>?_
 unfold G7_14 at h
 split at h
 ·rename_i se de fr a to i c f w lo n n1 n2 n3 du cl op ch
  obtain ⟨hp,h⟩:=need_some h
  rw [yes_iff] at hp
  obtain ⟨hf,i0,i1⟩:=id hp
  obtain ⟨l1,l2,l3,l4,-,-,-,hco,gd,-⟩:=fnd_of hf
  obtain ⟨hpl,-,-,-,-,-,hlo,hn,hn1,hn2,hn3⟩:=id hf
  have hw:=(plan_of hpl).2.1
  refine ⟨by rw [fuelC]; show ((w.L.length:Int) - i.I).toNat < _; omega,?_⟩
  refine rd_runR (t7_14 se de fr a to i c f w lo n n1 n2 n3 du cl op ch) ?_
  obtain ⟨x,hx⟩:∃ x:Nat,i.I = x:=⟨i.I.toNat,by omega⟩
  have z0:lo.I.toNat = 1:=by omega
  have z1:n.I.toNat = w.L.length + 1:=by omega
  have z2:n1.I.toNat = w.L.length:=by omega
  have z3:n2.I.toNat = w.L.length:=by omega
  have z4:n3.I.toNat = w.L.length:=by omega
  simp only [hx,z0,z1,z2,z3,z4,Int.toNat_natCast,rgI_def] at h i0 i1 ⊢
  refine rd_if (fun hlt=>?_) fun hge=>rd_out (all_end h (by omega))
  obtain ⟨s1,s2⟩:=all_step h (show x < w.L.length by omega)
  have hx1:x < w.L.length:=by omega
  have g1:=(hco x hx1).2
  have g2:=gd x
  have e2:rg op.L x = rgI op.L x:=rfl
  obtain ⟨a1,a2,a3,a4,-⟩:=wayC_of (way_of hpl hx1).1
  have hc:=(plan_of hpl).1
  have m3:(c.I - 1) * ix (w.L.getD x []) 3 ≤ 199 * 60:=Int.mul_le_mul (by omega) (by omega) (by omega) (by decide)
  have m4:0 ≤ (c.I - 1) * ix (w.L.getD x []) 3:=Int.mul_nonneg (by omega) (by omega)
  rw [e2] at g1
  unfold busyF spanF at g1
  rw [wrap_id (x:=60 * rgI op.L x) (by omega) (by omega)]
  refine rd_dec (by omega) (rd_dec (by omega) (rd_dec (by omega) (rd_dec (by omega) (rd_if (fun c=>rd_out (s1 (decide_eq_false (by omega)))) fun c1=>rd_dec (by omega) (rd_dec (by omega) (rd_if (fun c=>rd_out (s1 (decide_eq_false (by omega)))) fun c2=>?_))))))
  rw [wrap_succ (by omega)]
  refine rd_again ((need_yes ⟨?_,by simp only [I_i]; omega,by simp only [I_i,L_l]; omega⟩).trans (s2 (decide_eq_true (by omega)))) (show ((w.L.length:Int) - ((x + 1:Nat):Int)).toNat < ((w.L.length:Int) - i.I).toNat by omega)
  rw [hlo,hn,hn1,hn2,hn3] at hf
  exact hf
 ·cases h
set_option maxHeartbeats 1000000 in
theorem ok7_42 (hA:AllOK C 12 sp7) (hW:AllOKW C 12 sw7):LoopSim C 12 7 (loopOf C.P 7 42) (mkL l7_42 G7_42):=by
 refine loop_ofK hC (sp:=sp7) (lp:=lp7) (sw:=sw7) hA hW 0 [] (by kernel_rfl) rfl (fun k hk=>by cases hk) (by kernel_rfl) (fun ds=>((ds.getD 2 default).I - (ds.getD 5 default).I).toNat) fun ds rr h=>?_
 unfold G7_42 at h
 split at h
 ·rename_i de fr to best s k
  obtain ⟨hp,h⟩:=need_some h
  rw [yes_iff] at hp
  obtain ⟨hd,k0,hto,hl,s0,s1⟩:=hp
  refine ⟨by rw [fuelC]; show (to.I - k.I).toNat < _; omega,?_⟩
  refine rd_runR (t7_42 de fr to best s k) ?_
  obtain ⟨x,hx⟩:∃ x:Nat,k.I = x:=⟨k.I.toNat,by omega⟩
  simp only [hx,Int.toNat_natCast,rgI_def] at h k0 s1 ⊢
  refine rd_if (fun hlt=>?_) fun hge=>?_
  ·have e1:(to.I - (x:Int)).toNat = (to.I - ((x + 1:Nat):Int)).toNat + 1:=by omega
   have hd':=hd x (by omega)
   rw [e1] at h
   simp only [allFrom,sumD] at h
   refine rd_dec (by omega) (rd_ite (fun c=>?_) fun c=>rd_dec (by omega) ?_)
   ·have hb:posD de.L x = false:=by unfold posD; rw [decide_eq_true (by simpa using c)]; rfl
    rw [hb,Bool.false_and] at h
    exact rd_out h
   ·have hb:posD de.L x = true:=by unfold posD; rw [decide_eq_false (by simpa using c)]; rfl
    rw [hb,Bool.true_and] at h
    rw [wrap_succ (by omega),wrap_id (x:=s.I + rgI de.L x) (by omega) (by omega)]
    refine rd_again ((need_yes ⟨hd,by simp only [I_i]; omega,hto,hl,by simp only [I_i]; omega,by simp only [I_i]; omega⟩).trans ?_) (show (to.I - ((x + 1:Nat):Int)).toNat < (to.I - k.I).toNat by omega)
    simp only [I_i,L_l,Int.toNat_natCast]
    rw [Int.add_assoc]
    exact h
  ·have e1:(to.I - (x:Int)).toNat = 0:=by omega
   rw [e1] at h
   simp only [allFrom,sumD,Int.add_zero] at h
   exact rd_out h
 ·cases h
set_option maxRecDepth 100000
set_option maxHeartbeats 2000000 in
theorem ok7_35 (hA:AllOK C 12 sp7) (hW:AllOKW C 12 sw7):LoopSim C 12 7 (loopOf C.P 7 35) (mkL l7_35 G7_35):=by
 refine loop_ofK hC (sp:=sp7) (lp:=lp7) (sw:=sw7) hA hW 0 [] (by kernel_rfl) rfl (fun k hk=>by cases hk) (by kernel_rfl) (fun ds=>((ds.getD 8 default).I - (ds.getD 7 default).I).toNat) fun ds rr h=>?_
 unfold G7_35 at h
 split at h
 ·rename_i de fr a to wy best i k c f w lo n n1 n2 n3 nn nl rf rt sec rc du cl op ch rs
  obtain ⟨hp,h⟩:=need_some h
  rw [yes_iff] at hp
  obtain ⟨hf,hnl,⟨i0,i1⟩,⟨k0,k1⟩,hfree⟩:=id hp
  obtain ⟨q,hq,hrf,hsec,hat,hclr⟩:=id hfree
  obtain ⟨l1,l2,l3,l4,hdr,l5,-,-,gd,-⟩:=fnd_of hf
  obtain ⟨hpl,-,-,-,-,-,hlo,hn,hn1,hn2,hn3⟩:=id hf
  have hbig:=big_eq
  have hw:=(plan_of hpl).2.1
  have hcc:=(plan_of hpl).1
  refine ⟨by rw [fuelC]; show (c.I - k.I).toNat < _; omega,?_⟩
  refine rd_runR (t7_35 de fr a to wy best i k c f w lo n n1 n2 n3 nn nl rf rt sec rc du cl op ch rs) ?_
  have z0:lo.I.toNat = 1:=by omega
  have z1:n.I.toNat = w.L.length + 1:=by omega
  have z2:n1.I.toNat = w.L.length:=by omega
  have z3:n2.I.toNat = w.L.length:=by omega
  have z4:n3.I.toNat = w.L.length:=by omega
  have z5:nl.I.toNat = rs.L.length:=by omega
  have z6:rf.I.toNat = q:=by omega
  have tkd:(dueL c.I f.I w.L ch.L).take (w.L.length + 1) = dueL c.I f.I w.L ch.L:=List.take_of_length_le (by omega)
  have ea:((wy.L.getD i.I.toNat []).getD (0 + 1) default).I = ix (wy.L.getD i.I.toNat []) 1:=rfl
  simp only [z0,z1,z2,z3,z4,z5,z6,hdr,tkd,ea] at ⊢
  refine rd_if (fun hlt=>?_) fun hge=>rd_out h
  obtain ⟨d1,d2,d3,d4⟩:=due_in hf (k:=k.I) (q:=q) k0 (by omega) hq
  obtain ⟨a1,a2,a3,a4,-⟩:=wayC_of (way_of hpl hq).1
  have hdb:dueB c.I f.I w.L (dueL c.I f.I w.L ch.L) k.I rf.I = true:=by rw [hrf]; exact due_ok hf k0 (by omega) hq
  have l5':(dueL c.I f.I w.L ch.L).length < big:=by omega
  have l1':1 + (w.L.length + 1) ≤ du.L.length:=by omega
  generalize dueF w.L (dueL c.I f.I w.L ch.L) k.I q = V at d1 d2 d3 d4 ⊢
  have key:∀ {V t s p q d:Int},p ≤ V → V + d ≤ q → (t + s ≤ 60 * p ∨ 60 * q ≤ t) → t < 60 * (V + d) → t + s > 60 * V → False:=by intros; omega
  have fin:(G7_35 [D.l de.L,D.i fr.I,D.i a.I,D.i to.I,D.l wy.L,D.i best.I,D.i i.I,D.i (k.I + 1),D.i c.I,D.i f.I,D.l w.L,D.i ((1:Nat):Int),D.i ((w.L.length + 1:Nat):Int),D.i (w.L.length:Int),D.i (w.L.length:Int),D.i (w.L.length:Int),D.i nn.I,D.i (rs.L.length:Int),D.i rf.I,D.i rt.I,D.i sec.I,D.l rc.L,D.l du.L,D.l cl.L,D.l op.L,D.l ch.L,D.l rs.L]).run = some rr:=by
   refine (need_yes ⟨?_,rfl,⟨i0,i1⟩,by simp only [I_i]; omega,hfree⟩).trans h
   rw [hlo,hn,hn1,hn2,hn3] at hf
   exact hf
  rw [wrap_id (x:=k.I + 1) (by omega) (by omega),wrap_id (x:=60 * (V + ix (w.L.getD q []) 0)) (by omega) (by omega),wrap_id (x:=60 * V) (by omega) (by omega),wrap_id (x:=ix (wy.L.getD i.I.toNat []) 1 + sec.I) (by omega) (by omega)]
  have hlt':(c.I - (k.I + 1)).toNat < (c.I - k.I).toNat:=by omega
  refine rd_dec l1' (rd_dec (by omega) (rd_dec (by omega) (rd_dec (by omega) (rd_yes ⟨l5',hdb⟩ (rd_dec (by omega) (rd_if (fun c1=>rd_dec (by omega) (rd_if (fun c2=>?_) fun c2=>rd_again fin hlt')) fun c1=>rd_again fin hlt'))))))
  exact (key d1 d2 hclr c1 c2).elim
 ·cases h
end Go.Proofs.Ytgoedfonmocafaa
