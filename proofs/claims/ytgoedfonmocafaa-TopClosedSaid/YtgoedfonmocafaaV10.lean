/-
 What the claim top_closed rests on, part 10.
-/
import Derived.Test.YtgoedfonmocafaaV9
namespace Go.Proofs.Ytgoedfonmocafaa.Rs
open Go.Lite
noncomputable def sp86:SpL:=[(87,mkF s87 G87)]
noncomputable def lp86:LpL:=[(3,mkL l86_3 G86_3),(9,mkL l86_9 G86_9),(12,mkL l86_12 G86_12),(17,mkL l86_17 G86_17)]
noncomputable def sw86:SwL:=[]
noncomputable def tab86:Tab:=mkTab sp86 lp86 sw86
set_option linter.unusedVariables false
set_option maxRecDepth 100000
theorem t86 (a b c d e f:D):fnT C tab86 86 s86 [a,b,c,d,e,f] =
 T.need (decide ((0:Int) ≤ a.I ∧ a.I = a.I ∧ a.I ≤ (2:Int) ^ 40 ∧ (↑Try.prog.types[3].bytes:Int) * a.I ≤ (2:Int) ^ 46)) (T.need (yes (((1:Int) ≤ a.I ∧ a.I ≤ (200:Int)) ∧ (↑(List.length (List.replicate a.I.toNat [D.i 0])):Int) = a.I ∧ (↑(List.length (List.replicate a.I.toNat [D.i 0])):Int) = a.I ∧ (↑(List.length (List.replicate a.I.toNat [D.i 0])):Int) = a.I ∧ (0:Int) ≤ (0:Int) ∧ (0:Int) ≤ a.I)) (T.need (decide ((0:Int) ≤ c.I ∧ c.I < (a.I.toNat:Int))) (T.need (decide (c.I.toNat < List.length (fillF (9223372036854775807:Int) (Int.toNat (0:Int)) (a.I.toNat - Int.toNat (0:Int)) (List.replicate a.I.toNat [D.i 0])))) (T.need (yes (netB a.I b.L = true ∧ (a.I.toNat:Int) = a.I ∧ okEx a.I (0:Int) (List.set (fillF (9223372036854775807:Int) (Int.toNat (0:Int)) (a.I.toNat - Int.toNat (0:Int)) (List.replicate a.I.toNat [D.i 0])) c.I.toNat (updC (List.getD (fillF (9223372036854775807:Int) (Int.toNat (0:Int)) (a.I.toNat - Int.toNat (0:Int)) (List.replicate a.I.toNat [D.i 0])) c.I.toNat []) [D.i d.I] 0 0 (List.length [K.int IntKind.i64]))) ∧ (0:Int) ≤ (0:Int) ∧ (0:Int) ≤ f.I ∧ f.I ≤ (1000:Int))) (T.need (decide ((0:Int) ≤ e.I ∧ e.I < (a.I.toNat:Int))) (T.need (decide (e.I.toNat < List.length (exactF a.I b.L (f.I.toNat - Int.toNat (0:Int)) (List.set (fillF (9223372036854775807:Int) (Int.toNat (0:Int)) (a.I.toNat - Int.toNat (0:Int)) (List.replicate a.I.toNat [D.i 0])) c.I.toNat (updC (List.getD (fillF (9223372036854775807:Int) (Int.toNat (0:Int)) (a.I.toNat - Int.toNat (0:Int)) (List.replicate a.I.toNat [D.i 0])) c.I.toNat []) [D.i d.I] 0 0 (List.length [K.int IntKind.i64])))))) (T.leaf [D.i (D.I (List.getD (List.getD (exactF a.I b.L (f.I.toNat - Int.toNat (0:Int)) (List.set (fillF (9223372036854775807:Int) (Int.toNat (0:Int)) (a.I.toNat - Int.toNat (0:Int)) (List.replicate a.I.toNat [D.i 0])) c.I.toNat (updC (List.getD (fillF (9223372036854775807:Int) (Int.toNat (0:Int)) (a.I.toNat - Int.toNat (0:Int)) (List.replicate a.I.toNat [D.i 0])) c.I.toNat []) [D.i d.I] 0 0 (List.length [K.int IntKind.i64])))) e.I.toNat []) 0 default))]))))))):=by kernel_rfl
theorem t86_3 (a b c d e f g h i j:D):roundT C tab86 86 (loopOf C.P 86 3) l86_3 [a,b,c,d,e,f,g,h,i,j] =
 T.ite (decide (e.I < d.I)) (T.need (decide ((0:Int) ≤ e.I ∧ e.I < (c.I.toNat:Int))) (T.need (decide (e.I.toNat < j.L.length)) (T.leaf (Rd.again [D.i a.I,D.i b.I,D.i (c.I.toNat:Int),D.i d.I,D.i (IntKind.i64.wrap (e.I + (1:Int))),D.i f.I,D.l g.L,D.i h.I,D.i i.I,D.l (List.set j.L e.I.toNat (updC (List.getD j.L e.I.toNat []) [D.i 9223372036854775807] 0 0 (List.length [K.int IntKind.i64])))])))) (T.leaf (Rd.out (Ex.exit 0) [D.i a.I,D.i b.I,D.i (c.I.toNat:Int),D.i f.I,D.l g.L,D.i h.I,D.i i.I,D.l j.L])):=by kernel_rfl
theorem t86_9 (a b c d e f g:D):roundT C tab86 86 (loopOf C.P 86 9) l86_9 [a,b,c,d,e,f,g] =
 T.ite (decide (d.I < c.I)) (T.need (decide ((0:Int) ≤ e.I ∧ e.I = e.I ∧ e.I ≤ (2:Int) ^ 40 ∧ (↑Try.prog.types[3].bytes:Int) * e.I ≤ (2:Int) ^ 46)) (T.need (yes (((1:Int) ≤ e.I ∧ e.I ≤ (200:Int)) ∧ (b.I.toNat:Int) = e.I ∧ (↑(List.length (List.replicate e.I.toNat [D.i 0])):Int) = e.I ∧ (↑(List.length (List.replicate e.I.toNat [D.i 0])):Int) = e.I ∧ (g.L.length:Int) = e.I ∧ (↑(List.length (List.replicate e.I.toNat [D.i 0])):Int) = e.I ∧ (0:Int) ≤ (0:Int) ∧ (0:Int) ≤ e.I)) (T.need (yes (netB e.I f.L = true ∧ f.L = f.L ∧ (f.L.length:Int) = (f.L.length:Int) ∧ (e.I.toNat:Int) = e.I ∧ (e.I.toNat:Int) = e.I ∧ okEx e.I d.I g.L ∧ okEx e.I (d.I + (1:Int)) (fillF (9223372036854775807:Int) (Int.toNat (0:Int)) (e.I.toNat - Int.toNat (0:Int)) (List.replicate e.I.toNat [D.i 0])) ∧ (0:Int) ≤ d.I ∧ d.I ≤ (1000:Int) ∧ (0:Int) ≤ (0:Int) ∧ (0:Int) ≤ (f.L.length:Int))) (T.leaf (Rd.again [D.i a.I,D.i (e.I.toNat:Int),D.i c.I,D.i (IntKind.i64.wrap (d.I + (1:Int))),D.i e.I,D.l f.L,D.l (exF f.L g.L (Int.toNat (0:Int)) (f.L.length - Int.toNat (0:Int)) (fillF (9223372036854775807:Int) (Int.toNat (0:Int)) (e.I.toNat - Int.toNat (0:Int)) (List.replicate e.I.toNat [D.i 0])))]))))) (T.leaf (Rd.out (Ex.exit 2) [D.i a.I,D.i (b.I.toNat:Int),D.l g.L])):=by kernel_rfl
theorem t86_12 (a b c d e f g h i j k:D):roundT C tab86 86 (loopOf C.P 86 12) l86_12 [a,b,c,d,e,f,g,h,i,j,k] =
 T.ite (decide (g.I < f.I)) (T.need (decide ((0:Int) ≤ g.I ∧ g.I < (c.I.toNat:Int))) (T.need (decide (g.I.toNat < k.L.length)) (T.leaf (Rd.again [D.i a.I,D.i (b.I.toNat:Int),D.i (c.I.toNat:Int),D.i d.I,D.i e.I,D.i f.I,D.i (IntKind.i64.wrap (g.I + (1:Int))),D.i h.I,D.l i.L,D.l j.L,D.l (List.set k.L g.I.toNat (updC (List.getD k.L g.I.toNat []) [D.i 9223372036854775807] 0 0 (List.length [K.int IntKind.i64])))])))) (T.leaf (Rd.out (Ex.exit 4) [D.i a.I,D.i (b.I.toNat:Int),D.i (c.I.toNat:Int),D.i d.I,D.i e.I,D.i h.I,D.l i.L,D.l j.L,D.l k.L])):=by kernel_rfl
theorem t86_17 (a b c d e f g h i j k l:D):roundT C tab86 86 (loopOf C.P 86 17) l86_17 [a,b,c,d,e,f,g,h,i,j,k,l] =
 T.ite (decide (h.I < g.I)) (T.need (decide ((0:Int) ≤ h.I ∧ h.I < (f.L.length:Int))) (T.need (decide ((0:Int) ≤ D.I (List.getD (List.getD f.L h.I.toNat []) 0 default) ∧ D.I (List.getD (List.getD f.L h.I.toNat []) 0 default) < (b.I.toNat:Int))) (T.need (decide (Int.toNat (D.I (List.getD (List.getD f.L h.I.toNat []) 0 default)) < k.L.length)) (T.ite (decide (D.I (List.getD (List.getD k.L (Int.toNat (D.I (List.getD (List.getD f.L h.I.toNat []) 0 default))) []) 0 default) < (9223372036854775807:Int))) (T.need (decide ((0:Int) ≤ D.I (List.getD (List.getD f.L h.I.toNat []) (0 + 1) default) ∧ D.I (List.getD (List.getD f.L h.I.toNat []) (0 + 1) default) < (c.I.toNat:Int))) (T.need (decide (Int.toNat (D.I (List.getD (List.getD f.L h.I.toNat []) (0 + 1) default)) < l.L.length)) (T.need (decide ((0:Int) ≤ D.I (List.getD (List.getD f.L h.I.toNat []) 0 default) ∧ D.I (List.getD (List.getD f.L h.I.toNat []) 0 default) < (b.I.toNat:Int))) (T.need (decide (Int.toNat (D.I (List.getD (List.getD f.L h.I.toNat []) 0 default)) < k.L.length)) (T.need (yes (okT (D.I (List.getD (List.getD f.L h.I.toNat []) (0 + 1 + 1) default)) ∧ okS (D.I (List.getD (List.getD k.L (Int.toNat (D.I (List.getD (List.getD f.L h.I.toNat []) 0 default))) []) 0 default)) ∧ okC (D.L (List.getD (List.getD f.L h.I.toNat []) (0 + 1 + 1 + 1) default)))) (T.need (decide ((0:Int) ≤ D.I (List.getD (List.getD f.L h.I.toNat []) (0 + 1) default) ∧ D.I (List.getD (List.getD f.L h.I.toNat []) (0 + 1) default) < (c.I.toNat:Int))) (T.need (decide (Int.toNat (D.I (List.getD (List.getD f.L h.I.toNat []) (0 + 1) default)) < l.L.length)) (T.leaf (Rd.again [D.i a.I,D.i (b.I.toNat:Int),D.i (c.I.toNat:Int),D.i d.I,D.i e.I,D.l f.L,D.i g.I,D.i (IntKind.i64.wrap (h.I + (1:Int))),D.i i.I,D.l j.L,D.l k.L,D.l (List.set l.L (Int.toNat (D.I (List.getD (List.getD f.L h.I.toNat []) (0 + 1) default))) (updC (List.getD l.L (Int.toNat (D.I (List.getD (List.getD f.L h.I.toNat []) (0 + 1) default))) []) [D.i (if IntKind.i64.wrap (entF (D.L (List.getD (List.getD f.L h.I.toNat []) (0 + 1 + 1 + 1) default)) (D.I (List.getD (List.getD f.L h.I.toNat []) (0 + 1 + 1) default)) 0 (List.length (D.L (List.getD (List.getD f.L h.I.toNat []) (0 + 1 + 1 + 1) default))) (D.I (List.getD (List.getD k.L (Int.toNat (D.I (List.getD (List.getD f.L h.I.toNat []) 0 default))) []) 0 default)) + D.I (List.getD (List.getD f.L h.I.toNat []) (0 + 1 + 1) default)) < D.I (List.getD (List.getD l.L (Int.toNat (D.I (List.getD (List.getD f.L h.I.toNat []) (0 + 1) default))) []) 0 default) then IntKind.i64.wrap (entF (D.L (List.getD (List.getD f.L h.I.toNat []) (0 + 1 + 1 + 1) default)) (D.I (List.getD (List.getD f.L h.I.toNat []) (0 + 1 + 1) default)) 0 (List.length (D.L (List.getD (List.getD f.L h.I.toNat []) (0 + 1 + 1 + 1) default))) (D.I (List.getD (List.getD k.L (Int.toNat (D.I (List.getD (List.getD f.L h.I.toNat []) 0 default))) []) 0 default)) + D.I (List.getD (List.getD f.L h.I.toNat []) (0 + 1 + 1) default)) else D.I (List.getD (List.getD l.L (Int.toNat (D.I (List.getD (List.getD f.L h.I.toNat []) (0 + 1) default))) []) 0 default))] 0 0 (List.length [K.int IntKind.i64])))]))))))))) (T.leaf (Rd.again [D.i a.I,D.i (b.I.toNat:Int),D.i (c.I.toNat:Int),D.i d.I,D.i e.I,D.l f.L,D.i g.I,D.i (IntKind.i64.wrap (h.I + (1:Int))),D.i i.I,D.l j.L,D.l k.L,D.l l.L])))))) (T.leaf (Rd.out (Ex.exit 6) [D.i a.I,D.i (c.I.toNat:Int),D.i d.I,D.i e.I,D.i i.I,D.l j.L,D.l l.L])):=by kernel_rfl
set_option maxRecDepth 100000
theorem ok86_3 (n:Nat):LoopSim C (n + 1) 86 (loopOf C.P 86 3) (mkL l86_3 G86_3):=by
 refine loop_ofK hC (sp:=sp86) (lp:=lp86) (sw:=sw86) ⟨ok87 n,trivial⟩ trivial 0 [] (by kernel_rfl) rfl (fun k hk=>by cases hk) (by kernel_rfl) (fun ds=>((ds.getD 3 default).I - (ds.getD 4 default).I).toNat) fun ds rr h=>?_
 unfold G86_3 at h
 split at h
 ·rename_i to hh m m' i n' r v t a
  obtain ⟨hp,h⟩:=need_some h
  rw [yes_iff] at hp
  obtain ⟨h0,hm,hm',ha,hi0,hi1⟩:=hp
  refine ⟨by rw [fuelC]; simp; omega,?_⟩
  rw [show roundTK C (mkTab sp86 lp86 sw86) 86 (loopOf C.P 86 3) 0 l86_3 [to,hh,m,m',i,n',r,v,t,a] = _ from t86_3 to hh m m' i n' r v t a]
  obtain ⟨j,hj⟩:∃ j:Nat,i.I = j:=⟨i.I.toNat,by omega⟩
  have hn:(n'.I.toNat:Int) = n'.I:=by omega
  simp only [hj,hm,hm',hn,Int.toNat_natCast,upd1,rs_def] at h hi0 hi1 ⊢
  refine rd_if (fun hlt=>?_) fun hge=>?_
  ·rw [wrap_succ (by omega)]
   rw [show n'.I.toNat - j = (n'.I.toNat - (j + 1)) + 1 by omega] at h
   refine rd_dec (by omega) (rd_dec (by omega) (rd_again ((need_yes ⟨h0,rfl,rfl,by simp only [L_l,I_i,len_rs]; exact ha,by simp only [I_i]; omega,by simp only [I_i]; omega⟩).trans h) ?_))
   show (n'.I - ((j + 1:Nat):Int)).toNat < (m'.I - i.I).toNat
   rw [hj,hm']; omega
  ·rw [show n'.I.toNat - j = 0 by omega] at h
   exact rd_out h
 ·cases h
theorem ok86_12 (n:Nat):LoopSim C (n + 1) 86 (loopOf C.P 86 12) (mkL l86_12 G86_12):=by
 refine loop_ofK hC (sp:=sp86) (lp:=lp86) (sw:=sw86) ⟨ok87 n,trivial⟩ trivial 0 [] (by kernel_rfl) rfl (fun k hk=>by cases hk) (by kernel_rfl) (fun ds=>((ds.getD 5 default).I - (ds.getD 6 default).I).toNat) fun ds rr h=>?_
 unfold G86_12 at h
 split at h
 ·rename_i to m m' hh k q i n' r a x
  obtain ⟨hp,h⟩:=need_some h
  rw [yes_iff] at hp
  obtain ⟨h0,hm,hm',hq,ha,hx,hi0,hi1⟩:=hp
  refine ⟨by rw [fuelC]; simp; omega,?_⟩
  rw [show roundTK C (mkTab sp86 lp86 sw86) 86 (loopOf C.P 86 12) 0 l86_12 [to,m,m',hh,k,q,i,n',r,a,x] = _ from t86_12 to m m' hh k q i n' r a x]
  obtain ⟨j,hj⟩:∃ j:Nat,i.I = j:=⟨i.I.toNat,by omega⟩
  have hn:(n'.I.toNat:Int) = n'.I:=by omega
  simp only [hj,hm,hm',hq,hn,Int.toNat_natCast,upd1,rs_def] at h hi0 hi1 ⊢
  refine rd_if (fun hlt=>?_) fun hge=>?_
  ·rw [wrap_succ (by omega)]
   rw [show n'.I.toNat - j = (n'.I.toNat - (j + 1)) + 1 by omega] at h
   refine rd_dec (by omega) (rd_dec (by omega) (rd_again ((need_yes ⟨h0,rfl,rfl,rfl,ha,by simp only [L_l,I_i,len_rs]; exact hx,by simp only [I_i]; omega,by simp only [I_i]; omega⟩).trans h) ?_))
   show (n'.I - ((j + 1:Nat):Int)).toNat < (q.I - i.I).toNat
   rw [hj,hq]; omega
  ·rw [show n'.I.toNat - j = 0 by omega] at h
   exact rd_out h
 ·cases h
theorem ex_ok {n k:Int} {a x:List (List D)} {c:List D} (hc:roadB n c = true) (hk:0 ≤ k) (ha:okEx n k a) (hx:okEx n (k + 1) x):okEx n (k + 1) (ex1 c a x):=by
 obtain ⟨h1,h2,h3,-,-⟩:=road_parts hc
 obtain ⟨e1,e2,e3⟩:=entW_parts hc
 unfold ex1
 split
 ·rename_i h4
  refine ⟨by rw [len_rs]; exact hx.1,fun v=>?_⟩
  have hxl:=hx.1
  rw [rg_rs (by omega)]
  have h5:=ha.2 (ix c 0).toNat
  have h6:=e1 (rg a (ix c 0).toNat)
  have h7:=e2 (rg a (ix c 0).toNat)
  have h8:=hx.2 (ix c 1).toNat
  have h9:=hx.2 v
  split
  ·split <;> omega
  ·exact h9
 ·exact hx
theorem ok86_17 (n:Nat):LoopSim C (n + 1) 86 (loopOf C.P 86 17) (mkL l86_17 G86_17):=by
 refine loop_ofK hC (sp:=sp86) (lp:=lp86) (sw:=sw86) ⟨ok87 n,trivial⟩ trivial 0 [] (by kernel_rfl) rfl (fun k hk=>by cases hk) (by kernel_rfl) (fun ds=>((ds.getD 6 default).I - (ds.getD 7 default).I).toNat) fun ds rr h=>?_
 unfold G86_17 at h
 split at h
 ·rename_i to m m' hh k r' q j n' r a x
  obtain ⟨hp,h⟩:=need_some h
  rw [yes_iff] at hp
  obtain ⟨hN,hr,hq,hm,hm',ha,hx,hk0,hk1,hj0,hj1⟩:=hp
  obtain ⟨p1,p2,p3⟩:=net_parts hN
  refine ⟨by rw [fuelC]; simp; omega,?_⟩
  rw [show roundTK C (mkTab sp86 lp86 sw86) 86 (loopOf C.P 86 17) 0 l86_17 [to,m,m',hh,k,r',q,j,n',r,a,x] = _ from t86_17 to m m' hh k r' q j n' r a x]
  obtain ⟨i,hi⟩:∃ i:Nat,j.I = i:=⟨j.I.toNat,by omega⟩
  have hnn:(n'.I.toNat:Int) = n'.I:=by omega
  simp only [hi,hm,hm',hr,hq,hnn,Int.toNat_natCast,Nat.reduceAdd,ix_def,lx_def,ix_rg,upd1,rs_def] at h hj0 hj1 ⊢
  refine rd_if (fun hlt=>?_) fun hge=>?_
  ·have hR:=p3 i (by omega)
   obtain ⟨q1,q2,q3,q4,q5⟩:=road_parts hR
   obtain ⟨e1,e2,e3⟩:=entW_parts hR
   obtain ⟨o1,o2⟩:=road_okC hR
   have hx':=ex_ok hR hk0 ha hx
   have hal:=ha.1
   have hxl:=hx.1
   have hat:=ha.2 (ix (r.L.getD i []) 0).toNat
   have h6:=e1 (rg a.L (ix (r.L.getD i []) 0).toNat)
   have h7:=e2 (rg a.L (ix (r.L.getD i []) 0).toNat)
   rw [show r.L.length - i = (r.L.length - (i + 1)) + 1 by omega] at h
   simp only [exF] at h
   have key:∀ y,ex1 (r.L.getD i []) a.L x.L = y → (G86_17 [.i to.I,.i n'.I,.i n'.I,.i hh.I,.i k.I,.l r.L,.i r.L.length,.i ((i + 1:Nat):Int),.i n'.I,.l r.L,.l a.L,.l y]).run = some rr:=fun y e=>by
    rw [e] at h hx'
    exact (need_yes ⟨hN,rfl,rfl,rfl,rfl,ha,hx',hk0,hk1,by simp only [I_i]; omega,by simp only [I_i,L_l]; omega⟩).trans h
   have hmu:((r.L.length:Int) - ((i + 1:Nat):Int)).toNat < (q.I - j.I).toNat:=by rw [hi,hq]; omega
   have f1:¬ rg a.L (ix (r.L.getD i []) 0).toNat < 9223372036854775807 → ex1 (r.L.getD i []) a.L x.L = x.L:=fun c=>if_neg c
   have f2:rg a.L (ix (r.L.getD i []) 0).toNat < 9223372036854775807 → ex1 (r.L.getD i []) a.L x.L = rs x.L (ix (r.L.getD i []) 1).toNat (if entW (r.L.getD i []) (rg a.L (ix (r.L.getD i []) 0).toNat) + ix (r.L.getD i []) 2 < rg x.L (ix (r.L.getD i []) 1).toNat then entW (r.L.getD i []) (rg a.L (ix (r.L.getD i []) 0).toNat) + ix (r.L.getD i []) 2 else rg x.L (ix (r.L.getD i []) 1).toNat):=fun c=>if_pos c
   unfold entW at f2 h6 h7
   rw [wrap_succ (by omega)]
   refine rd_dec (by omega) (rd_dec q1 (rd_dec (by have:=q1.2; show (ix (r.L.getD i []) 0).toNat < a.L.length; omega) (rd_if (fun c1=>?_) fun c1=>rd_again (key _ (f1 c1)) hmu)))
   have c1':rg a.L (ix (r.L.getD i []) 0).toNat < 9223372036854775807:=c1
   refine rd_dec (by omega) (rd_dec (by omega) (rd_dec q1 (rd_dec (by show (ix (r.L.getD i []) 0).toNat < a.L.length; omega) (rd_yes ⟨o1,by show okS (rg a.L (ix (r.L.getD i []) 0).toNat); unfold okS; omega,o2⟩ (rd_dec (by omega) (rd_dec (by omega) (rd_again (key _ ?_) hmu)))))))
   rw [f2 c1']
   have hw:IntKind.i64.wrap (entF (lx (r.L.getD i []) 3) (ix (r.L.getD i []) 2) 0 (lx (r.L.getD i []) 3).length (rg a.L (ix (r.L.getD i []) 0).toNat) + ix (r.L.getD i []) 2) = entF (lx (r.L.getD i []) 3) (ix (r.L.getD i []) 2) 0 (lx (r.L.getD i []) 3).length (rg a.L (ix (r.L.getD i []) 0).toNat) + ix (r.L.getD i []) 2:=wrap_id (by omega) (by omega)
   simp only [ix_rg] at hw ⊢
   rw [hw]
   rfl
  ·rw [show r.L.length - i = 0 by omega] at h
   exact rd_out h
 ·cases h
theorem exs_ok {n k:Int} {r a:List (List D)} (hN:netB n r = true) (hk:0 ≤ k) (ha:okEx n k a):∀ (m i:Nat) (x:List (List D)),i + m ≤ r.length → okEx n (k + 1) x → okEx n (k + 1) (exF r a i m x)
 | 0,_,_,_,h=>h
 | m + 1,i,_,hm,h=>exs_ok hN hk ha m (i + 1) _ (by omega) (ex_ok ((net_parts hN).2.2 i (by omega)) hk ha h)
theorem none_ok {n k:Int} (hn:0 ≤ n) (hk:0 ≤ k):okEx n k (noneL n):=by
 unfold noneL
 refine ⟨by simp; omega,fun u=>?_⟩
 by_cases hu:u < n.toNat
 ·rw [rg_rep hu]; omega
 ·rw [rg_ge (by simp; omega)]; omega
theorem ok86_9 (n:Nat):LoopSim C (n + 1) 86 (loopOf C.P 86 9) (mkL l86_9 G86_9):=by
 have hby:Try.prog.types[3].bytes = 8:=by kernel_rfl
 refine loop_ofK hC (sp:=sp86) (lp:=lp86) (sw:=sw86) ⟨ok87 n,trivial⟩ trivial 0 [12,17] (by kernel_rfl) (by kernel_rfl) (fun k hk L hL=>by
  simp at hk; rcases hk with rfl | rfl <;> cases hL
  ·exact ok86_12 n
  ·exact ok86_17 n) (by kernel_rfl) (fun ds=>((ds.getD 2 default).I - (ds.getD 3 default).I).toNat) fun ds rr h=>?_
 unfold G86_9 at h
 split at h
 ·rename_i to m hh k n' r a
  obtain ⟨hp,h⟩:=need_some h
  rw [yes_iff] at hp
  obtain ⟨hN,hm,ha,hk0,hk1,hk2⟩:=hp
  obtain ⟨p1,p2,p3⟩:=net_parts hN
  refine ⟨by rw [fuelC]; simp; omega,?_⟩
  rw [show roundTK C (mkTab sp86 lp86 sw86) 86 (loopOf C.P 86 9) 0 l86_9 [to,m,hh,k,n',r,a] = _ from t86_9 to m hh k n' r a]
  obtain ⟨j,hj⟩:∃ j:Nat,k.I = j:=⟨k.I.toNat,by omega⟩
  have hn:(n'.I.toNat:Int) = n'.I:=by omega
  have hal:=ha.1
  have hno:=none_ok (n:=n'.I) (k:=k.I + 1) (by omega) (by omega)
  have hho:=exs_ok hN hk0 ha r.L.length 0 (noneL n'.I) (by omega) hno
  unfold noneL at hno hho
  simp only [hj,hm,hn,fill_all,List.length_replicate,Int.toNat_natCast,Int.toNat_zero,Nat.sub_zero] at h hk0 hk1 ha hno hho ⊢
  refine rd_if (fun hlt=>?_) fun hge=>?_
  ·rw [wrap_succ (by omega)]
   rw [show hh.I.toNat - j = (hh.I.toNat - (j + 1)) + 1 by omega] at h
   refine rd_dec ⟨by omega,trivial,by omega,by rw [hby]; omega⟩ (rd_yes ⟨p1,trivial,trivial,trivial,hal,trivial,by omega,by omega⟩ (rd_yes ⟨hN,trivial,trivial,trivial,trivial,ha,hno,by omega,by omega,by omega,by omega⟩ (rd_again ((need_yes ⟨hN,rfl,hho,by simp only [I_i]; omega,by simp only [I_i]; omega,hk2⟩).trans h) ?_)))
   show (hh.I - ((j + 1:Nat):Int)).toNat < (hh.I - k.I).toNat
   rw [hj]; omega
  ·rw [show hh.I.toNat - j = 0 by omega] at h
   exact rd_out h
 ·cases h
theorem startE_ok {n v t:Int} (hn:0 ≤ n) (hv:0 ≤ v ∧ v < n) (ht:0 ≤ t ∧ t ≤ 1099511627776):okEx n 0 (startE n v t):=by
 have h:=none_ok (n:=n) (k:=0) hn (by omega)
 have hl:=h.1
 unfold startE
 refine ⟨by rw [len_rs]; exact h.1,fun u=>?_⟩
 rw [rg_rs (by omega)]
 split
 ·omega
 ·exact h.2 u
theorem exact_ok {n:Int} {r:List (List D)} (hN:netB n r = true) (hn:0 ≤ n):∀ (m:Nat) (k:Int) (a:List (List D)),0 ≤ k → okEx n k a → okEx n (k + m) (exactF n r m a)
 | 0,k,a,_,h=>by simpa [exactF] using h
 | m + 1,k,a,hk,h=>by
   have:=exact_ok hN hn m (k + 1) (exF r a 0 r.length (noneL n)) (by omega) (exs_ok hN hk h r.length 0 _ (by omega) (none_ok hn (by omega)))
   rw [show k + ((m + 1:Nat):Int) = k + 1 + m by omega]
   exact this
theorem ok86 (n:Nat):FnOK C (n + 2) 86 (mkF s86 G86):=by
 have hby:Try.prog.types[3].bytes = 8:=by kernel_rfl
 refine fn_ofS hC (sp:=sp86) (lp:=lp86) (sw:=sw86) ⟨ok87 n,trivial⟩ trivial (by kernel_rfl) [3,9] (by kernel_rfl) (by kernel_rfl) (fun k hk L hL=>by
  simp at hk; rcases hk with rfl | rfl <;> cases hL
  ·exact ok86_3 n
  ·exact ok86_9 n) fun ds r h=>?_
 unfold G86 at h
 split at h
 ·rename_i n' r' v t to hh
  obtain ⟨hp,h⟩:=need_some h
  rw [yes_iff] at hp
  obtain ⟨hN,hv,ht,hto,hh0,hh1⟩:=hp
  obtain ⟨p1,p2,p3⟩:=net_parts hN
  refine (congrArg T.run (t86 n' r' v t to hh)).trans ?_
  have hn:(n'.I.toNat:Int) = n'.I:=by omega
  have hok:=startE_ok (by omega:0 ≤ n'.I) hv ht
  have hex:=(exact_ok hN (by omega) hh.I.toNat 0 _ (Int.le_refl _) hok).1
  unfold startE noneL at h hok hex
  simp only [List.length_replicate,Int.toNat_zero,Nat.sub_zero,fill_all,upd1,rs_def,hn]
  exact go_dec ⟨by omega,trivial,by omega,by rw [hby]; omega⟩ (go_yes ⟨p1,trivial,trivial,trivial,by omega,by omega⟩ (go_dec (by omega) (go_dec (by simp; omega) (go_yes ⟨hN,trivial,hok,by omega,by omega,by omega⟩ (go_dec (by omega) (go_dec (by omega) h))))))
 ·cases h
set_option linter.unusedVariables false
structure ExStep (E:Ed) (n:Nat) (x x':Nat → Int):Prop where
 le:∀ j,j < E.m → x (E.fr j).toNat < INF → x' (E.to j).toNat ≤ E.fn j (x (E.fr j).toNat)
 at':∀ u,u < n → x' u = INF ∨ ∃ j,j < E.m ∧ x (E.fr j).toNat < INF ∧ (E.to j).toNat = u ∧ x' u = E.fn j (x (E.fr j).toNat)
structure MoStep (E:Ed) (n:Nat) (x x':Nat → Int):Prop where
 le0:∀ u,x' u ≤ x u
 le:∀ j,j < E.m → x (E.fr j).toNat < INF → x' (E.to j).toNat ≤ E.fn j (x (E.fr j).toNat)
 at':∀ u,u < n → x' u = x u ∨ ∃ j,j < E.m ∧ x (E.fr j).toNat < INF ∧ (E.to j).toNat = u ∧ x' u = E.fn j (x (E.fr j).toNat)
section
variable {E:Ed} {n:Nat} {H:Int}
theorem chain_le (hE : E.OK n H) {X Y:Nat → Nat → Int} {K:Nat} (h0:∀ u,u < n → Y 0 u ≤ X 0 u) (hI:∀ k u,k ≤ K → u < n → Y k u ≤ INF) (hX:∀ k,k < K → ExStep E n (X k) (X (k + 1))) (hY:∀ k,k < K → MoStep E n (Y k) (Y (k + 1))) :
    ∀ k,k ≤ K → ∀ j,j ≤ k → ∀ u,u < n → Y k u ≤ X j u
 | 0, _, j, hj, u, hu => by obtain rfl:j = 0:=by omega
                            exact h0 u hu
 | k + 1,hk,j,hj,u,hu=>by
   by_cases e:j = k + 1
   ·subst e
    rcases (hX k (by omega)).at' u hu with h | ⟨i,h1,h2,h3,h4⟩
    ·rw [h]; exact hI _ _ hk hu
    ·rw [h4,← h3]
     have hf:=hE.fr i h1
     have ih:=chain_le hE h0 hI hX hY k (by omega) k (Nat.le_refl _) (E.fr i).toNat (by omega)
     exact Int.le_trans ((hY k (by omega)).le i h1 (by omega)) (hE.mono i h1 _ _ ih)
   ·exact Int.le_trans ((hY k (by omega)).le0 u) (chain_le hE h0 hI hX hY k (by omega) j (by omega) u hu)
theorem chain_at (hE:E.OK n H) {X Y:Nat → Nat → Int} {K:Nat} (h0:∀ u,u < n → Y 0 u = X 0 u) (hI:∀ k u,k ≤ K → u < n → Y k u ≤ INF) (hX:∀ k,k < K → ExStep E n (X k) (X (k + 1))) (hY:∀ k,k < K → MoStep E n (Y k) (Y (k + 1))) :
    ∀ k,k ≤ K → ∀ u,u < n → ∃ j,j ≤ k ∧ X j u = Y k u
 | 0,_,u,hu=>⟨0,Nat.le_refl _,(h0 u hu).symm⟩
 | k + 1,hk,u,hu=>by
   rcases (hY k (by omega)).at' u hu with h | ⟨i,h1,h2,h3,h4⟩
   ·obtain ⟨j,h5,h6⟩:=chain_at hE h0 hI hX hY k (by omega) u hu
    exact ⟨j,by omega,by rw [h]; exact h6⟩
   ·have hf:=hE.fr i h1
    obtain ⟨j,h5,h6⟩:=chain_at hE h0 hI hX hY k (by omega) (E.fr i).toNat (by omega)
    refine ⟨j + 1,by omega,Int.le_antisymm ?_ (chain_le hE (fun u hu=>by rw [h0 u hu]; exact Int.le_refl _) hI hX hY (k + 1) hk (j + 1) (by omega) u hu)⟩
    rw [h4,← h3,← h6]
    exact (hX j (by omega)).le i h1 (by omega)
theorem chain_walk (hE:E.OK n H) {X:Nat → Nat → Int} {v t:Int} {K:Nat} (h0:∀ u,u < n → X 0 u < INF → (u:Int) = v ∧ X 0 u = t) (hX:∀ k,k < K → ExStep E n (X k) (X (k + 1))) :
    ∀ k,k ≤ K → ∀ u,u < n → X k u < INF → Walk E v t u (X k u)
 | 0, _,u,hu,hf=>by
   obtain ⟨h1,h2⟩:=h0 u hu hf
   rw [h1,h2]; exact .here
 | k + 1,hk,u,hu,hf=>by
   rcases (hX k (by omega)).at' u hu with h | ⟨i,h1,h2,h3,h4⟩
   ·omega
   ·have h5:=hE.fr i h1
    have h6:=hE.to i h1
    have ih:=chain_walk hE h0 hX k (by omega) (E.fr i).toNat (by omega) h2
    rw [show (((E.fr i).toNat:Nat):Int) = E.fr i by omega] at ih
    rw [h4,show (u:Int) = E.to i by omega]
    exact .step ih h1
theorem chain_first (hE:E.OK n H) {X X':Nat → Nat → Int} {v t:Int} {i K:Nat} (hi:i < E.m) (hv:E.fr i = v) (ht:t < INF) (h0:X 0 v.toNat = t) (h0':∀ u,u < n → X' 0 u = if u = (E.to i).toNat then E.fn i t else INF) (hI:∀ k u,k ≤ K → u < n → X k u ≤ INF)
    (hX:∀ k,k < K → ExStep E n (X k) (X (k + 1))) (hX':∀ k,k < K → ExStep E n (X' k) (X' (k + 1))):∀ k,k < K → ∀ u,u < n → X (k + 1) u ≤ X' k u
 | 0, hk,u,hu=>by
   rw [h0' u hu]
   split
   ·rename_i e
    rw [e]
    have:=(hX 0 hk).le i hi (by rw [hv,h0]; exact ht)
    rwa [hv,h0] at this
   ·exact hI _ _ (by omega) hu
 | k + 1,hk,u,hu=>by
   rcases (hX' k (by omega)).at' u hu with h | ⟨j,h1,h2,h3,h4⟩
   ·rw [h]; exact hI _ _ (by omega) hu
   ·have hf:=hE.fr j h1
    have ih:=chain_first hE hi hv ht h0 h0' hI hX hX' k (by omega) (E.fr j).toNat (by omega)
    rw [h4,← h3]
    exact Int.le_trans ((hX (k + 1) hk).le j h1 (by omega)) (hE.mono j h1 _ _ ih)
theorem walk_trans {v0 t0 v t w s:Int} (h:Walk E v0 t0 v t) (h':Walk E v t w s):Walk E v0 t0 w s:=by
 induction h' with
 | here=>exact h
 | step _ hj ih=>exact .step ih hj
end
theorem ex1_spec {n K:Int} {a x:List (List D)} {c:List D} (hc:roadB n c = true) (hK:0 ≤ K ∧ K ≤ 1000) (ha:okEx n K a) (hx:okEx n (K + 1) x) :
    (∀ u,rg (ex1 c a x) u ≤ rg x u) ∧ (rg a (ix c 0).toNat < INF → rg (ex1 c a x) (ix c 1).toNat ≤ entW c (rg a (ix c 0).toNat) + ix c 2) ∧
     ∀ u,rg (ex1 c a x) u = rg x u ∨ (rg a (ix c 0).toNat < INF ∧ (ix c 1).toNat = u ∧ rg (ex1 c a x) u = entW c (rg a (ix c 0).toNat) + ix c 2):=by
 obtain ⟨h1,h2,h3,-,-⟩:=road_parts hc
 obtain ⟨e1,e2,-⟩:=entW_parts hc
 have hxl:=hx.1
 have hI:INF = 9223372036854775807:=rfl
 unfold ex1
 by_cases c1:rg a (ix c 0).toNat < 9223372036854775807
 ·rw [if_pos c1]
  have hrs:=fun z u=>rg_rs (R:=x) (j:=(ix c 1).toNat) (by omega) z u
  refine ⟨fun u=>?_,fun _=>?_,fun u=>?_⟩
  ·rw [hrs]
   by_cases e:u = (ix c 1).toNat
   ·rw [if_pos e,e]; split <;> omega
   ·rw [if_neg e]; exact Int.le_refl _
  ·rw [hrs,if_pos rfl]; split <;> omega
  ·rw [hrs]
   by_cases e:u = (ix c 1).toNat
   ·rw [if_pos e]
    split
    ·exact .inr ⟨c1,e.symm,rfl⟩
    ·rw [e]; exact .inl rfl
   ·rw [if_neg e]; exact .inl rfl
 ·rw [if_neg c1]
  exact ⟨fun u=>Int.le_refl _,fun h=>absurd h c1,fun u=>.inl rfl⟩
theorem exs_spec {n K:Int} {r a:List (List D)} (hN:netB n r = true) (hK:0 ≤ K ∧ K ≤ 1000) (ha:okEx n K a):∀ (m i:Nat) (x:List (List D)),i + m ≤ r.length → okEx n (K + 1) x →
    (∀ u,rg (exF r a i m x) u ≤ rg x u) ∧ (∀ j,i ≤ j → j < i + m → rg a ((edR r).fr j).toNat < INF → rg (exF r a i m x) ((edR r).to j).toNat ≤ (edR r).fn j (rg a ((edR r).fr j).toNat)) ∧
     ∀ u,rg (exF r a i m x) u = rg x u ∨ ∃ j,j < r.length ∧ rg a ((edR r).fr j).toNat < INF ∧ ((edR r).to j).toNat = u ∧ rg (exF r a i m x) u = (edR r).fn j (rg a ((edR r).fr j).toNat)
 | 0,i,x,_,_=>⟨fun u=>Int.le_refl _,fun j h1 h2=>by omega,fun u=>.inl rfl⟩
 | m + 1,i,x,hm,hx=>by
   have hR:=(net_parts hN).2.2 i (by omega)
   obtain ⟨a1,a2,a3⟩:=ex1_spec hR hK ha hx
   obtain ⟨b1,b2,b3⟩:=exs_spec hN hK ha m (i + 1) (ex1 (r.getD i []) a x) (by omega) (ex_ok hR hK.1 ha hx)
   simp only [exF]
   refine ⟨fun u=>Int.le_trans (b1 u) (a1 u),fun j h1 h2 h3=>?_,fun u=>?_⟩
   ·by_cases e:j = i
    ·subst e
     exact Int.le_trans (b1 _) (a2 h3)
    ·exact b2 j (by omega) (by omega) h3
   ·rcases b3 u with h | h
    ·rw [h]
     rcases a3 u with h' | ⟨h4,h5,h6⟩
     ·exact .inl h'
     ·exact .inr ⟨i,by omega,h4,h5,h6⟩
    ·exact .inr h
theorem none_rg' {n:Int} {u:Nat} (hu:u < n.toNat):rg (noneL n) u = INF:=rg_rep hu
theorem exs_step {n K:Int} {r a:List (List D)} (hN:netB n r = true) (hK:0 ≤ K ∧ K ≤ 1000) (ha:okEx n K a):ExStep (edR r) n.toNat (rg a) (rg (exF r a 0 r.length (noneL n))):=by
 obtain ⟨p1,p2,p3⟩:=net_parts hN
 obtain ⟨a1,a2,a3⟩:=exs_spec hN hK ha r.length 0 (noneL n) (by omega) (none_ok (by omega) (by omega))
 refine ⟨fun j hj h=>a2 j (Nat.zero_le _) (by have:j < r.length:=hj; omega) h,fun u hu=>?_⟩
 rcases a3 u with h | h
 ·exact .inl (h.trans (none_rg' hu))
 ·exact .inr h
theorem hops_step {n K:Int} {r a:List (List D)} (hN:netB n r = true) (hK:0 ≤ K ∧ K ≤ 1000) (ha:okAt n K a):MoStep (edR r) n.toNat (fun u=>cv (rg a u)) (fun u=>cv (rg (hopF r a 0 r.length a) u)):=by
 obtain ⟨a1,a2,a3⟩:=hops_spec hN hK ha r.length 0 a (by omega) (at_mono ha (by omega))
 have hlt:∀ u,cv (rg a u) < INF → ¬ rg a u < 0 ∧ cv (rg a u) = rg a u:=fun u h=>by
  unfold cv at h ⊢
  split at h
  ·omega
  ·rename_i c; rw [if_neg c]; exact ⟨c,rfl⟩
 refine ⟨a1,fun j hj h=>?_,fun u hu=>?_⟩
 ·obtain ⟨h1,h2⟩:=hlt _ h
  rw [h2]
  exact a2 j (Nat.zero_le _) (by have:j < r.length:=hj; omega) h1
 ·rcases a3 u with h | ⟨j,h1,h2,h3,h4⟩
  ·exact .inl (by simp only [h])
  ·refine .inr ⟨j,h1,?_,h3,?_⟩
   ·have hub:=(ha.2 ((edR r).fr j).toNat).2
    have hI:INF = 9223372036854775807:=rfl
    unfold cv
    rw [if_neg h2]
    omega
   ·simp only [h4]
    have e1:cv (rg a ((edR r).fr j).toNat) = rg a ((edR r).fr j).toNat:=by unfold cv; rw [if_neg h2]
    rw [e1]
    have hup:=(edR_ok hN).up j h1 (rg a ((edR r).fr j).toNat)
    have hnn:¬ (edR r).fn j (rg a ((edR r).fr j).toNat) < 0:=by omega
    unfold cv
    exact if_neg hnn
theorem exact_succ {n:Int} {r:List (List D)}:∀ (k:Nat) (a:List (List D)),exactF n r (k + 1) a = exF r (exactF n r k a) 0 r.length (noneL n)
 | 0,_=>rfl
 | k + 1,a=>exact_succ k (exF r a 0 r.length (noneL n))
theorem reach_succ {r:List (List D)}:∀ (k:Nat) (a:List (List D)),reachF r (k + 1) a = hopF r (reachF r k a) 0 r.length (reachF r k a)
 | 0,_=>rfl
 | k + 1,a=>reach_succ k (hopF r a 0 r.length a)
theorem reach_ok {n:Int} {r:List (List D)} (hN:netB n r = true):∀ (m:Nat) (k:Int) (a:List (List D)),0 ≤ k → okAt n k a → okAt n (k + m) (reachF r m a)
 | 0,k,a,_,h=>by simpa [reachF] using h
 | m + 1,k,a,hk,h=>by
   have:=reach_ok hN m (k + 1) (hopF r a 0 r.length a) (by omega) (hops_ok hN hk h r.length 0 a (by omega) (at_mono h (by omega)))
   rw [show k + ((m + 1:Nat):Int) = k + 1 + m by omega]
   exact this
section
variable {n:Int} {r:List (List D)} {v t:Int}
def xE (n:Int) (r:List (List D)) (v t:Int) (k u:Nat):Int:=rg (exactF n r k (startE n v t)) u
def yR (n:Int) (r:List (List D)) (v t:Int) (k u:Nat):Int:=cv (rg (reachF r k (beginF n v t)) u)
theorem xE_ok (hN:netB n r = true) (hv:0 ≤ v ∧ v < n) (ht:0 ≤ t ∧ t ≤ 1099511627776) (k:Nat):okEx n k (exactF n r k (startE n v t)):=by
 have hn:=(net_parts hN).1
 have:=exact_ok hN (by omega) k 0 _ (Int.le_refl _) (startE_ok (by omega) hv ht)
 rwa [Int.zero_add] at this
theorem yR_ok (hN:netB n r = true) (hv:0 ≤ v ∧ v < n) (ht:0 ≤ t ∧ t ≤ 1099511627776) (k:Nat):okAt n k (reachF r k (beginF n v t)):=by
 have hn:=(net_parts hN).1
 have:=reach_ok hN k 0 _ (Int.le_refl _) (begin_ok (by omega) hv ht)
 rwa [Int.zero_add] at this
theorem xE_step (hN:netB n r = true) (hv:0 ≤ v ∧ v < n) (ht:0 ≤ t ∧ t ≤ 1099511627776) {k:Nat} (hk:k ≤ 1000):ExStep (edR r) n.toNat (xE n r v t k) (xE n r v t (k + 1)):=by
 have:=exs_step hN (K:=k) (by omega) (xE_ok hN hv ht k)
 rw [← exact_succ] at this
 exact this
theorem yR_step (hN:netB n r = true) (hv:0 ≤ v ∧ v < n) (ht:0 ≤ t ∧ t ≤ 1099511627776) {k:Nat} (hk:k ≤ 1000):MoStep (edR r) n.toNat (yR n r v t k) (yR n r v t (k + 1)):=by
 have:=hops_step hN (K:=k) (by omega) (yR_ok hN hv ht k)
 rw [← reach_succ] at this
 exact this
theorem xE_le (hN:netB n r = true) (hv:0 ≤ v ∧ v < n) (ht:0 ≤ t ∧ t ≤ 1099511627776) {k:Nat} (hk:k ≤ 1001) (u:Nat):xE n r v t k u ≤ INF ∧ 0 ≤ xE n r v t k u:=by
 have h:=(xE_ok hN hv ht k).2 u
 have hI:INF = 9223372036854775807:=rfl
 unfold xE
 omega
theorem yR_le (hN:netB n r = true) (hv:0 ≤ v ∧ v < n) (ht:0 ≤ t ∧ t ≤ 1099511627776) {k:Nat} (hk:k ≤ 1001) (u:Nat):yR n r v t k u ≤ INF:=by
 have h:=(yR_ok hN hv ht k).2 u
 have hI:INF = 9223372036854775807:=rfl
 unfold yR cv
 split <;> omega
theorem xE_zero (hv:0 ≤ v ∧ v < n) {u:Nat} (hu:u < n.toNat):xE n r v t 0 u = if u = v.toNat then t else INF:=by
 show rg (startE n v t) u = _
 unfold startE
 rw [rg_rs (by unfold noneL; simp; omega),none_rg' hu]
theorem yR_zero (hv:0 ≤ v ∧ v < n) (ht:0 ≤ t) {u:Nat} (hu:u < n.toNat):yR n r v t 0 u = xE n r v t 0 u:=by
 rw [xE_zero hv hu]
 show cv (rg (beginF n v t) u) = _
 unfold beginF cv
 rw [rg_rs (by simp; omega),rg_rep hu]
 by_cases e:u = v.toNat
 ·rw [if_pos e,if_pos e,if_neg (by omega)]
 ·rw [if_neg e,if_neg e,if_pos (by omega)]
theorem yR_xE (hN:netB n r = true) (hv:0 ≤ v ∧ v < n) (ht:0 ≤ t ∧ t ≤ 1099511627776) {k j:Nat} (hk:k ≤ 1000) (hj:j ≤ k) {u:Nat} (hu:u < n.toNat):yR n r v t k u ≤ xE n r v t j u:=
 chain_le (X:=xE n r v t) (Y:=yR n r v t) (edR_ok hN) (K:=1000) (fun u hu=>by rw [yR_zero hv ht.1 hu]; exact Int.le_refl _) (fun k u hk _=>yR_le hN hv ht (by omega) u) (fun k hk=>xE_step hN hv ht (by omega)) (fun k hk=>yR_step hN hv ht (by omega)) k hk j hj u hu
theorem yR_at (hN:netB n r = true) (hv:0 ≤ v ∧ v < n) (ht:0 ≤ t ∧ t ≤ 1099511627776) {k:Nat} (hk:k ≤ 1000) {u:Nat} (hu:u < n.toNat):∃ j,j ≤ k ∧ xE n r v t j u = yR n r v t k u:=
 chain_at (X:=xE n r v t) (Y:=yR n r v t) (edR_ok hN) (K:=1000) (fun u hu=>yR_zero hv ht.1 hu) (fun k u hk _=>yR_le hN hv ht (by omega) u) (fun k hk=>xE_step hN hv ht (by omega)) (fun k hk=>yR_step hN hv ht (by omega)) k hk u hu
theorem xE_walk (hN:netB n r = true) (hv:0 ≤ v ∧ v < n) (ht:0 ≤ t ∧ t ≤ 1099511627776) {k:Nat} (hk:k ≤ 1000) {u:Nat} (hu:u < n.toNat) (hf:xE n r v t k u < INF):Walk (edR r) v t u (xE n r v t k u):=
 chain_walk (X:=xE n r v t) (edR_ok hN) (K:=1000) (fun u hu h=>by
  rw [xE_zero hv hu] at h ⊢
  split at h
  ·rename_i e; rw [if_pos e]; exact ⟨by omega,rfl⟩
  ·omega) (fun k hk=>xE_step hN hv ht (by omega)) k hk u hu hf
theorem xE_first (hN:netB n r = true) (hv:0 ≤ v ∧ v < n) (ht:0 ≤ t ∧ t ≤ 1099511627776) {i k:Nat} (hi:i < r.length) (hfr:ix (r.getD i []) 0 = v) (hk:k < 1000) {u:Nat} (hu:u < n.toNat) (ht':tmR r i t ≤ 1099511627776):xE n r v t (k + 1) u ≤ xE n r (toR r i) (tmR r i t) k u:=by
 have hto:0 ≤ toR r i ∧ toR r i < (n.toNat:Int):=(edR_ok hN).to i hi
 have hup:t < tmR r i t:=(edR_ok hN).up i hi t
 have p1:=(net_parts hN).1
 have hI:INF = 9223372036854775807:=rfl
 exact chain_first (X:=xE n r v t) (X':=xE n r (toR r i) (tmR r i t)) (edR_ok hN) (K:=1000) (i:=i) hi hfr (by omega) (by rw [xE_zero hv (by omega),if_pos rfl]) (fun u hu=>xE_zero (by omega) hu) (fun k u hk _=>(xE_le hN hv ht (by omega) u).1)
  (fun k hk=>xE_step hN hv ht (by omega)) (fun k hk=>xE_step hN (by omega) (by omega) (by omega)) k hk u hu
theorem qR_iff (hN:netB n r = true) (hv:0 ≤ v ∧ v < n) (ht:0 ≤ t ∧ t ≤ 1099511627776) {to best:Int} (hto:0 ≤ to ∧ to < n) (hb:0 ≤ best ∧ best < INF) (hlo:∀ j,j ≤ 1000 → best ≤ xE n r v t j to.toNat) {l:Nat} (hl:l ≤ 1000):qR n r to best l v t = true ↔ ∃ j,j ≤ l ∧ qE n r to best j v t = true:=by
 unfold qR qE
 have hu:to.toNat < n.toNat:=by omega
 have hI:INF = 9223372036854775807:=rfl
 have hc:(rg (reachF r l (beginF n v t)) to.toNat == best) = true ↔ yR n r v t l to.toNat = best:=by
  have h:=(yR_ok hN hv ht l).2 to.toNat
  unfold yR cv
  rw [beq_iff_eq]
  split <;> omega
 rw [hc]
 constructor
 ·intro h
  obtain ⟨j,h1,h2⟩:=yR_at hN hv ht hl hu
  exact ⟨j,h1,by rw [beq_iff_eq]; exact h2.trans h⟩
 ·rintro ⟨j,h1,h2⟩
  rw [beq_iff_eq] at h2
  have h3:=yR_xE hN hv ht hl h1 hu
  obtain ⟨j',h4,h5⟩:=yR_at hN hv ht hl hu
  have:=hlo j' (by omega)
  have h2:xE n r v t j to.toNat = best:=h2
  omega
end
theorem road_congr {p q:Nat → Bool}:∀ (m i:Nat),(∀ j,i ≤ j → j < i + m → p j = q j) → roadF p i m = roadF q i m
 | 0,_,_=>rfl
 | m + 1,i,h=>by
   simp only [roadF]
   rw [h i (Nat.le_refl _) (by omega),road_congr m (i + 1) fun j h1 h2=>h j (by omega) (by omega)]
theorem road_some {p:Nat → Bool}:∀ (m i:Nat) {x:Nat},roadF p i m = some x → i ≤ x ∧ x < i + m ∧ p x = true
 | 0,_,_,h=>by cases h
 | m + 1,i,x,h=>by
   simp only [roadF] at h
   split at h
   ·cases h; rename_i hp; exact ⟨Nat.le_refl _,by omega,hp⟩
   ·have:=road_some m (i + 1) h
    exact ⟨by omega,by omega,this.2.2⟩
theorem seek_congr {p q:Nat → Bool}:∀ (f k:Nat),(∀ j,j < k → p j = false) → (∀ l,l ≤ k + f → (q l = true ↔ ∃ j,j ≤ l ∧ p j = true)) → seekF p f k = seekF q f k
 | 0,_,_,_=>rfl
 | f + 1,k,h1,h2=>by
   have hpq:p k = q k:=by
    rw [Bool.eq_iff_iff,h2 k (by omega)]
    refine ⟨fun h=>⟨k,Nat.le_refl _,h⟩,fun ⟨j,h3,h4⟩=>?_⟩
    by_cases e:j = k
    ·rw [← e]; exact h4
    ·rw [h1 j (by omega)] at h4; cases h4
   simp only [seekF,hpq]
   split
   ·rfl
   ·rename_i hq
    refine seek_congr f (k + 1) (fun j hj=>?_) fun l hl=>h2 l (by omega)
    by_cases e:j = k
    ·rw [e,hpq]; simpa using hq
    ·exact h1 j (by omega)
theorem seek_spec {p:Nat → Bool}:∀ (f k:Nat),(∃ l,k ≤ l ∧ l ≤ k + f ∧ p l = true) → p (seekF p f k) = true ∧ k ≤ seekF p f k ∧ seekF p f k ≤ k + f ∧ ∀ j,k ≤ j → j < seekF p f k → p j = false
 | 0, k,⟨l,h1,h2,h3⟩=>by
   obtain rfl:l = k:=by omega
   exact ⟨h3,Nat.le_refl _,Nat.le_refl _,fun j h4 h5=>by simp only [seekF] at h5; omega⟩
 | f + 1,k,⟨l,h1,h2,h3⟩=>by
   simp only [seekF]
   split
   ·rename_i hp
    exact ⟨hp,Nat.le_refl _,by omega,fun j h4 h5=>by omega⟩
   ·rename_i hp
    have hlk:l ≠ k:=fun e=>hp (e ▸ h3)
    obtain ⟨a1,a2,a3,a4⟩:=seek_spec f (k + 1) ⟨l,by omega,by omega,h3⟩
    refine ⟨a1,by omega,by omega,fun j h4 h5=>?_⟩
    by_cases e:j = k
    ·rw [e]; simpa using hp
    ·exact a4 j (by omega) h5
theorem same_way {n:Int} {r:List (List D)} {v0 t0 to best:Int} {d:Nat → Int} (hN:netB n r = true) (hL:Least (edR r) n.toNat v0 t0 d) (hto:0 ≤ to ∧ to < n) (hb:0 ≤ best ∧ best < INF) (hd:d to.toNat = best) :
    ∀ (l:Nat) (v t:Int),l ≤ 1000 → 0 ≤ v ∧ v < n → 0 ≤ t → t + 10000 * l ≤ 10100000 → Walk (edR r) v0 t0 v t → (∀ j,j < l → qE n r to best j v t = false) → wayF r (qE n r to best) l v t = wayF r (qR n r to best) l v t
 | 0,_,_,_,_,_,_,_,_=>rfl
 | l + 1, v,t,hl,hv,ht0,ht1,hW,hq=>by
   have hlow:∀ {v t:Int},0 ≤ v ∧ v < n → 0 ≤ t ∧ t ≤ 1099511627776 → Walk (edR r) v0 t0 v t → ∀ j,j ≤ 1000 → best ≤ xE n r v t j to.toNat:=fun {v t} hv ht hW j hj=>by
    by_cases hf:xE n r v t j to.toNat < INF
    ·have:=hL.2.2 _ _ (walk_trans hW (xE_walk hN hv ht hj (by omega) hf))
     rw [show (((to.toNat:Nat):Int)).toNat = to.toNat by omega] at this
     omega
    ·omega
   have hstep:∀ i,i < r.length → ix (r.getD i []) 0 = v → (0 ≤ toR r i ∧ toR r i < n) ∧ (0 ≤ tmR r i t ∧ tmR r i t + 10000 * l ≤ 10100000) ∧ Walk (edR r) v0 t0 (toR r i) (tmR r i t) ∧ ∀ j,j < l → qE n r to best j (toR r i) (tmR r i t) = false:=fun i hi hfr=>by
    have hto':=(edR_ok hN).to i hi
    have hup:=(edR_ok hN).up i hi t
    have hR:=(net_parts hN).2.2 i hi
    have h1:=(road_parts hR).2.2.1
    have h2:=(entW_parts hR).2.1 t
    have h3:=(entW_parts hR).1 t
    have p1:=(net_parts hN).1
    have e2:tmR r i t = entW (r.getD i []) t + ix (r.getD i []) 2:=rfl
    have ht2:0 ≤ tmR r i t ∧ tmR r i t + 10000 * l ≤ 10100000:=by rw [e2]; omega
    have hv2:0 ≤ toR r i ∧ toR r i < n:=by
     show 0 ≤ (edR r).to i ∧ (edR r).to i < n
     omega
    have hW':Walk (edR r) v0 t0 (toR r i) (tmR r i t):=.step (j:=i) (by show Walk (edR r) v0 t0 (ix (r.getD i []) 0) t; rw [hfr]; exact hW) hi
    refine ⟨hv2,ht2,hW',fun j hj=>?_⟩
    rw [← Bool.not_eq_true]
    intro hqj
    have hqj:xE n r (toR r i) (tmR r i t) j to.toNat = best:=by unfold qE at hqj; rw [beq_iff_eq] at hqj; exact hqj
    have h4:=xE_first (t:=t) hN hv (by omega) hi hfr (k:=j) (by omega) (u:=to.toNat) (by omega) (by omega)
    have h5:=hlow hv (by omega) hW (j + 1) (by omega)
    have h6:qE n r to best (j + 1) v t = true:=by
     unfold qE
     rw [beq_iff_eq]
     show xE n r v t (j + 1) to.toNat = best
     omega
    rw [hq (j + 1) (by omega)] at h6
    cases h6
   simp only [wayF]
   have hroad:roadF (fun i=>decide (ix (r.getD i []) 0 = v) && qE n r to best l (ix (r.getD i []) 1) (entW (r.getD i []) t + ix (r.getD i []) 2)) 0 r.length = roadF (fun i=>decide (ix (r.getD i []) 0 = v) && qR n r to best l (ix (r.getD i []) 1) (entW (r.getD i []) t + ix (r.getD i []) 2)) 0 r.length:=
    road_congr _ _ fun i _ hi=>by
     by_cases hfr:ix (r.getD i []) 0 = v
     ·simp only [hfr,decide_true,Bool.true_and]
      obtain ⟨a1,a2,a3,a4⟩:=hstep i (by omega) hfr
      show qE n r to best l (toR r i) (tmR r i t) = qR n r to best l (toR r i) (tmR r i t)
      rw [Bool.eq_iff_iff,qR_iff hN a1 (by omega) hto hb (hlow a1 (by omega) a3) (by omega)]
      refine ⟨fun h=>⟨l,Nat.le_refl _,h⟩,fun ⟨j,h1,h2⟩=>?_⟩
      by_cases e:j = l
      ·rw [← e]; exact h2
      ·rw [a4 j (by omega)] at h2; cases h2
     ·simp only [hfr,decide_false,Bool.false_and]
   rw [← hroad]
   split
   ·exact same_way hN hL hto hb hd l v t (by omega) hv ht0 (by omega) hW fun j hj=>hq j (by omega)
   ·rename_i i hi
    obtain ⟨-,h2,h3⟩:=road_some _ _ hi
    rw [Bool.and_eq_true,decide_eq_true_iff] at h3
    obtain ⟨a1,a2,a3,a4⟩:=hstep i (by omega) h3.1
    have:=same_way hN hL hto hb hd l (toR r i) (tmR r i t) (by omega) a1 a2.1 a2.2 a3 a4
    unfold toR tmR at this
    rw [this]
theorem ways_same {n:Int} {r:List (List D)} {v t to:Int} (hN:netB n r = true) (hv:0 ≤ v ∧ v < n) (ht:0 ≤ t ∧ t ≤ 100000) (hto:0 ≤ to ∧ to < n) (hb:0 ≤ bestF n r v t to) :
    docA n r v t to = bestF n r v t to ∧ comesE n r v t to (bestF n r v t to) 0 ∧ comesR n r v t to (bestF n r v t to) 0 ∧ docW n r v t to = progW n r v t to ∧ hopsE n r v t to (bestF n r v t to) 0 ≤ 1000:=by
 obtain ⟨p1,p2,p3⟩:=net_parts hN
 obtain ⟨s1,s2,s3⟩:=arr_same hN hv ht
 obtain ⟨o1,d,hL,hd⟩:=arr_ok hN hv ht
 have hA:docA n r v t to = bestF n r v t to:=(s3 to.toNat (by omega)).symm
 have hub:=(o1.2 to.toNat).2
 have hI:INF = 9223372036854775807:=rfl
 have hb2:bestF n r v t to < INF:=by unfold bestF; omega
 have hd':d to.toNat = bestF n r v t to:=by
  rw [← hd _ (by omega)]
  unfold cv bestF at *
  rw [if_neg (by omega)]
 have hlow:∀ j,j ≤ 1000 → bestF n r v t to ≤ xE n r v t j to.toNat:=fun j hj=>by
  by_cases hf:xE n r v t j to.toNat < INF
  ·have:=hL.2.2 _ _ (xE_walk hN hv (by omega) hj (by omega) hf)
   rw [show (((to.toNat:Nat):Int)).toNat = to.toNat by omega] at this
   omega
  ·omega
 have hqR:qR n r to (bestF n r v t to) n.toNat v t = true:=by
  unfold qR
  rw [beq_iff_eq]
  exact hA
 have hiff:=fun {l:Nat} (hl:l ≤ 1000)=>qR_iff hN hv (by omega) hto ⟨hb,hb2⟩ hlow hl
 obtain ⟨j,h1,h2⟩:=(hiff (by omega)).1 hqR
 have hcE:comesE n r v t to (bestF n r v t to) 0:=⟨j,Nat.zero_le _,by omega,h2⟩
 obtain ⟨-,-,a3,a4⟩:=seek_spec (p:=fun l=>qE n r to (bestF n r v t to) l v t) (1000 - 0) 0 ⟨j,Nat.zero_le _,by omega,h2⟩
 have hh:hopsE n r v t to (bestF n r v t to) 0 = hopsR n r v t to (bestF n r v t to) 0:=seek_congr _ _ (fun j hj=>by omega) fun l hl=>hiff (by omega)
 refine ⟨hA,hcE,⟨n.toNat,Nat.zero_le _,by omega,hqR⟩,?_,by unfold hopsE; omega⟩
 unfold docW progW wayE wayO
 rw [hA,← hh]
 have a5:hopsE n r v t to (bestF n r v t to) 0 ≤ 1000:=by unfold hopsE; omega
 exact (same_way hN hL hto ⟨hb,hb2⟩ hd' _ v t a5 hv ht.1 (by omega) .here fun j hj=>a4 j (Nat.zero_le _) hj).symm
theorem roundTK_head {C:Cfg} {tab:Tab} {f:FuncId} {b:Code} {k:Nat} {s:LSig} {j:D} {n:Int} {r:List D} (h:j.I = n) (hs:2 ≤ s.head.length):roundTK C tab f b k s (j :: r) = roundTK C tab f b k s (.i n :: r):=by
 obtain ⟨live,head,exits⟩:=s
 match head,hs with
 | a :: b :: c,_=>simp only [roundTK,roundTG,headL,headA,List.headD_cons,List.tail_cons,I_i,h]
theorem headA_head {hs:List Shp} {j:D} {n:Int} (r:List D) (h:j.I = n) (hl:2 ≤ hs.length):headA hs (j :: r) = headA hs (.i n :: r):=by
 match hs,hl with
 | a :: b :: c,_=>simp only [headA,List.headD_cons,List.tail_cons,I_i,h]
noncomputable def sp37:SpL:=[(38,mkF s38 G38),(83,mkF s83 G83),(84,mkF s84 G84),(86,mkF s86 G86),(87,mkF s87 G87)]
noncomputable def lp37:LpL:=[(8,mkL l37_8 G37_8),(11,mkL l37_11 G37_11),(14,mkL l37_14 G37_14)]
noncomputable def sw37:SwL:=[]
noncomputable def tab37:Tab:=mkTab sp37 lp37 sw37
set_option linter.unusedVariables false
set_option maxRecDepth 100000
theorem t37_8 (a b c d e f g:D):roundT C tab37 37 (loopOf C.P 37 8) l37_8 [a,b,c,d,e,f,g] =
 T.need (yes (netB d.I e.L = true ∧ ((0:Int) ≤ f.I ∧ f.I < d.I) ∧ ((0:Int) ≤ g.I ∧ g.I ≤ (1099511627776:Int)) ∧ ((0:Int) ≤ a.I ∧ a.I < d.I) ∧ (0:Int) ≤ c.I ∧ c.I ≤ (1000:Int))) (T.ite (rg (exactF d.I e.L c.I.toNat (startE d.I f.I g.I)) a.I.toNat != b.I) (T.leaf (Rd.again [D.i a.I,D.i b.I,D.i (IntKind.i64.wrap (c.I + (1:Int))),D.i d.I,D.l e.L,D.i f.I,D.i g.I])) (T.leaf (Rd.out (Ex.exit 0) [D.i a.I,D.i b.I,D.i c.I,D.i d.I,D.l e.L,D.i f.I,D.i g.I]))):=by kernel_rfl
theorem t37_11_0 (a b c d e f g:D):roundT C tab37 37 (loopOf C.P 37 11) l37_11 [.i 0,a,b,c,d,e,f,g] =
 T.ite (decide (c.I > (0:Int))) (T.need (yes ((↑0:Int) = (0:Int) ∧ okWay d.I (IntKind.i64.wrap (c.I - (1:Int)) + (1:Int)) f.I g.I a.I e.L ∧ (0:Int) ≤ IntKind.i64.wrap (c.I - (1:Int)) ∧ e.L = e.L ∧ (e.L.length:Int) = (e.L.length:Int) ∧ (0:Int) ≤ (0:Int) ∧ (0:Int) ≤ (e.L.length:Int))) (T.ite (pickB e.L (qE d.I e.L a.I b.I) (Int.toNat (IntKind.i64.wrap (c.I - (1:Int)))) f.I g.I (Int.toNat (0:Int)) (e.L.length - Int.toNat (0:Int))) (T.leaf (Rd.again [D.i 1,D.i a.I,D.i b.I,D.i (IntKind.i64.wrap (c.I - (1:Int))),D.i 1,D.i d.I,D.l e.L,D.i (toR e.L (pickI e.L (qE d.I e.L a.I b.I) (Int.toNat (IntKind.i64.wrap (c.I - (1:Int)))) f.I g.I (Int.toNat (0:Int)) (e.L.length - Int.toNat (0:Int)))),D.i (tmR e.L (pickI e.L (qE d.I e.L a.I b.I) (Int.toNat (IntKind.i64.wrap (c.I - (1:Int)))) f.I g.I (Int.toNat (0:Int)) (e.L.length - Int.toNat (0:Int))) g.I),D.l [[D.i (↑(pickI e.L (qE d.I e.L a.I b.I) (Int.toNat (IntKind.i64.wrap (c.I - (1:Int)))) f.I g.I (Int.toNat (0:Int)) (e.L.length - Int.toNat (0:Int))):Int),D.i (entW (List.getD e.L (pickI e.L (qE d.I e.L a.I b.I) (Int.toNat (IntKind.i64.wrap (c.I - (1:Int)))) f.I g.I (Int.toNat (0:Int)) (e.L.length - Int.toNat (0:Int))) []) g.I)]]])) (T.leaf (Rd.again [D.i 0,D.i a.I,D.i b.I,D.i (IntKind.i64.wrap (c.I - (1:Int))),D.i d.I,D.l e.L,D.i f.I,D.i g.I])))) (T.leaf (Rd.out (Ex.exit 2) [D.i 0,D.i b.I])):=by kernel_rfl
theorem t37_11_1 (a b c d e f g h i:D):roundT C tab37 37 (loopOf C.P 37 11) l37_11 [.i 1,a,b,c,d,e,f,g,h,i] =
 T.ite (decide (c.I > (0:Int))) (T.need (yes ((↑(0 + 1):Int) = (1:Int) ∧ okWay e.I (IntKind.i64.wrap (c.I - (1:Int)) + (1:Int)) g.I h.I a.I f.L ∧ (0:Int) ≤ IntKind.i64.wrap (c.I - (1:Int)) ∧ f.L = f.L ∧ (f.L.length:Int) = (f.L.length:Int) ∧ ((0:Int) ≤ (0:Int) ∧ (0:Int) ≤ (f.L.length:Int)) ∧ (d.I.toNat:Int) = (i.L.length:Int) ∧ (d.I.toNat:Int) ≤ (1000:Int))) (T.ite (pickB f.L (qE e.I f.L a.I b.I) (Int.toNat (IntKind.i64.wrap (c.I - (1:Int)))) g.I h.I (Int.toNat (0:Int)) (f.L.length - Int.toNat (0:Int))) (T.leaf (Rd.again [D.i 1,D.i a.I,D.i b.I,D.i (IntKind.i64.wrap (c.I - (1:Int))),D.i (↑(Int.toNat (↑(i.L.length + 1):Int)):Int),D.i e.I,D.l f.L,D.i (toR f.L (pickI f.L (qE e.I f.L a.I b.I) (Int.toNat (IntKind.i64.wrap (c.I - (1:Int)))) g.I h.I (Int.toNat (0:Int)) (f.L.length - Int.toNat (0:Int)))),D.i (tmR f.L (pickI f.L (qE e.I f.L a.I b.I) (Int.toNat (IntKind.i64.wrap (c.I - (1:Int)))) g.I h.I (Int.toNat (0:Int)) (f.L.length - Int.toNat (0:Int))) h.I),D.l (i.L ++ [hopR f.L (pickI f.L (qE e.I f.L a.I b.I) (Int.toNat (IntKind.i64.wrap (c.I - (1:Int)))) g.I h.I (Int.toNat (0:Int)) (f.L.length - Int.toNat (0:Int))) h.I])])) (T.leaf (Rd.again [D.i 1,D.i a.I,D.i b.I,D.i (IntKind.i64.wrap (c.I - (1:Int))),D.i (↑(Int.toNat (i.L.length:Int)):Int),D.i e.I,D.l f.L,D.i g.I,D.i h.I,D.l i.L])))) (T.leaf (Rd.out (Ex.exit 2) [D.i 1,D.i b.I,D.i (d.I.toNat:Int),D.l i.L])):=by kernel_rfl
theorem t37_14_0 (a b c d e f g h i j:D):roundT C tab37 37 (loopOf C.P 37 14) l37_14 [.i 0,a,b,c,d,e,f,g,h,i,j] =
 T.ite (decide (f.I < e.I)) (T.need (decide ((0:Int) ≤ f.I ∧ f.I < (d.L.length:Int))) (T.ite (D.I (List.getD (List.getD d.L f.I.toNat []) 0 default) != i.I) (T.leaf (Rd.again [D.i 0,D.i a.I,D.i b.I,D.i c.I,D.l d.L,D.i e.I,D.i (IntKind.i64.wrap (f.I + (1:Int))),D.i g.I,D.l h.L,D.i i.I,D.i j.I])) (T.need (yes (okT (D.I (List.getD (List.getD d.L f.I.toNat []) (0 + 1 + 1) default)) ∧ okS j.I ∧ okC (D.L (List.getD (List.getD d.L f.I.toNat []) (0 + 1 + 1 + 1) default)))) (T.need (yes (netB g.I h.L = true ∧ ((0:Int) ≤ D.I (List.getD (List.getD d.L f.I.toNat []) (0 + 1) default) ∧ D.I (List.getD (List.getD d.L f.I.toNat []) (0 + 1) default) < g.I) ∧ ((0:Int) ≤ IntKind.i64.wrap (entF (D.L (List.getD (List.getD d.L f.I.toNat []) (0 + 1 + 1 + 1) default)) (D.I (List.getD (List.getD d.L f.I.toNat []) (0 + 1 + 1) default)) 0 (List.length (D.L (List.getD (List.getD d.L f.I.toNat []) (0 + 1 + 1 + 1) default))) j.I + D.I (List.getD (List.getD d.L f.I.toNat []) (0 + 1 + 1) default)) ∧ IntKind.i64.wrap (entF (D.L (List.getD (List.getD d.L f.I.toNat []) (0 + 1 + 1 + 1) default)) (D.I (List.getD (List.getD d.L f.I.toNat []) (0 + 1 + 1) default)) 0 (List.length (D.L (List.getD (List.getD d.L f.I.toNat []) (0 + 1 + 1 + 1) default))) j.I + D.I (List.getD (List.getD d.L f.I.toNat []) (0 + 1 + 1) default)) ≤ (1099511627776:Int)) ∧ ((0:Int) ≤ a.I ∧ a.I < g.I) ∧ (0:Int) ≤ c.I ∧ c.I ≤ (1000:Int))) (T.ite (rg (exactF g.I h.L c.I.toNat (startE g.I (D.I (List.getD (List.getD d.L f.I.toNat []) (0 + 1) default)) (IntKind.i64.wrap (entF (D.L (List.getD (List.getD d.L f.I.toNat []) (0 + 1 + 1 + 1) default)) (D.I (List.getD (List.getD d.L f.I.toNat []) (0 + 1 + 1) default)) 0 (List.length (D.L (List.getD (List.getD d.L f.I.toNat []) (0 + 1 + 1 + 1) default))) j.I + D.I (List.getD (List.getD d.L f.I.toNat []) (0 + 1 + 1) default))))) a.I.toNat == b.I) (T.need true (T.ite false T.fail (T.need true (T.leaf (Rd.out (Ex.exit 3) [D.i a.I,D.i b.I,D.i c.I,D.i 1,D.i g.I,D.l h.L,D.i (D.I (List.getD (List.getD d.L f.I.toNat []) (0 + 1) default)),D.i (IntKind.i64.wrap (entF (D.L (List.getD (List.getD d.L f.I.toNat []) (0 + 1 + 1 + 1) default)) (D.I (List.getD (List.getD d.L f.I.toNat []) (0 + 1 + 1) default)) 0 (List.length (D.L (List.getD (List.getD d.L f.I.toNat []) (0 + 1 + 1 + 1) default))) j.I + D.I (List.getD (List.getD d.L f.I.toNat []) (0 + 1 + 1) default))),D.l [[D.i f.I,D.i (entF (D.L (List.getD (List.getD d.L f.I.toNat []) (0 + 1 + 1 + 1) default)) (D.I (List.getD (List.getD d.L f.I.toNat []) (0 + 1 + 1) default)) 0 (List.length (D.L (List.getD (List.getD d.L f.I.toNat []) (0 + 1 + 1 + 1) default))) j.I)]]]))))) (T.leaf (Rd.again [D.i 0,D.i a.I,D.i b.I,D.i c.I,D.l d.L,D.i e.I,D.i (IntKind.i64.wrap (f.I + (1:Int))),D.i g.I,D.l h.L,D.i i.I,D.i j.I]))))))) (T.leaf (Rd.out (Ex.exit 4) [D.i 0,D.i a.I,D.i b.I,D.i c.I,D.i g.I,D.l h.L,D.i i.I,D.i j.I])):=by kernel_rfl
theorem t37_14_1 (a b c d e f g h i j k l:D):roundT C tab37 37 (loopOf C.P 37 14) l37_14 [.i 1,a,b,c,d,e,f,g,h,i,j,k,l] =
 T.ite (decide (g.I < f.I)) (T.need (decide ((0:Int) ≤ g.I ∧ g.I < (e.L.length:Int))) (T.ite (D.I (List.getD (List.getD e.L g.I.toNat []) 0 default) != j.I) (T.leaf (Rd.again [D.i 1,D.i a.I,D.i b.I,D.i c.I,D.i (d.I.toNat:Int),D.l e.L,D.i f.I,D.i (IntKind.i64.wrap (g.I + (1:Int))),D.i h.I,D.l i.L,D.i j.I,D.i k.I,D.l l.L])) (T.need (yes (okT (D.I (List.getD (List.getD e.L g.I.toNat []) (0 + 1 + 1) default)) ∧ okS k.I ∧ okC (D.L (List.getD (List.getD e.L g.I.toNat []) (0 + 1 + 1 + 1) default)))) (T.need (yes (netB h.I i.L = true ∧ ((0:Int) ≤ D.I (List.getD (List.getD e.L g.I.toNat []) (0 + 1) default) ∧ D.I (List.getD (List.getD e.L g.I.toNat []) (0 + 1) default) < h.I) ∧ ((0:Int) ≤ IntKind.i64.wrap (entF (D.L (List.getD (List.getD e.L g.I.toNat []) (0 + 1 + 1 + 1) default)) (D.I (List.getD (List.getD e.L g.I.toNat []) (0 + 1 + 1) default)) 0 (List.length (D.L (List.getD (List.getD e.L g.I.toNat []) (0 + 1 + 1 + 1) default))) k.I + D.I (List.getD (List.getD e.L g.I.toNat []) (0 + 1 + 1) default)) ∧ IntKind.i64.wrap (entF (D.L (List.getD (List.getD e.L g.I.toNat []) (0 + 1 + 1 + 1) default)) (D.I (List.getD (List.getD e.L g.I.toNat []) (0 + 1 + 1) default)) 0 (List.length (D.L (List.getD (List.getD e.L g.I.toNat []) (0 + 1 + 1 + 1) default))) k.I + D.I (List.getD (List.getD e.L g.I.toNat []) (0 + 1 + 1) default)) ≤ (1099511627776:Int)) ∧ ((0:Int) ≤ a.I ∧ a.I < h.I) ∧ (0:Int) ≤ c.I ∧ c.I ≤ (1000:Int))) (T.ite (rg (exactF h.I i.L c.I.toNat (startE h.I (D.I (List.getD (List.getD e.L g.I.toNat []) (0 + 1) default)) (IntKind.i64.wrap (entF (D.L (List.getD (List.getD e.L g.I.toNat []) (0 + 1 + 1 + 1) default)) (D.I (List.getD (List.getD e.L g.I.toNat []) (0 + 1 + 1) default)) 0 (List.length (D.L (List.getD (List.getD e.L g.I.toNat []) (0 + 1 + 1 + 1) default))) k.I + D.I (List.getD (List.getD e.L g.I.toNat []) (0 + 1 + 1) default))))) a.I.toNat == b.I) (T.need true (T.ite false (T.leaf (Rd.out (Ex.exit 3) [D.i a.I,D.i b.I,D.i c.I,D.i (d.I.toNat:Int),D.i h.I,D.l i.L,D.i (D.I (List.getD (List.getD e.L g.I.toNat []) (0 + 1) default)),D.i (IntKind.i64.wrap (entF (D.L (List.getD (List.getD e.L g.I.toNat []) (0 + 1 + 1 + 1) default)) (D.I (List.getD (List.getD e.L g.I.toNat []) (0 + 1 + 1) default)) 0 (List.length (D.L (List.getD (List.getD e.L g.I.toNat []) (0 + 1 + 1 + 1) default))) k.I + D.I (List.getD (List.getD e.L g.I.toNat []) (0 + 1 + 1) default))),D.l l.L])) (T.need (decide (d.I.toNat ≤ l.L.length ∧ d.I.toNat + List.length (List.take (List.length [[D.i g.I,D.i (entF (D.L (List.getD (List.getD e.L g.I.toNat []) (0 + 1 + 1 + 1) default)) (D.I (List.getD (List.getD e.L g.I.toNat []) (0 + 1 + 1) default)) 0 (List.length (D.L (List.getD (List.getD e.L g.I.toNat []) (0 + 1 + 1 + 1) default))) k.I)]]) [[D.i g.I,D.i (entF (D.L (List.getD (List.getD e.L g.I.toNat []) (0 + 1 + 1 + 1) default)) (D.I (List.getD (List.getD e.L g.I.toNat []) (0 + 1 + 1) default)) 0 (List.length (D.L (List.getD (List.getD e.L g.I.toNat []) (0 + 1 + 1 + 1) default))) k.I)]]) ≤ 2 ^ 62 ∧ (d.I.toNat + List.length (List.take (List.length [[D.i g.I,D.i (entF (D.L (List.getD (List.getD e.L g.I.toNat []) (0 + 1 + 1 + 1) default)) (D.I (List.getD (List.getD e.L g.I.toNat []) (0 + 1 + 1) default)) 0 (List.length (D.L (List.getD (List.getD e.L g.I.toNat []) (0 + 1 + 1 + 1) default))) k.I)]]) [[D.i g.I,D.i (entF (D.L (List.getD (List.getD e.L g.I.toNat []) (0 + 1 + 1 + 1) default)) (D.I (List.getD (List.getD e.L g.I.toNat []) (0 + 1 + 1) default)) 0 (List.length (D.L (List.getD (List.getD e.L g.I.toNat []) (0 + 1 + 1 + 1) default))) k.I)]])) * Try.prog.types[95].bytes ≤ 2 ^ 47)) (T.leaf (Rd.out (Ex.exit 3) [D.i a.I,D.i b.I,D.i c.I,D.i (↑(d.I.toNat + List.length (List.take (List.length [[D.i g.I,D.i (entF (D.L (List.getD (List.getD e.L g.I.toNat []) (0 + 1 + 1 + 1) default)) (D.I (List.getD (List.getD e.L g.I.toNat []) (0 + 1 + 1) default)) 0 (List.length (D.L (List.getD (List.getD e.L g.I.toNat []) (0 + 1 + 1 + 1) default))) k.I)]]) [[D.i g.I,D.i (entF (D.L (List.getD (List.getD e.L g.I.toNat []) (0 + 1 + 1 + 1) default)) (D.I (List.getD (List.getD e.L g.I.toNat []) (0 + 1 + 1) default)) 0 (List.length (D.L (List.getD (List.getD e.L g.I.toNat []) (0 + 1 + 1 + 1) default))) k.I)]])):Int),D.i h.I,D.l i.L,D.i (D.I (List.getD (List.getD e.L g.I.toNat []) (0 + 1) default)),D.i (IntKind.i64.wrap (entF (D.L (List.getD (List.getD e.L g.I.toNat []) (0 + 1 + 1 + 1) default)) (D.I (List.getD (List.getD e.L g.I.toNat []) (0 + 1 + 1) default)) 0 (List.length (D.L (List.getD (List.getD e.L g.I.toNat []) (0 + 1 + 1 + 1) default))) k.I + D.I (List.getD (List.getD e.L g.I.toNat []) (0 + 1 + 1) default))),D.l (List.take d.I.toNat l.L ++ List.take (List.length [[D.i g.I,D.i (entF (D.L (List.getD (List.getD e.L g.I.toNat []) (0 + 1 + 1 + 1) default)) (D.I (List.getD (List.getD e.L g.I.toNat []) (0 + 1 + 1) default)) 0 (List.length (D.L (List.getD (List.getD e.L g.I.toNat []) (0 + 1 + 1 + 1) default))) k.I)]]) [[D.i g.I,D.i (entF (D.L (List.getD (List.getD e.L g.I.toNat []) (0 + 1 + 1 + 1) default)) (D.I (List.getD (List.getD e.L g.I.toNat []) (0 + 1 + 1) default)) 0 (List.length (D.L (List.getD (List.getD e.L g.I.toNat []) (0 + 1 + 1 + 1) default))) k.I)]])]))))) (T.leaf (Rd.again [D.i 1,D.i a.I,D.i b.I,D.i c.I,D.i (d.I.toNat:Int),D.l e.L,D.i f.I,D.i (IntKind.i64.wrap (g.I + (1:Int))),D.i h.I,D.l i.L,D.i j.I,D.i k.I,D.l l.L]))))))) (T.leaf (Rd.out (Ex.exit 4) [D.i 1,D.i a.I,D.i b.I,D.i c.I,D.i (d.I.toNat:Int),D.i h.I,D.l i.L,D.i j.I,D.i k.I,D.l l.L])):=by kernel_rfl
set_option linter.unusedVariables false
set_option maxRecDepth 100000
theorem t37 (a b c d e:D):fnT C tab37 37 s37 [a,b,c,d,e] =
 T.ite ((if netB a.I b.L = true then (0:Int) else (2:Int)) != (0:Int)) (T.leaf [D.l [],D.i 0,D.i 2]) (T.ite (!within c.I (0:Int) (IntKind.i64.wrap (a.I - (1:Int)))) (T.leaf [D.l [],D.i 0,D.i 2]) (T.ite (!within e.I (0:Int) (IntKind.i64.wrap (a.I - (1:Int)))) (T.leaf [D.l [],D.i 0,D.i 2]) (T.ite (!within d.I (0:Int) (100000:Int)) (T.leaf [D.l [],D.i 0,D.i 2]) (T.need (yes ((0:Int) ≤ a.I ∧ a.I < (1099511627776:Int) ∧ (0:Int) ≤ c.I ∧ c.I < a.I ∧ haltS a.I.toNat b.L (startS a.I c.I d.I))) (T.need (decide ((0:Int) ≤ e.I ∧ e.I < (a.I.toNat:Int))) (T.need (decide (e.I.toNat < List.length (arrF a.I b.L c.I d.I))) (T.ite (decide (D.I (List.getD (List.getD (arrF a.I b.L c.I d.I) e.I.toNat []) 0 default) < (0:Int))) (T.leaf [D.l [],D.i 0,D.i 5]) (T.need (yes (netB a.I b.L = true ∧ ((0:Int) ≤ (0:Int) ∧ (0:Int) ≤ (1000:Int)) ∧ ((0:Int) ≤ c.I ∧ c.I < a.I) ∧ ((0:Int) ≤ d.I ∧ d.I ≤ (100000:Int)) ∧ ((0:Int) ≤ e.I ∧ e.I < a.I) ∧ comesE a.I b.L c.I d.I e.I (D.I (List.getD (List.getD (arrF a.I b.L c.I d.I) e.I.toNat []) 0 default)) (Int.toNat (0:Int)))) (T.need (yes ((↑0:Int) = (0:Int) ∧ okWay a.I (↑(hopsE a.I b.L c.I d.I e.I (D.I (List.getD (List.getD (arrF a.I b.L c.I d.I) e.I.toNat []) 0 default)) (Int.toNat (0:Int))):Int) c.I d.I e.I b.L)) (T.ite (List.isEmpty (wayE a.I b.L e.I (D.I (List.getD (List.getD (arrF a.I b.L c.I d.I) e.I.toNat []) 0 default)) (Int.toNat (↑(hopsE a.I b.L c.I d.I e.I (D.I (List.getD (List.getD (arrF a.I b.L c.I d.I) e.I.toNat []) 0 default)) (Int.toNat (0:Int))):Int)) c.I d.I)) (T.leaf [D.l [],D.i (D.I (List.getD (List.getD (arrF a.I b.L c.I d.I) e.I.toNat []) 0 default)),D.i 0]) (T.need (decide (Int.toNat (↑(List.length (wayE a.I b.L e.I (D.I (List.getD (List.getD (arrF a.I b.L c.I d.I) e.I.toNat []) 0 default)) (Int.toNat (↑(hopsE a.I b.L c.I d.I e.I (D.I (List.getD (List.getD (arrF a.I b.L c.I d.I) e.I.toNat []) 0 default)) (Int.toNat (0:Int))):Int)) c.I d.I)):Int) ≤ List.length (wayE a.I b.L e.I (D.I (List.getD (List.getD (arrF a.I b.L c.I d.I) e.I.toNat []) 0 default)) (Int.toNat (↑(hopsE a.I b.L c.I d.I e.I (D.I (List.getD (List.getD (arrF a.I b.L c.I d.I) e.I.toNat []) 0 default)) (Int.toNat (0:Int))):Int)) c.I d.I))) (T.leaf [D.l (List.take (Int.toNat (↑(List.length (wayE a.I b.L e.I (D.I (List.getD (List.getD (arrF a.I b.L c.I d.I) e.I.toNat []) 0 default)) (Int.toNat (↑(hopsE a.I b.L c.I d.I e.I (D.I (List.getD (List.getD (arrF a.I b.L c.I d.I) e.I.toNat []) 0 default)) (Int.toNat (0:Int))):Int)) c.I d.I)):Int)) (wayE a.I b.L e.I (D.I (List.getD (List.getD (arrF a.I b.L c.I d.I) e.I.toNat []) 0 default)) (Int.toNat (↑(hopsE a.I b.L c.I d.I e.I (D.I (List.getD (List.getD (arrF a.I b.L c.I d.I) e.I.toNat []) 0 default)) (Int.toNat (0:Int))):Int)) c.I d.I)),D.i (D.I (List.getD (List.getD (arrF a.I b.L c.I d.I) e.I.toNat []) 0 default)),D.i 0])))))))))))):=by kernel_rfl
set_option maxRecDepth 100000
section
variable {n:Int} {r:List (List D)} {q:Nat → Int → Int → Bool} {l:Nat} {v t to best left:Int} {i:Nat}
theorem pick_hit (hi:i < r.length) (hv:ix (r.getD i []) 0 = v) (hq:q l (toR r i) (tmR r i t) = true):pickB r q l v t i (r.length - i) = true ∧ pickI r q l v t i (r.length - i) = i:=by
 have h:pickF r q l v t i (r.length - i) = some i:=by
  rw [show r.length - i = (r.length - (i + 1)) + 1 by omega]
  unfold pickF
  simp only [roadF]
  rw [if_pos]
  rw [Bool.and_eq_true,decide_eq_true_iff]
  exact ⟨hv,hq⟩
 unfold pickB pickI
 rw [h]
 exact ⟨rfl,rfl⟩
theorem pick_miss (hi:i < r.length) (h:ix (r.getD i []) 0 = v → q l (toR r i) (tmR r i t) = false):pickB r q l v t i (r.length - i) = pickB r q l v t (i + 1) (r.length - (i + 1)) ∧ pickI r q l v t i (r.length - i) = pickI r q l v t (i + 1) (r.length - (i + 1)):=by
 have h:pickF r q l v t i (r.length - i) = pickF r q l v t (i + 1) (r.length - (i + 1)):=by
  rw [show r.length - i = (r.length - (i + 1)) + 1 by omega]
  unfold pickF
  simp only [roadF]
  rw [if_neg]
  rw [Bool.and_eq_true,decide_eq_true_iff]
  rintro ⟨h1,h2⟩
  have h3:=h h1
  unfold toR tmR at h3
  rw [h3] at h2
  cases h2
 unfold pickB pickI
 rw [h]
 exact ⟨rfl,rfl⟩
theorem pick_some {m:Nat} (h:pickB r q l v t 0 m = true):pickI r q l v t 0 m < m ∧ pickF r q l v t 0 m = some (pickI r q l v t 0 m):=by
 unfold pickB at h
 unfold pickI
 obtain ⟨x,hx⟩:=Option.isSome_iff_exists.1 h
 rw [hx]
 have:=road_some _ _ hx
 exact ⟨by simp only [Option.getD_some]; omega,rfl⟩
theorem way_step (h:pickB r q l v t 0 r.length = true):wayF r q (l + 1) v t = hopR r (pickI r q l v t 0 r.length) t :: wayF r q l (toR r (pickI r q l v t 0 r.length)) (tmR r (pickI r q l v t 0 r.length) t):=by
 obtain ⟨-,h2⟩:=pick_some h
 unfold pickF at h2
 simp only [wayF]
 rw [h2]
 rfl
theorem way_none (h:pickB r q l v t 0 r.length = false):wayF r q (l + 1) v t = wayF r q l v t:=by
 unfold pickB pickF at h
 simp only [wayF]
 split
 ·rfl
 ·rename_i i hi
  rw [hi] at h
  cases h
theorem okWay_next (h:okWay n (left + 1) v t to r) (hl:0 ≤ left) (hi:i < r.length):okWay n left (toR r i) (tmR r i t) to r:=by
 obtain ⟨hN,h1,h2,h3,h4⟩:=h
 have hR:=(net_parts hN).2.2 i hi
 have e1:=(road_parts hR).2.1
 have e2:=(road_parts hR).2.2.1
 have e3:=(entW_parts hR).1 t
 have e4:=(entW_parts hR).2.1 t
 refine ⟨hN,by omega,e1,?_,h4⟩
 unfold tmR
 omega
theorem okWay_less (h:okWay n (left + 1) v t to r) (hl:0 ≤ left):okWay n left v t to r:=by
 obtain ⟨hN,h1,h2,h3,h4⟩:=h
 exact ⟨hN,by omega,h2,by omega,h4⟩
end
section
variable {p:Nat → Bool} {k:Nat}
theorem seek_go (h:∃ l,k ≤ l ∧ l ≤ 1000 ∧ p l = true):(p k = true → seekF p (1000 - k) k = k) ∧ (p k = false → k < 1000 ∧ (∃ l,k + 1 ≤ l ∧ l ≤ 1000 ∧ p l = true) ∧ seekF p (1000 - k) k = seekF p (1000 - (k + 1)) (k + 1)):=by
 obtain ⟨l,h1,h2,h3⟩:=h
 refine ⟨fun hp=>?_,fun hp=>?_⟩
 ·match hm:1000 - k with
  | 0=>rfl
  | m + 1=>simp only [seekF,hp,if_true]
 ·have:l ≠ k:=fun e=>by rw [e,hp] at h3; cases h3
  refine ⟨by omega,⟨l,by omega,h2,h3⟩,?_⟩
  rw [show 1000 - k = (1000 - (k + 1)) + 1 by omega]
  simp only [seekF,hp,Bool.false_eq_true,if_false]
end
theorem tm_wrap {n:Int} {r:List (List D)} {i:Nat} {t:Int} (hN:netB n r = true) (hi:i < r.length) (ht:0 ≤ t ∧ t ≤ 10100000) :
    IntKind.i64.wrap (entF (lx (r.getD i []) 3) (ix (r.getD i []) 2) 0 (lx (r.getD i []) 3).length t + ix (r.getD i []) 2) = tmR r i t ∧ t < tmR r i t ∧ tmR r i t ≤ 10120000:=by
 have hR:=(net_parts hN).2.2 i hi
 have e2:=(road_parts hR).2.2.1
 have e3:=(entW_parts hR).1 t
 have e4:=(entW_parts hR).2.1 t
 unfold tmR
 unfold entW at e3 e4 ⊢
 exact ⟨wrap_id (by omega) (by omega),by omega,by omega⟩
theorem ok37_8 (n:Nat):LoopSim C (n + 6) 37 (loopOf C.P 37 8) (mkL l37_8 G37_8):=by
 refine loop_ofK hC (sp:=sp37) (lp:=lp37) (sw:=sw37) ⟨ok38 (n + 4),ok83 (n + 5),ok84 n,ok86 (n + 4),ok87 (n + 5),trivial⟩ trivial 0 [] (by kernel_rfl) rfl (fun k hk=>by cases hk) (by kernel_rfl) (fun ds=>(1000 - (ds.getD 2 default).I).toNat) fun ds rr h=>?_
 unfold G37_8 at h
 split at h
 ·rename_i to best left m r v t
  obtain ⟨hp,h⟩:=need_some h
  rw [yes_iff] at hp
  obtain ⟨hN,hl,hv,ht,hto,hc⟩:=hp
  refine ⟨by rw [fuelC]; simp; omega,?_⟩
  rw [show roundTK C (mkTab sp37 lp37 sw37) 37 (loopOf C.P 37 8) 0 l37_8 [to,best,left,m,r,v,t] = _ from t37_8 to best left m r v t]
  obtain ⟨k,hk⟩:∃ k:Nat,left.I = k:=⟨left.I.toNat,by omega⟩
  simp only [hk,Int.toNat_natCast] at h hc hl ⊢
  obtain ⟨g1,g2⟩:=seek_go (p:=fun l=>qE m.I r.L to.I best.I l v.I t.I) hc
  unfold hopsE at h
  refine rd_yes ⟨hN,hv,by omega,hto,by omega,by omega⟩ (rd_ite (fun c=>?_) fun c=>?_)
  ·obtain ⟨a1,a2,a3⟩:=g2 (by rw [bne_iff_ne] at c; unfold qE; exact beq_false_of_ne c)
   rw [a3] at h
   rw [wrap_succ (by omega)]
   refine rd_again ((need_yes ⟨hN,by simp only [I_i]; omega,hv,ht,hto,by simp only [I_i,Int.toNat_natCast]; exact a2⟩).trans ?_) (show (1000 - ((k + 1:Nat):Int)).toNat < (1000 - left.I).toNat by omega)
   simp only [I_i,L_l,Int.toNat_natCast]
   unfold hopsE
   exact h
  ·have a1:=g1 (by unfold qE; simpa using c)
   rw [a1] at h
   exact rd_out h
 ·cases h
theorem ok37_14 (n:Nat):LoopSim C (n + 6) 37 (loopOf C.P 37 14) (mkL l37_14 G37_14):=by
 refine loop_ofK hC (sp:=sp37) (lp:=lp37) (sw:=sw37) ⟨ok38 (n + 4),ok83 (n + 5),ok84 n,ok86 (n + 4),ok87 (n + 5),trivial⟩ trivial 0 [] (by kernel_rfl) rfl (fun k hk=>by cases hk) (by kernel_rfl) (fun ds=>if (ds.getD 0 default).I = 0 then ((ds.getD 5 default).I - (ds.getD 6 default).I).toNat else ((ds.getD 6 default).I - (ds.getD 7 default).I).toNat) fun ds rr h=>?_
 unfold G37_14 at h
 split at h
 ·rename_i j to best left r' q i m r v t
  obtain ⟨hp,h⟩:=need_some h
  rw [yes_iff] at hp
  obtain ⟨hj,hW,hl0,hr,hq,hi0,hi1⟩:=hp
  have hW':=hW
  obtain ⟨hN,hl,hv,ht,hto⟩:=hW'
  obtain ⟨p1,p2,p3⟩:=net_parts hN
  refine ⟨by rw [fuelC]; simp [hj]; omega,?_⟩
  rw [roundTK_head (j:=j) (n:=0) hj (by decide),show roundTK C (mkTab sp37 lp37 sw37) 37 (loopOf C.P 37 14) 0 l37_14 [.i 0,to,best,left,r',q,i,m,r,v,t] = _ from t37_14_0 to best left r' q i m r v t]
  obtain ⟨k,hk⟩:∃ k:Nat,i.I = k:=⟨i.I.toNat,by omega⟩
  simp only [hk,hr,hq,Int.toNat_natCast,Nat.reduceAdd,ix_def,lx_def] at h hi1 ⊢
  refine rd_if (fun hlt=>?_) fun hge=>?_
  ·have hkl:k < r.L.length:=by omega
   have hR:=p3 k hkl
   obtain ⟨q1,q2,q3,q4,q5⟩:=road_parts hR
   obtain ⟨o1,o2⟩:=road_okC hR
   obtain ⟨w1,w2,w3⟩:=tm_wrap hN hkl (t:=t.I) (by omega)
   have hmiss:(ix (r.L.getD k []) 0 = v.I → qE m.I r.L to.I best.I left.I.toNat (toR r.L k) (tmR r.L k t.I) = false) → RdOK G37_14 (fun ds=>if (ds.getD 0 default).I = 0 then ((ds.getD 5 default).I - (ds.getD 6 default).I).toNat else ((ds.getD 6 default).I - (ds.getD 7 default).I).toNat) [j,to,best,left,r',q,i,m,r,v,t] rr (T.leaf (Rd.again [.i 0,.i to.I,.i best.I,.i left.I,.l r.L,.i r.L.length,.i ((k + 1:Nat):Int),.i m.I,.l r.L,.i v.I,.i t.I])).run:=fun hm=>by
    obtain ⟨m1,m2⟩:=pick_miss (q:=qE m.I r.L to.I best.I) (l:=left.I.toNat) (v:=v.I) (t:=t.I) hkl hm
    rw [m1,m2] at h
    refine rd_again ((need_yes ⟨rfl,hW,hl0,rfl,rfl,by simp only [I_i]; omega,by simp only [I_i,L_l]; omega⟩).trans h) ?_
    simp only [List.getD_cons_zero,List.getD_cons_succ,I_i,hj,hq,hk,if_true]
    omega
   rw [wrap_succ (by omega),w1]
   refine rd_dec (by omega) (rd_ite (fun c1=>hmiss fun e=>absurd e (by simpa using c1)) fun c1=>?_)
   have c1:ix (r.L.getD k []) 0 = v.I:=by simpa using c1
   refine rd_yes ⟨o1,by unfold okS; omega,o2⟩ (rd_yes ⟨hN,q2,by omega,hto,by omega,by omega⟩ (rd_ite (fun c2=>?_) fun c2=>hmiss fun _=>c2))
   obtain ⟨m1,m2⟩:=pick_hit (q:=qE m.I r.L to.I best.I) (l:=left.I.toNat) (v:=v.I) (t:=t.I) hkl c1 c2
   rw [m1,m2] at h
   exact rd_need rfl (rd_false rfl (rd_need rfl (rd_out h)))
  ·rw [show r.L.length - k = 0 by omega] at h
   exact rd_out h
 ·rename_i j to best left z r' q i m r v t o
  obtain ⟨hp,h⟩:=need_some h
  rw [yes_iff] at hp
  obtain ⟨hj,hW,hl0,hr,hq,hi,hz,hz1⟩:=hp
  have hby:Try.prog.types[95].bytes = 16:=by kernel_rfl
  have hW':=hW
  obtain ⟨hN,hl,hv,ht,hto⟩:=hW'
  obtain ⟨p1,p2,p3⟩:=net_parts hN
  refine ⟨by rw [fuelC]; simp [hj]; omega,?_⟩
  rw [roundTK_head (j:=j) (n:=1) hj (by decide),show roundTK C (mkTab sp37 lp37 sw37) 37 (loopOf C.P 37 14) 0 l37_14 [.i 1,to,best,left,z,r',q,i,m,r,v,t,o] = _ from t37_14_1 to best left z r' q i m r v t o]
  obtain ⟨k,hk⟩:∃ k:Nat,i.I = k:=⟨i.I.toNat,by omega⟩
  simp only [hk,hr,hq,hz,Int.toNat_natCast,Nat.reduceAdd,ix_def,lx_def] at h hi ⊢
  refine rd_if (fun hlt=>?_) fun hge=>?_
  ·have hkl:k < r.L.length:=by omega
   have hR:=p3 k hkl
   obtain ⟨q1,q2,q3,q4,q5⟩:=road_parts hR
   obtain ⟨o1,o2⟩:=road_okC hR
   obtain ⟨w1,w2,w3⟩:=tm_wrap hN hkl (t:=t.I) (by omega)
   have hmiss:(ix (r.L.getD k []) 0 = v.I → qE m.I r.L to.I best.I left.I.toNat (toR r.L k) (tmR r.L k t.I) = false) → RdOK G37_14 (fun ds=>if (ds.getD 0 default).I = 0 then ((ds.getD 5 default).I - (ds.getD 6 default).I).toNat else ((ds.getD 6 default).I - (ds.getD 7 default).I).toNat) [j,to,best,left,z,r',q,i,m,r,v,t,o] rr (T.leaf (Rd.again [.i 1,.i to.I,.i best.I,.i left.I,.i o.L.length,.l r.L,.i r.L.length,.i ((k + 1:Nat):Int),.i m.I,.l r.L,.i v.I,.i t.I,.l o.L])).run:=fun hm=>by
    obtain ⟨m1,m2⟩:=pick_miss (q:=qE m.I r.L to.I best.I) (l:=left.I.toNat) (v:=v.I) (t:=t.I) hkl hm
    rw [m1,m2] at h
    refine rd_again ((need_yes ⟨rfl,hW,hl0,rfl,rfl,by simp only [I_i,L_l]; omega,rfl,by simp only [I_i]; omega⟩).trans h) ?_
    simp only [List.getD_cons_zero,List.getD_cons_succ,I_i,hj,hq,hk]
    rw [if_neg (by omega),if_neg (by omega)]
    omega
   rw [wrap_succ (by omega),w1]
   refine rd_dec (by omega) (rd_ite (fun c1=>hmiss fun e=>absurd e (by simpa using c1)) fun c1=>?_)
   have c1:ix (r.L.getD k []) 0 = v.I:=by simpa using c1
   refine rd_yes ⟨o1,by unfold okS; omega,o2⟩ (rd_yes ⟨hN,q2,by omega,hto,by omega,by omega⟩ (rd_ite (fun c2=>?_) fun c2=>hmiss fun _=>c2))
   obtain ⟨m1,m2⟩:=pick_hit (q:=qE m.I r.L to.I best.I) (l:=left.I.toNat) (v:=v.I) (t:=t.I) hkl c1 c2
   rw [m1,m2] at h
   simp only [List.take_length]
   simp only [List.length_cons,List.length_nil,Nat.zero_add]
   exact rd_need rfl (rd_false rfl (rd_dec (by rw [hby]; omega) (rd_out h)))
  ·rw [show r.L.length - k = 0 by omega] at h
   exact rd_out h
 ·cases h
theorem ok37_11 (n:Nat):LoopSim C (n + 6) 37 (loopOf C.P 37 11) (mkL l37_11 G37_11):=by
 refine loop_ofK hC (sp:=sp37) (lp:=lp37) (sw:=sw37) ⟨ok38 (n + 4),ok83 (n + 5),ok84 n,ok86 (n + 4),ok87 (n + 5),trivial⟩ trivial 0 [14] (by kernel_rfl) (by kernel_rfl) (fun k hk L hL=>by simp at hk; subst hk; cases hL; exact ok37_14 n) (by kernel_rfl) (fun ds=>(ds.getD 3 default).I.toNat) fun ds rr h=>?_
 unfold G37_11 wayE at h
 split at h
 ·rename_i j to best left m r v t
  obtain ⟨hp,h⟩:=need_some h
  rw [yes_iff] at hp
  obtain ⟨hj,hW⟩:=hp
  have hl:=hW.2.1
  refine ⟨by rw [fuelC]; simp; omega,?_⟩
  rw [roundTK_head (j:=j) (n:=0) hj (by decide),show roundTK C (mkTab sp37 lp37 sw37) 37 (loopOf C.P 37 11) 0 l37_11 [.i 0,to,best,left,m,r,v,t] = _ from t37_11_0 to best left m r v t]
  refine rd_if (fun hlt=>?_) fun hge=>?_
  ·obtain ⟨k,hk⟩:∃ k:Nat,left.I = ((k + 1:Nat):Int):=⟨left.I.toNat - 1,by omega⟩
   have hw:IntKind.i64.wrap (left.I - 1) = (k:Int):=by rw [hk,wrap_pred (by omega)]; omega
   have hW1:okWay m.I ((k:Int) + 1) v.I t.I to.I r.L:=by rw [hk] at hW; exact hW
   rw [hw]
   rw [hk] at h
   simp only [Int.toNat_natCast,Int.toNat_zero,Nat.sub_zero] at h ⊢
   refine rd_yes ⟨trivial,hW1,by omega,trivial,trivial,by omega,by omega⟩ (rd_ite (fun c=>?_) fun c=>?_)
   ·rw [way_step c] at h
    refine rd_again ((need_yes ⟨rfl,okWay_next hW1 (show (0:Int) ≤ (k:Int) by omega) (pick_some c).1,rfl,by simp only [I_i]; omega,by simp only [I_i]; omega⟩).trans h) (show ((k:Nat):Int).toNat < left.I.toNat by omega)
   ·rw [way_none c] at h
    exact rd_again ((need_yes ⟨rfl,okWay_less hW1 (show (0:Int) ≤ (k:Int) by omega)⟩).trans h) (show ((k:Nat):Int).toNat < left.I.toNat by omega)
  ·rw [show left.I.toNat = 0 by omega] at h
   exact rd_out h
 ·rename_i j to best left z m r v t o
  obtain ⟨hp,h⟩:=need_some h
  rw [yes_iff] at hp
  obtain ⟨hj,hW,hz,hz1,hz2⟩:=hp
  have hl:=hW.2.1
  refine ⟨by rw [fuelC]; simp; omega,?_⟩
  rw [roundTK_head (j:=j) (n:=1) hj (by decide),show roundTK C (mkTab sp37 lp37 sw37) 37 (loopOf C.P 37 11) 0 l37_11 [.i 1,to,best,left,z,m,r,v,t,o] = _ from t37_11_1 to best left z m r v t o]
  refine rd_if (fun hlt=>?_) fun hge=>?_
  ·obtain ⟨k,hk⟩:∃ k:Nat,left.I = ((k + 1:Nat):Int):=⟨left.I.toNat - 1,by omega⟩
   have hw:IntKind.i64.wrap (left.I - 1) = (k:Int):=by rw [hk,wrap_pred (by omega)]; omega
   have hW1:okWay m.I ((k:Int) + 1) v.I t.I to.I r.L:=by rw [hk] at hW; exact hW
   rw [hw]
   rw [hk] at h
   simp only [hz,Int.toNat_natCast,Int.toNat_zero,Nat.sub_zero] at h ⊢
   refine rd_yes ⟨rfl,hW1,by omega,trivial,trivial,⟨by omega,by omega⟩,trivial,by omega⟩ (rd_ite (fun c=>?_) fun c=>?_)
   ·rw [way_step c] at h
    refine rd_again ((need_yes ⟨rfl,okWay_next hW1 (show (0:Int) ≤ (k:Int) by omega) (pick_some c).1,by simp only [I_i,L_l,List.length_append,List.length_cons,List.length_nil],by simp only [I_i]; omega,by simp only [I_i]; omega⟩).trans ?_) (show ((k:Nat):Int).toNat < left.I.toNat by omega)
    simp only [I_i,L_l,Int.toNat_natCast,List.append_assoc,List.cons_append,List.nil_append]
    exact h
   ·rw [way_none c] at h
    exact rd_again ((need_yes ⟨rfl,okWay_less hW1 (show (0:Int) ≤ (k:Int) by omega),rfl,by simp only [I_i]; omega,by simp only [I_i]; omega⟩).trans h) (show ((k:Nat):Int).toNat < left.I.toNat by omega)
  ·rw [show left.I.toNat = 0 by omega] at h
   simp only [wayF,List.append_nil] at h
   rw [hz]
   exact rd_out h
 ·cases h
theorem node0_iff {n v:Int}:nodeB n v 0 = true ↔ 0 ≤ v ∧ v < n:=by
 unfold nodeB
 rw [decide_eq_true_iff]
 omega
theorem ok37 (n:Nat):FnOK C (n + 7) 37 (mkF s37 G37):=by
 refine fn_ofS hC (sp:=sp37) (lp:=lp37) (sw:=sw37) ⟨ok38 (n + 4),ok83 (n + 5),ok84 n,ok86 (n + 4),ok87 (n + 5),trivial⟩ trivial (by kernel_rfl) [8,11] (by kernel_rfl) (by kernel_rfl) (fun k hk L hL=>by
  simp at hk; rcases hk with rfl | rfl <;> cases hL
  ·exact ok37_8 n
  ·exact ok37_11 n) fun ds r h=>?_
 unfold G37 at h
 split at h
 ·rename_i m r' v t to
  refine (congrArg T.run (t37 m r' v t to)).trans ?_
  rw [← h]
  cases hN:netB m.I r'.L with
  | false=>exact go_true rfl rfl
  | true =>
    obtain ⟨p1,p2,p3⟩:=net_parts hN
    rw [Bool.true_and,wrap_id (by omega) (by omega)]
    refine go_false rfl ?_
    simp only [within_dec]
    have hO:∀ b:Bool,(nodeB m.I v.I t.I && nodeB m.I to.I 0) = b → (nodeB m.I v.I t.I && nodeB m.I to.I 0) = b:=fun _ e=>e
    refine go_not (fun c1=>?_) fun c1=>go_not (fun c2=>?_) fun c2=>go_not (fun c3=>?_) fun c3=>?_
    ·have c1:=of_decide_eq_false c1
     rw [show nodeB m.I v.I t.I = false from decide_eq_false (by omega)]
     rfl
    ·have c2:=of_decide_eq_false c2
     rw [show nodeB m.I to.I 0 = false from decide_eq_false (by omega),Bool.and_false]
     rfl
    ·have c3:=of_decide_eq_false c3
     rw [show nodeB m.I v.I t.I = false from decide_eq_false (by omega)]
     rfl
    ·have c1:=of_decide_eq_true c1
     have c2:=of_decide_eq_true c2
     have c3:=of_decide_eq_true c3
     rw [show nodeB m.I v.I t.I = true from node_iff.2 (by omega),show nodeB m.I to.I 0 = true from node0_iff.2 (by omega)]
     have hh:=(search_ends hN (v:=v.I) (t:=t.I) (by omega) (by omega) (by omega)).1
     obtain ⟨⟨a1,-⟩,-⟩:=arr_ok hN (v:=v.I) (t:=t.I) (by omega) (by omega)
     simp only [Int.toNat_zero,Int.toNat_natCast,rg_def]
     refine go_yes ⟨by omega,by omega,by omega,by omega,hh⟩ (go_dec (by omega) (go_dec (by omega) ?_))
     show T.run _ = (T.ite (decide (bestF m.I r'.L v.I t.I to.I < 0)) _ _).run
     refine go_if (fun c4=>?_) fun c4=>?_
     ·have c4:bestF m.I r'.L v.I t.I to.I < 0:=c4
      rw [decide_eq_true c4]
      rfl
     ·have c4:¬ bestF m.I r'.L v.I t.I to.I < 0:=c4
      rw [decide_eq_false c4]
      obtain ⟨b1,b2,b3,b4,b5⟩:=ways_same hN (v:=v.I) (t:=t.I) (to:=to.I) (by omega) (by omega) (by omega) (by omega)
      refine go_yes ⟨trivial,by omega,by omega,by omega,by omega,b2⟩ (go_yes ⟨trivial,hN,⟨by omega,by exact_mod_cast b5⟩,by omega,⟨by omega,?_⟩,by omega⟩ ?_)
      case refine_2=>
       refine go_ite (fun c5=>?_) fun c5=>go_dec (by omega) ?_
       ·have c5:=List.isEmpty_iff.1 c5
        have e:progW m.I r'.L v.I t.I to.I = []:=c5
        rw [e]
        rfl
       ·rw [List.take_of_length_le (by omega)]
        rfl
      have:(hopsE m.I r'.L v.I t.I to.I (rg (arrF m.I r'.L v.I t.I) to.I.toNat) 0:Int) ≤ 1000:=by exact_mod_cast b5
      omega
 ·cases h
end Go.Proofs.Ytgoedfonmocafaa.Rs
