/-
 What the claim top_punctual rests on,part 8.
-/
import Derived.Test.YtgoedfonmocafaaGreatZQ7
noncomputable section
namespace Go.Proofs.YtgoedfonmocafaaGreat
open Go.Lite
set_option linter.unusedVariables false
set_option maxRecDepth 100000
theorem t18 (a b c:D):xh2 C ye3 18 s18 [a,b,c] =
 T.leaf [D.i a.I,D.i b.I,D.l c.L]:=by kernel_rfl
theorem t44 (q:Nat) (a b c:D) :
 let X1:=(↑(List.length (List.replicate (Int.toNat (c.L.length:Int)) [D.i 0])):Int);xIw C (xvl q) 44 s44 [a,b,c] =
 T.need (decide ((0:Int)<=(c.L.length:Int)/\(c.L.length:Int)=(c.L.length:Int)/\(c.L.length:Int)<=(2:Int) ^ 40/\(↑Tryz.prog.types[3].bytes:Int)*(c.L.length:Int)<=(2:Int) ^ 46)) (T.need (yes (xaw a.I b.I c.L=true/\c.L=c.L/\(c.L.length:Int)=(c.L.length:Int)/\X1=(c.L.length:Int)/\((0:Int)<=(0:Int)/\(0:Int)<=(c.L.length:Int))/\List.replicate (Int.toNat (c.L.length:Int)) [D.i 0]=xcy (xdc c.L) 0 (Int.toNat (0:Int))++xll (c.L.length - Int.toNat (0:Int)))) (T.need (yes (xaw a.I b.I c.L=true/\xqn c.L/\(↑(Int.toNat (↑(Int.toNat X1):Int)):Int)=(c.L.length:Int)/\xdo c.L (xdw c.L)/\List.length ([]:List (List D))<=q)) (T.leaf ([]++List.take (q+1 - List.length ([]:List (List D))) (xk3 c.L (xfm c.L (xdw c.L)) (xdw c.L)))))):=by
 intros
 kernel_rfl
theorem yff (q:Nat) (a b c d e f g h i:D):xjy C (xvl q) 44 (xaa C.P 44 2) 1 xFw [a,b,c,d,e,f,g,h,i] =
 T.ite (decide (e.I<d.I)) (T.need (decide ((0:Int)<=e.I/\e.I<(c.L.length:Int))) (T.ite ((↑(List.length (D.L (List.getD (List.getD c.L e.I.toNat []) (0+1+1+1+1+1+1+1) default))):Int) == (0:Int)) (T.need (decide ((0:Int)<=e.I/\e.I<(b.I.toNat:Int))) (T.need (decide (e.I.toNat<i.L.length)) (T.leaf (Rd.again [D.l a.L,D.i (b.I.toNat:Int),D.l c.L,D.i d.I,D.i (IntKind.i64.wrap (e.I+(1:Int))),D.i f.I,D.i g.I,D.l h.L,D.l (List.set i.L e.I.toNat (xex (List.getD i.L e.I.toNat []) [D.i (-1:Int)] 0 0 (List.length [K.int IntKind.i64])))])))) (T.leaf (Rd.again [D.l a.L,D.i (b.I.toNat:Int),D.l c.L,D.i d.I,D.i (IntKind.i64.wrap (e.I+(1:Int))),D.i f.I,D.i g.I,D.l h.L,D.l i.L])))) (T.leaf (Rd.out (Ex.exit 0) [D.l a.L,D.i (b.I.toNat:Int),D.i f.I,D.i g.I,D.l h.L,D.l i.L])):=by kernel_rfl
theorem yfe (q:Nat) (a b c d e f:D) :
 let X2:=(↑(Int.toNat (↑(Int.toNat (b.I.toNat:Int)):Int)):Int);let X3:=a.L++[[D.i (b.I.toNat:Int)]++[]++([D.l f.L]++[])];let X4:=T.leaf (Rd.out Ex.ret [D.l X3,D.i c.I,D.i d.I,D.l e.L]);let X8:=((b.I.toNat:Int) - (1:Int));let X1:=xa7 e.L (Int.toNat (IntKind.i64.wrap X8+(1:Int))) f.L;let X5:=decide (Int.toNat X1.snd<List.length X1.fst);let X6:=decide ((0:Int)<=X1.snd/\X1.snd<X2);let X7:=List.getD X1.fst (Int.toNat X1.snd) [];xjy C (xvl q) 44 (xaa C.P 44 7) 1 xFv [a,b,c,d,e,f] =
 T.ite (!!a.L.length == (xvl q).q) X4 (T.need (yes (xaw c.I d.I e.L=true/\(b.I.toNat:Int)=(e.L.length:Int)/\xdo e.L f.L/\(-1:Int)<=IntKind.i64.wrap X8/\IntKind.i64.wrap X8<(e.L.length:Int))) (T.ite (decide (X1.snd<(0:Int))) X4 (T.need X6 (T.need X5 (T.need X6 (T.need X5 (T.leaf (Rd.again [D.l X3,D.i X2,D.i c.I,D.i d.I,D.l e.L,D.l (List.set X1.fst (Int.toNat X1.snd) (xex X7 [D.i (IntKind.i64.wrap (D.I (List.getD X7 0 default)+(1:Int)))] 0 0 (List.length [K.int IntKind.i64])))])))))))):=by
 intros
 kernel_rfl
theorem yfd (q:Nat) (a b c d e f g:D) :
 let X1:=(decide ((0:Int)<=c.I/\c.I<(b.I.toNat:Int)));let X2:=T.leaf (Rd.out (Ex.exit 4) [D.l a.L,D.i (b.I.toNat:Int),D.i c.I,D.i d.I,D.i e.I,D.l f.L,D.l g.L]);let X3:=decide (c.I.toNat<g.L.length);let X4:=List.getD g.L c.I.toNat [];let X5:=(IntKind.i64.wrap (c.I - (1:Int)));xjy C (xvl q) 44 (xaa C.P 44 9) 1 xFu [a,b,c,d,e,f,g] =
 T.ite (decide (c.I>=(0:Int))) (T.need X1 (T.need X3 (T.need (decide ((0:Int)<=c.I/\c.I<(f.L.length:Int))) (T.ite (decide (D.I (List.getD X4 0 default)>=IntKind.i64.wrap ((↑(List.length (D.L (List.getD (List.getD f.L c.I.toNat []) (0+1+1+1+1+1+1+1) default))):Int) - (1:Int)))) (T.need X1 (T.need X3 (T.ite (decide (D.I (List.getD X4 0 default) > (0:Int))) (T.need X1 (T.need X3 (T.leaf (Rd.again [D.l a.L,D.i (b.I.toNat:Int),D.i X5,D.i d.I,D.i e.I,D.l f.L,D.l (List.set g.L c.I.toNat (xex X4 [D.i 0] 0 0 (List.length [K.int IntKind.i64])))])))) (T.leaf (Rd.again [D.l a.L,D.i (b.I.toNat:Int),D.i X5,D.i d.I,D.i e.I,D.l f.L,D.l g.L]))))) X2)))) X2:=by
 intros
 kernel_rfl
set_option maxRecDepth 100000
theorem xW0 (n:Nat):(xll n).length=n:=List.length_replicate ..
theorem xSc {w:List (List D)} {k:Nat} (hk:k<w.length) (v:Int) (hv:v=xdc w k):rs (xcy (xdc w) 0 k++xll (w.length - k)) k v=xcy (xdc w) 0 (k+1)++xll (w.length - (k+1)):=by
 rw [show w.length - k=(w.length - (k+1))+1 by omega];exact xT0 _ _ _ _ hv
theorem xSd {w:List (List D)} {k:Nat} (hk:k<w.length) (hv:xdc w k=0):xcy (xdc w) 0 k++xll (w.length - k)=xcy (xdc w) 0 (k+1)++xll (w.length - (k+1)):=by
 have h:=xpo (xdc w) k 0;rw [Nat.zero_add,hv] at h;rw [show w.length - k=(w.length - (k+1))+1 by omega,<- h,xHi,List.append_assoc];rfl
theorem xS3 (w:List (List D)) (k:Nat):xdc w k=if (lx (w.getD k []) 7).length=0 then -1 else 0:=by
 unfold xdc xb8;by_cases h:(lx (w.getD k []) 7).length=0
 ·rw [if_pos h,if_pos (by omega)]
 ·rw [if_neg h,if_neg (by omega)]
theorem xU8 {w:List (List D)} {k:Nat} (h:w.length<=k) (h2:k<=w.length):xcy (xdc w) 0 k++xll (w.length - k)=xdw w:=by
 have:k=w.length:=by omega
 subst this;rw [Nat.sub_self];exact List.append_nil _
theorem yb1 (q n:Nat):xfy C n 1 44 (xaa C.P 44 2) (some y44) q (xr9 1 xFw (xGc q)):=by
 refine xsc hC (sp:=xtu) (lp:=xuf q) (sw:=xtp) (Y:=y44) (xna _ _ _) trivial trivial 1 [] (by kernel_rfl) rfl (by kernel_rfl) (fun k hk=>by cases hk) (by kernel_rfl) (fun ds=>((ds.getD 3 default).I - (ds.getD 4 default).I).toNat) fun ds rr h=>?_
 unfold xGc at h;split at h
 ·rename_i g m w' r i c f w ch;obtain ⟨hp,h⟩:=xab h;rw [xad] at hp;obtain ⟨hp,h0,h1,h4,⟨h2,h3⟩,h5⟩:=hp;have hb:=xdg;obtain ⟨p0,p1,-⟩:=xb1 hp;refine ⟨by rw [xa9];simp;omega,?_⟩;rw [show xjy C (xjj xtu (xuf q) xtp y44 q) 44 (xaa C.P 44 2) 1 xFw [g,m,w',r,i,c,f,w,ch]=_ from yff q g m w' r i c f w ch];obtain ⟨k,hk⟩:∃ k:Nat,i.I=k:=⟨i.I.toNat,by omega⟩;simp only [hk,h0,h1,h4,h5,Int.toNat_natCast,Nat.reduceAdd,xlz,xGk,xzs,xH9] at h h2 h3 ⊢;refine xa2 (fun hlt=>?_) fun hge=>xao ?_
  ·have hkl:k<w.L.length:=by omega
   have hcl:(xcy (xdc w.L) 0 k++xll (w.L.length - k)).length=w.L.length:=by rw [List.length_append,xhl,xW0];omega
   rw [xbd (by omega)];have hmu:((w.L.length:Int) - ((k+1:Nat):Int)).toNat<(r.I - i.I).toNat:=by omega
   have hz:=xS3 w.L k;have go:∀ cc,cc=xcy (xdc w.L) 0 (k+1)++xll (w.L.length - (k+1))->(xGc q [.l g.L,.i (w.L.length:Int),.l w.L,.i (w.L.length:Int),.i ((k+1:Nat):Int),.i c.I,.i f.I,.l w.L,.l cc]).run=some rr:=fun cc hcc=>by
    refine (xam ⟨hp,rfl,rfl,rfl,⟨by simp only [I_i];omega,by simp only [I_i];omega⟩,by simp only [I_i,L_l,Int.toNat_natCast];exact hcc⟩).trans ?_;exact h
   refine xac (by omega) (xcm (fun hc=>xac (by omega) (xac (by omega) (xaj (go _ ?_) hmu))) fun hc=>xaj (go _ ?_) hmu)
   ·have hc0:(lx (w.L.getD k []) 7).length=0:=by have:=eq_of_beq hc;omega
    rw [if_pos hc0] at hz;exact xSc hkl _ hz.symm
   ·have hc0:¬ (lx (w.L.getD k []) 7).length=0:=fun e=>by rw [e] at hc;cases hc
    rw [if_neg hc0] at hz;exact xSd hkl hz
  ·rw [<- h,xU8 (by omega) (by omega)];rfl
 ·cases h
theorem ybz (q n:Nat):xfy C n 1 44 (xaa C.P 44 9) (some y44) q (xr9 1 xFu (xGb q)):=by
 refine xsc hC (sp:=xtu) (lp:=xuf q) (sw:=xtp) (Y:=y44) (xna _ _ _) trivial trivial 1 [] (by kernel_rfl) rfl (by kernel_rfl) (fun k hk=>by cases hk) (by kernel_rfl) (fun ds=>((ds.getD 2 default).I+1).toNat) fun ds rr h=>?_
 unfold xGb at h;split at h
 ·rename_i g m j c f w ch;obtain ⟨hp,h⟩:=xab h;rw [xad] at hp;obtain ⟨hp,h1,hc,h2,h3⟩:=hp;have hb:=xdg;obtain ⟨p0,p1,-⟩:=xb1 hp;refine ⟨by rw [xa9];simp;omega,?_⟩;rw [show xjy C (xjj xtu (xuf q) xtp y44 q) 44 (xaa C.P 44 9) 1 xFu [g,m,j,c,f,w,ch]=_ from yfd q g m j c f w ch];refine xa2 (fun hge=>?_) fun hlt=>xao ?_
  ·obtain ⟨k,hk⟩:∃ k:Nat,j.I=k:=⟨j.I.toNat,by omega⟩;have hkl:k<w.L.length:=by omega
   have hcl:=hc.1.1;have hd:=xk1 hc.1 hkl;have hh:=(xdh (xdt hp hkl).1).2.2.2.2.2.2;have e1:((k:Int)+1).toNat=k+1:=by omega
   have e2:IntKind.i64.wrap (((lx (w.L.getD k []) 7).length:Int) - 1)=xb8 w.L k - 1:=xas (by omega) (by omega);have e3:ix (ch.L.getD k []) 0=rg ch.L k:=rfl;simp only [hk,h1,Int.toNat_natCast,Nat.reduceAdd,xlz,xfh,xGk,xzs,e1,e2,e3,xa7,xH9] at h h2 h3 ⊢;rw [xC9 (by omega)];have hmu:((k:Int) - 1+1).toNat<(j.I+1).toNat:=by omega
   have go:∀ cc,cc=rs ch.L k (xdc w.L k)->rg ch.L k+1>=xb8 w.L k->(xGb q [.l g.L,.i (w.L.length:Int),.i ((k:Int) - 1),.i c.I,.i f.I,.l w.L,.l cc]).run=some rr:=fun cc hcc hge=>by
    subst hcc;refine (xam ⟨hp,rfl,xzo hc hkl (xjx k),by simp only [I_i];omega,by simp only [I_i,L_l];omega⟩).trans ?_;rw [if_pos hge] at h;simp only [I_i,L_l,show ((k:Int) - 1+1).toNat=k by omega];exact h
   refine xac (by omega) (xac (by omega) (xac (by omega) (xa2 (fun hc2=>?_) fun hc2=>xao ?_)))
   ·refine xac (by omega) (xac (by omega) (xa2 (fun hpos=>xac (by omega) (xac (by omega) (xaj (go _ ?_ (by omega)) hmu))) fun hneg=>xaj (go _ ?_ (by omega)) hmu))
    ·have:xdc w.L k=0:=by unfold xdc;rw [if_neg (by omega)]
     rw [this]
    ·have:xdc w.L k=rg ch.L k:=by
      unfold xdc;by_cases hz:xb8 w.L k=0
      ·rw [if_pos hz];omega
      ·rw [if_neg hz];omega
     rw [this,xX7 hc.2]
   ·rw [if_neg (by omega)] at h;exact h
  ·simp only [xH9,h1,Int.toNat_natCast] at h ⊢;have e:j.I = -1:=by omega
   rw [e] at h ⊢;exact h
 ·cases h
theorem yb0 (q n:Nat):xfy C n 1 44 (xaa C.P 44 7) (some y44) q (xr9 1 xFv (xPt q)):=by
 refine xsc hC (sp:=xtu) (lp:=xuf q) (sw:=xtp) (Y:=y44) (xna _ _ _) trivial trivial 1 [9] (by kernel_rfl) (by kernel_rfl) (by kernel_rfl) (fun k hk L hL=>by simp at hk;subst hk;cases hL;exact ybz q n) (by kernel_rfl) (fun ds=>xfm (ds.getD 4 default).L (ds.getD 5 default).L) fun ds rr h=>?_
 unfold xPt at h;split at h
 ·rename_i g m c f w ch;obtain ⟨hp,h⟩:=xab h;rw [xad] at hp;obtain ⟨hp,hf,h1,hc,hg⟩:=hp;have hb:=xdg;obtain ⟨p0,p1,-⟩:=xb1 hp;have hrl:xfm w.L ch.L<=1000000000000:=by unfold xfm;unfold xqn at hf;omega
  refine ⟨by rw [xa9];show xfm w.L ch.L<_;omega,?_⟩;rw [show xjy C (xjj xtu (xuf q) xtp y44 q) 44 (xaa C.P 44 7) 1 xFv [g,m,c,f,w,ch]=_ from yfe q g m c f w ch];have hq:(xvl q).q=q:=rfl;have hcl:=hc.1.1;have e1:IntKind.i64.wrap ((w.L.length:Int) - 1)=(w.L.length:Int) - 1:=xC9 (by omega);have e2:((w.L.length:Int) - 1+1).toNat=w.L.length:=by omega
  rw [xyl hc,hcl,show q+1 - g.L.length=(q - g.L.length)+1 by omega,List.take_succ_cons] at h;simp only [h1,hq,Int.toNat_natCast,e1,e2,xGk,xzs,Bool.not_not] at h ⊢;have hy:[D.i (w.L.length:Int)]++[]++([D.l ch.L]++[])=[D.i (w.L.length:Int),D.l ch.L]:=rfl;simp only [hy];refine xcm (fun c2=>xao ?_) fun c2=>xbe ⟨hp,by trivial,hc,by omega,by omega⟩ (xa2 (fun hn=>xao ?_) fun hn=>?_)
  ·have c2:g.L.length=q:=by simpa using c2
   rw [show q - g.L.length=0 by omega,List.take_zero] at h;exact h
  ·rw [if_pos hn,List.take_nil] at h;exact h
  ·have c2:g.L.length≠q:=by
    have:¬ (g.L.length == q)=true:=by rw [c2];simp
    simpa using this
   obtain ⟨a,b,d,e,e'⟩:=xsx w.L.length (Nat.le_refl _) hc;have al:=a.1.1;have hnn:0<=(xa7 w.L w.L.length ch.L).2:=by omega
   rw [if_neg hn] at h;refine xac (by omega) (xac (by omega) (xac (by omega) (xac (by omega) (xaj ?_ ?_))))
   ·have hdg:=xk1 a.1 (j:=(xa7 w.L w.L.length ch.L).2.toNat) (by omega);have hh:=(xdh (xdt hp (k:=(xa7 w.L w.L.length ch.L).2.toNat) (by omega)).1).2.2.2.2.2.2;have e3:IntKind.i64.wrap (ix ((xa7 w.L w.L.length ch.L).1.getD (xa7 w.L w.L.length ch.L).2.toNat []) 0+1)=rg (xa7 w.L w.L.length ch.L).1 (xa7 w.L w.L.length ch.L).2.toNat+1:=by
     have:xb8 w.L (xa7 w.L w.L.length ch.L).2.toNat<=10:=by unfold xb8;omega
     exact xas (x:=rg (xa7 w.L w.L.length ch.L).1 (xa7 w.L w.L.length ch.L).2.toNat+1) (by omega) (by omega)
    simp only [xfh,e3];refine (xam ⟨hp,hf,rfl,xqv hc hnn,by simp only [L_l,List.length_append,List.length_cons,List.length_nil];omega⟩).trans ?_;simp only [L_l,I_i,List.length_append,List.length_cons,List.length_nil,List.append_assoc,List.cons_append,List.nil_append];rw [show q+1 - (g.L.length+(0+1))=q - g.L.length by omega];exact h
   ·have hdg:=xk1 a.1 (j:=(xa7 w.L w.L.length ch.L).2.toNat) (by omega);have hh:=(xdh (xdt hp (k:=(xa7 w.L w.L.length ch.L).2.toNat) (by omega)).1).2.2.2.2.2.2;have e3:IntKind.i64.wrap (ix ((xa7 w.L w.L.length ch.L).1.getD (xa7 w.L w.L.length ch.L).2.toNat []) 0+1)=rg (xa7 w.L w.L.length ch.L).1 (xa7 w.L w.L.length ch.L).2.toNat+1:=by
     have:xb8 w.L (xa7 w.L w.L.length ch.L).2.toNat<=10:=by unfold xb8;omega
     exact xas (x:=rg (xa7 w.L w.L.length ch.L).1 (xa7 w.L w.L.length ch.L).2.toNat+1) (by omega) (by omega)
    simp only [xfh,e3];show xfm w.L (xlo (xa7 w.L w.L.length ch.L))<xfm w.L ch.L;rw [xDj hc (by omega)];omega
 ·cases h
theorem ygy (n:Nat):xrq C (n+1) 44 y44 (xx8 s44 G44):=by
 refine xLq hC (sp:=xtu) (lp:=xuf) (sw:=xtp) (Y:=y44) (xna _ _ _) trivial trivial (by kernel_rfl) [2,7] (by kernel_rfl) (by kernel_rfl) (by kernel_rfl) (fun q k hk L hL=>by
  simp at hk;rcases hk with rfl | rfl <;> cases hL
  ·exact yb1 q n
  ·exact yb0 q n) fun ds L h q=>?_
 unfold G44 at h;split at h
 ·rename_i c f w;obtain ⟨hp,h⟩:=xab h;rw [xad] at hp;cases h;obtain ⟨hp,hf⟩:=hp;obtain ⟨p0,p1,-⟩:=xb1 hp;have hb:=xdg;refine (congrArg T.run (t44 q c f w)).trans ?_;simp only [Int.toNat_natCast,Int.toNat_zero,Nat.sub_zero,List.length_replicate,xI9,xzu,List.length_nil,List.nil_append];exact xau ⟨by omega,by trivial,by omega,by omega⟩ (xai ⟨hp,by trivial,by trivial,by trivial,by omega,rfl⟩ (xai ⟨hp,hf,by trivial,xmr,by omega⟩ rfl))
 ·cases h
theorem ycr (n:Nat):xeu C (n+1) 18 (xdm s18 G18):=by
 refine xfi hC (sp:=ybf) (lp:=ydp) (sw:=yak) trivial trivial (by kernel_rfl) [] (by kernel_rfl) rfl (fun k hk=>by cases hk) fun ds rr h=>?_
 unfold G18 at h;split at h
 ·rename_i c f w;refine (congrArg T.run (t18 c f w)).trans ?_;exact h
 ·cases h
set_option maxRecDepth 100000
theorem ycj (n:Nat):xb0 C (n+1) 1 20 (xaa C.P 20 3) (xde 1 xvy xP3):=by
 refine xbb hC (sp:=xG4) (lp:=xH3) (sw:=xGs) ⟨yb7 n,xUc n,trivial⟩ trivial 1 [] (by kernel_rfl) rfl (fun k hk=>by cases hk) (by kernel_rfl) (fun ds=>((ds.getD 4 default).I - (ds.getD 5 default).I).toNat) fun ds rr h=>?_
 unfold xP3 at h;split at h
 ·rename_i hd lo m w' q i du c f w lo2 n2 n3 ch;obtain ⟨hp,h⟩:=xab h;rw [xad] at hp;obtain ⟨e0,hp,h1,h2,h3,h4,h5,hdu,h6,h7,h8⟩:=hp;have hb:=xdg;obtain ⟨p0,p1,-⟩:=xb1 hp;refine ⟨by rw [xa9];simp;omega,?_⟩;rw [xar (j:=hd) (n:=0) e0 (by decide),show xal C (xah xG4 xH3 xGs) 20 (xaa C.P 20 3) 1 xvy [.i 0,lo,m,w',q,i,du,c,f,w,lo2,n2,n3,ch]=_ from xXr lo m w' q i du c f w lo2 n2 n3 ch];have h0:0<w.L.length:=by omega
  have c1:=xdh (xdt hp h0).1;have b1:=xCt hp h0;have d1:=hdu.2 1;have dl:=hdu.1;have z1:IntKind.i64.wrap ((0:Int)+1)=1:=by decide
  have z2:Int.toNat 1=1:=rfl;have z3:((w.L.length:Int)+1).toNat=w.L.length+1:=by omega
  have z4:IntKind.i64.wrap (ix (du.L.getD 1 []) 0 - ix (w.L.getD 0 []) 1)=clG w.L (duF du.L) 0:=xas (x:=rg du.L 1 - ix (w.L.getD 0 []) 1) (by omega) (by omega);have z5:IntKind.i64.wrap (ix (du.L.getD 1 []) 0+xc0 c.I (w.L.getD 0 []))=opG c.I w.L (duF du.L) 0:=xas (x:=rg du.L 1+xc0 c.I (w.L.getD 0 [])) (by omega) (by omega);simp only [h1,h2,h3,h4,h5,h6,h7,h8,Int.toNat_natCast,Int.toNat_zero,Nat.add_zero,xfh,Nat.reduceAdd,z1,z2,z3,z4,z5] at h ⊢;refine xgl (by omega) (xac (by omega) (xac (by omega) (xac (by omega) (xdi rfl (xbr rfl (xdi rfl (xac (by omega) (xac (by omega) (xbe ⟨hp,by omega,by omega⟩ (xdi rfl (xbr rfl (xdi rfl (xaj ?_ ?_)))))))))))))
  ·refine (xam ⟨rfl,hp,rfl,by simp only [I_i,L_l];omega,rfl,rfl,⟨by simp only [I_i];omega,by simp only [I_i,L_l];omega⟩,hdu,rfl,by simp only [I_i,L_l];omega,rfl,rfl,rfl,rfl,rfl⟩).trans ?_;rw [<- h];rfl
  ·show ((w.L.length:Int) - 1).toNat<(q.I - i.I).toNat;omega
 ·rename_i hd lo m w' q i du c f w lo2 n2 n4 n5 n3 cl op ch;obtain ⟨hp,h⟩:=xab h;rw [xad] at hp;obtain ⟨e0,hp,h1,h2,h3,h4,h5,hdu,h6,h7,h8,h9,h10,h11,h12⟩:=hp;have hb:=xdg;obtain ⟨p0,p1,-⟩:=xb1 hp;refine ⟨by rw [xa9];simp;omega,?_⟩;rw [xar (j:=hd) (n:=1) e0 (by decide),show xal C (xah xG4 xH3 xGs) 20 (xaa C.P 20 3) 1 xvy [.i 1,lo,m,w',q,i,du,c,f,w,lo2,n2,n4,n5,n3,cl,op,ch]=_ from xXq lo m w' q i du c f w lo2 n2 n4 n5 n3 cl op ch];obtain ⟨k,hk⟩:∃ k:Nat,i.I=k:=⟨i.I.toNat,by omega⟩;have dl:=hdu.1;have z2:Int.toNat 1=1:=rfl;have z3:((w.L.length:Int)+1).toNat=w.L.length+1:=by omega
  have lc:=xhl (clG w.L (duF du.L)) k 0;have lo':=xhl (opG c.I w.L (duF du.L)) k 0;have y1:(xcy (clG w.L (duF du.L)) 0 k).take k=xcy (clG w.L (duF du.L)) 0 k:=List.take_of_length_le (by omega);have y2:(xcy (opG c.I w.L (duF du.L)) 0 k).take k=xcy (opG c.I w.L (duF du.L)) 0 k:=List.take_of_length_le (by omega);have t1:∀ y:List D,List.take 1 [y]=[y]:=fun _=>rfl
  have b3:Tryz.prog.types[3].bytes=8:=by kernel_rfl
  simp only [hk,h1,h2,h3,h4,h6,h7,h8,h9,h10,h11,h12,Int.toNat_natCast,xfh,z2,z3,lc,lo',y1,y2,List.length_cons,List.length_nil,Nat.zero_add,t1,b3] at h h5 ⊢;refine xa2 (fun hlt=>?_) fun hge=>xao ?_
  ·have hkl:k<w.L.length:=by omega
   have c1:=xdh (xdt hp hkl).1;have b1:=xCt hp hkl;have d1:=hdu.2 (1+k);have z4:IntKind.i64.wrap (ix (du.L.getD (1+k) []) 0 - ix (w.L.getD k []) 1)=clG w.L (duF du.L) (0+k):=(xas (x:=rg du.L (1+k) - ix (w.L.getD k []) 1) (by omega) (by omega)).trans (by unfold clG duF;rw [Nat.zero_add,Nat.add_comm 1 k]);have z5:IntKind.i64.wrap (ix (du.L.getD (1+k) []) 0+xc0 c.I (w.L.getD k []))=opG c.I w.L (duF du.L) (0+k):=(xas (x:=rg du.L (1+k)+xc0 c.I (w.L.getD k [])) (by omega) (by omega)).trans (by unfold opG duF;rw [Nat.zero_add,Nat.add_comm 1 k]);rw [xbd (by omega)];simp only [z4,z5,xpo];refine xac (by omega) (xac (by omega) (xac (by omega) (xdi rfl (xbr rfl (xac (by omega) (xac (by omega) (xac (by omega) (xbe ⟨hp,by omega,by omega⟩ (xdi rfl (xbr rfl (xac (by omega) (xaj ?_ ?_))))))))))))
   ·refine (xam ⟨rfl,hp,rfl,by simp only [I_i,L_l];omega,rfl,rfl,⟨by simp only [I_i];omega,by simp only [I_i,L_l];omega⟩,hdu,rfl,by simp only [I_i,L_l];omega,rfl,rfl,rfl,by simp only [I_i,L_l,Int.toNat_natCast],by simp only [I_i,L_l,Int.toNat_natCast]⟩).trans ?_;rw [<- h];rfl
   ·show ((w.L.length:Int) - ((k+1:Nat):Int)).toNat<(q.I - i.I).toNat;omega
  ·rw [<- h];have e:k=w.L.length:=by omega
   subst e;rfl
 ·cases h
theorem ycn (n:Nat):xeu C (n+2) 20 (xdm s20 G20):=by
 refine xfi hC (sp:=xG4) (lp:=xH3) (sw:=xGs) ⟨yb7 n,xUc n,trivial⟩ trivial (by kernel_rfl) [3] (by kernel_rfl) (by kernel_rfl) (fun k hk L hL=>by simp at hk;subst hk;cases hL;exact ycj n) fun ds rr h=>?_
 unfold G20 at h;split at h
 ·rename_i c f w ch lo m du;obtain ⟨hp,h⟩:=xab h;rw [xad] at hp;obtain ⟨hp,hc,h1,h2,hdu⟩:=hp;refine (congrArg T.run (t20 c f w ch lo m du)).trans ?_;obtain ⟨p0,p1,-⟩:=xb1 hp;rw [<- h];simp only [Int.toNat_natCast];refine xai ⟨fun e=>by rw [e] at hc;simp at hc;omega,by omega⟩ (xai ⟨by trivial,hp,by omega,by omega,by trivial,by trivial,by trivial,hdu,by omega,by omega,by trivial⟩ rfl)
 ·cases h
def s6:Sig:=⟨[.agg [kIn,kIn,kWs]],[(.tup [.agg [.nils,.nils,.nils,.nils],kIn],[]),(.tup [.agg [.sub 0 1,.sl 1 1,.sl 2 1,.sl 3 1],kIn],[bRo,bRo,bRo,bRo])]⟩
def xus:List Shp:=[xz4 (35,[(1,.ptr 0 3 0 0),(2,.ptr 1 4 0 0),(3,.ptr 2 1 0 0),(5,.ptr 3 1 0 0),(16,.fn 44 [] [.any])],[.box [kIn,kIn,kWs],.box [.nils,.nils,.nils,.nils],.box [kIn],.box [kIn]]),xz4 (35,[(1,.ptr 0 3 0 0),(2,.ptr 1 4 0 0),(3,.ptr 2 1 0 0),(5,.ptr 3 1 0 0),(16,.fn 44 [] [.any])],[.box [kIn,kIn,kWs],.box [.sub 4 1,.sl 5 1,.sl 6 1,.sl 7 1],.box [kIn],.box [kIn],bRo,bRo,bRo,bRo])]
noncomputable section
def chY (x:List D):List (List D):=lx x 1
def xf7 (c f:Int) (w:List (List D)):List (List D)->Int->Int×List (List D)×Int
 | [],t=>(5,[],t)
 | x::L,t=>if t=20000 then (9,[],t) else if xdx c f w (chY x) then (0,chY x,t+1) else xf7 c f w L (t+1)
def yOK (w:List (List D)) (x:List D):Prop:=x=[.i w.length,.l (chY x)]/\xdo w (chY x)
def xjd (c f:Int) (w ch:List (List D)):List (List D):=(xd1 true c f w ch).1
def xJy (L:List (List D)) (ds:List D):T (Ex×List D):=match ds with
 | [h, c, f,w,e,t]=>.need (yes (h.I=0/\xaw c.I f.I w.L=true/\(∀ x∈L,yOK w.L x)/\0<=t.I/\t.I<=20000))
     (.ite (decide ((xf7 c.I f.I w.L L t.I).1=0))
      (.leaf (.ret,[.i 1,.i c.I,.i f.I,.l w.L,.i 1,.i (w.L.length+1:Nat),.i w.L.length,.i w.L.length,.i w.L.length,.i 0,.i (xf7 c.I f.I w.L L t.I).2.2,.l (xjd c.I f.I w.L (xf7 c.I f.I w.L L t.I).2.1),
       .l (clR c.I f.I w.L (xf7 c.I f.I w.L L t.I).2.1),.l (opR c.I f.I w.L (xf7 c.I f.I w.L L t.I).2.1),.l (xf7 c.I f.I w.L L t.I).2.1]))
      (.ite (decide ((xf7 c.I f.I w.L L t.I).1=9)) (.leaf (.ret,[.i 0,.i c.I,.i f.I,.l w.L,.i 9,.i (xf7 c.I f.I w.L L t.I).2.2])) (.leaf (.normal,[.i 0,.i c.I,.i f.I,.l w.L,.i e.I,.i (xf7 c.I f.I w.L L t.I).2.2]))))
 | _=>.fail
def G6 (ds:List D):T (List D):=match ds with
 | [c, f,w]=>.ite (xaw c.I f.I w.L)
     (.need (yes (xqn w.L)) (.ite (decide ((xdf c.I f.I w.L).1=0))
      (.leaf [.i 1,.i 1,.i (w.L.length+1:Nat),.i w.L.length,.i w.L.length,.i w.L.length,.i 0,.l (xjd c.I f.I w.L (xdf c.I f.I w.L).2),.l (clR c.I f.I w.L (xdf c.I f.I w.L).2),.l (opR c.I f.I w.L (xdf c.I f.I w.L).2),.l (xdf c.I f.I w.L).2])
      (.leaf [.i 0,.i (xdf c.I f.I w.L).1])))
     (.leaf [.i 0,.i 2])
 | _=>.fail
end
def xOw:ItL:=[(44,xx8 s44 G44)]
def sp6:SpL:=[(17,mkF s17 G17),(19,mkF s19 G19)]
def lp6:LpL:=[]
def sw6:SwL:=[(18,xdm s18 G18),(20,xdm s20 G20)]
def rg6:LpL:=[(7,xov 0 [1,2,3,5,16] (xcb C.P 6 7).1 xOw xus xJy)]
def xGo:Tab:=xly sp6 lp6 sw6 rg6
set_option linter.unusedVariables false
set_option maxRecDepth 100000
theorem t6 (a b c:D) :
 let X1:=(xf7 a.I b.I c.L (xk3 c.L (xie c.L c.L.length) (xdw c.L)) (0:Int));let X2:=(↑(Int.toNat (c.L.length:Int)):Int);let X3:=(if xaw a.I b.I c.L=true then (0:Int) else (2:Int));fnT C xGo 6 s6 [a,b,c] =
 T.ite (X3 != (0:Int)) (T.leaf [D.i 0,D.i X3]) (T.need (yes (xaw a.I b.I c.L=true/\xqn c.L)) (T.need (yes ((↑0:Int)=(0:Int)/\xaw a.I b.I c.L=true/\(∀ (x:List D),x∈xk3 c.L (xie c.L c.L.length) (xdw c.L)->yOK c.L x)/\(0:Int)<=(0:Int)/\(0:Int)<=(20000:Int))) (T.ite (decide (X1.fst=(0:Int))) (T.leaf [D.i 1,D.i 1,D.i (↑(Int.toNat (↑(c.L.length+1):Int)):Int),D.i X2,D.i X2,D.i X2,D.i 0,D.l (xjd a.I b.I c.L X1.snd.fst),D.l (clR a.I b.I c.L X1.snd.fst),D.l (opR a.I b.I c.L X1.snd.fst),D.l X1.snd.fst]) (T.ite (decide (X1.fst=(9:Int))) (T.leaf [D.i 0,D.i 9]) (T.leaf [D.i 0,D.i 5]))))):=by
 intros
 kernel_rfl
theorem xXa (a b c d e f g:D) :
 let X1:=List.take f.I.toNat g.L;let X3:=xd1 true a.I b.I c.L X1;let X4:=decide (f.I.toNat<=g.L.length);let X5:=(↑(Int.toNat (↑(c.L.length+1):Int)):Int);let X6:=(↑(Int.toNat (c.L.length:Int)):Int);let X7:=[D.i (f.I.toNat:Int),D.l g.L];let X2:=T.leaf (Rd.again [D.i 0,D.i a.I,D.i b.I,D.l c.L,D.i d.I,D.i (IntKind.i64.wrap (e.I+(1:Int)))],X7);xe3 C xGo 6 (xcb C.P 6 7) 0 5 [1,2,3,5,16] xus y44 [.i 0,a,b,c,d,e] [f,g] =
 T.ite (e.I == (20000:Int)) (T.leaf (Rd.out Ex.ret [D.i 0,D.i a.I,D.i b.I,D.l c.L,D.i 9,D.i e.I],X7)) (T.need X4 (T.need (yes (xaw a.I b.I c.L=true/\xh3 c.L X1)) (T.ite (xdx a.I b.I c.L X1) (T.ite true (T.need X4 (T.need (yes (xaw a.I b.I c.L=true/\List.length X1=c.L.length/\(↑(Int.toNat (1:Int)):Int)=(1:Int)/\X5=(c.L.length:Int)+(1:Int)/\xCp c.L X3.fst)) (T.leaf (Rd.out Ex.ret [D.i 1,D.i a.I,D.i b.I,D.l c.L,D.i 1,D.i X5,D.i X6,D.i X6,D.i (↑(Int.toNat (↑(List.length X1):Int)):Int),D.i 0,D.i (IntKind.i64.wrap (e.I+(1:Int))),D.l X3.fst,D.l (xcy (clG c.L (duF X3.fst)) 0 c.L.length),D.l (xcy (opG a.I c.L (duF X3.fst)) 0 c.L.length),D.l X1],X7)))) X2) (T.ite false (T.need X4 T.fail) X2)))):=by
 intros
 kernel_rfl
set_option maxRecDepth 100000
section
variable {c f:Int} {w:List (List D)}
theorem xSw:∀ (n:Nat) {ch:List (List D)},xdo w ch->∀ x∈xk3 w n ch,yOK w x
 | 0,_,_,x,hx=>by cases hx
 | n + 1,ch,h,x,hx=>by
   simp only [xk3,List.mem_cons] at hx;rcases hx with rfl | hx
   ·refine ⟨?_,h⟩;show [D.i ch.length,D.l ch]=_;rw [h.1.1];rfl
   ·split at hx
    ·cases hx
    ·exact xSw n (xqv h (by omega)) x hx
theorem xDs:∀ (k:Nat) {ch:List (List D)} {t:Int},xdo w ch->t=20000 - k->(xf7 c f w (xk3 w (xfm w ch) ch) t).1=(xhr c f w k ch).1/\((xhr c f w k ch).1=0->(xf7 c f w (xk3 w (xfm w ch) ch) t).2.1=(xhr c f w k ch).2)
 | 0, ch,t,h,ht=>by
   rw [xyl h];simp only [xf7,xhr];rw [if_pos (by omega)];exact ⟨rfl,fun h=>by simp at h⟩
 | k + 1,ch,t,h,ht=>by
   rw [xyl h];have e:chY [.i ch.length,.l ch]=ch:=rfl;simp only [xf7,xhr,e];rw [if_neg (by omega)];by_cases hd:xdx c f w ch=true
   ·rw [if_pos hd,if_pos hd];exact ⟨rfl,fun _=>rfl⟩
   ·rw [if_neg hd,if_neg hd];by_cases hn:(xa7 w w.length ch).2<0
    ·rw [if_pos hn,if_pos hn];simp only [xf7];exact ⟨by trivial,fun h=>by simp at h⟩
    ·rw [if_neg hn,if_neg hn];exact xDs k (xqv h (by omega)) (by omega)
theorem xvs:∀ (k:Nat) {ch:List (List D)},xdo w ch->(xhr c f w k ch).1=0/\xdo w (xhr c f w k ch).2/\xdx c f w (xhr c f w k ch).2=true\/(xhr c f w k ch).1=5\/(xhr c f w k ch).1=9
 | 0,ch,h=>.inr (.inr rfl)
 | k + 1,ch,h=>by
   simp only [xhr];by_cases hd:xdx c f w ch=true
   ·rw [if_pos hd];exact .inl ⟨rfl,h,hd⟩
   ·rw [if_neg hd];by_cases hn:(xa7 w w.length ch).2<0
    ·rw [if_pos hn];exact .inr (.inl rfl)
    ·rw [if_neg hn];exact xvs k (xqv h (by omega))
theorem xHd {ch:List (List D)} (hp:xaw c f w=true) (hc:xh3 w ch) (hd:xdx c f w ch=true):xCp w (xjd c f w ch)/\(xjd c f w ch).drop 1=xaf c f w ch/\xcy (clG w (duF (xjd c f w ch))) 0 w.length=clR c f w ch/\xcy (opG c w (duF (xjd c f w ch))) 0 w.length=opR c f w ch:=by
 have hr:(xd1 true c f w ch).2.2<0:=by
  unfold xdx at hd;rw [Bool.and_eq_true,decide_eq_true_eq] at hd;exact hd.2
 have he:=(xDo hp hc).2 hr;obtain ⟨q1,q2,q3,-⟩:=xnd true hp hc hr;obtain ⟨-,-,-,d4,-⟩:=xu6 (f:=f) hp hc;have g:∀ j,duF (xjd c f w ch) j=rg (xaf c f w ch) j:=fun j=>by
  unfold duF xjd;rw [<- he,xvo,Nat.add_comm]
 refine ⟨⟨q3,fun j=>⟨q2 j,?_⟩⟩,he,xxz _ _ fun j _ _=>?_,xxz _ _ fun j _ _=>?_⟩
 ·cases j with
  | zero=>
    have:rg (xjd c f w ch) 0=0:=q1;omega
  | succ j=>
    have:=g j;unfold duF at this;have:=d4 j;omega
 ·unfold clG;rw [g]
 ·unfold opG;rw [g]
end
theorem xAs {hs:List Shp} {j:D} {n:Int} (r:List D) (h:j.I=n) (hl:2<=hs.length):xck hs (j::r)=xck hs (.i n::r):=by
 match hs,hl with
 | a::b::c,_=>simp only [xck,List.headD_cons,List.tail_cons,I_i,h]
theorem xHe {C:Cfg} {tab:Tab} {f:FuncId} {r:Rg} {k kk:Nat} {live:List Nat} {hs:List Shp} {Y:YS} {j:D} {n:Int} (ds el:List D) (h:j.I=n) (hl:2<=hs.length):xe3 C tab f r k kk live hs Y (j::ds) el=xe3 C tab f r k kk live hs Y (.i n::ds) el:=by
 unfold xe3;rw [xAs ds h hl]
theorem ydx (L:List (List D)):∀ (ds:List D) (rr:Ex×List D),(xJy L ds).run=some rr->FoldR (fun ds el=>(xe3 C xGo 6 (xcb C.P 6 7) 0 5 [1,2,3,5,16] xus y44 ds el).run) y44.give (fun a b=>xck xus a=xck xus b) ds L rr.1 rr.2:=by
 induction L with
 | nil=>
   intro ds rr h;unfold xJy at h;split at h
   ·rename_i z c f w e t;obtain ⟨hp,h⟩:=xab h;rw [xad] at hp;simp only [xf7] at h;rw [xa5,if_neg (by simp),xa5,if_neg (by simp)] at h;cases h;exact .nil (by rw [xAs _ hp.1 (by decide)];rfl)
   ·cases h
 | cons x L ih=>
   intro ds rr h;unfold xJy at h;split at h
   ·rename_i z c f w e t;obtain ⟨hp,h⟩:=xab h;rw [xad] at hp;obtain ⟨hz,hp,hy,ht0,ht1⟩:=hp;have hx:=hy x List.mem_cons_self;have hxs:∀ x∈L,yOK w.L x:=fun y hy'=>hy y (List.mem_cons_of_mem _ hy')
    obtain ⟨hxe,hxc⟩:=hx;generalize hch:chY x=ch at hxe hxc;have hcl:=hxc.1.1;obtain ⟨p0,p1,-⟩:=xb1 hp;have htk:ch.take w.L.length=ch:=List.take_of_length_le (by omega);have e0:xe3 C xGo 6 (xcb C.P 6 7) 0 5 [1,2,3,5,16] xus y44 [z,c,f,w,e,t] x=xe3 C xGo 6 (xcb C.P 6 7) 0 5 [1,2,3,5,16] xus y44 [.i 0,c,f,w,e,t] [.i w.L.length,.l ch]:=by
     rw [xHe _ _ hz (by decide),hxe]
    have hround:=congrArg T.run (e0.trans (xXa c f w e t (.i w.L.length) (.l ch)));simp only [I_i,L_l,Int.toNat_natCast,htk] at hround;simp only [xf7,hch] at h;by_cases h20:t.I=20000
    ·rw [if_pos h20] at h;rw [xa5,if_neg (by simp),xa5,if_pos (by simp)] at h;cases h;refine .out (x':=x) ?_ (fun _=>rfl) (by simp);refine hround.trans ?_;rw [xa5,if_pos (by simp [h20]),hxe];rfl
    ·rw [if_neg h20] at h;rw [xas (x:=t.I+1) (by omega) (by omega)] at hround;by_cases hd:xdx c.I f.I w.L ch=true
     ·rw [if_pos hd] at h;rw [xa5,if_pos (by simp)] at h;cases h;obtain ⟨r1,r2,r3,r4⟩:=xHd hp hxc.1 hd;refine .out (x':=x) ?_ (fun _=>rfl) (by simp);refine hround.trans ?_;have z1:(Int.toNat 1:Int)=1:=rfl;have e1:(xd1 true c.I f.I w.L ch).1=xjd c.I f.I w.L ch:=rfl;simp only [e1,r3,r4];refine xaq (by simp [h20]) (xau (by omega) (xai ⟨hp,hxc.1⟩ (xcx hd (xcx rfl (xau (by omega) (xai ⟨hp,hcl,z1,by omega,r1⟩ ?_))))));rw [hxe,hcl];rfl
     ·rw [if_neg hd] at h;have hd:xdx c.I f.I w.L ch=false:=by simpa using hd
      refine .again (x':=x) (ds':=[.i 0,.i c.I,.i f.I,.l w.L,.i e.I,.i (t.I+1)]) ?_ (fun _=>rfl) (ih _ _ ?_)
      ·refine hround.trans ?_;refine xaq (by simp [h20]) (xau (by omega) (xai ⟨hp,hxc.1⟩ (xaq hd (xaq rfl ?_))));rw [hxe];rfl
      ·refine (xam ⟨rfl,hp,hxs,by simp only [I_i];omega,by simp only [I_i];omega⟩).trans ?_;exact h
   ·cases h
theorem yf0 (n:Nat):xh7 C (n+6) 0 6 (xcb C.P 6 7).code none 0 (xov 0 [1,2,3,5,16] (xcb C.P 6 7).1 xOw xus xJy):=
 xHj hC (sp:=sp6) (lp:=lp6) (sw:=sw6) (rg:=rg6) (Y:=y44) (xna _ _ _) ⟨xUj n,ycq (n+3),trivial⟩ ⟨ycr (n+5),ycn (n+4),trivial⟩ 7 0 5 [] (by kernel_rfl) rfl (by kernel_rfl) (by exact ⟨by kernel_rfl,by kernel_rfl⟩) (fun k hk=>by cases hk)
  (by kernel_rfl) (by kernel_rfl) (it:=xOw) ⟨ygy (n+5),trivial⟩ fun L ds rr h=>ydx L ds rr h
theorem ok6 (n:Nat):xbo C (n+7) 6 (mkF s6 G6):=by
 refine xR8 hC (sp:=sp6) (lp:=lp6) (sw:=sw6) (rg:=rg6) ⟨xUj n,ycq (n+3),trivial⟩ ⟨ycr (n+5),ycn (n+4),trivial⟩ (by kernel_rfl) [] [7] (by kernel_rfl) rfl (by kernel_rfl) (by kernel_rfl) (fun k hk=>by cases hk) (fun k hk L hL=>by
  simp at hk;subst hk;cases hL;exact yf0 n) fun ds r h=>?_
 unfold G6 at h;split at h
 ·rename_i c f w;refine (congrArg T.run (t6 c f w)).trans ?_;cases hp:xaw c.I f.I w.L with
  | false=>
    rw [hp] at h;exact h
  | true=>
    rw [hp] at h;obtain ⟨hf,h⟩:=xab (show (T.need _ _).run=some r from h);rw [xad] at hf;have hall:=xSw (w:=w.L) (xie w.L w.L.length) xmr;rw [<- xzu] at hall ⊢;have hpm:=xDs (c:=c.I) (f:=f.I) (w:=w.L) 20000 (ch:=xdw w.L) (t:=0) xmr (by decide);have hmk:xhr c.I f.I w.L 20000 (xdw w.L)=xdf c.I f.I w.L:=rfl;rw [hmk] at hpm;have hcs:=xvs (c:=c.I) (f:=f.I) (w:=w.L) 20000 (ch:=xdw w.L) xmr;rw [hmk] at hcs;generalize xf7 c.I f.I w.L (xk3 w.L (xfm w.L (xdw w.L)) (xdw w.L)) 0=pk at hpm ⊢;obtain ⟨k1,k2⟩:=hpm;simp only [k1,Int.toNat_natCast,if_true];refine xaq rfl (xai ⟨by trivial,hf⟩ (xai ⟨by trivial,by trivial,hall,by omega,by omega⟩ ?_));rcases hcs with ⟨h0,-,-⟩ | h5 | h9
    ·rw [h0,k2 h0];rw [h0] at h;exact h
    ·rw [h5];rw [h5] at h;exact h
    ·rw [h9];rw [h9] at h;exact h
 ·cases h
set_option maxRecDepth 100000
noncomputable section
def xP6 (ds:List D):T (List D):=match ds with
 | [c, f, w]=>.need (yes (xaw c.I f.I w.L=true/\xqn w.L)) (.ite (decide ((xdf c.I f.I w.L).1=0))
       (.leaf [.i 1,.i 1,.i (w.L.length+1:Nat),.i w.L.length,.i w.L.length,.i w.L.length,.i 0,.l (xjd c.I f.I w.L (xdf c.I f.I w.L).2),.l (clR c.I f.I w.L (xdf c.I f.I w.L).2),.l (opR c.I f.I w.L (xdf c.I f.I w.L).2),.l (xdf c.I f.I w.L).2])
       (.ite (decide ((xdf c.I f.I w.L).1=5)) (.leaf [.i 0,.i 5]) (.leaf [.i 0,.i 9])))
 | _=>.fail
def G8x (ds:List D):T (List D):=match ds with
 | [c,f,w,du,_,_,_,car,k]=>.need (yes (du.L.length<big/\xpg c.I f.I w.L du.L car.I k.I=true)) (.leaf [.i (xb5 w.L du.L car.I k.I.toNat),.i (xb5 w.L du.L car.I k.I.toNat+ix (w.L.getD k.I.toNat []) 0),.i 0])
 | _=>.fail
def xgp (c f:Int) (w du cl op ch:List (List D)) (lo n n1 n2 n3:Int):Prop:=xaw c f w=true/\xdo w ch/\xdx c f w ch=true/\du=xjd c f w ch/\cl=clR c f w ch/\op=opR c f w ch/\lo=1/\n=w.length+1/\n1=w.length/\n2=w.length/\n3=w.length
end
theorem xLw {n f:Nat} {s:Sig} {G G':List D->T (List D)} (h:xbo C n f (mkF s G)) (hw:∀ ds r,(G' ds).run=some r->(G ds).run=some r):xbo C n f (mkF s G'):=h.mono fun args v hb hr=>by
 unfold mkF at hr ⊢;split
 ·rename_i ds hds;simp only [hds,T.run_map,Option.map_eq_some_iff] at hr ⊢;obtain ⟨r,h1,h2⟩:=hr;exact ⟨r,hw _ _ h1,h2⟩
 ·rename_i hds;simp only [hds] at hr;cases hr
theorem ycm (n:Nat):xbo C (n+7) 6 (mkF s6 xP6):=xLw (ok6 n) fun ds r h=>by
 unfold xP6 at h;split at h
 ·rename_i c f w;obtain ⟨hp,h⟩:=xab h;rw [xad] at hp;refine xcx hp.1 (xai hp.2 ?_);have hcs:=xvs (c:=c.I) (f:=f.I) (w:=w.L) xtj (ch:=xdw w.L) xmr;have e:xhr c.I f.I w.L xtj (xdw w.L)=xdf c.I f.I w.L:=rfl;rw [e] at hcs;rcases hcs with ⟨h0,-,-⟩ | h5 | h9
  ·rw [h0] at h ⊢;exact h
  ·rw [h5] at h ⊢;exact h
  ·rw [h9] at h ⊢;exact h
 ·cases h
theorem ygr (n:Nat):xbo C (n+8) 8 (mkF s8 G8x):=xLw (ok8 n) fun ds r h=>by
 unfold G8x at h;split at h
 ·obtain ⟨hp,h⟩:=xab h;rw [xad] at hp;unfold G8;exact xai hp.1 (xcx hp.2 h)
 ·cases h
section
variable {c f:Int} {w du cl op ch:List (List D)} {lo n n1 n2 n3:Int}
theorem xAv (h:xgp c f w du cl op ch lo n n1 n2 n3):du.length=w.length+2/\cl.length=w.length/\op.length=w.length/\ch.length=w.length/\du.drop 1=xaf c f w ch/\(xaf c f w ch).length=w.length+1 /\
    (∀ j,rg du (j+1)=rg (xaf c f w ch) j)/\(∀ j,j<w.length->rg cl j=rg (xaf c f w ch) j - ix (w.getD j []) 1/\rg op j=rg (xaf c f w ch) j+xc0 c (w.getD j []))/\(∀ j,0<=rg (xaf c f w ch) j/\rg (xaf c f w ch) j<=2000000)/\xqi c f w ch (rg (xaf c f w ch))/\xqa c w ch (rg (xaf c f w ch)):=by
 obtain ⟨hp,hc,hd,rfl,rfl,rfl,-⟩:=h;obtain ⟨r1,r2,-,-⟩:=xHd hp hc.1 hd;obtain ⟨d1,-,d3,d4,-⟩:=xu6 (f:=f) hp hc.1;refine ⟨r1.1,xhl _ _ _,xhl _ _ _,hc.1.1,r2,d1,fun j=>?_,fun j hj=>⟨?_,?_⟩,fun j=>⟨d3.2.1 j,d4 j⟩,d3,?_⟩
 ·rw [<- r2,xvo,Nat.add_comm]
 ·unfold clR;rw [xqz hj,Nat.zero_add];rfl
 ·unfold opR;rw [xqz hj,Nat.zero_add];rfl
 ·unfold xdx at hd;rw [Bool.and_eq_true,decide_eq_true_eq] at hd;exact (xDo hp hc.1).1.1 hd.2
end
theorem xLh {w:List (List D)} (h:∀ j,xb8 w j<=10):∀ k,xie w k<=10 ^ k
 | 0=>Nat.le_refl _
 | k + 1=>by
   have a:=xLh h k;have b:=h k;simp only [xie,Nat.pow_succ];exact Nat.mul_le_mul a (by omega)
section
variable {c f:Int} {w:List (List D)}
theorem xU5 (h:(xdf c f w).1=0):xdo w (xdf c f w).2/\xdx c f w (xdf c f w).2=true:=by
 have hcs:=xvs (c:=c) (f:=f) (w:=w) xtj (ch:=xdw w) xmr;have e:xhr c f w xtj (xdw w)=xdf c f w:=rfl;rw [e] at hcs;rcases hcs with h0 | h5 | h9
 ·exact h0.2
 ·omega
 ·omega
theorem xEi (hp:xaw c f w=true) {ch:List (List D)} (hc:xdo w ch) (hd:xdx c f w ch=true):xgp c f w (xjd c f w ch) (clR c f w ch) (opR c f w ch) ch 1 ((w.length+1:Nat):Int) w.length w.length w.length:=
 ⟨hp,hc,hd,rfl,rfl,rfl,rfl,by omega,rfl,rfl,rfl⟩
theorem xj3 (hp:xaw c f w=true) {ch:List (List D)} (hc:xdo w ch) (hd:xdx c f w ch=true):(xjd c f w ch).length=w.length+2/\(clR c f w ch).length=w.length/\(opR c f w ch).length=w.length/\ch.length=w.length /\
    ((xjd c f w ch).drop 1).take (w.length+1)=xaf c f w ch/\(clR c f w ch).take w.length=clR c f w ch/\(opR c f w ch).take w.length=opR c f w ch/\ch.take w.length=ch/\(xaf c f w ch).length=w.length+1:=by
 obtain ⟨l1,l2,l3,l4,hdr,l5,-⟩:=xAv (xEi hp hc hd);refine ⟨l1,l2,l3,l4,?_,List.take_of_length_le (by omega),List.take_of_length_le (by omega),List.take_of_length_le (by omega),l5⟩;rw [hdr];exact List.take_of_length_le (by omega)
end
theorem xe4 {c f:Int} {w:List (List D)} (h:xec c f w=true):xaw c f w=true/\xqn w/\w.length<=6:=by
 unfold xec at h;rw [Bool.and_eq_true,Bool.and_eq_true,decide_eq_true_eq] at h;obtain ⟨⟨h6,-⟩,hp⟩:=h;refine ⟨hp,?_,h6⟩;have h:∀ j,xb8 w j<=10:=fun j=>by
  by_cases hj:j<w.length
  ·have:=(xdh (xdt hp hj).1).2.2.2.2.2.2;unfold xb8;omega
  ·unfold xb8;rw [List.getD_eq_getElem?_getD,List.getElem?_eq_none (by omega)];show ((([]:List (List D)).length:Nat):Int)<=10;decide
 unfold xqn;exact Nat.le_trans (xLh h _) (Nat.le_trans (Nat.pow_le_pow_right (by decide) h6) (by decide))
theorem xrn {c f:Int} {w du cl op ch:List (List D)} {lo n n1 n2 n3:Int} (h:xgp c f w du cl op ch lo n n1 n2 n3) {k:Int} {q:Nat} (k0:0<=k) (k1:k<=c - 1) (hq:q<w.length):xpg c f w (xaf c f w ch) k q=true:=by
 obtain ⟨-,-,-,-,-,l5,-,-,gd,-⟩:=xAv h;unfold xpg;rw [h.1,xS8 (by rw [l5];rfl) (fun i _=>by have:=gd i;omega),Bool.true_and,Bool.true_and,decide_eq_true_eq];omega
def s3:Sig:=⟨[.agg [kIn,kIn,kWs],kIn,kIn,kIn,kIn],[(kBo,[])]⟩
def xCc:LSig:=xcu [1,3,4,5,11,13,14,15] [(306,[(1,kIn),(3,kIn),(4,kIn),(5,.ptr 0 3 0 0),(11,.ptr 1 4 0 0),(13,.ptr 2 14 0 0),(14,kIn),(15,kIn)],[.box [kIn,kIn,kWs],.box [.sub 3 1,.sl 4 1,.sl 5 1,.sl 6 1],.box [.nils,kIn,kIn,kIn,kIn,kIn,.sl 7 1,kBo,kIn,kIn,kIn,kIn,.nils,.nils],bRo,bRo,bRo,bRo,bRo]),(306,[(1,kIn),(3,kIn),(4,kIn),(5,.ptr 0 3 0 0),(11,.ptr 1 4 0 0),(13,.ptr 2 14 0 0),(14,kIn),(15,kIn)],[.box [kIn,kIn,kWs],.box [.sub 3 1,.sl 4 1,.sl 5 1,.sl 6 1],.box [.sl 7 4,kIn,kIn,kIn,kIn,kIn,.sl 8 1,kBo,kIn,kIn,kIn,kIn,.nils,.nils],bRo,bRo,bRo,bRo,bIs,bRo])] [(.exit 0,[1,3,4,5,11,13,14],[(306,[(1,kIn),(3,kIn),(4,kIn),(5,.ptr 0 3 0 0),(11,.ptr 1 4 0 0),(13,.ptr 2 14 0 0),(14,kIn)],[.box [kIn,kIn,kWs],.box [.sub 3 1,.sl 4 1,.sl 5 1,.sl 6 1],.box [.sl 7 4,kIn,kIn,kIn,kIn,kIn,.sl 8 1,kBo,kIn,kIn,kIn,kIn,.nils,.nils],bRo,bRo,bRo,bRo,bIs,bRo])])]
def xpw:LSig:=xcu [1,3,4,5,11,13,14,16,17] [(306,[(1,kIn),(3,kIn),(4,kIn),(5,.ptr 0 3 0 0),(11,.ptr 1 4 0 0),(13,.ptr 2 14 0 0),(14,kIn),(16,.nils),(17,kIn)],[.box [kIn,kIn,kWs],.box [.sub 3 1,.sl 4 1,.sl 5 1,.sl 6 1],.box [.sl 7 4,kIn,kIn,kIn,kIn,kIn,.sl 8 1,kBo,kIn,kIn,kIn,kIn,.nils,.nils],bRo,bRo,bRo,bRo,bIs,bRo]),(306,[(1,kIn),(3,kIn),(4,kIn),(5,.ptr 0 3 0 0),(11,.ptr 1 4 0 0),(13,.ptr 2 14 0 0),(14,kIn),(16,.sl 3 3),(17,kIn)],[.box [kIn,kIn,kWs],.box [.sub 4 1,.sl 5 1,.sl 6 1,.sl 7 1],.box [.sl 8 4,kIn,kIn,kIn,kIn,kIn,.sl 9 1,kBo,kIn,kIn,kIn,kIn,.nils,.nils],bCs,bRo,bRo,bRo,bRo,bIs,bRo]),(306,[(1,kIn),(3,kIn),(4,kIn),(5,.ptr 0 3 0 0),(11,.ptr 1 4 0 0),(13,.ptr 2 14 0 0),(14,kIn),(16,.sl 3 3),(17,kIn)],[.box [kIn,kIn,kWs],.box [.sub 4 1,.sl 5 1,.sl 6 1,.sl 7 1],.box [.sl 8 4,kIn,kIn,kIn,kIn,kIn,.sl 9 1,kBo,kIn,kIn,kIn,kIn,.nils,.nils],.hole [.int .i64,.ro [.int .i64],.ro [.int .i64,.int .i64,.bool,.int .i64]] [kIn,.sl 10 1,.sl 11 4],bRo,bRo,bRo,bRo,bIs,bRo,bRo,bLs])] [(.exit 2,[1,3,4,5,13,14,16],[(306,[(1,kIn),(3,kIn),(4,kIn),(5,.ptr 0 3 0 0),(13,.ptr 1 14 0 0),(14,kIn),(16,.sl 2 3)],[.box [kIn,kIn,kWs],.box [.sl 3 4,kIn,kIn,kIn,kIn,kIn,.sl 4 1,kBo,kIn,kIn,kIn,kIn,.nils,.nils],.hole [.int .i64,.ro [.int .i64],.ro [.int .i64,.int .i64,.bool,.int .i64]] [kIn,.sl 5 1,.sl 6 4],bIs,bRo,bRo,bLs])]),(.ret,[10],[(306,[(10,kBo)],[])])]
def xih:LSig:=xcu [1,3,4,5,11,13,14,16,17,18,19] [(306,[(1,kIn),(3,kIn),(4,kIn),(5,.ptr 0 3 0 0),(11,.ptr 1 4 0 0),(13,.ptr 2 14 0 0),(14,kIn),(16,.nils),(17,kIn),(18,.ptr 3 3 0 0),(19,kIn)],[.box [kIn,kIn,kWs],.box [.sub 4 1,.sl 5 1,.sl 6 1,.sl 7 1],.box [.sl 8 4,kIn,kIn,kIn,kIn,kIn,.sl 9 1,kBo,kIn,kIn,kIn,kIn,.nils,.nils],.box [kIn,.nils,.nils],bRo,bRo,bRo,bRo,bIs,bRo]),(306,[(1,kIn),(3,kIn),(4,kIn),(5,.ptr 0 3 0 0),(11,.ptr 1 4 0 0),(13,.ptr 2 14 0 0),(14,kIn),(16,.nils),(17,kIn),(18,.ptr 3 3 0 0),(19,kIn)],[.box [kIn,kIn,kWs],.box [.sub 4 1,.sl 5 1,.sl 6 1,.sl 7 1],.box [.sl 8 4,kIn,kIn,kIn,kIn,kIn,.sl 9 1,kBo,kIn,kIn,kIn,kIn,.nils,.nils],.box [kIn,.sl 10 1,.sl 11 4],bRo,bRo,bRo,bRo,bIs,bRo,bRo,bLs]),(306,[(1,kIn),(3,kIn),(4,kIn),(5,.ptr 0 3 0 0),(11,.ptr 1 4 0 0),(13,.ptr 2 14 0 0),(14,kIn),(16,.sl 3 3),(17,kIn),(18,.ptr 4 3 0 0),(19,kIn)],[.box [kIn,kIn,kWs],.box [.sub 5 1,.sl 6 1,.sl 7 1,.sl 8 1],.box [.sl 9 4,kIn,kIn,kIn,kIn,kIn,.sl 10 1,kBo,kIn,kIn,kIn,kIn,.nils,.nils],bCs,.box [kIn,.nils,.nils],bRo,bRo,bRo,bRo,bIs,bRo]),(306,[(1,kIn),(3,kIn),(4,kIn),(5,.ptr 0 3 0 0),(11,.ptr 1 4 0 0),(13,.ptr 2 14 0 0),(14,kIn),(16,.sl 3 3),(17,kIn),(18,.ptr 4 3 0 0),(19,kIn)],[.box [kIn,kIn,kWs],.box [.sub 5 1,.sl 6 1,.sl 7 1,.sl 8 1],.box [.sl 9 4,kIn,kIn,kIn,kIn,kIn,.sl 10 1,kBo,kIn,kIn,kIn,kIn,.nils,.nils],bCs,.box [kIn,.sl 11 1,.sl 12 4],bRo,bRo,bRo,bRo,bIs,bRo,bRo,bLs]),(306,[(1,kIn),(3,kIn),(4,kIn),(5,.ptr 0 3 0 0),(11,.ptr 1 4 0 0),(13,.ptr 2 14 0 0),(14,kIn),(16,.sl 3 3),(17,kIn),(18,.ptr 4 3 0 0),(19,kIn)],[.box [kIn,kIn,kWs],.box [.sub 5 1,.sl 6 1,.sl 7 1,.sl 8 1],.box [.sl 9 4,kIn,kIn,kIn,kIn,kIn,.sl 10 1,kBo,kIn,kIn,kIn,kIn,.nils,.nils],.hole [.int .i64,.ro [.int .i64],.ro [.int .i64,.int .i64,.bool,.int .i64]] [kIn,.sl 11 1,.sl 12 4],.box [kIn,.nils,.nils],bRo,bRo,bRo,bRo,bIs,bRo,bRo,bLs]),(306,[(1,kIn),(3,kIn),(4,kIn),(5,.ptr 0 3 0 0),(11,.ptr 1 4 0 0),(13,.ptr 2 14 0 0),(14,kIn),(16,.sl 3 3),(17,kIn),(18,.ptr 4 3 0 0),(19,kIn)],[.box [kIn,kIn,kWs],.box [.sub 5 1,.sl 6 1,.sl 7 1,.sl 8 1],.box [.sl 9 4,kIn,kIn,kIn,kIn,kIn,.sl 10 1,kBo,kIn,kIn,kIn,kIn,.nils,.nils],.hole [.int .i64,.ro [.int .i64],.ro [.int .i64,.int .i64,.bool,.int .i64]] [kIn,.sl 11 1,.sl 12 4],.box [kIn,.sl 13 1,.sl 14 4],bRo,bRo,bRo,bRo,bIs,bRo,bRo,bLs,bRo,bLs])] [(.exit 4,[1,3,4,5,11,13,14,16,17,18],[(306,[(1,kIn),(3,kIn),(4,kIn),(5,.ptr 0 3 0 0),(11,.ptr 1 4 0 0),(13,.ptr 2 14 0 0),(14,kIn),(16,.nils),(17,kIn),(18,.ptr 3 3 0 0)],[.box [kIn,kIn,kWs],.box [.sub 4 1,.sl 5 1,.sl 6 1,.sl 7 1],.box [.sl 8 4,kIn,kIn,kIn,kIn,kIn,.sl 9 1,kBo,kIn,kIn,kIn,kIn,.nils,.nils],.box [kIn,.sl 10 1,.sl 11 4],bRo,bRo,bRo,bRo,bIs,bRo,bRo,bLs]),(306,[(1,kIn),(3,kIn),(4,kIn),(5,.ptr 0 3 0 0),(11,.ptr 1 4 0 0),(13,.ptr 2 14 0 0),(14,kIn),(16,.sl 3 3),(17,kIn),(18,.ptr 4 3 0 0)],[.box [kIn,kIn,kWs],.box [.sub 5 1,.sl 6 1,.sl 7 1,.sl 8 1],.box [.sl 9 4,kIn,kIn,kIn,kIn,kIn,.sl 10 1,kBo,kIn,kIn,kIn,kIn,.nils,.nils],bCs,.box [kIn,.sl 11 1,.sl 12 4],bRo,bRo,bRo,bRo,bIs,bRo,bRo,bLs]),(306,[(1,kIn),(3,kIn),(4,kIn),(5,.ptr 0 3 0 0),(11,.ptr 1 4 0 0),(13,.ptr 2 14 0 0),(14,kIn),(16,.sl 3 3),(17,kIn),(18,.ptr 4 3 0 0)],[.box [kIn,kIn,kWs],.box [.sub 5 1,.sl 6 1,.sl 7 1,.sl 8 1],.box [.sl 9 4,kIn,kIn,kIn,kIn,kIn,.sl 10 1,kBo,kIn,kIn,kIn,kIn,.nils,.nils],.hole [.int .i64,.ro [.int .i64],.ro [.int .i64,.int .i64,.bool,.int .i64]] [kIn,.sl 11 1,.sl 12 4],.box [kIn,.sl 13 1,.sl 14 4],bRo,bRo,bRo,bRo,bIs,bRo,bRo,bLs,bRo,bLs])]),(.ret,[10],[(306,[(10,kBo)],[])])]
def xFy:LSig:=xcu [1,3,4,5,13,16,23] [(306,[(1,kIn),(3,kIn),(4,kIn),(5,.ptr 0 3 0 0),(13,.eptr [kIs,kIn,kIn,kIn,kIn,kIn,kRo,kBo,kIn,kIn,kIn,kIn,kRo,kRo]),(16,.sl 1 3),(23,kIn)],[.box [kIn,kIn,kWs],.hole [.int .i64,.ro [.int .i64],.ro [.int .i64,.int .i64,.bool,.int .i64]] [kIn,.sl 2 1,.sl 3 4],bRo,bLs])] [(.exit 6,[1,3,4,5,13,16],[(306,[(1,kIn),(3,kIn),(4,kIn),(5,.ptr 0 3 0 0),(13,.eptr [kIs,kIn,kIn,kIn,kIn,kIn,kRo,kBo,kIn,kIn,kIn,kIn,kRo,kRo]),(16,.sl 1 3)],[.box [kIn,kIn,kWs],.hole [.int .i64,.ro [.int .i64],.ro [.int .i64,.int .i64,.bool,.int .i64]] [kIn,.sl 2 1,.sl 3 4],bRo,bLs])]),(.ret,[10],[(306,[(10,kBo)],[])])]
def xFx:LSig:=xcu [13,16,29,31,33,34] [(306,[(13,.eptr [kIs,kIn,kIn,kIn,kIn,kIn,kRo,kBo,kIn,kIn,kIn,kIn,kRo,kRo]),(16,.sl 0 3),(29,kIn),(31,.sl 1 5),(33,kIn),(34,kIn)],[bCs,bTs])] [(.exit 8,[13,16,29,31,33],[(306,[(13,.eptr [kIs,kIn,kIn,kIn,kIn,kIn,kRo,kBo,kIn,kIn,kIn,kIn,kRo,kRo]),(16,.sl 0 3),(29,kIn),(31,.sl 1 5),(33,kIn)],[bCs,bTs])])]
def s5:Sig:=⟨[],[(kBo,[])]⟩
noncomputable section
def xbg (w:List (List D)):Nat->Int
 | 0=>0
 | j+1=>xbg w j+(if bx (w.getD j []) 4=true then 1 else 0)
def xF5 (w:List (List D)) (j:Nat):List D:=[.i 1,.i (xbg w (j+1)),.i (ix (w.getD j []) 0),.b false]
def xa8 (w:List (List D)):Nat->List (List D)
 | 0=>[]
 | j+1=>xa8 w j++[xF5 w j]
section
variable (w d:List (List D)) (k:Nat)
def xax:Nat->List (List D)
 | 0=>[]
 | j+1=>xax j++(if j=0\/bx (w.getD j []) 4=true then [[.i (xb5 w d k j)]] else [])
def xbu:Nat->List (List D)
 | 0=>[]
 | j+1=>xbu j++[[.i (xb5 w d k j+ix (w.getD j []) 0),.i 0,.b false,.i 0]]
def xO9:List D:=[.i 0,.l (xax w d k w.length),.l (xbu w d k w.length)]
def xnv (j:Nat):Bool:=decide (xb5 w d k j+ix (w.getD j []) 0<=90000)
def xl8 (k:Nat):Bool:=xay (xnv w d k) 0 w.length
def xcj (q:Nat):Nat->List (List D)
 | 0=>[]
 | n+1=>xcj q n++[if n=q then [] else xO9 w d n]
end
def xg7 (k1 a1 a2 ml ll nj:Int) (re:Bool) (ms no pe po:Int) (ju:List (List D)) (la:Int):Prop:=
 (k1=1/\a1=la/\(0<=la/\la<=1000000)/\0<=a2/\a2<=1000000)/\(ml=1440/\ll=1440/\nj=1)/\re=false/\(ms=0/\no=1/\pe=100/\po = -1)/\ju=[[.i 0]]
def xke (c q mi:Int):Prop:=(0<=q/\q<c)/\c<=12/\0<=mi/\mi<=1000
def G5 (ds:List D):T (List D):=match ds with
 | []=>.leaf [.b true]
 | _=>.fail
def xVy (ds:List D):T (Ex×List D):=match ds with
 | [h,la,q,mi,g,j,c,f,w,lo,n,n1,n2,n3,k1,a1,a2,ml,ll,nj,re,ms,no,pe,po,du,cl,op,ch,ju]=>.need (yes (h.I=0/\((xec c.I f.I w.L=true/\xke c.I q.I mi.I/\xgp c.I f.I w.L du.L cl.L op.L ch.L lo.I n.I n1.I n2.I n3.I)/\xg7 k1.I a1.I a2.I ml.I ll.I nj.I re.B ms.I no.I pe.I po.I ju.L la.I)/\j.I=0/\g.I=0)) (.leaf (.exit 0,[.i la.I,.i q.I,.i mi.I,.i (xbg w.L w.L.length),.i c.I,.i f.I,.l w.L,.i 1,.i (w.L.length+1:Nat),.i w.L.length,.i w.L.length,.i w.L.length,.i w.L.length,.i k1.I,.i a1.I,.i a2.I,.i ml.I,.i ll.I,.i 1,.b re.B,.i ms.I,.i no.I,.i pe.I,.i po.I,.l du.L,.l cl.L,.l op.L,.l ch.L,.l (xa8 w.L w.L.length),.l ju.L]))
 | h::la::[q,mi,g,j,c,f,w,lo,n,n1,n2,n3,ni,k1,a1,a2,ml,ll,nj,re,ms,no,pe,po,du,cl,op,ch,it,ju]=>.need (yes (h.I=1/\((xec c.I f.I w.L=true/\xke c.I q.I mi.I/\xgp c.I f.I w.L du.L cl.L op.L ch.L lo.I n.I n1.I n2.I n3.I)/\xg7 k1.I a1.I a2.I ml.I ll.I nj.I re.B ms.I no.I pe.I po.I ju.L la.I)/\(1<=j.I/\j.I<=w.L.length)/\ni.I=j.I/\it.L=xa8 w.L j.I.toNat/\g.I=xbg w.L j.I.toNat)) (.leaf (.exit 0,[.i la.I,.i q.I,.i mi.I,.i (xbg w.L w.L.length),.i c.I,.i f.I,.l w.L,.i 1,.i (w.L.length+1:Nat),.i w.L.length,.i w.L.length,.i w.L.length,.i w.L.length,.i k1.I,.i a1.I,.i a2.I,.i ml.I,.i ll.I,.i 1,.b re.B,.i ms.I,.i no.I,.i pe.I,.i po.I,.l du.L,.l cl.L,.l op.L,.l ch.L,.l (xa8 w.L w.L.length),.l ju.L]))
 | _=>.fail
def xGe (ds:List D):T (Ex×List D):=match ds with
 | h::la::q::mi::[g,k,j,c,f,w,lo,n,n1,n2,n3,ni,k1,a1,a2,ml,ll,nj,re,ms,no,pe,po,k0,du,cl,op,ch,it,ju]=>.need (yes (h.I=0/\((xec c.I f.I w.L=true/\xke c.I q.I mi.I/\xgp c.I f.I w.L du.L cl.L op.L ch.L lo.I n.I n1.I n2.I n3.I)/\xg7 k1.I a1.I a2.I ml.I ll.I nj.I re.B ms.I no.I pe.I po.I ju.L la.I)/\(ni.I=w.L.length/\it.L=xa8 w.L w.L.length/\g.I=xbg w.L w.L.length)/\(0<=k.I/\k.I<c.I)/\k0.I=0/\k.I=0/\j.I=0)) (.ite (xay (xnv w.L (xaf c.I f.I w.L ch.L) k.I.toNat) 0 (w.L.length - 0)) (.leaf (.exit 4,[.i 0,.i la.I,.i q.I,.i mi.I,.i (xbg w.L w.L.length),.i k.I,.i c.I,.i f.I,.l w.L,.i 1,.i (w.L.length+1:Nat),.i w.L.length,.i w.L.length,.i w.L.length,.i w.L.length,.i k1.I,.i a1.I,.i a2.I,.i ml.I,.i ll.I,.i 1,.b re.B,.i ms.I,.i no.I,.i pe.I,.i po.I,.i 0,.i (xax w.L (xaf c.I f.I w.L ch.L) k.I.toNat w.L.length).length,.i w.L.length,.l du.L,.l cl.L,.l op.L,.l ch.L,.l (xa8 w.L w.L.length),.l ju.L,.l (xax w.L (xaf c.I f.I w.L ch.L) k.I.toNat w.L.length),.l (xbu w.L (xaf c.I f.I w.L ch.L) k.I.toNat w.L.length)])) (.leaf (.ret,[.b true])))
 | h::la::q::mi::g::k::j::c::[f,w,lo,n,n1,n2,n3,ni,k1,a1,a2,ml,ll,nj,re,ms,no,pe,po,k0,ns,nl,du,cl,op,ch,it,ju,S,M]=>.need (yes (h.I=1/\((xec c.I f.I w.L=true/\xke c.I q.I mi.I/\xgp c.I f.I w.L du.L cl.L op.L ch.L lo.I n.I n1.I n2.I n3.I)/\xg7 k1.I a1.I a2.I ml.I ll.I nj.I re.B ms.I no.I pe.I po.I ju.L la.I)/\(ni.I=w.L.length/\it.L=xa8 w.L w.L.length/\g.I=xbg w.L w.L.length)/\(0<=k.I/\k.I<c.I)/\k0.I=0/\k.I=0/\((1<=j.I/\j.I<=w.L.length)/\ns.I=S.L.length/\nl.I=j.I/\S.L=xax w.L (xaf c.I f.I w.L ch.L) k.I.toNat j.I.toNat/\M.L=xbu w.L (xaf c.I f.I w.L ch.L) k.I.toNat j.I.toNat))) (.ite (xay (xnv w.L (xaf c.I f.I w.L ch.L) k.I.toNat) j.I.toNat (w.L.length - j.I.toNat)) (.leaf (.exit 4,[.i 0,.i la.I,.i q.I,.i mi.I,.i (xbg w.L w.L.length),.i k.I,.i c.I,.i f.I,.l w.L,.i 1,.i (w.L.length+1:Nat),.i w.L.length,.i w.L.length,.i w.L.length,.i w.L.length,.i k1.I,.i a1.I,.i a2.I,.i ml.I,.i ll.I,.i 1,.b re.B,.i ms.I,.i no.I,.i pe.I,.i po.I,.i 0,.i (xax w.L (xaf c.I f.I w.L ch.L) k.I.toNat w.L.length).length,.i w.L.length,.l du.L,.l cl.L,.l op.L,.l ch.L,.l (xa8 w.L w.L.length),.l ju.L,.l (xax w.L (xaf c.I f.I w.L ch.L) k.I.toNat w.L.length),.l (xbu w.L (xaf c.I f.I w.L ch.L) k.I.toNat w.L.length)])) (.leaf (.ret,[.b true])))
 | h::la::q::mi::g::nc::[k,j,c,f,w,lo,n,n1,n2,n3,ni,k1,a1,a2,ml,ll,nj,re,ms,no,pe,po,rows,k0,du,cl,op,ch,it,ju]=>.need (yes (h.I=2/\((xec c.I f.I w.L=true/\xke c.I q.I mi.I/\xgp c.I f.I w.L du.L cl.L op.L ch.L lo.I n.I n1.I n2.I n3.I)/\xg7 k1.I a1.I a2.I ml.I ll.I nj.I re.B ms.I no.I pe.I po.I ju.L la.I)/\(ni.I=w.L.length/\it.L=xa8 w.L w.L.length/\g.I=xbg w.L w.L.length)/\(0<=k.I/\k.I<c.I)/\k0.I=0/\((0<k.I/\k.I<=q.I)/\nc.I=k.I/\rows.L=xcj w.L (xaf c.I f.I w.L ch.L) q.I.toNat k.I.toNat)/\j.I=0)) (.ite (xay (xnv w.L (xaf c.I f.I w.L ch.L) k.I.toNat) 0 (w.L.length - 0)) (.leaf (.exit 4,[.i 1,.i la.I,.i q.I,.i mi.I,.i (xbg w.L w.L.length),.i k.I,.i k.I,.i c.I,.i f.I,.l w.L,.i 1,.i (w.L.length+1:Nat),.i w.L.length,.i w.L.length,.i w.L.length,.i w.L.length,.i k1.I,.i a1.I,.i a2.I,.i ml.I,.i ll.I,.i 1,.b re.B,.i ms.I,.i no.I,.i pe.I,.i po.I,.l (xcj w.L (xaf c.I f.I w.L ch.L) q.I.toNat k.I.toNat),.i 0,.i (xax w.L (xaf c.I f.I w.L ch.L) k.I.toNat w.L.length).length,.i w.L.length,.l du.L,.l cl.L,.l op.L,.l ch.L,.l (xa8 w.L w.L.length),.l ju.L,.l (xax w.L (xaf c.I f.I w.L ch.L) k.I.toNat w.L.length),.l (xbu w.L (xaf c.I f.I w.L ch.L) k.I.toNat w.L.length)])) (.leaf (.ret,[.b true])))
 | h::la::q::mi::g::nc::k::j::c::f::[w,lo,n,n1,n2,n3,ni,k1,a1,a2,ml,ll,nj,re,ms,no,pe,po,rows,k0,ns,nl,du,cl,op,ch,it,ju,S,M]=>.need (yes (h.I=3/\((xec c.I f.I w.L=true/\xke c.I q.I mi.I/\xgp c.I f.I w.L du.L cl.L op.L ch.L lo.I n.I n1.I n2.I n3.I)/\xg7 k1.I a1.I a2.I ml.I ll.I nj.I re.B ms.I no.I pe.I po.I ju.L la.I)/\(ni.I=w.L.length/\it.L=xa8 w.L w.L.length/\g.I=xbg w.L w.L.length)/\(0<=k.I/\k.I<c.I)/\k0.I=0/\((0<k.I/\k.I<=q.I)/\nc.I=k.I/\rows.L=xcj w.L (xaf c.I f.I w.L ch.L) q.I.toNat k.I.toNat)/\((1<=j.I/\j.I<=w.L.length)/\ns.I=S.L.length/\nl.I=j.I/\S.L=xax w.L (xaf c.I f.I w.L ch.L) k.I.toNat j.I.toNat/\M.L=xbu w.L (xaf c.I f.I w.L ch.L) k.I.toNat j.I.toNat))) (.ite (xay (xnv w.L (xaf c.I f.I w.L ch.L) k.I.toNat) j.I.toNat (w.L.length - j.I.toNat)) (.leaf (.exit 4,[.i 1,.i la.I,.i q.I,.i mi.I,.i (xbg w.L w.L.length),.i k.I,.i k.I,.i c.I,.i f.I,.l w.L,.i 1,.i (w.L.length+1:Nat),.i w.L.length,.i w.L.length,.i w.L.length,.i w.L.length,.i k1.I,.i a1.I,.i a2.I,.i ml.I,.i ll.I,.i 1,.b re.B,.i ms.I,.i no.I,.i pe.I,.i po.I,.l (xcj w.L (xaf c.I f.I w.L ch.L) q.I.toNat k.I.toNat),.i 0,.i (xax w.L (xaf c.I f.I w.L ch.L) k.I.toNat w.L.length).length,.i w.L.length,.l du.L,.l cl.L,.l op.L,.l ch.L,.l (xa8 w.L w.L.length),.l ju.L,.l (xax w.L (xaf c.I f.I w.L ch.L) k.I.toNat w.L.length),.l (xbu w.L (xaf c.I f.I w.L ch.L) k.I.toNat w.L.length)])) (.leaf (.ret,[.b true])))
 | h::la::q::mi::g::nc::k::j::c::f::w::lo::[n,n1,n2,n3,ni,k1,a1,a2,ml,ll,nj,re,ms,no,pe,po,rows,q',hc,hs,hl,k0,du,cl,op,ch,it,ju,S',M']=>.need (yes (h.I=4/\((xec c.I f.I w.L=true/\xke c.I q.I mi.I/\xgp c.I f.I w.L du.L cl.L op.L ch.L lo.I n.I n1.I n2.I n3.I)/\xg7 k1.I a1.I a2.I ml.I ll.I nj.I re.B ms.I no.I pe.I po.I ju.L la.I)/\(ni.I=w.L.length/\it.L=xa8 w.L w.L.length/\g.I=xbg w.L w.L.length)/\(0<=k.I/\k.I<c.I)/\k0.I=0/\((q.I<k.I/\q'.I=q.I)/\nc.I=k.I/\rows.L=xcj w.L (xaf c.I f.I w.L ch.L) q.I.toNat k.I.toNat/\hc.I=0/\hs.I=S'.L.length/\hl.I=w.L.length/\S'.L=xax w.L (xaf c.I f.I w.L ch.L) q.I.toNat w.L.length/\M'.L=xbu w.L (xaf c.I f.I w.L ch.L) q.I.toNat w.L.length)/\j.I=0)) (.ite (xay (xnv w.L (xaf c.I f.I w.L ch.L) k.I.toNat) 0 (w.L.length - 0)) (.leaf (.exit 4,[.i 2,.i la.I,.i q.I,.i mi.I,.i (xbg w.L w.L.length),.i k.I,.i k.I,.i c.I,.i f.I,.l w.L,.i 1,.i (w.L.length+1:Nat),.i w.L.length,.i w.L.length,.i w.L.length,.i w.L.length,.i k1.I,.i a1.I,.i a2.I,.i ml.I,.i ll.I,.i 1,.b re.B,.i ms.I,.i no.I,.i pe.I,.i po.I,.l (xcj w.L (xaf c.I f.I w.L ch.L) q.I.toNat k.I.toNat),.i q.I,.i 0,.i (xax w.L (xaf c.I f.I w.L ch.L) q.I.toNat w.L.length).length,.i w.L.length,.i 0,.i (xax w.L (xaf c.I f.I w.L ch.L) k.I.toNat w.L.length).length,.i w.L.length,.l du.L,.l cl.L,.l op.L,.l ch.L,.l (xa8 w.L w.L.length),.l ju.L,.l (xax w.L (xaf c.I f.I w.L ch.L) q.I.toNat w.L.length),.l (xbu w.L (xaf c.I f.I w.L ch.L) q.I.toNat w.L.length),.l (xax w.L (xaf c.I f.I w.L ch.L) k.I.toNat w.L.length),.l (xbu w.L (xaf c.I f.I w.L ch.L) k.I.toNat w.L.length)])) (.leaf (.ret,[.b true])))
 | h::la::q::mi::g::nc::k::j::c::f::w::lo::n::n1::n2::n3::[ni,k1,a1,a2,ml,ll,nj,re,ms,no,pe,po,rows,q',hc,hs,hl,k0,ns,nl,du,cl,op,ch,it,ju,S',M',S,M]=>.need (yes (h.I=5/\((xec c.I f.I w.L=true/\xke c.I q.I mi.I/\xgp c.I f.I w.L du.L cl.L op.L ch.L lo.I n.I n1.I n2.I n3.I)/\xg7 k1.I a1.I a2.I ml.I ll.I nj.I re.B ms.I no.I pe.I po.I ju.L la.I)/\(ni.I=w.L.length/\it.L=xa8 w.L w.L.length/\g.I=xbg w.L w.L.length)/\(0<=k.I/\k.I<c.I)/\k0.I=0/\((q.I<k.I/\q'.I=q.I)/\nc.I=k.I/\rows.L=xcj w.L (xaf c.I f.I w.L ch.L) q.I.toNat k.I.toNat/\hc.I=0/\hs.I=S'.L.length/\hl.I=w.L.length/\S'.L=xax w.L (xaf c.I f.I w.L ch.L) q.I.toNat w.L.length/\M'.L=xbu w.L (xaf c.I f.I w.L ch.L) q.I.toNat w.L.length)/\((1<=j.I/\j.I<=w.L.length)/\ns.I=S.L.length/\nl.I=j.I/\S.L=xax w.L (xaf c.I f.I w.L ch.L) k.I.toNat j.I.toNat/\M.L=xbu w.L (xaf c.I f.I w.L ch.L) k.I.toNat j.I.toNat))) (.ite (xay (xnv w.L (xaf c.I f.I w.L ch.L) k.I.toNat) j.I.toNat (w.L.length - j.I.toNat)) (.leaf (.exit 4,[.i 2,.i la.I,.i q.I,.i mi.I,.i (xbg w.L w.L.length),.i k.I,.i k.I,.i c.I,.i f.I,.l w.L,.i 1,.i (w.L.length+1:Nat),.i w.L.length,.i w.L.length,.i w.L.length,.i w.L.length,.i k1.I,.i a1.I,.i a2.I,.i ml.I,.i ll.I,.i 1,.b re.B,.i ms.I,.i no.I,.i pe.I,.i po.I,.l (xcj w.L (xaf c.I f.I w.L ch.L) q.I.toNat k.I.toNat),.i q.I,.i 0,.i (xax w.L (xaf c.I f.I w.L ch.L) q.I.toNat w.L.length).length,.i w.L.length,.i 0,.i (xax w.L (xaf c.I f.I w.L ch.L) k.I.toNat w.L.length).length,.i w.L.length,.l du.L,.l cl.L,.l op.L,.l ch.L,.l (xa8 w.L w.L.length),.l ju.L,.l (xax w.L (xaf c.I f.I w.L ch.L) q.I.toNat w.L.length),.l (xbu w.L (xaf c.I f.I w.L ch.L) q.I.toNat w.L.length),.l (xax w.L (xaf c.I f.I w.L ch.L) k.I.toNat w.L.length),.l (xbu w.L (xaf c.I f.I w.L ch.L) k.I.toNat w.L.length)])) (.leaf (.ret,[.b true])))
 | _=>.fail
def xPv (ds:List D):T (Ex×List D):=match ds with
 | h::la::[q,mi,g,k,c,f,w,lo,n,n1,n2,n3,ni,k1,a1,a2,ml,ll,nj,re,ms,no,pe,po,du,cl,op,ch,it,ju]=>.need (yes (h.I=0/\((xec c.I f.I w.L=true/\xke c.I q.I mi.I/\xgp c.I f.I w.L du.L cl.L op.L ch.L lo.I n.I n1.I n2.I n3.I)/\xg7 k1.I a1.I a2.I ml.I ll.I nj.I re.B ms.I no.I pe.I po.I ju.L la.I)/\(ni.I=w.L.length/\it.L=xa8 w.L w.L.length/\g.I=xbg w.L w.L.length)/\(0<=k.I/\k.I<=c.I)/\k.I=0)) (.ite (xay (xl8 w.L (xaf c.I f.I w.L ch.L)) k.I.toNat (c.I.toNat - k.I.toNat)) (.leaf (.exit 2,[.i la.I,.i q.I,.i mi.I,.i (xbg w.L w.L.length),.i c.I,.i c.I,.i f.I,.l w.L,.i w.L.length,.i k1.I,.i a1.I,.i a2.I,.i ml.I,.i ll.I,.i 1,.b re.B,.i ms.I,.i no.I,.i pe.I,.i po.I,.l (xcj w.L (xaf c.I f.I w.L ch.L) q.I.toNat c.I.toNat),.i q.I,.i 0,.i (xax w.L (xaf c.I f.I w.L ch.L) q.I.toNat w.L.length).length,.i w.L.length,.l (xa8 w.L w.L.length),.l ju.L,.l (xax w.L (xaf c.I f.I w.L ch.L) q.I.toNat w.L.length),.l (xbu w.L (xaf c.I f.I w.L ch.L) q.I.toNat w.L.length)])) (.leaf (.ret,[.b true])))
 | h::la::q::mi::[g,nc,k,c,f,w,lo,n,n1,n2,n3,ni,k1,a1,a2,ml,ll,nj,re,ms,no,pe,po,rows,du,cl,op,ch,it,ju]=>.need (yes (h.I=1/\((xec c.I f.I w.L=true/\xke c.I q.I mi.I/\xgp c.I f.I w.L du.L cl.L op.L ch.L lo.I n.I n1.I n2.I n3.I)/\xg7 k1.I a1.I a2.I ml.I ll.I nj.I re.B ms.I no.I pe.I po.I ju.L la.I)/\(ni.I=w.L.length/\it.L=xa8 w.L w.L.length/\g.I=xbg w.L w.L.length)/\(0<=k.I/\k.I<=c.I)/\((0<k.I/\k.I<=q.I)/\nc.I=k.I/\rows.L=xcj w.L (xaf c.I f.I w.L ch.L) q.I.toNat k.I.toNat))) (.ite (xay (xl8 w.L (xaf c.I f.I w.L ch.L)) k.I.toNat (c.I.toNat - k.I.toNat)) (.leaf (.exit 2,[.i la.I,.i q.I,.i mi.I,.i (xbg w.L w.L.length),.i c.I,.i c.I,.i f.I,.l w.L,.i w.L.length,.i k1.I,.i a1.I,.i a2.I,.i ml.I,.i ll.I,.i 1,.b re.B,.i ms.I,.i no.I,.i pe.I,.i po.I,.l (xcj w.L (xaf c.I f.I w.L ch.L) q.I.toNat c.I.toNat),.i q.I,.i 0,.i (xax w.L (xaf c.I f.I w.L ch.L) q.I.toNat w.L.length).length,.i w.L.length,.l (xa8 w.L w.L.length),.l ju.L,.l (xax w.L (xaf c.I f.I w.L ch.L) q.I.toNat w.L.length),.l (xbu w.L (xaf c.I f.I w.L ch.L) q.I.toNat w.L.length)])) (.leaf (.ret,[.b true])))
 | h::la::q::mi::g::nc::k::c::f::w::[lo,n,n1,n2,n3,ni,k1,a1,a2,ml,ll,nj,re,ms,no,pe,po,rows,q',hc,hs,hl,du,cl,op,ch,it,ju,S',M']=>.need (yes (h.I=2/\((xec c.I f.I w.L=true/\xke c.I q.I mi.I/\xgp c.I f.I w.L du.L cl.L op.L ch.L lo.I n.I n1.I n2.I n3.I)/\xg7 k1.I a1.I a2.I ml.I ll.I nj.I re.B ms.I no.I pe.I po.I ju.L la.I)/\(ni.I=w.L.length/\it.L=xa8 w.L w.L.length/\g.I=xbg w.L w.L.length)/\(0<=k.I/\k.I<=c.I)/\((q.I<k.I/\q'.I=q.I)/\nc.I=k.I/\rows.L=xcj w.L (xaf c.I f.I w.L ch.L) q.I.toNat k.I.toNat/\hc.I=0/\hs.I=S'.L.length/\hl.I=w.L.length/\S'.L=xax w.L (xaf c.I f.I w.L ch.L) q.I.toNat w.L.length/\M'.L=xbu w.L (xaf c.I f.I w.L ch.L) q.I.toNat w.L.length))) (.ite (xay (xl8 w.L (xaf c.I f.I w.L ch.L)) k.I.toNat (c.I.toNat - k.I.toNat)) (.leaf (.exit 2,[.i la.I,.i q.I,.i mi.I,.i (xbg w.L w.L.length),.i c.I,.i c.I,.i f.I,.l w.L,.i w.L.length,.i k1.I,.i a1.I,.i a2.I,.i ml.I,.i ll.I,.i 1,.b re.B,.i ms.I,.i no.I,.i pe.I,.i po.I,.l (xcj w.L (xaf c.I f.I w.L ch.L) q.I.toNat c.I.toNat),.i q.I,.i 0,.i (xax w.L (xaf c.I f.I w.L ch.L) q.I.toNat w.L.length).length,.i w.L.length,.l (xa8 w.L w.L.length),.l ju.L,.l (xax w.L (xaf c.I f.I w.L ch.L) q.I.toNat w.L.length),.l (xbu w.L (xaf c.I f.I w.L ch.L) q.I.toNat w.L.length)])) (.leaf (.ret,[.b true])))
 | _=>.fail
def xGd (ds:List D):T (Ex×List D):=match ds with
 | [la',q,mi',l,c1,la,ea,ml,ll,ju,re,mi,no,pe,po,pt,ex,nc,k,c,f,w,rows,q',hc,hs,hl,S,M]=>.need (yes ((xan l.L c1.I la.I ea.I ml.I ll.I ju.L re.B mi.I no.I pe.I po.I pt.L ex.L/\xat l.L (rows.L.set q'.I.toNat [.i hc.I,.l S.L,.l M.L]))/\(∀ k,k<rows.L.length->xhb l.L (rows.L.set q'.I.toNat [.i hc.I,.l S.L,.l M.L]) k=0)/\(nc.I=rows.L.length/\c.I=rows.L.length)/\(0<=q'.I/\q'.I<rows.L.length)/\(hs.I=S.L.length/\hl.I=M.L.length)/\0<=k.I/\k.I<=nc.I)) (.leaf (.exit 6,[.i la'.I,.i q.I,.i mi'.I,.l l.L,.i c1.I,.i la.I,.i ea.I,.i ml.I,.i ll.I,.l ju.L,.b re.B,.i mi.I,.i no.I,.i pe.I,.i po.I,.l pt.L,.l ex.L,.i nc.I,.i c.I,.i f.I,.l w.L,.l rows.L,.i q'.I,.i hc.I,.i hs.I,.i hl.I,.l S.L,.l M.L]))
 | _=>.fail
def xPu (ds:List D):T (Ex×List D):=match ds with
 | [l,c,la,ea,ml,ll,ju,re,mi,no,pe,po,pt,ex,nc,n,nd,su,i,rows,D]=>.need (yes ((nc.I=rows.L.length/\nd.I=D.L.length)/\D.L.length<=1000/\(0<=i.I/\i.I<=D.L.length)/\su.I=xf6 (D.L.take i.I.toNat)/\∀ j,j<D.L.length->0<=ix (D.L.getD j []) 3/\ix (D.L.getD j []) 3<=1000000000)) (.leaf (.exit 8,[.l l.L,.i c.I,.i la.I,.i ea.I,.i ml.I,.i ll.I,.l ju.L,.b re.B,.i mi.I,.i no.I,.i pe.I,.i po.I,.l pt.L,.l ex.L,.i rows.L.length,.i n.I,.i D.L.length,.i (xf6 D.L),.l rows.L,.l D.L]))
 | _=>.fail
end
theorem xsh (w:List (List D)) (j:Nat):xbg w (j+1)=xbg w j\/xbg w (j+1)=xbg w j+1:=by
 simp only [xbg];split
 ·exact .inr rfl
 ·exact .inl (Int.add_zero _)
theorem xq7 (w:List (List D)):∀ j,0<=xbg w j
 | 0=>Int.le_refl _
 | j + 1=>by
   have:=xq7 w j;have:=xsh w j;omega
theorem xEa (w:List (List D)) {i:Nat}:∀ {j:Nat},i<=j->xbg w i<=xbg w j
 | 0,h=>by rw [show i=0 by omega];exact Int.le_refl _
 | j + 1,h=>by
   by_cases e:i=j+1
   ·rw [e];exact Int.le_refl _
   ·have:=xEa w (show i<=j by omega);have:=xsh w j;omega
theorem xew (w:List (List D)):∀ n,(xa8 w n).length=n
 | 0=>rfl
 | n+1=>by simp only [xa8,List.length_append,List.length_cons,List.length_nil,xew w n]
theorem xsk (w:List (List D)):∀ {n j:Nat},j<n->(xa8 w n).getD j []=xF5 w j
 | 0,_,h=>by omega
 | n + 1,j,h=>by
   simp only [xa8];by_cases e:j<n
   ·rw [List.getD_eq_getElem?_getD,List.getElem?_append_left (by rw [xew];exact e),<- List.getD_eq_getElem?_getD];exact xsk w e
   ·have e:j=n:=by omega
    subst e;rw [List.getD_eq_getElem?_getD,List.getElem?_append_right (by rw [xew];exact Nat.le_refl _),xew,Nat.sub_self];rfl
theorem xmk (w:List (List D)) {n j:Nat} (h:j<n):xd8 (xa8 w n) j=xbg w (j+1):=by
 unfold xd8;rw [xsk w h];rfl
section
variable {c f:Int} {w:List (List D)}
theorem xIo (h:xaw c f w=true) {j:Nat} (hj:j<w.length):(bx (w.getD j []) 4=true->0<j)/\(bx (w.getD j []) 4=false->(ix (w.getD j []) 5=0/\ix (w.getD j []) 6=0)/\(0<j->ix (w.getD j []) 3=ix (w.getD (j - 1) []) 3)):=by
 unfold xaw at h;rw [Bool.and_eq_true,xdz] at h;have:=h.2 j (Nat.zero_le _) (by omega);unfold xon xqg xpa at this;rw [Bool.and_eq_true,Bool.and_eq_true] at this;have h2:=this.2.1;refine ⟨fun hb=>?_,fun hb=>?_⟩
 ·rw [if_pos hb] at h2;cases j with
  | zero=>cases h2
  | succ j=>omega
 ·rw [if_neg (by rw [hb];decide),Bool.and_eq_true,decide_eq_true_eq] at h2;refine ⟨h2.1,fun h0=>?_⟩;have h3:=h2.2;rw [Bool.or_eq_true,decide_eq_true_eq] at h3;rcases h3 with h3 | h3
  ·have:j=0:=eq_of_beq h3;omega
  ·exact h3
theorem xuj (h:xaw c f w=true):∀ {j:Nat},j+1<=w.length->xbg w (j+1)<=j
 | 0, hj=>by
   have:=(xIo h (show 0<w.length by omega)).1;simp only [xbg];rw [if_neg (fun e=>by have:=this e;omega)];exact Int.le_refl _
 | j + 1,hj=>by
   have:=xuj h (show j+1<=w.length by omega);have:=xsh w (j+1);omega
theorem xvu (h:xaw c f w=true):xbg w 1=0:=by
 have h1:xbg w 1<=((0:Nat):Int):=xuj h (by have:=(xb1 h).2.1;omega);have h2:=xq7 w 1;omega
theorem xYc (h:xec c f w=true) {k1 a1 a2 ml ll nj ms no pe po la:Int} {re:Bool} {ju:List (List D)} (hr:xg7 k1 a1 a2 ml ll nj re ms no pe po ju la):xan (xa8 w w.length) k1 a1 a2 ml ll ju re ms no pe po [] []:=by
 obtain ⟨hp,-,h6⟩:=xe4 h;obtain ⟨⟨r1,r2,r3,r4⟩,⟨r5,r6,r7⟩,r8,r9,r10⟩:=hr;have p1:=(xb1 hp).2.1;refine ⟨⟨by rw [xew];omega,fun j hj=>?_⟩,⟨r1,by omega,by omega,r4⟩,⟨r5,r6⟩,r10,r8,r9,rfl,rfl⟩;rw [xew] at hj;have hw:=xdh (xdt hp hj).1;have hl:=xuj hp (show j+1<=w.length by omega);have hn:=xq7 w (j+1);unfold xAq;rw [xmk w hj,xsk w hj];refine ⟨rfl,?_,?_,rfl,hn,by omega,fun e=>?_,fun e=>?_⟩
 ·show 0<=ix (w.getD j []) 0;omega
 ·show ix (w.getD j []) 0<=1440;omega
 ·subst e;omega
 ·rw [xmk w (show j - 1<w.length by omega),show j - 1+1=j by omega];exact xsh w j
end
section
variable {w d:List (List D)} {k:Int}
theorem xDe {kk:Nat}:∀ {n:Nat} {x:List D},x∈xax w d kk n->∃ j,j<n/\x=[.i (xb5 w d kk j)]
 | 0,_,h=>by cases h
 | n + 1,x,h=>by
   simp only [xax] at h;rcases List.mem_append.1 h with h | h
   ·obtain ⟨j,h1,h2⟩:=xDe h;exact ⟨j,by omega,h2⟩
   ·split at h
    ·rw [List.mem_singleton] at h;exact ⟨n,by omega,h⟩
    ·cases h
theorem xpk {kk:Nat}:∀ n,((xax w d kk (n+1)).length:Int)=xbg w (n+1) - xbg w 1+1
 | 0 => by
   simp only [xax];rw [if_pos (.inl trivial)];show (1:Int)=xbg w 1 - xbg w 1+1;omega
 | n + 1=>by
   have h:=xpk (kk:=kk) n;rw [xax,List.length_append,xbg];by_cases e:bx (w.getD (n+1) []) 4=true
   ·rw [if_pos (.inr e),if_pos e];simp only [List.length_cons,List.length_nil];omega
   ·rw [if_neg (fun x=>x.elim (fun h=>by omega) e),if_neg e];simp only [List.length_nil];omega
theorem xGy {kk:Nat} (h1:xbg w 1=0):∀ {n j:Nat},j<n->(j=0\/bx (w.getD j []) 4=true)->(xax w d kk n).getD (xbg w (j+1)).toNat []=[.i (xb5 w d kk j)]
 | 0,_,h,_=>by omega
 | n + 1, j,h,hg=>by
   rw [xax];by_cases e:j<n
   ·obtain ⟨m,rfl⟩:∃ m,n=m+1:=⟨n - 1,by omega⟩;have hl:=xpk (w:=w) (d:=d) (kk:=kk) m;have hm:=xEa w (show j+1<=m+1 by omega);have hn:=xq7 w (j+1);rw [List.getD_eq_getElem?_getD,List.getElem?_append_left (by omega),<- List.getD_eq_getElem?_getD];exact xGy h1 e hg
   ·have e : j=n:=by omega
    subst e;rw [if_pos hg];have hl:(xax w d kk j).length=(xbg w (j+1)).toNat:=by
     cases j with
     | zero=>rw [h1];rfl
     | succ m=>
       have hl:=xpk (w:=w) (d:=d) (kk:=kk) m;have hb:bx (w.getD (m+1) []) 4=true:=by
        rcases hg with hg | hg
        ·omega
        ·exact hg
       have:xbg w (m+1+1)=xbg w (m+1)+1:=by
        rw [xbg,if_pos hb]
       have:=xq7 w (m+1);omega
    rw [List.getD_eq_getElem?_getD,List.getElem?_append_right (by omega),hl,Nat.sub_self];rfl
theorem xcp {kk:Nat}:∀ n,(xbu w d kk n).length=n
 | 0=>rfl
 | n+1=>by simp only [xbu,List.length_append,List.length_cons,List.length_nil,xcp n]
theorem xvt {kk:Nat}:∀ {n j:Nat},j<n->(xbu w d kk n).getD j []=[.i (xb5 w d kk j+ix (w.getD j []) 0),.i 0,.b false,.i 0]
 | 0,_,h=>by omega
 | n + 1,j,h=>by
   simp only [xbu];by_cases e:j<n
   ·rw [List.getD_eq_getElem?_getD,List.getElem?_append_left (by rw [xcp];exact e),<- List.getD_eq_getElem?_getD];exact xvt e
   ·have e:j=n:=by omega
    subst e;rw [List.getD_eq_getElem?_getD,List.getElem?_append_right (by rw [xcp];exact Nat.le_refl _),xcp,Nat.sub_self];rfl
end
section
variable {c f:Int} {w du cl op ch:List (List D)} {lo n n1 n2 n3:Int}
theorem xVb (h:xgp c f w du cl op ch lo n n1 n2 n3) (k:Int) {j:Nat} (hj:j+1<w.length) (hg:bx (w.getD (j+1) []) 4=false):xb5 w (xaf c f w ch) k (j+1)=xb5 w (xaf c f w ch) k j+ix (w.getD j []) 0:=by
 obtain ⟨-,-,-,-,-,-,-,-,-,hs,-⟩:=xAv h;obtain ⟨h1,h2,-⟩:=hs.2.2 j (by omega);have hno:¬ (j+1<w.length/\bx (w.getD (j+1) []) 4=true):=fun x=>by rw [hg] at x;cases x.2
 unfold leW at h1;unfold moW at h2;rw [if_neg hno] at h1 h2;have h3:=((xIo h.1 hj).2 hg).2 (by omega);rw [show j+1 - 1=j by omega] at h3;unfold xb5;rw [h3];omega
theorem xSh (h:xgp c f w du cl op ch lo n n1 n2 n3) {k:Int} (hk:0<=k) {j:Nat} (hj:j<w.length):0<=xb5 w (xaf c f w ch) k j:=by
 obtain ⟨-,-,-,-,-,-,-,-,hb,-⟩:=xAv h;have h1:=(hb j).1;have h2:=(xdh (xdt h.1 hj).1).2.2.2.1;have h3:0<=k*ix (w.getD j []) 3:=Int.mul_nonneg hk (by omega);unfold xb5;omega
def xAe (w d m:List (List D)) (k e:Int):Prop:=m.length=w.length/\∀ j,j<w.length->ix (m.getD j []) 0=xb5 w d k j+ix (w.getD j []) 0+(if j+1=w.length then e else 0)/\ix (m.getD j []) 1=0/\bx (m.getD j []) 2=false/\ix (m.getD j []) 3=0
theorem xI0 (h:xgp c f w du cl op ch lo n n1 n2 n3) {k:Nat} {m:List (List D)} {e:Int} (hm:xAe w (xaf c f w ch) m k e) {j:Nat} (hj:j<w.length) :
    xkd (xa8 w w.length) (xax w (xaf c f w ch) k w.length) m j=xb5 w (xaf c f w ch) k j+ix (w.getD j []) 0:=by
 have hl1:xbg w 1=0:=xvu h.1;have ht:ix ((xa8 w w.length).getD j []) 2=ix (w.getD j []) 0:=by rw [xsk w hj];rfl
 unfold xkd;rw [ht,xmk w hj];by_cases e1:0<j/\xd8 (xa8 w w.length) (j - 1)=xbg w (j+1)
 ·rw [if_pos e1];obtain ⟨j0,e2⟩:=e1;obtain ⟨i,rfl⟩:∃ i,j=i+1:=⟨j - 1,by omega⟩;rw [xmk w (show i+1 - 1<w.length by omega),show i+1 - 1+1=i+1 by omega,xbg] at e2;have hg:bx (w.getD (i+1) []) 4=false:=by
   cases hb:bx (w.getD (i+1) []) 4 with
   | false=>rfl
   | true=>
     rw [show xbg w (i+1+1)=xbg w (i+1)+(if bx (w.getD (i+1) []) 4=true then 1 else 0) from rfl,if_pos hb] at e2;rw [show xbg w (i+1)=xbg w i+(if bx (w.getD i []) 4=true then 1 else 0) from rfl] at e2;omega
  have hx:=(hm.2 i (by omega)).1;rw [if_neg (by omega),Int.add_zero] at hx;rw [show i+1 - 1=i by omega,hx,xVb h k hj hg]
 ·rw [if_neg e1];have hg:j=0\/bx (w.getD j []) 4=true:=by
   by_cases j0:j=0
   ·exact .inl j0
   ·right;cases hb:bx (w.getD j []) 4 with
    | true=>rfl
    | false=>
      exfalso;obtain ⟨i,rfl⟩:∃ i,j=i+1:=⟨j - 1,by omega⟩;refine e1 ⟨by omega,?_⟩;rw [xmk w (show i+1 - 1<w.length by omega),show i+1 - 1+1=i+1 by omega];rw [show xbg w (i+1+1)=xbg w (i+1)+(if bx (w.getD (i+1) []) 4=true then 1 else 0) from rfl,if_neg (by rw [hb];decide)];omega
  rw [xGy hl1 hj hg];rfl
theorem xL2 (h:xgp c f w du cl op ch lo n n1 n2 n3) {k:Nat} (he:xl8 w (xaf c f w ch) k=true) {m:List (List D)} {e:Int} (hm:xAe w (xaf c f w ch) m k e) (e0:0<=e) (e1:e<=1000) :
    xdl (xa8 w w.length) 0 (xax w (xaf c f w ch) k w.length) m/\xpv (xa8 w w.length) (xax w (xaf c f w ch) k w.length) m=e:=by
 have p1:=(xb1 h.1).2.1;have hl1:xbg w 1=0:=xvu h.1;have hend:∀ j,j<w.length->xb5 w (xaf c f w ch) k j+ix (w.getD j []) 0<=90000:=fun j hj=>by
  unfold xl8 at he;rw [xdz] at he;exact of_decide_eq_true (he j (Nat.zero_le _) (by omega))
 have htg:∀ j,j<w.length->1<=ix (w.getD j []) 0:=fun j hj=>(xdh (xdt h.1 hj).1).1.1
 have hnn:∀ j,j<w.length->0<=xb5 w (xaf c f w ch) k j:=fun j hj=>xSh h (by omega) hj
 have hlate:xpv (xa8 w w.length) (xax w (xaf c f w ch) k w.length) m=e:=by
  unfold xpv;rw [xew,xI0 h hm (by omega),(hm.2 (w.length - 1) (by omega)).1,if_pos (by omega)];omega
 refine ⟨⟨⟨rfl,?_⟩,fun j hj=>?_,by rw [hm.1,xew],fun j hj=>?_,fun j hj=>?_,by rw [hlate];exact ⟨e0,e1⟩⟩,hlate⟩
 ·rw [xew,xmk w (by omega)];obtain ⟨x,hx⟩:∃ x,w.length=x+1:=⟨w.length - 1,by omega⟩;have:=xpk (w:=w) (d:=xaf c f w ch) (kk:=k) x;rw [hx,show x+1 - 1+1=x+1 by omega];omega
 ·obtain ⟨i,hi,hx⟩:=xDe (xHy hj);rw [hx];have:=hnn i hi;have:=hend i hi;have:=htg i hi;show 0<=xb5 w (xaf c f w ch) k i/\xb5 w (xaf c f w ch) k i<=100000;omega
 ·rw [hm.1] at hj;obtain ⟨h1,h2,h3,h4⟩:=hm.2 j hj;have:=hnn j hj;have:=hend j hj;have:=htg j hj;refine ⟨?_,?_,h2,h3,h4⟩ <;> rw [h1] <;> split <;> omega
 ·rw [xew] at hj;rw [xI0 h hm (by omega),(hm.2 j (by omega)).1,if_neg (by omega),Int.add_zero]
theorem xAd (d:List (List D)) (k:Nat):xAe w d (xbu w d k w.length) k 0:=⟨xcp _,fun j hj=>by
 rw [xvt hj,ite_self,Int.add_zero];exact ⟨rfl,rfl,rfl,rfl⟩⟩
theorem xfu (d:List (List D)) (q:Nat):∀ m,(xcj w d q m).length=m
 | 0=>rfl
 | m+1=>by simp only [xcj,List.length_append,List.length_cons,List.length_nil,xfu d q m]
theorem xLr (d:List (List D)) (q:Nat):∀ {m k:Nat},k<m->(xcj w d q m).getD k []=if k=q then [] else xO9 w d k
 | 0,_,h=>by omega
 | m + 1,k,h=>by
   simp only [xcj];by_cases e:k<m
   ·rw [List.getD_eq_getElem?_getD,List.getElem?_append_left (by rw [xfu];exact e),<- List.getD_eq_getElem?_getD];exact xLr d q e
   ·have e:k=m:=by omega
    subst e;rw [List.getD_eq_getElem?_getD,List.getElem?_append_right (by rw [xfu];exact Nat.le_refl _),xfu,Nat.sub_self];rfl
theorem ybi (d:List (List D)) {q m k:Nat} (x:List D) (hq:q<m) (hk:k<m):((xcj w d q m).set q x).getD k []=if k=q then x else xO9 w d k:=by
 rw [List.getD_eq_getElem?_getD,List.getElem?_set];by_cases e:q=k
 ·subst e;rw [if_pos rfl,if_pos (by rw [xfu];exact hq),if_pos rfl];rfl
 ·rw [if_neg e,if_neg (fun h=>e h.symm),<- List.getD_eq_getElem?_getD,xLr d q hk,if_neg (fun h=>e h.symm)]
theorem xI3 (h:xgp c f w du cl op ch lo n n1 n2 n3) (hc:c<=12) (he:xay (xl8 w (xaf c f w ch)) 0 c.toNat=true) {q:Nat} (hq:(q:Int)<c) {m:List (List D)} {e:Int} (hm:xAe w (xaf c f w ch) m q e) (e0:0<=e) (e1:e<=1000) :
    let cs:=(xcj w (xaf c f w ch) q c.toNat).set q [.i 0,.l (xax w (xaf c f w ch) q w.length),.l m]
    xat (xa8 w w.length) cs/\cs.length=c.toNat/\(∀ k,k<cs.length->xhb (xa8 w w.length) cs k=if k=q then e else 0):=by
 intro cs;have hlen:cs.length=c.toNat:=by rw [List.length_set,xfu]
 have hall:∀ k,k<c.toNat->xh4 (xa8 w w.length) cs k/\xhb (xa8 w w.length) cs k=if k=q then e else 0:=fun k hk=>by
  have hek:xl8 w (xaf c f w ch) k=true:=by
   rw [xdz] at he;exact he k (Nat.zero_le _) (by omega)
  unfold xh4 xhb;rw [ybi _ _ (by omega) hk];by_cases ek:k=q
  ·subst ek;rw [if_pos rfl,if_pos rfl];exact xL2 h hek hm e0 e1
  ·rw [if_neg ek,if_neg ek];exact xL2 h hek (xAd _ _) (by omega) (by omega)
 exact ⟨⟨by omega,fun k hk=>(hall k (by omega)).1⟩,hlen,fun k hk=>(hall k (by omega)).2⟩
end
theorem ydt:xbv C 12 Unit none 5 [] [] ()=some (.bool true,[],()):=by kernel_rfl
def sp3:SpL:=[(4,mkF s4 G4),(5,mkF s5 G5),(6,mkF s6 xP6),(7,mkF s7 G7),(8,mkF s8 G8x),(9,mkF s9 G9),(10,mkF s10 G10),(11,mkF s11 G11),(13,mkF s13 G13)]
def lp3:LpL:=[(9,mkL xCc xVy),(16,mkL xpw xPv),(20,mkL xih xGe),(32,mkL xFy xGd),(46,mkL xFx xPu)]
def sw3:SwL:=[(12,xdm s12 G12)]
def xlm:Tab:=xah sp3 lp3 sw3
set_option linter.unusedVariables false
set_option maxRecDepth 100000
theorem xZo (a b c d e f g h i j k l m n o p q r s t u v w x y z z26 z27 z28:D) :
 let X1:=(decide ((0:Int)<=e.I/\e.I<(h.L.length:Int)));let X2:=D.I (List.getD (List.getD h.L e.I.toNat []) 0 default);let X3:=(IntKind.i64.wrap (d.I+(1:Int)));let X4:=(IntKind.i64.wrap (e.I+(1:Int)));(xb4 C xlm 3 (xaa C.P 3 9) xCc [.i 0,a,b,c,d,e,f,g,h,i,j,k,l,m,n,o,p,q,r,s,t,u,v,w,x,y,z,z26,z27,z28]).run =
 T.run (T.ite (decide (e.I<(h.L.length:Int))) (T.need X1 (T.ite (D.B (List.getD (List.getD h.L e.I.toNat []) (0+1+1+1+1) default)) (T.need X1 (T.leaf (Rd.again [D.i 1,D.i a.I,D.i b.I,D.i c.I,D.i X3,D.i X4,D.i f.I,D.i g.I,D.l h.L,D.i (i.I.toNat:Int),D.i (j.I.toNat:Int),D.i (k.I.toNat:Int),D.i (l.I.toNat:Int),D.i (m.I.toNat:Int),D.i 1,D.i n.I,D.i o.I,D.i p.I,D.i q.I,D.i r.I,D.i (s.I.toNat:Int),D.b t.B,D.i u.I,D.i v.I,D.i w.I,D.i x.I,D.l y.L,D.l z.L,D.l z26.L,D.l z27.L,D.l [[D.i 1,D.i X3,D.i X2,D.b false]],D.l z28.L]))) (T.need X1 (T.leaf (Rd.again [D.i 1,D.i a.I,D.i b.I,D.i c.I,D.i d.I,D.i X4,D.i f.I,D.i g.I,D.l h.L,D.i (i.I.toNat:Int),D.i (j.I.toNat:Int),D.i (k.I.toNat:Int),D.i (l.I.toNat:Int),D.i (m.I.toNat:Int),D.i 1,D.i n.I,D.i o.I,D.i p.I,D.i q.I,D.i r.I,D.i (s.I.toNat:Int),D.b t.B,D.i u.I,D.i v.I,D.i w.I,D.i x.I,D.l y.L,D.l z.L,D.l z26.L,D.l z27.L,D.l [[D.i 1,D.i d.I,D.i X2,D.b false]],D.l z28.L]))))) T.fail):=by
 intros
 kernel_rfl
theorem xZn (a b c d e f g h i j k l m n o p q r s t u v w x y z z26 z27 z28 z29 z30:D) :
 let X1:=D.I (List.getD (List.getD h.L e.I.toNat []) 0 default);let X2:=decide (n.I.toNat<=z29.L.length/\n.I.toNat+1<=2 ^ 62/\(n.I.toNat+1)*Tryz.prog.types[45].bytes<=2 ^ 47);let X3:=(decide ((0:Int)<=e.I/\e.I<(h.L.length:Int)));let X4:=(IntKind.i64.wrap (d.I+(1:Int)));let X5:=(IntKind.i64.wrap (e.I+(1:Int)));let X6:=[[D.i 1,D.i d.I,D.i X1,D.b false]];let X7:=[[D.i 1,D.i X4,D.i X1,D.b false]];(xb4 C xlm 3 (xaa C.P 3 9) xCc (.i 1::a::[b,c,d,e,f,g,h,i,j,k,l,m,n,o,p,q,r,s,t,u,v,w,x,y,z,z26,z27,z28,z29,z30])).run =
 T.run (T.ite (decide (e.I<(h.L.length:Int))) (T.need X3 (T.ite (D.B (List.getD (List.getD h.L e.I.toNat []) (0+1+1+1+1) default)) (T.need X3 (T.need X2 (T.leaf (Rd.again [D.i 1,D.i a.I,D.i b.I,D.i c.I,D.i X4,D.i X5,D.i f.I,D.i g.I,D.l h.L,D.i (i.I.toNat:Int),D.i (j.I.toNat:Int),D.i (k.I.toNat:Int),D.i (l.I.toNat:Int),D.i (m.I.toNat:Int),D.i (↑(n.I.toNat+1):Int),D.i o.I,D.i p.I,D.i q.I,D.i r.I,D.i s.I,D.i (t.I.toNat:Int),D.b u.B,D.i v.I,D.i w.I,D.i x.I,D.i y.I,D.l z.L,D.l z26.L,D.l z27.L,D.l z28.L,D.l (List.take n.I.toNat z29.L++List.take (List.length X7) X7),D.l z30.L])))) (T.need X3 (T.need X2 (T.leaf (Rd.again [D.i 1,D.i a.I,D.i b.I,D.i c.I,D.i d.I,D.i X5,D.i f.I,D.i g.I,D.l h.L,D.i (i.I.toNat:Int),D.i (j.I.toNat:Int),D.i (k.I.toNat:Int),D.i (l.I.toNat:Int),D.i (m.I.toNat:Int),D.i (↑(n.I.toNat+1):Int),D.i o.I,D.i p.I,D.i q.I,D.i r.I,D.i s.I,D.i (t.I.toNat:Int),D.b u.B,D.i v.I,D.i w.I,D.i x.I,D.i y.I,D.l z.L,D.l z26.L,D.l z27.L,D.l z28.L,D.l (List.take n.I.toNat z29.L++List.take (List.length X6) X6),D.l z30.L])))))) (T.leaf (Rd.out (Ex.exit 0) [D.i a.I,D.i b.I,D.i c.I,D.i d.I,D.i f.I,D.i g.I,D.l h.L,D.i (i.I.toNat:Int),D.i (j.I.toNat:Int),D.i (k.I.toNat:Int),D.i (l.I.toNat:Int),D.i (m.I.toNat:Int),D.i (n.I.toNat:Int),D.i o.I,D.i p.I,D.i q.I,D.i r.I,D.i s.I,D.i (t.I.toNat:Int),D.b u.B,D.i v.I,D.i w.I,D.i x.I,D.i y.I,D.l z.L,D.l z26.L,D.l z27.L,D.l z28.L,D.l z29.L,D.l z30.L]))):=by
 intros
 kernel_rfl
set_option linter.unusedVariables false
set_option maxRecDepth 100000
theorem yfh (a b c d e f g h i j k l m n o p q r s t u v w x y z z26 z27 z28:D) :
 let X2:=List.take r.I.toNat (List.set w.L x.I.toNat [D.i y.I,D.l (List.take z.I.toNat z27.L),D.l (List.take z26.I.toNat z28.L)]);let X3:=List.getD w.L s.I.toNat [];let X4:=decide (z26.I.toNat<=z28.L.length);let X5:=decide (z.I.toNat<=z27.L.length);let X1:=T.ite (xbc d.L X2 f.I s.I.toNat != (0:Int)) (T.leaf (Rd.out Ex.ret [D.b false])) (T.leaf (Rd.again [D.i a.I,D.i b.I,D.i c.I,D.l d.L,D.i e.I,D.i f.I,D.i g.I,D.i h.I,D.i i.I,D.l j.L,D.b k.B,D.i l.I,D.i m.I,D.i n.I,D.i o.I,D.l p.L,D.l q.L,D.i (r.I.toNat:Int),D.i (IntKind.i64.wrap (s.I+(1:Int))),D.i t.I,D.i u.I,D.l v.L,D.l w.L,D.i (x.I.toNat:Int),D.i y.I,D.i (z.I.toNat:Int),D.i (z26.I.toNat:Int),D.l z27.L,D.l z28.L]));(xb4 C xlm 3 (xaa C.P 3 32) xFy [a,b,c,d,e,f,g,h,i,j,k,l,m,n,o,p,q,r,s,t,u,v,w,x,y,z,z26,z27,z28]).run =
 T.run (T.ite (decide (s.I<t.I)) (T.need (decide (r.I.toNat<=w.L.length)) (T.need X5 (T.need X4 (T.need (yes (xan d.L e.I f.I g.I h.I i.I j.L k.B l.I m.I n.I o.I p.L q.L/\xat d.L X2/\(0:Int)<=s.I/\s.I<(↑(List.length X2):Int))) (T.need (decide ((0:Int)<=s.I/\s.I<(r.I.toNat:Int))) (T.need (decide (s.I.toNat<w.L.length)) (T.ite (decide (s.I.toNat=x.I.toNat)) (T.need X5 (T.need X4 (T.need (yes (xan d.L e.I f.I g.I h.I i.I j.L k.B l.I m.I n.I o.I p.L q.L/\xdl d.L y.I (List.take z.I.toNat z27.L) (List.take z26.I.toNat z28.L))) X1))) (T.need (yes (xan d.L e.I f.I g.I h.I i.I j.L k.B l.I m.I n.I o.I p.L q.L/\xdl d.L (D.I (List.getD X3 0 default)) (D.L (List.getD X3 (0+1) default)) (D.L (List.getD X3 (0+1+1) default)))) X1)))))))) (T.leaf (Rd.out (Ex.exit 6) [D.i a.I,D.i b.I,D.i c.I,D.l d.L,D.i e.I,D.i f.I,D.i g.I,D.i h.I,D.i i.I,D.l j.L,D.b k.B,D.i l.I,D.i m.I,D.i n.I,D.i o.I,D.l p.L,D.l q.L,D.i (r.I.toNat:Int),D.i t.I,D.i u.I,D.l v.L,D.l w.L,D.i (x.I.toNat:Int),D.i y.I,D.i (z.I.toNat:Int),D.i (z26.I.toNat:Int),D.l z27.L,D.l z28.L]))):=by
 intros
 kernel_rfl
theorem yfg (a b c d e f g h i j k l m n o p q r s t u:D) :
 let X1:=(decide ((0:Int)<=s.I/\s.I<(q.I.toNat:Int)));let X2:=(IntKind.i64.wrap (s.I+(1:Int)));let X3:=decide (s.I.toNat<u.L.length);(xb4 C xlm 3 (xaa C.P 3 46) xFx [a,b,c,d,e,f,g,h,i,j,k,l,m,n,o,p,q,r,s,t,u]).run =
 T.run (T.ite (decide (s.I<(q.I.toNat:Int))) (T.need X1 (T.need X3 (T.ite (D.I (List.getD (List.getD u.L s.I.toNat []) 0 default) == (4:Int)) (T.need X1 (T.need X3 (T.leaf (Rd.again [D.l a.L,D.i b.I,D.i c.I,D.i d.I,D.i e.I,D.i f.I,D.l g.L,D.b h.B,D.i i.I,D.i j.I,D.i k.I,D.i l.I,D.l m.L,D.l n.L,D.i (o.I.toNat:Int),D.i p.I,D.i (q.I.toNat:Int),D.i (IntKind.i64.wrap (r.I+D.I (List.getD (List.getD u.L s.I.toNat []) (0+1+1+1) default))),D.i X2,D.l t.L,D.l u.L])))) (T.leaf (Rd.again [D.l a.L,D.i b.I,D.i c.I,D.i d.I,D.i e.I,D.i f.I,D.l g.L,D.b h.B,D.i i.I,D.i j.I,D.i k.I,D.i l.I,D.l m.L,D.l n.L,D.i (o.I.toNat:Int),D.i p.I,D.i (q.I.toNat:Int),D.i r.I,D.i X2,D.l t.L,D.l u.L]))))) (T.leaf (Rd.out (Ex.exit 8) [D.l a.L,D.i b.I,D.i c.I,D.i d.I,D.i e.I,D.i f.I,D.l g.L,D.b h.B,D.i i.I,D.i j.I,D.i k.I,D.i l.I,D.l m.L,D.l n.L,D.i (o.I.toNat:Int),D.i p.I,D.i (q.I.toNat:Int),D.i r.I,D.l t.L,D.l u.L]))):=by
 intros
 kernel_rfl
set_option maxRecDepth 100000
theorem ygw:xbo C 12 5 (mkF s5 G5):=by
 intro args v hb h avs hv;unfold mkF at h;split at h
 ·rename_i ds hds;have ha:args=[]:=by
   cases args with
   | nil=>rfl
   | cons x y=>simp [s5,xdv] at hds
  subst ha;simp only [VRL] at hv;subst hv;simp only [s5,xdv,Option.some.injEq] at hds;subst hds;simp only [G5,T.run_map,xd7,Option.map_some,Option.some.injEq] at h;obtain ⟨rfl,rfl⟩:=Prod.mk.inj h;exact ⟨_,_,ydt,rfl,rfl,fun i=>by cases i <;> exact trivial⟩
 ·cases h
theorem xCv:xht C 12 sp3:=⟨ok4 9,ygw,ycm 5,ok7 11,ygr 4,ok9 6,yg3 0,yg2 4,yg0 0,trivial⟩
theorem xwp:xf4 C 12 sw3:=⟨yg1 0,trivial⟩
theorem xL4:Tryz.prog.types[45].bytes=32:=by kernel_rfl
theorem yf2:xct C 12 3 (xaa C.P 3 9) (mkL xCc xVy):=by
 refine xbb hC (sp:=sp3) (lp:=lp3) (sw:=sw3) xCv xwp 0 [] (by kernel_rfl) rfl (fun k hk=>by cases hk) (by kernel_rfl) (fun ds=>(((ds.getD 8 default).L.length:Int) - (ds.getD 5 default).I).toNat) fun ds rr h=>?_
 unfold xVy at h;split at h
 ·rename_i h0 la q mi g j c f w lo n n1 n2 n3 k1 a1 a2 ml ll nj re ms no pe po du cl op ch ju;obtain ⟨hp,h⟩:=xab h;rw [xad] at hp;obtain ⟨hh,⟨⟨hS,hA,hF⟩,hR⟩,hj,hg⟩:=hp;obtain ⟨hp,-,h6⟩:=xe4 hS;obtain ⟨p1,p2⟩:=(xb1 hp).2.1;have elo:lo.I=1:=hF.2.2.2.2.2.2.1;have en:n.I=((w.L.length+1:Nat):Int):=by rw [hF.2.2.2.2.2.2.2.1];omega
  have en1:n1.I=w.L.length:=hF.2.2.2.2.2.2.2.2.1;have en2:n2.I=w.L.length:=hF.2.2.2.2.2.2.2.2.2.1;have en3:n3.I=w.L.length:=hF.2.2.2.2.2.2.2.2.2.2;have enj:nj.I=1:=hR.2.1.2.2;rw [elo,en,en1,en2,en3] at hF;rw [enj] at hR;have one:((Int.toNat 1:Nat):Int)=1:=rfl;have hb:bx (w.L.getD 0 []) 4=false:=by
   cases hb:bx (w.L.getD 0 []) 4 with
   | false=>rfl
   | true=>have:=(xIo hp (show 0<w.L.length by omega)).1 hb;omega
  refine ⟨by rw [xa9];show ((w.L.length:Int) - j.I).toNat<_;omega,?_⟩;rw [xar (j:=h0) (n:=0) hh (by decide),show (xal C (xah sp3 lp3 sw3) 3 (xaa C.P 3 9) 0 xCc [.i 0,la,q,mi,g,j,c,f,w,lo,n,n1,n2,n3,k1,a1,a2,ml,ll,nj,re,ms,no,pe,po,du,cl,op,ch,ju]).run=_ from xZo la q mi g j c f w lo n n1 n2 n3 k1 a1 a2 ml ll nj re ms no pe po du cl op ch ju];simp only [hj,hg,elo,en,en1,en2,en3,enj,one,Int.toNat_natCast,Int.toNat_zero,Nat.reduceAdd];refine xgl (by omega) (xac (by omega) (xbr hb (xac (by omega) ?_)));rw [show IntKind.wrap .i64 (0+1)=1 from rfl];refine xaj ((xam ⟨rfl,⟨⟨hS,hA,hF⟩,hR⟩,⟨by simp only [I_i];omega,by simp only [I_i,L_l];omega⟩,rfl,?_,?_⟩).trans h) (show ((w.L.length:Int) - 1).toNat<((w.L.length:Int) - j.I).toNat by omega)
  ·show _=[]++[xF5 w.L 0];unfold xF5;rw [xvu hp];rfl
  ·exact (xvu hp).symm
 ·rename_i h0 la q mi g j c f w lo n n1 n2 n3 ni k1 a1 a2 ml ll nj re ms no pe po du cl op ch it ju;obtain ⟨hp,h⟩:=xab h;rw [xad] at hp;obtain ⟨hh,⟨⟨hS,hA,hF⟩,hR⟩,⟨j0,j1⟩,hni,hit,hg⟩:=hp;obtain ⟨hp,-,h6⟩:=xe4 hS;obtain ⟨p1,p2⟩:=(xb1 hp).2.1;have elo:lo.I=1:=hF.2.2.2.2.2.2.1;have en:n.I=((w.L.length+1:Nat):Int):=by rw [hF.2.2.2.2.2.2.2.1];omega
  have en1:n1.I=w.L.length:=hF.2.2.2.2.2.2.2.2.1;have en2:n2.I=w.L.length:=hF.2.2.2.2.2.2.2.2.2.1;have en3:n3.I=w.L.length:=hF.2.2.2.2.2.2.2.2.2.2;have enj:nj.I=1:=hR.2.1.2.2;rw [elo,en,en1,en2,en3] at hF;rw [enj] at hR;have one:((Int.toNat 1:Nat):Int)=1:=rfl;refine ⟨by rw [xa9];show ((w.L.length:Int) - j.I).toNat<_;omega,?_⟩;rw [xar (j:=h0) (n:=1) hh (by decide),show (xal C (xah sp3 lp3 sw3) 3 (xaa C.P 3 9) 0 xCc [.i 1,la,q,mi,g,j,c,f,w,lo,n,n1,n2,n3,ni,k1,a1,a2,ml,ll,nj,re,ms,no,pe,po,du,cl,op,ch,it,ju]).run=_ from xZn la q mi g j c f w lo n n1 n2 n3 ni k1 a1 a2 ml ll nj re ms no pe po du cl op ch it ju];obtain ⟨x,hx⟩:∃ x:Nat,j.I=x:=⟨j.I.toNat,by omega⟩;rw [hx,Int.toNat_natCast] at hit hg;rw [hx] at hni;have hlen:=xew w.L x;simp only [hx,hni,hit,hg,elo,en,en1,en2,en3,enj,one,Int.toNat_natCast,Nat.reduceAdd,List.take_length] at j0 j1 ⊢;have htk:(xa8 w.L x).take x=xa8 w.L x:=List.take_of_length_le (by omega);have gn:=xq7 w.L x;have hm:x<w.L.length->((w.L.length:Int) - ((x+1:Nat):Int)).toNat<((w.L.length:Int) - j.I).toNat:=fun _=>by omega
  refine xa2 (fun hlt=>?_) fun hge=>?_
  ·have hlt:x<w.L.length:=by omega
   have gl:xbg w.L x<=x:=by
    cases x with
    | zero=>omega
    | succ y=>have:=xuj hp (show y+1<=w.L.length by omega);omega
   rw [htk,xbd (by omega)];refine xac (by omega) (xcm (fun hb=>?_) fun hb=>?_)
   ·have e:xbg w.L (x+1)=xbg w.L x+1:=by rw [xbg,if_pos (show bx (w.L.getD x []) 4=true from hb)]
    have w1:IntKind.wrap .i64 (xbg w.L x+1)=xbg w.L (x+1):=by rw [e];exact xas (by omega) (by omega)
    rw [w1];refine xac (by omega) (xac (by rw [xL4];omega) (xaj ((xam ⟨rfl,⟨⟨hS,hA,hF⟩,hR⟩,⟨by simp only [I_i];omega,by simp only [I_i,L_l];omega⟩,rfl,?_,?_⟩).trans h) (hm hlt)))
    ·rfl
    ·rfl
   ·have e:xbg w.L (x+1)=xbg w.L x:=by rw [xbg,if_neg (fun h=>by rw [show bx (w.L.getD x []) 4=false from hb] at h;cases h),Int.add_zero]
    rw [<- e];refine xac (by omega) (xac (by rw [xL4];omega) (xaj ((xam ⟨rfl,⟨⟨hS,hA,hF⟩,hR⟩,⟨by simp only [I_i];omega,by simp only [I_i,L_l];omega⟩,rfl,?_,?_⟩).trans h) (hm hlt)))
    ·rfl
    ·rfl
  ·have hx2:x=w.L.length:=by omega
   refine xao ?_;rw [<- h,hx2];rfl
 ·cases h
theorem xLa:∀ (L:List (List D)),(∀ j,j<L.length->0<=ix (L.getD j []) 3/\ix (L.getD j []) 3<=1000000000)->0<=xf6 L/\xf6 L<=1000000000*L.length
 | [],_=>⟨Int.le_refl _,Int.le_refl _⟩
 | r :: rs,h=>by
   have h0:0<=ix r 3/\ix r 3<=1000000000:=h 0 (Nat.zero_lt_succ _);have h1:=xLa rs fun j hj=>h (j+1) (by simp only [List.length_cons];omega)
   simp only [xf6,List.length_cons];split <;> omega
theorem xQh {L:List (List D)} {x:Nat} (h:x<L.length):L.take (x+1)=L.take x++[L.getD x []]:=by
 rw [List.take_add_one,List.getD_eq_getElem?_getD,List.getElem?_eq_getElem h];rfl
theorem yb3:xct C 12 3 (xaa C.P 3 46) (mkL xFx xPu):=by
 refine xbb hC (sp:=sp3) (lp:=lp3) (sw:=sw3) xCv xwp 0 [] (by kernel_rfl) rfl (fun k hk=>by cases hk) (by kernel_rfl) (fun ds=>((ds.getD 16 default).I - (ds.getD 18 default).I).toNat) fun ds rr h=>?_
 unfold xPu at h;split at h
 ·rename_i l c la ea ml ll ju re mi no pe po pt ex nc n nd su i rows D;obtain ⟨hp,h⟩:=xab h;rw [xad] at hp;obtain ⟨⟨hnc,hnd⟩,hL,⟨i0,i1⟩,hsu,hv⟩:=hp;refine ⟨by rw [xa9];show (nd.I - i.I).toNat<_;omega,?_⟩;rw [show (xal C (xah sp3 lp3 sw3) 3 (xaa C.P 3 46) 0 xFx [l,c,la,ea,ml,ll,ju,re,mi,no,pe,po,pt,ex,nc,n,nd,su,i,rows,D]).run=_ from yfg l c la ea ml ll ju re mi no pe po pt ex nc n nd su i rows D];obtain ⟨x,hx⟩:∃ x:Nat,i.I=x:=⟨i.I.toNat,by omega⟩;rw [hx,Int.toNat_natCast] at hsu;simp only [hx,hnc,hnd,hsu,Int.toNat_natCast,Nat.reduceAdd] at i0 i1 ⊢;refine xa2 (fun hlt=>?_) fun hge=>?_
  ·have hlt:x<D.L.length:=by omega
   have hb:=xLa (D.L.take x) fun j hj=>by
    rw [List.length_take] at hj;rw [List.getD_eq_getElem?_getD,List.getElem?_take,if_pos (by omega),<- List.getD_eq_getElem?_getD];exact hv j (by omega)
   rw [List.length_take] at hb;obtain ⟨v0,v1⟩:=hv x hlt;have v0:0<=((D.L.getD x []).getD 3 default).I:=v0;have v1:((D.L.getD x []).getD 3 default).I<=1000000000:=v1;have hs1:xf6 (D.L.take (x+1))=xf6 (D.L.take x)+(if ix (D.L.getD x []) 0=4 then ix (D.L.getD x []) 3 else 0):=by
    rw [xQh hlt,xm1];show _+((if ix (D.L.getD x []) 0=4 then ix (D.L.getD x []) 3 else 0)+0)=_;rw [Int.add_zero]
   have hm:((D.L.length:Int) - ((x+1:Nat):Int)).toNat<(nd.I - i.I).toNat:=by omega
   rw [xbd (by omega)];refine xac (by omega) (xac (by omega) (xcm (fun e=>?_) fun e=>?_))
   ·have e:ix (D.L.getD x []) 0=4:=eq_of_beq e;rw [if_pos e] at hs1;rw [xas (by omega) (by omega)];exact xac (by omega) (xac (by omega) (xaj ((xam ⟨⟨rfl,rfl⟩,hL,⟨by simp only [I_i];omega,by simp only [I_i,L_l];omega⟩,by simp only [I_i,L_l,Int.toNat_natCast];exact hs1.symm,hv⟩).trans h) hm))
   ·have e2:(ix (D.L.getD x []) 0 == 4)=false:=e;have e:¬ ix (D.L.getD x []) 0=4:=fun h=>by rw [h] at e2;cases e2
    rw [if_neg e,Int.add_zero] at hs1;exact xaj ((xam ⟨⟨rfl,rfl⟩,hL,⟨by simp only [I_i];omega,by simp only [I_i,L_l];omega⟩,by simp only [I_i,L_l,Int.toNat_natCast];exact hs1.symm,hv⟩).trans h) hm
  ·have hx2:x=D.L.length:=by omega
   refine xao ?_;rw [<- h,hx2,List.take_length];rfl
 ·cases h
theorem xQ1 {L:List (List D)} {y:Nat} (r:List D) (h:y<L.length):(L.set y r).getD y []=r:=by
 rw [List.getD_eq_getElem?_getD,List.getElem?_set,if_pos rfl,if_pos h];rfl
theorem xQ0 {L:List (List D)} {x y:Nat} (r:List D) (h:¬ x=y):(L.set y r).getD x []=L.getD x []:=by
 rw [List.getD_eq_getElem?_getD,List.getElem?_set,if_neg (fun e=>h e.symm),<- List.getD_eq_getElem?_getD]
theorem yb4:xct C 12 3 (xaa C.P 3 32) (mkL xFy xGd):=by
 refine xbb hC (sp:=sp3) (lp:=lp3) (sw:=sw3) xCv xwp 0 [] (by kernel_rfl) rfl (fun k hk=>by cases hk) (by kernel_rfl) (fun ds=>((ds.getD 17 default).I - (ds.getD 18 default).I).toNat) fun ds rr h=>?_
 unfold xGd at h;split at h
 ·rename_i la' q mi' l c1 la ea ml ll ju re mi no pe po pt ex nc k c f w rows q' hc hs hl S M;obtain ⟨hp,h⟩:=xab h;rw [xad] at hp;obtain ⟨⟨hp,hcs⟩,hlate,⟨hnc,hcc⟩,⟨q0,q1⟩,⟨hs',hl'⟩,k0,k1⟩:=hp;have hlen:=hcs.1.2;rw [List.length_set] at hlen;refine ⟨by rw [xa9];show (nc.I - k.I).toNat<_;omega,?_⟩;rw [show (xal C (xah sp3 lp3 sw3) 3 (xaa C.P 3 32) 0 xFy [la',q,mi',l,c1,la,ea,ml,ll,ju,re,mi,no,pe,po,pt,ex,nc,k,c,f,w,rows,q',hc,hs,hl,S,M]).run=_ from yfh la' q mi' l c1 la ea ml ll ju re mi no pe po pt ex nc k c f w rows q' hc hs hl S M];obtain ⟨x,hx⟩:∃ x:Nat,k.I=x:=⟨k.I.toNat,by omega⟩;obtain ⟨y,hy⟩:∃ y:Nat,q'.I=y:=⟨q'.I.toNat,by omega⟩;simp only [hy,Int.toNat_natCast] at hcs hlate;have htk:(rows.L.set y [.i hc.I,.l S.L,.l M.L]).take rows.L.length=rows.L.set y [.i hc.I,.l S.L,.l M.L]:=List.take_of_length_le (by rw [List.length_set];exact Nat.le_refl _);simp only [hx,hy,hnc,hcc,hs',hl',Int.toNat_natCast,Nat.reduceAdd,List.take_length,htk] at k0 k1 q0 q1 h ⊢;refine xa2 (fun hlt=>?_) fun hge=>xao h
  have hxl:x<rows.L.length:=by omega
  have hyl:y<rows.L.length:=by omega
  have hcost:(xbc l.L (rows.L.set y [.i hc.I,.l S.L,.l M.L]) la.I x != 0)=false:=by
   unfold xbc;rw [hlate x hxl,Int.zero_mul];rfl
  have hcx:=hcs.2 x (by rw [List.length_set];exact hxl);have again:xez xGd (fun ds=>((ds.getD 17 default).I - (ds.getD 18 default).I).toNat) [la',q,mi',l,c1,la,ea,ml,ll,ju,re,mi,no,pe,po,pt,ex,nc,k,c,f,w,rows,q',hc,hs,hl,S,M] rr (T.leaf (Rd.again [.i la'.I,.i q.I,.i mi'.I,.l l.L,.i c1.I,.i la.I,.i ea.I,.i ml.I,.i ll.I,.l ju.L,.b re.B,.i mi.I,.i no.I,.i pe.I,.i po.I,.l pt.L,.l ex.L,.i (rows.L.length:Int),.i (IntKind.wrap .i64 ((x:Int)+1)),.i (rows.L.length:Int),.i f.I,.l w.L,.l rows.L,.i (y:Int),.i hc.I,.i (S.L.length:Int),.i (M.L.length:Int),.l S.L,.l M.L])).run:=by
   rw [xbd (by omega)];exact xaj ((xam ⟨⟨hp,hcs⟩,hlate,⟨rfl,rfl⟩,⟨by simp only [I_i];omega,by simp only [I_i,L_l];omega⟩,⟨rfl,rfl⟩,by simp only [I_i];omega,by simp only [I_i];omega⟩).trans h) (show ((rows.L.length:Int) - ((x+1:Nat):Int)).toNat<(nc.I - k.I).toNat by omega)
  refine xac (by omega) (xac (by omega) (xac (by omega) (xbe ⟨hp,hcs,by omega,by rw [List.length_set];omega⟩ (xac (by omega) (xac (by omega) (xa2 (fun e=>?_) fun e=>?_))))))
  ·have hc1:xdl l.L hc.I S.L M.L:=by
    unfold xh4 at hcx;rw [e,xQ1 _ hyl] at hcx;exact hcx
   exact xac (by omega) (xac (by omega) (xbe ⟨hp,hc1⟩ (xbr hcost again)))
  ·have hc1:xh4 l.L rows.L x:=by
    unfold xh4 at hcx ⊢;rw [xQ0 _ e] at hcx;exact hcx
   exact xbe ⟨hp,hc1⟩ (xbr hcost again)
 ·cases h
set_option linter.unusedVariables false
set_option maxRecDepth 100000
theorem xXg (a b c d e f g h i j k l m n o p q r s t u v w x y z z26 z27 z28 z29 z30 z31 z32:D) :
 let X2:=List.take k.I.toNat (List.drop j.I.toNat z27.L);let X1:=T.leaf (Rd.again [D.i 1,D.i a.I,D.i b.I,D.i c.I,D.i d.I,D.i e.I,D.i (IntKind.i64.wrap (f.I+(1:Int))),D.i g.I,D.i h.I,D.l i.L,D.i (j.I.toNat:Int),D.i (k.I.toNat:Int),D.i (l.I.toNat:Int),D.i (m.I.toNat:Int),D.i (n.I.toNat:Int),D.i (o.I.toNat:Int),D.i p.I,D.i q.I,D.i r.I,D.i s.I,D.i t.I,D.i (u.I.toNat:Int),D.b v.B,D.i w.I,D.i x.I,D.i y.I,D.i z.I,D.i z26.I,D.i 1,D.i 1,D.l z27.L,D.l z28.L,D.l z29.L,D.l z30.L,D.l z31.L,D.l z32.L,D.l [[D.i (xb5 i.L X2 e.I f.I.toNat)]],D.l [[D.i (xb5 i.L X2 e.I f.I.toNat+ix (List.getD i.L f.I.toNat []) 0),D.i 0,D.b false,D.i 0]]]);(xb4 C xlm 3 (xaa C.P 3 20) xih (.i 0::a::b::c::[d,e,f,g,h,i,j,k,l,m,n,o,p,q,r,s,t,u,v,w,x,y,z,z26,z27,z28,z29,z30,z31,z32])).run =
 T.run (T.ite (decide (f.I<(i.L.length:Int))) (T.need (decide (j.I.toNat+k.I.toNat<=z27.L.length)) (T.need (decide (l.I.toNat<=z28.L.length)) (T.need (decide (m.I.toNat<=z29.L.length)) (T.need (decide (n.I.toNat<=z30.L.length)) (T.need (yes (List.length X2<big/\xpg g.I h.I i.L X2 e.I f.I=true)) (T.ite (decide (xb5 i.L X2 e.I f.I.toNat+ix (List.getD i.L f.I.toNat []) 0 > (90000:Int))) (T.leaf (Rd.out Ex.ret [D.b true])) (T.ite (f.I == (0:Int)) X1 (T.need (decide ((0:Int)<=f.I/\f.I<(i.L.length:Int))) (T.ite (D.B (List.getD (List.getD i.L f.I.toNat []) (0+1+1+1+1) default)) X1 T.fail))))))))) T.fail):=by
 intros
 kernel_rfl
theorem xXf (a b c d e f g h i j k l m n o p q r s t u v w x y z z26 z27 z28 z29 z30 z31 z32 z33 z34 z35 z36:D) :
 let X2:=List.take k.I.toNat (List.drop j.I.toNat z29.L);let X3:=[[D.i (xb5 i.L X2 e.I f.I.toNat+ix (List.getD i.L f.I.toNat []) 0),D.i 0,D.b false,D.i 0]];let X1:=T.need (decide (z27.I.toNat<=z35.L.length/\z27.I.toNat+1<=2 ^ 62/\(z27.I.toNat+1)*Tryz.prog.types[3].bytes<=2 ^ 47)) (T.need (decide (z28.I.toNat<=z36.L.length/\z28.I.toNat+1<=2 ^ 62/\(z28.I.toNat+1)*Tryz.prog.types[54].bytes<=2 ^ 47)) (T.leaf (Rd.again [D.i 1,D.i a.I,D.i b.I,D.i c.I,D.i d.I,D.i e.I,D.i (IntKind.i64.wrap (f.I+(1:Int))),D.i g.I,D.i h.I,D.l i.L,D.i (j.I.toNat:Int),D.i (k.I.toNat:Int),D.i (l.I.toNat:Int),D.i (m.I.toNat:Int),D.i (n.I.toNat:Int),D.i (o.I.toNat:Int),D.i p.I,D.i q.I,D.i r.I,D.i s.I,D.i t.I,D.i (u.I.toNat:Int),D.b v.B,D.i w.I,D.i x.I,D.i y.I,D.i z.I,D.i z26.I,D.i (↑(z27.I.toNat+1):Int),D.i (↑(z28.I.toNat+1):Int),D.l z29.L,D.l z30.L,D.l z31.L,D.l z32.L,D.l z33.L,D.l z34.L,D.l (List.take z27.I.toNat z35.L++List.take (List.length [[D.i (xb5 i.L X2 e.I f.I.toNat)]]) [[D.i (xb5 i.L X2 e.I f.I.toNat)]]),D.l (List.take z28.I.toNat z36.L++List.take (List.length X3) X3)])));(xb4 C xlm 3 (xaa C.P 3 20) xih (.i 1::a::b::c::d::e::f::g::[h,i,j,k,l,m,n,o,p,q,r,s,t,u,v,w,x,y,z,z26,z27,z28,z29,z30,z31,z32,z33,z34,z35,z36])).run =
 T.run (T.ite (decide (f.I<(i.L.length:Int))) (T.need (decide (j.I.toNat+k.I.toNat<=z29.L.length)) (T.need (decide (l.I.toNat<=z30.L.length)) (T.need (decide (m.I.toNat<=z31.L.length)) (T.need (decide (n.I.toNat<=z32.L.length)) (T.need (yes (List.length X2<big/\xpg g.I h.I i.L X2 e.I f.I=true)) (T.ite (decide (xb5 i.L X2 e.I f.I.toNat+ix (List.getD i.L f.I.toNat []) 0 > (90000:Int))) (T.leaf (Rd.out Ex.ret [D.b true])) (T.ite (f.I == (0:Int)) X1 (T.need (decide ((0:Int)<=f.I/\f.I<(i.L.length:Int))) (T.ite (D.B (List.getD (List.getD i.L f.I.toNat []) (0+1+1+1+1) default)) X1 (T.need (decide (z28.I.toNat<=z36.L.length/\z28.I.toNat+1<=2 ^ 62/\(z28.I.toNat+1)*Tryz.prog.types[54].bytes<=2 ^ 47)) (T.leaf (Rd.again [D.i 1,D.i a.I,D.i b.I,D.i c.I,D.i d.I,D.i e.I,D.i (IntKind.i64.wrap (f.I+(1:Int))),D.i g.I,D.i h.I,D.l i.L,D.i (j.I.toNat:Int),D.i (k.I.toNat:Int),D.i (l.I.toNat:Int),D.i (m.I.toNat:Int),D.i (n.I.toNat:Int),D.i (o.I.toNat:Int),D.i p.I,D.i q.I,D.i r.I,D.i s.I,D.i t.I,D.i (u.I.toNat:Int),D.b v.B,D.i w.I,D.i x.I,D.i y.I,D.i z.I,D.i z26.I,D.i (z27.I.toNat:Int),D.i (↑(z28.I.toNat+1):Int),D.l z29.L,D.l z30.L,D.l z31.L,D.l z32.L,D.l z33.L,D.l z34.L,D.l z35.L,D.l (List.take z28.I.toNat z36.L++List.take (List.length X3) X3)])))))))))))) (T.leaf (Rd.out (Ex.exit 4) [D.i 0,D.i a.I,D.i b.I,D.i c.I,D.i d.I,D.i e.I,D.i g.I,D.i h.I,D.l i.L,D.i (j.I.toNat:Int),D.i (k.I.toNat:Int),D.i (l.I.toNat:Int),D.i (m.I.toNat:Int),D.i (n.I.toNat:Int),D.i (o.I.toNat:Int),D.i p.I,D.i q.I,D.i r.I,D.i s.I,D.i t.I,D.i (u.I.toNat:Int),D.b v.B,D.i w.I,D.i x.I,D.i y.I,D.i z.I,D.i z26.I,D.i (z27.I.toNat:Int),D.i (z28.I.toNat:Int),D.l z29.L,D.l z30.L,D.l z31.L,D.l z32.L,D.l z33.L,D.l z34.L,D.l z35.L,D.l z36.L]))):=by
 intros
 kernel_rfl
theorem xXe (a b c d e f g h i j k l m n o p q r s t u v w x y z z26 z27 z28 z29 z30 z31 z32 z33 z34:D) :
 let X2:=List.take l.I.toNat (List.drop k.I.toNat z29.L);let X1:=T.leaf (Rd.again [D.i 3,D.i a.I,D.i b.I,D.i c.I,D.i d.I,D.i (e.I.toNat:Int),D.i f.I,D.i (IntKind.i64.wrap (g.I+(1:Int))),D.i h.I,D.i i.I,D.l j.L,D.i (k.I.toNat:Int),D.i (l.I.toNat:Int),D.i (m.I.toNat:Int),D.i (n.I.toNat:Int),D.i (o.I.toNat:Int),D.i (p.I.toNat:Int),D.i q.I,D.i r.I,D.i s.I,D.i t.I,D.i u.I,D.i (v.I.toNat:Int),D.b w.B,D.i x.I,D.i y.I,D.i z.I,D.i z26.I,D.l z27.L,D.i z28.I,D.i 1,D.i 1,D.l z29.L,D.l z30.L,D.l z31.L,D.l z32.L,D.l z33.L,D.l z34.L,D.l [[D.i (xb5 j.L X2 f.I g.I.toNat)]],D.l [[D.i (xb5 j.L X2 f.I g.I.toNat+ix (List.getD j.L g.I.toNat []) 0),D.i 0,D.b false,D.i 0]]]);(xb4 C xlm 3 (xaa C.P 3 20) xih (.i 2::a::b::c::d::e::[f,g,h,i,j,k,l,m,n,o,p,q,r,s,t,u,v,w,x,y,z,z26,z27,z28,z29,z30,z31,z32,z33,z34])).run =
 T.run (T.ite (decide (g.I<(j.L.length:Int))) (T.need (decide (k.I.toNat+l.I.toNat<=z29.L.length)) (T.need (decide (m.I.toNat<=z30.L.length)) (T.need (decide (n.I.toNat<=z31.L.length)) (T.need (decide (o.I.toNat<=z32.L.length)) (T.need (yes (List.length X2<big/\xpg h.I i.I j.L X2 f.I g.I=true)) (T.ite (decide (xb5 j.L X2 f.I g.I.toNat+ix (List.getD j.L g.I.toNat []) 0 > (90000:Int))) (T.leaf (Rd.out Ex.ret [D.b true])) (T.ite (g.I == (0:Int)) X1 (T.need (decide ((0:Int)<=g.I/\g.I<(j.L.length:Int))) (T.ite (D.B (List.getD (List.getD j.L g.I.toNat []) (0+1+1+1+1) default)) X1 T.fail))))))))) T.fail):=by
 intros
 kernel_rfl
theorem xXd (a b c d e f g h i j k l m n o p q r s t u v w x y z z26 z27 z28 z29 z30 z31 z32 z33 z34 z35 z36 z37 z38:D) :
 let X2:=List.take l.I.toNat (List.drop k.I.toNat z31.L);let X3:=[[D.i (xb5 j.L X2 f.I g.I.toNat+ix (List.getD j.L g.I.toNat []) 0),D.i 0,D.b false,D.i 0]];let X1:=T.need (decide (z29.I.toNat<=z37.L.length/\z29.I.toNat+1<=2 ^ 62/\(z29.I.toNat+1)*Tryz.prog.types[3].bytes<=2 ^ 47)) (T.need (decide (z30.I.toNat<=z38.L.length/\z30.I.toNat+1<=2 ^ 62/\(z30.I.toNat+1)*Tryz.prog.types[54].bytes<=2 ^ 47)) (T.leaf (Rd.again [D.i 3,D.i a.I,D.i b.I,D.i c.I,D.i d.I,D.i (e.I.toNat:Int),D.i f.I,D.i (IntKind.i64.wrap (g.I+(1:Int))),D.i h.I,D.i i.I,D.l j.L,D.i (k.I.toNat:Int),D.i (l.I.toNat:Int),D.i (m.I.toNat:Int),D.i (n.I.toNat:Int),D.i (o.I.toNat:Int),D.i (p.I.toNat:Int),D.i q.I,D.i r.I,D.i s.I,D.i t.I,D.i u.I,D.i (v.I.toNat:Int),D.b w.B,D.i x.I,D.i y.I,D.i z.I,D.i z26.I,D.l z27.L,D.i z28.I,D.i (↑(z29.I.toNat+1):Int),D.i (↑(z30.I.toNat+1):Int),D.l z31.L,D.l z32.L,D.l z33.L,D.l z34.L,D.l z35.L,D.l z36.L,D.l (List.take z29.I.toNat z37.L++List.take (List.length [[D.i (xb5 j.L X2 f.I g.I.toNat)]]) [[D.i (xb5 j.L X2 f.I g.I.toNat)]]),D.l (List.take z30.I.toNat z38.L++List.take (List.length X3) X3)])));(xb4 C xlm 3 (xaa C.P 3 20) xih (.i 3::a::b::c::d::e::f::g::h::i::[j,k,l,m,n,o,p,q,r,s,t,u,v,w,x,y,z,z26,z27,z28,z29,z30,z31,z32,z33,z34,z35,z36,z37,z38])).run =
 T.run (T.ite (decide (g.I<(j.L.length:Int))) (T.need (decide (k.I.toNat+l.I.toNat<=z31.L.length)) (T.need (decide (m.I.toNat<=z32.L.length)) (T.need (decide (n.I.toNat<=z33.L.length)) (T.need (decide (o.I.toNat<=z34.L.length)) (T.need (yes (List.length X2<big/\xpg h.I i.I j.L X2 f.I g.I=true)) (T.ite (decide (xb5 j.L X2 f.I g.I.toNat+ix (List.getD j.L g.I.toNat []) 0 > (90000:Int))) (T.leaf (Rd.out Ex.ret [D.b true])) (T.ite (g.I == (0:Int)) X1 (T.need (decide ((0:Int)<=g.I/\g.I<(j.L.length:Int))) (T.ite (D.B (List.getD (List.getD j.L g.I.toNat []) (0+1+1+1+1) default)) X1 (T.need (decide (z30.I.toNat<=z38.L.length/\z30.I.toNat+1<=2 ^ 62/\(z30.I.toNat+1)*Tryz.prog.types[54].bytes<=2 ^ 47)) (T.leaf (Rd.again [D.i 3,D.i a.I,D.i b.I,D.i c.I,D.i d.I,D.i (e.I.toNat:Int),D.i f.I,D.i (IntKind.i64.wrap (g.I+(1:Int))),D.i h.I,D.i i.I,D.l j.L,D.i (k.I.toNat:Int),D.i (l.I.toNat:Int),D.i (m.I.toNat:Int),D.i (n.I.toNat:Int),D.i (o.I.toNat:Int),D.i (p.I.toNat:Int),D.i q.I,D.i r.I,D.i s.I,D.i t.I,D.i u.I,D.i (v.I.toNat:Int),D.b w.B,D.i x.I,D.i y.I,D.i z.I,D.i z26.I,D.l z27.L,D.i z28.I,D.i (z29.I.toNat:Int),D.i (↑(z30.I.toNat+1):Int),D.l z31.L,D.l z32.L,D.l z33.L,D.l z34.L,D.l z35.L,D.l z36.L,D.l z37.L,D.l (List.take z30.I.toNat z38.L++List.take (List.length X3) X3)])))))))))))) (T.leaf (Rd.out (Ex.exit 4) [D.i 1,D.i a.I,D.i b.I,D.i c.I,D.i d.I,D.i (e.I.toNat:Int),D.i f.I,D.i h.I,D.i i.I,D.l j.L,D.i (k.I.toNat:Int),D.i (l.I.toNat:Int),D.i (m.I.toNat:Int),D.i (n.I.toNat:Int),D.i (o.I.toNat:Int),D.i (p.I.toNat:Int),D.i q.I,D.i r.I,D.i s.I,D.i t.I,D.i u.I,D.i (v.I.toNat:Int),D.b w.B,D.i x.I,D.i y.I,D.i z.I,D.i z26.I,D.l z27.L,D.i z28.I,D.i (z29.I.toNat:Int),D.i (z30.I.toNat:Int),D.l z31.L,D.l z32.L,D.l z33.L,D.l z34.L,D.l z35.L,D.l z36.L,D.l z37.L,D.l z38.L]))):=by
 intros
 kernel_rfl
theorem xXc (a b c d e f g h i j k l m n o p q r s t u v w x y z z26 z27 z28 z29 z30 z31 z32 z33 z34 z35 z36 z37 z38 z39 z40:D) :
 let X2:=List.take l.I.toNat (List.drop k.I.toNat z33.L);let X1:=T.leaf (Rd.again [D.i 5,D.i a.I,D.i b.I,D.i c.I,D.i d.I,D.i (e.I.toNat:Int),D.i f.I,D.i (IntKind.i64.wrap (g.I+(1:Int))),D.i h.I,D.i i.I,D.l j.L,D.i (k.I.toNat:Int),D.i (l.I.toNat:Int),D.i (m.I.toNat:Int),D.i (n.I.toNat:Int),D.i (o.I.toNat:Int),D.i (p.I.toNat:Int),D.i q.I,D.i r.I,D.i s.I,D.i t.I,D.i u.I,D.i (v.I.toNat:Int),D.b w.B,D.i x.I,D.i y.I,D.i z.I,D.i z26.I,D.l z27.L,D.i (z28.I.toNat:Int),D.i z29.I,D.i (z30.I.toNat:Int),D.i (z31.I.toNat:Int),D.i z32.I,D.i 1,D.i 1,D.l z33.L,D.l z34.L,D.l z35.L,D.l z36.L,D.l z37.L,D.l z38.L,D.l z39.L,D.l z40.L,D.l [[D.i (xb5 j.L X2 f.I g.I.toNat)]],D.l [[D.i (xb5 j.L X2 f.I g.I.toNat+ix (List.getD j.L g.I.toNat []) 0),D.i 0,D.b false,D.i 0]]]);(xb4 C xlm 3 (xaa C.P 3 20) xih (.i 4::a::b::c::d::e::f::g::h::i::j::k::[l,m,n,o,p,q,r,s,t,u,v,w,x,y,z,z26,z27,z28,z29,z30,z31,z32,z33,z34,z35,z36,z37,z38,z39,z40])).run =
 T.run (T.ite (decide (g.I<(j.L.length:Int))) (T.need (decide (k.I.toNat+l.I.toNat<=z33.L.length)) (T.need (decide (m.I.toNat<=z34.L.length)) (T.need (decide (n.I.toNat<=z35.L.length)) (T.need (decide (o.I.toNat<=z36.L.length)) (T.need (yes (List.length X2<big/\xpg h.I i.I j.L X2 f.I g.I=true)) (T.ite (decide (xb5 j.L X2 f.I g.I.toNat+ix (List.getD j.L g.I.toNat []) 0 > (90000:Int))) (T.leaf (Rd.out Ex.ret [D.b true])) (T.ite (g.I == (0:Int)) X1 (T.need (decide ((0:Int)<=g.I/\g.I<(j.L.length:Int))) (T.ite (D.B (List.getD (List.getD j.L g.I.toNat []) (0+1+1+1+1) default)) X1 T.fail))))))))) T.fail):=by
 intros
 kernel_rfl
theorem xXb (a b c d e f g h i j k l m n o p q r s t u v w x y z z26 z27 z28 z29 z30 z31 z32 z33 z34 z35 z36 z37 z38 z39 z40 z41 z42 z43 z44:D) :
 let X2:=List.take l.I.toNat (List.drop k.I.toNat z35.L);let X3:=[[D.i (xb5 j.L X2 f.I g.I.toNat+ix (List.getD j.L g.I.toNat []) 0),D.i 0,D.b false,D.i 0]];let X1:=T.need (decide (z33.I.toNat<=z43.L.length/\z33.I.toNat+1<=2 ^ 62/\(z33.I.toNat+1)*Tryz.prog.types[3].bytes<=2 ^ 47)) (T.need (decide (z34.I.toNat<=z44.L.length/\z34.I.toNat+1<=2 ^ 62/\(z34.I.toNat+1)*Tryz.prog.types[54].bytes<=2 ^ 47)) (T.leaf (Rd.again [D.i 5,D.i a.I,D.i b.I,D.i c.I,D.i d.I,D.i (e.I.toNat:Int),D.i f.I,D.i (IntKind.i64.wrap (g.I+(1:Int))),D.i h.I,D.i i.I,D.l j.L,D.i (k.I.toNat:Int),D.i (l.I.toNat:Int),D.i (m.I.toNat:Int),D.i (n.I.toNat:Int),D.i (o.I.toNat:Int),D.i (p.I.toNat:Int),D.i q.I,D.i r.I,D.i s.I,D.i t.I,D.i u.I,D.i (v.I.toNat:Int),D.b w.B,D.i x.I,D.i y.I,D.i z.I,D.i z26.I,D.l z27.L,D.i (z28.I.toNat:Int),D.i z29.I,D.i (z30.I.toNat:Int),D.i (z31.I.toNat:Int),D.i z32.I,D.i (↑(z33.I.toNat+1):Int),D.i (↑(z34.I.toNat+1):Int),D.l z35.L,D.l z36.L,D.l z37.L,D.l z38.L,D.l z39.L,D.l z40.L,D.l z41.L,D.l z42.L,D.l (List.take z33.I.toNat z43.L++List.take (List.length [[D.i (xb5 j.L X2 f.I g.I.toNat)]]) [[D.i (xb5 j.L X2 f.I g.I.toNat)]]),D.l (List.take z34.I.toNat z44.L++List.take (List.length X3) X3)])));(xb4 C xlm 3 (xaa C.P 3 20) xih (.i 5::a::b::c::d::e::f::g::h::i::j::k::l::m::n::o::[p,q,r,s,t,u,v,w,x,y,z,z26,z27,z28,z29,z30,z31,z32,z33,z34,z35,z36,z37,z38,z39,z40,z41,z42,z43,z44])).run =
 T.run (T.ite (decide (g.I<(j.L.length:Int))) (T.need (decide (k.I.toNat+l.I.toNat<=z35.L.length)) (T.need (decide (m.I.toNat<=z36.L.length)) (T.need (decide (n.I.toNat<=z37.L.length)) (T.need (decide (o.I.toNat<=z38.L.length)) (T.need (yes (List.length X2<big/\xpg h.I i.I j.L X2 f.I g.I=true)) (T.ite (decide (xb5 j.L X2 f.I g.I.toNat+ix (List.getD j.L g.I.toNat []) 0 > (90000:Int))) (T.leaf (Rd.out Ex.ret [D.b true])) (T.ite (g.I == (0:Int)) X1 (T.need (decide ((0:Int)<=g.I/\g.I<(j.L.length:Int))) (T.ite (D.B (List.getD (List.getD j.L g.I.toNat []) (0+1+1+1+1) default)) X1 (T.need (decide (z34.I.toNat<=z44.L.length/\z34.I.toNat+1<=2 ^ 62/\(z34.I.toNat+1)*Tryz.prog.types[54].bytes<=2 ^ 47)) (T.leaf (Rd.again [D.i 5,D.i a.I,D.i b.I,D.i c.I,D.i d.I,D.i (e.I.toNat:Int),D.i f.I,D.i (IntKind.i64.wrap (g.I+(1:Int))),D.i h.I,D.i i.I,D.l j.L,D.i (k.I.toNat:Int),D.i (l.I.toNat:Int),D.i (m.I.toNat:Int),D.i (n.I.toNat:Int),D.i (o.I.toNat:Int),D.i (p.I.toNat:Int),D.i q.I,D.i r.I,D.i s.I,D.i t.I,D.i u.I,D.i (v.I.toNat:Int),D.b w.B,D.i x.I,D.i y.I,D.i z.I,D.i z26.I,D.l z27.L,D.i (z28.I.toNat:Int),D.i z29.I,D.i (z30.I.toNat:Int),D.i (z31.I.toNat:Int),D.i z32.I,D.i (z33.I.toNat:Int),D.i (↑(z34.I.toNat+1):Int),D.l z35.L,D.l z36.L,D.l z37.L,D.l z38.L,D.l z39.L,D.l z40.L,D.l z41.L,D.l z42.L,D.l z43.L,D.l (List.take z34.I.toNat z44.L++List.take (List.length X3) X3)])))))))))))) (T.leaf (Rd.out (Ex.exit 4) [D.i 2,D.i a.I,D.i b.I,D.i c.I,D.i d.I,D.i (e.I.toNat:Int),D.i f.I,D.i h.I,D.i i.I,D.l j.L,D.i (k.I.toNat:Int),D.i (l.I.toNat:Int),D.i (m.I.toNat:Int),D.i (n.I.toNat:Int),D.i (o.I.toNat:Int),D.i (p.I.toNat:Int),D.i q.I,D.i r.I,D.i s.I,D.i t.I,D.i u.I,D.i (v.I.toNat:Int),D.b w.B,D.i x.I,D.i y.I,D.i z.I,D.i z26.I,D.l z27.L,D.i (z28.I.toNat:Int),D.i z29.I,D.i (z30.I.toNat:Int),D.i (z31.I.toNat:Int),D.i z32.I,D.i (z33.I.toNat:Int),D.i (z34.I.toNat:Int),D.l z35.L,D.l z36.L,D.l z37.L,D.l z38.L,D.l z39.L,D.l z40.L,D.l z41.L,D.l z42.L,D.l z43.L,D.l z44.L]))):=by
 intros
 kernel_rfl
set_option maxRecDepth 100000
theorem xok:Tryz.prog.types[54].bytes=32:=by kernel_rfl
theorem xrw (w d:List (List D)) (k:Nat):∀ n,(xax w d k n).length<=n
 | 0=>Nat.le_refl _
 | n + 1=>by
   have:=xrw w d k n;rw [xax,List.length_append];split <;> simp <;> omega
theorem xrm {w d:List (List D)} {k j:Nat} (h:xb5 w d k j+ix (w.getD j []) 0 > 90000):xnv w d k j=false:=decide_eq_false (by omega)
theorem xj4 {w d:List (List D)} {k j:Nat} (h:¬ xb5 w d k j+ix (w.getD j []) 0 > 90000):xnv w d k j=true:=decide_eq_true (by omega)
set_option maxHeartbeats 4000000 in
theorem yb5:xct C 12 3 (xaa C.P 3 20) (mkL xih xGe):=by
 refine xbb hC (sp:=sp3) (lp:=lp3) (sw:=sw3) xCv xwp 0 [] (by kernel_rfl) rfl (fun k hk=>by cases hk) (by kernel_rfl) (fun ds=>(if ds.length=34\/ds.length=38 then ((ds.getD 9 default).L.length:Int) - (ds.getD 6 default).I else ((ds.getD 10 default).L.length:Int) - (ds.getD 7 default).I).toNat) fun ds rr h=>?_
 unfold xGe at h;split at h
 ·rename_i h0 la q mi g k j c f w lo n n1 n2 n3 ni k1 a1 a2 ml ll nj re ms no pe po k0 du cl op ch it ju;obtain ⟨hp,h⟩:=xab h;rw [xad] at hp;obtain ⟨hh,⟨⟨hS,hA,hF⟩,hR⟩,⟨hni,hit,hg⟩,⟨kx0,kx1⟩,hk0,hk,hj⟩:=hp;obtain ⟨hp,-,h6⟩:=xe4 hS;obtain ⟨p1,p2⟩:=(xb1 hp).2.1;have elo:lo.I=1:=hF.2.2.2.2.2.2.1;have en:n.I=((w.L.length+1:Nat):Int):=by rw [hF.2.2.2.2.2.2.2.1];omega
  have en1:n1.I=w.L.length:=hF.2.2.2.2.2.2.2.2.1;have en2:n2.I=w.L.length:=hF.2.2.2.2.2.2.2.2.2.1;have en3:n3.I=w.L.length:=hF.2.2.2.2.2.2.2.2.2.2;have enj:nj.I=1:=hR.2.1.2.2;rw [elo,en,en1,en2,en3] at hF;rw [enj] at hR;obtain ⟨⟨q0,q1⟩,c12,m0,m1⟩:=id hA;obtain ⟨x,hx⟩:∃ x:Nat,k.I=x:=⟨k.I.toNat,by omega⟩;obtain ⟨y,hy⟩:∃ y:Nat,q.I=y:=⟨q.I.toNat,by omega⟩;obtain ⟨m,hm⟩:∃ m:Nat,c.I=m:=⟨c.I.toNat,by omega⟩;obtain ⟨z,hz⟩:∃ z:Nat,j.I=z:=⟨j.I.toNat,by omega⟩;rw [hm] at hS hF;rw [hm,hy] at hA;rw [hm] at hp;have hcar:xdo w.L ch.L:=hF.2.1;have hdu0:xdx (m:Int) f.I w.L ch.L=true:=hF.2.2.1;obtain ⟨f1,f2,f3,f4,f5,-,-,-,f9⟩:=xj3 hp hcar hdu0;have hdu:(du.L.drop 1).take (w.L.length+1)=(xaf (m:Int) f.I w.L ch.L):=by rw [hF.2.2.2.1];exact f5
  have l1:du.L.length=w.L.length+2:=by rw [hF.2.2.2.1];exact f1
  have l2:cl.L.length=w.L.length:=by rw [hF.2.2.2.2.1];exact f2
  have l3:op.L.length=w.L.length:=by rw [hF.2.2.2.2.2.1];exact f3
  have l9:(xaf (m:Int) f.I w.L ch.L).length<big:=by rw [f9,xdg];omega
  have l4:=f4;clear f1 f2 f3 f4 f5 f9;have hzz:z=0:=by omega
  subst hzz;refine ⟨by rw [xa9];show ((w.L.length:Int) - j.I).toNat<_;omega,?_⟩;rw [xar (j:=h0) (n:=0) hh (by decide),show (xal C (xah sp3 lp3 sw3) 3 (xaa C.P 3 20) 0 xih [.i 0,la,q,mi,g,k,j,c,f,w,lo,n,n1,n2,n3,ni,k1,a1,a2,ml,ll,nj,re,ms,no,pe,po,k0,du,cl,op,ch,it,ju]).run=_ from xXg la q mi g k j c f w lo n n1 n2 n3 ni k1 a1 a2 ml ll nj re ms no pe po k0 du cl op ch it ju];have one1:Int.toNat 1=1:=rfl;simp only [hx,hy,hm,hz,hni,hit,hg,hk0,elo,en,en1,en2,en3,enj,one1,hdu,Int.toNat_natCast,Nat.reduceAdd] at h kx0 kx1 ⊢;refine xa2 (fun hlt=>?_) fun hge=>?_
  ·have hzl:0<w.L.length:=by omega
   refine xac (by omega) (xac (by omega) (xac (by omega) (xac (by omega) (xbe ⟨l9,xrn hF (by omega) (by omega) hzl⟩ ?_))));obtain ⟨s1,s2⟩:=xet h hzl;rw [xbd (by omega)];refine xa2 (fun c2=>xao (s1 (xrm c2))) fun c2=>?_
   ·exact xiy rfl (xaj ((xam ⟨rfl,⟨⟨hS,hA,hF⟩,hR⟩,⟨rfl,rfl,rfl⟩,⟨by simp only [I_i];omega,by simp only [I_i];omega⟩,rfl,by simp only [I_i];omega,⟨by simp only [I_i];omega,by simp only [I_i,L_l];omega⟩,rfl,rfl,rfl,rfl⟩).trans (s2 (xj4 c2))) (show ((w.L.length:Int) - ((0+1:Nat):Int)).toNat<((w.L.length:Int) - j.I).toNat by omega))
  ·exact absurd (show ((0:Nat):Int)<w.L.length by omega) hge
 ·rename_i h0 la q mi g k j c f w lo n n1 n2 n3 ni k1 a1 a2 ml ll nj re ms no pe po k0 ns nl du cl op ch it ju S M;obtain ⟨hp,h⟩:=xab h;rw [xad] at hp;obtain ⟨hh,⟨⟨hS,hA,hF⟩,hR⟩,⟨hni,hit,hg⟩,⟨kx0,kx1⟩,hk0,hk,⟨⟨j0,j1⟩,hns,hnl,hSS,hMM⟩⟩:=hp;obtain ⟨hp,-,h6⟩:=xe4 hS;obtain ⟨p1,p2⟩:=(xb1 hp).2.1;have elo:lo.I=1:=hF.2.2.2.2.2.2.1;have en:n.I=((w.L.length+1:Nat):Int):=by rw [hF.2.2.2.2.2.2.2.1];omega
  have en1:n1.I=w.L.length:=hF.2.2.2.2.2.2.2.2.1;have en2:n2.I=w.L.length:=hF.2.2.2.2.2.2.2.2.2.1;have en3:n3.I=w.L.length:=hF.2.2.2.2.2.2.2.2.2.2;have enj:nj.I=1:=hR.2.1.2.2;rw [elo,en,en1,en2,en3] at hF;rw [enj] at hR;obtain ⟨⟨q0,q1⟩,c12,m0,m1⟩:=id hA;obtain ⟨x,hx⟩:∃ x:Nat,k.I=x:=⟨k.I.toNat,by omega⟩;obtain ⟨y,hy⟩:∃ y:Nat,q.I=y:=⟨q.I.toNat,by omega⟩;obtain ⟨m,hm⟩:∃ m:Nat,c.I=m:=⟨c.I.toNat,by omega⟩;obtain ⟨z,hz⟩:∃ z:Nat,j.I=z:=⟨j.I.toNat,by omega⟩;rw [hm,hx,hz,Int.toNat_natCast,Int.toNat_natCast] at hSS hMM;rw [hz] at hnl;rw [hSS] at hns;rw [hm] at hS hF;rw [hm,hy] at hA;rw [hm] at hp;have hcar:xdo w.L ch.L:=hF.2.1;have hdu0:xdx (m:Int) f.I w.L ch.L=true:=hF.2.2.1;obtain ⟨f1,f2,f3,f4,f5,-,-,-,f9⟩:=xj3 hp hcar hdu0;have hdu:(du.L.drop 1).take (w.L.length+1)=(xaf (m:Int) f.I w.L ch.L):=by rw [hF.2.2.2.1];exact f5
  have l1:du.L.length=w.L.length+2:=by rw [hF.2.2.2.1];exact f1
  have l2:cl.L.length=w.L.length:=by rw [hF.2.2.2.2.1];exact f2
  have l3:op.L.length=w.L.length:=by rw [hF.2.2.2.2.2.1];exact f3
  have l9:(xaf (m:Int) f.I w.L ch.L).length<big:=by rw [f9,xdg];omega
  have l4:=f4;clear f1 f2 f3 f4 f5 f9;have hsl:=xrw w.L (xaf (m:Int) f.I w.L ch.L) x z;have htl:(xbu w.L (xaf (m:Int) f.I w.L ch.L) x z).take z=xbu w.L (xaf (m:Int) f.I w.L ch.L) x z:=List.take_of_length_le (by rw [xcp];exact Nat.le_refl _);refine ⟨by rw [xa9];show ((w.L.length:Int) - j.I).toNat<_;omega,?_⟩;rw [xar (j:=h0) (n:=1) hh (by decide),show (xal C (xah sp3 lp3 sw3) 3 (xaa C.P 3 20) 0 xih [.i 1,la,q,mi,g,k,j,c,f,w,lo,n,n1,n2,n3,ni,k1,a1,a2,ml,ll,nj,re,ms,no,pe,po,k0,ns,nl,du,cl,op,ch,it,ju,S,M]).run=_ from xXf la q mi g k j c f w lo n n1 n2 n3 ni k1 a1 a2 ml ll nj re ms no pe po k0 ns nl du cl op ch it ju S M];have one1:Int.toNat 1=1:=rfl;simp only [hx,hy,hm,hz,hni,hit,hg,hk0,hns,hnl,hSS,hMM,htl,elo,en,en1,en2,en3,enj,one1,hdu,Int.toNat_natCast,Nat.reduceAdd,List.take_length] at h j0 j1 kx0 kx1 ⊢;refine xa2 (fun hlt=>?_) fun hge=>?_
  ·have hzl:z<w.L.length:=by omega
   refine xac (by omega) (xac (by omega) (xac (by omega) (xac (by omega) (xbe ⟨l9,xrn hF (by omega) (by omega) hzl⟩ ?_))));obtain ⟨s1,s2⟩:=xet h hzl;rw [xbd (by omega)];refine xa2 (fun c2=>xao (s1 (xrm c2))) fun c2=>?_
   ·refine xbr (by simp;omega) (xac (by omega) (xcm (fun hb=>?_) fun hb=>?_))
    ·have e:xax w.L (xaf (m:Int) f.I w.L ch.L) x (z+1)=xax w.L (xaf (m:Int) f.I w.L ch.L) x z++[[.i (xb5 w.L (xaf (m:Int) f.I w.L ch.L) (x:Int) z)]]:=by rw [xax,if_pos (.inr hb)]
     exact xac (by rw [xro];omega) (xac (by rw [xcp,xok];omega) (xaj ((xam ⟨rfl,⟨⟨hS,hA,hF⟩,hR⟩,⟨rfl,rfl,rfl⟩,⟨by simp only [I_i];omega,by simp only [I_i];omega⟩,rfl,by simp only [I_i];omega,⟨by simp only [I_i];omega,by simp only [I_i,L_l];omega⟩,by simp only [I_i,L_l,List.length_append];rfl,rfl,e.symm,rfl⟩).trans (s2 (xj4 c2))) (show ((w.L.length:Int) - ((z+1:Nat):Int)).toNat<((w.L.length:Int) - j.I).toNat by omega)))
    ·have e:xax w.L (xaf (m:Int) f.I w.L ch.L) x (z+1)=xax w.L (xaf (m:Int) f.I w.L ch.L) x z:=by rw [xax,if_neg (fun h=>h.elim (fun h=>by omega) fun h=>by rw [show bx (w.L.getD z []) 4=false from hb] at h;cases h),List.append_nil]
     exact xac (by rw [xcp,xok];omega) (xaj ((xam ⟨rfl,⟨⟨hS,hA,hF⟩,hR⟩,⟨rfl,rfl,rfl⟩,⟨by simp only [I_i];omega,by simp only [I_i];omega⟩,rfl,by simp only [I_i];omega,⟨by simp only [I_i];omega,by simp only [I_i,L_l];omega⟩,rfl,rfl,e.symm,rfl⟩).trans (s2 (xj4 c2))) (show ((w.L.length:Int) - ((z+1:Nat):Int)).toNat<((w.L.length:Int) - j.I).toNat by omega))
  ·have hz2:z=w.L.length:=by omega
   subst hz2;refine xao (xmx h (by omega))
 ·rename_i h0 la q mi g nc k j c f w lo n n1 n2 n3 ni k1 a1 a2 ml ll nj re ms no pe po rows k0 du cl op ch it ju;obtain ⟨hp,h⟩:=xab h;rw [xad] at hp;obtain ⟨hh,⟨⟨hS,hA,hF⟩,hR⟩,⟨hni,hit,hg⟩,⟨kx0,kx1⟩,hk0,⟨⟨kq0,kq1⟩,hnc,hrows⟩,hj⟩:=hp;obtain ⟨hp,-,h6⟩:=xe4 hS;obtain ⟨p1,p2⟩:=(xb1 hp).2.1;have elo:lo.I=1:=hF.2.2.2.2.2.2.1;have en:n.I=((w.L.length+1:Nat):Int):=by rw [hF.2.2.2.2.2.2.2.1];omega
  have en1:n1.I=w.L.length:=hF.2.2.2.2.2.2.2.2.1;have en2:n2.I=w.L.length:=hF.2.2.2.2.2.2.2.2.2.1;have en3:n3.I=w.L.length:=hF.2.2.2.2.2.2.2.2.2.2;have enj:nj.I=1:=hR.2.1.2.2;rw [elo,en,en1,en2,en3] at hF;rw [enj] at hR;obtain ⟨⟨q0,q1⟩,c12,m0,m1⟩:=id hA;obtain ⟨x,hx⟩:∃ x:Nat,k.I=x:=⟨k.I.toNat,by omega⟩;obtain ⟨y,hy⟩:∃ y:Nat,q.I=y:=⟨q.I.toNat,by omega⟩;obtain ⟨m,hm⟩:∃ m:Nat,c.I=m:=⟨c.I.toNat,by omega⟩;obtain ⟨z,hz⟩:∃ z:Nat,j.I=z:=⟨j.I.toNat,by omega⟩;rw [hm,hx,hy,Int.toNat_natCast,Int.toNat_natCast] at hrows;rw [hx] at hnc;rw [hm] at hS hF;rw [hm,hy] at hA;rw [hm] at hp;have hcar:xdo w.L ch.L:=hF.2.1;have hdu0:xdx (m:Int) f.I w.L ch.L=true:=hF.2.2.1;obtain ⟨f1,f2,f3,f4,f5,-,-,-,f9⟩:=xj3 hp hcar hdu0;have hdu:(du.L.drop 1).take (w.L.length+1)=(xaf (m:Int) f.I w.L ch.L):=by rw [hF.2.2.2.1];exact f5
  have l1:du.L.length=w.L.length+2:=by rw [hF.2.2.2.1];exact f1
  have l2:cl.L.length=w.L.length:=by rw [hF.2.2.2.2.1];exact f2
  have l3:op.L.length=w.L.length:=by rw [hF.2.2.2.2.2.1];exact f3
  have l9:(xaf (m:Int) f.I w.L ch.L).length<big:=by rw [f9,xdg];omega
  have l4:=f4;clear f1 f2 f3 f4 f5 f9;have hzz:z=0:=by omega
  subst hzz;refine ⟨by rw [xa9];show ((w.L.length:Int) - j.I).toNat<_;omega,?_⟩;rw [xar (j:=h0) (n:=2) hh (by decide),show (xal C (xah sp3 lp3 sw3) 3 (xaa C.P 3 20) 0 xih [.i 2,la,q,mi,g,nc,k,j,c,f,w,lo,n,n1,n2,n3,ni,k1,a1,a2,ml,ll,nj,re,ms,no,pe,po,rows,k0,du,cl,op,ch,it,ju]).run=_ from xXe la q mi g nc k j c f w lo n n1 n2 n3 ni k1 a1 a2 ml ll nj re ms no pe po rows k0 du cl op ch it ju];have one1:Int.toNat 1=1:=rfl;simp only [hx,hy,hm,hz,hni,hit,hg,hk0,hnc,hrows,elo,en,en1,en2,en3,enj,one1,hdu,Int.toNat_natCast,Nat.reduceAdd] at h kx0 kx1 ⊢;refine xa2 (fun hlt=>?_) fun hge=>?_
  ·have hzl:0<w.L.length:=by omega
   refine xac (by omega) (xac (by omega) (xac (by omega) (xac (by omega) (xbe ⟨l9,xrn hF (by omega) (by omega) hzl⟩ ?_))));obtain ⟨s1,s2⟩:=xet h hzl;rw [xbd (by omega)];refine xa2 (fun c2=>xao (s1 (xrm c2))) fun c2=>?_
   ·exact xiy rfl (xaj ((xam ⟨rfl,⟨⟨hS,hA,hF⟩,hR⟩,⟨rfl,rfl,rfl⟩,⟨by simp only [I_i];omega,by simp only [I_i];omega⟩,rfl,⟨⟨by simp only [I_i];omega,by simp only [I_i];omega⟩,rfl,rfl⟩,⟨by simp only [I_i];omega,by simp only [I_i,L_l];omega⟩,rfl,rfl,rfl,rfl⟩).trans (s2 (xj4 c2))) (show ((w.L.length:Int) - ((0+1:Nat):Int)).toNat<((w.L.length:Int) - j.I).toNat by omega))
  ·exact absurd (show ((0:Nat):Int)<w.L.length by omega) hge
 ·rename_i h0 la q mi g nc k j c f w lo n n1 n2 n3 ni k1 a1 a2 ml ll nj re ms no pe po rows k0 ns nl du cl op ch it ju S M;obtain ⟨hp,h⟩:=xab h;rw [xad] at hp;obtain ⟨hh,⟨⟨hS,hA,hF⟩,hR⟩,⟨hni,hit,hg⟩,⟨kx0,kx1⟩,hk0,⟨⟨kq0,kq1⟩,hnc,hrows⟩,⟨⟨j0,j1⟩,hns,hnl,hSS,hMM⟩⟩:=hp;obtain ⟨hp,-,h6⟩:=xe4 hS;obtain ⟨p1,p2⟩:=(xb1 hp).2.1;have elo:lo.I=1:=hF.2.2.2.2.2.2.1;have en:n.I=((w.L.length+1:Nat):Int):=by rw [hF.2.2.2.2.2.2.2.1];omega
  have en1:n1.I=w.L.length:=hF.2.2.2.2.2.2.2.2.1;have en2:n2.I=w.L.length:=hF.2.2.2.2.2.2.2.2.2.1;have en3:n3.I=w.L.length:=hF.2.2.2.2.2.2.2.2.2.2;have enj:nj.I=1:=hR.2.1.2.2;rw [elo,en,en1,en2,en3] at hF;rw [enj] at hR;obtain ⟨⟨q0,q1⟩,c12,m0,m1⟩:=id hA;obtain ⟨x,hx⟩:∃ x:Nat,k.I=x:=⟨k.I.toNat,by omega⟩;obtain ⟨y,hy⟩:∃ y:Nat,q.I=y:=⟨q.I.toNat,by omega⟩;obtain ⟨m,hm⟩:∃ m:Nat,c.I=m:=⟨c.I.toNat,by omega⟩;obtain ⟨z,hz⟩:∃ z:Nat,j.I=z:=⟨j.I.toNat,by omega⟩;rw [hm,hx,hy,Int.toNat_natCast,Int.toNat_natCast] at hrows;rw [hx] at hnc;rw [hm,hx,hz,Int.toNat_natCast,Int.toNat_natCast] at hSS hMM;rw [hz] at hnl;rw [hSS] at hns;rw [hm] at hS hF;rw [hm,hy] at hA;rw [hm] at hp;have hcar:xdo w.L ch.L:=hF.2.1;have hdu0:xdx (m:Int) f.I w.L ch.L=true:=hF.2.2.1;obtain ⟨f1,f2,f3,f4,f5,-,-,-,f9⟩:=xj3 hp hcar hdu0;have hdu:(du.L.drop 1).take (w.L.length+1)=(xaf (m:Int) f.I w.L ch.L):=by rw [hF.2.2.2.1];exact f5
  have l1:du.L.length=w.L.length+2:=by rw [hF.2.2.2.1];exact f1
  have l2:cl.L.length=w.L.length:=by rw [hF.2.2.2.2.1];exact f2
  have l3:op.L.length=w.L.length:=by rw [hF.2.2.2.2.2.1];exact f3
  have l9:(xaf (m:Int) f.I w.L ch.L).length<big:=by rw [f9,xdg];omega
  have l4:=f4;clear f1 f2 f3 f4 f5 f9;have hsl:=xrw w.L (xaf (m:Int) f.I w.L ch.L) x z;have htl:(xbu w.L (xaf (m:Int) f.I w.L ch.L) x z).take z=xbu w.L (xaf (m:Int) f.I w.L ch.L) x z:=List.take_of_length_le (by rw [xcp];exact Nat.le_refl _);refine ⟨by rw [xa9];show ((w.L.length:Int) - j.I).toNat<_;omega,?_⟩;rw [xar (j:=h0) (n:=3) hh (by decide),show (xal C (xah sp3 lp3 sw3) 3 (xaa C.P 3 20) 0 xih [.i 3,la,q,mi,g,nc,k,j,c,f,w,lo,n,n1,n2,n3,ni,k1,a1,a2,ml,ll,nj,re,ms,no,pe,po,rows,k0,ns,nl,du,cl,op,ch,it,ju,S,M]).run=_ from xXd la q mi g nc k j c f w lo n n1 n2 n3 ni k1 a1 a2 ml ll nj re ms no pe po rows k0 ns nl du cl op ch it ju S M];have one1:Int.toNat 1=1:=rfl;simp only [hx,hy,hm,hz,hni,hit,hg,hk0,hnc,hrows,hns,hnl,hSS,hMM,htl,elo,en,en1,en2,en3,enj,one1,hdu,Int.toNat_natCast,Nat.reduceAdd,List.take_length] at h j0 j1 kx0 kx1 ⊢;refine xa2 (fun hlt=>?_) fun hge=>?_
  ·have hzl:z<w.L.length:=by omega
   refine xac (by omega) (xac (by omega) (xac (by omega) (xac (by omega) (xbe ⟨l9,xrn hF (by omega) (by omega) hzl⟩ ?_))));obtain ⟨s1,s2⟩:=xet h hzl;rw [xbd (by omega)];refine xa2 (fun c2=>xao (s1 (xrm c2))) fun c2=>?_
   ·refine xbr (by simp;omega) (xac (by omega) (xcm (fun hb=>?_) fun hb=>?_))
    ·have e:xax w.L (xaf (m:Int) f.I w.L ch.L) x (z+1)=xax w.L (xaf (m:Int) f.I w.L ch.L) x z++[[.i (xb5 w.L (xaf (m:Int) f.I w.L ch.L) (x:Int) z)]]:=by rw [xax,if_pos (.inr hb)]
     exact xac (by rw [xro];omega) (xac (by rw [xcp,xok];omega) (xaj ((xam ⟨rfl,⟨⟨hS,hA,hF⟩,hR⟩,⟨rfl,rfl,rfl⟩,⟨by simp only [I_i];omega,by simp only [I_i];omega⟩,rfl,⟨⟨by simp only [I_i];omega,by simp only [I_i];omega⟩,rfl,rfl⟩,⟨by simp only [I_i];omega,by simp only [I_i,L_l];omega⟩,by simp only [I_i,L_l,List.length_append];rfl,rfl,e.symm,rfl⟩).trans (s2 (xj4 c2))) (show ((w.L.length:Int) - ((z+1:Nat):Int)).toNat<((w.L.length:Int) - j.I).toNat by omega)))
    ·have e:xax w.L (xaf (m:Int) f.I w.L ch.L) x (z+1)=xax w.L (xaf (m:Int) f.I w.L ch.L) x z:=by rw [xax,if_neg (fun h=>h.elim (fun h=>by omega) fun h=>by rw [show bx (w.L.getD z []) 4=false from hb] at h;cases h),List.append_nil]
     exact xac (by rw [xcp,xok];omega) (xaj ((xam ⟨rfl,⟨⟨hS,hA,hF⟩,hR⟩,⟨rfl,rfl,rfl⟩,⟨by simp only [I_i];omega,by simp only [I_i];omega⟩,rfl,⟨⟨by simp only [I_i];omega,by simp only [I_i];omega⟩,rfl,rfl⟩,⟨by simp only [I_i];omega,by simp only [I_i,L_l];omega⟩,rfl,rfl,e.symm,rfl⟩).trans (s2 (xj4 c2))) (show ((w.L.length:Int) - ((z+1:Nat):Int)).toNat<((w.L.length:Int) - j.I).toNat by omega))
  ·have hz2:z=w.L.length:=by omega
   subst hz2;refine xao (xmx h (by omega))
 ·rename_i h0 la q mi g nc k j c f w lo n n1 n2 n3 ni k1 a1 a2 ml ll nj re ms no pe po rows q' hc hs hl k0 du cl op ch it ju S' M';obtain ⟨hp,h⟩:=xab h;rw [xad] at hp;obtain ⟨hh,⟨⟨hS,hA,hF⟩,hR⟩,⟨hni,hit,hg⟩,⟨kx0,kx1⟩,hk0,⟨⟨kq0,hq'⟩,hnc,hrows,hhc,hhs,hhl,hS',hM'⟩,hj⟩:=hp;obtain ⟨hp,-,h6⟩:=xe4 hS;obtain ⟨p1,p2⟩:=(xb1 hp).2.1;have elo:lo.I=1:=hF.2.2.2.2.2.2.1;have en:n.I=((w.L.length+1:Nat):Int):=by rw [hF.2.2.2.2.2.2.2.1];omega
  have en1:n1.I=w.L.length:=hF.2.2.2.2.2.2.2.2.1;have en2:n2.I=w.L.length:=hF.2.2.2.2.2.2.2.2.2.1;have en3:n3.I=w.L.length:=hF.2.2.2.2.2.2.2.2.2.2;have enj:nj.I=1:=hR.2.1.2.2;rw [elo,en,en1,en2,en3] at hF;rw [enj] at hR;obtain ⟨⟨q0,q1⟩,c12,m0,m1⟩:=id hA;obtain ⟨x,hx⟩:∃ x:Nat,k.I=x:=⟨k.I.toNat,by omega⟩;obtain ⟨y,hy⟩:∃ y:Nat,q.I=y:=⟨q.I.toNat,by omega⟩;obtain ⟨m,hm⟩:∃ m:Nat,c.I=m:=⟨c.I.toNat,by omega⟩;obtain ⟨z,hz⟩:∃ z:Nat,j.I=z:=⟨j.I.toNat,by omega⟩;rw [hm,hx,hy,Int.toNat_natCast,Int.toNat_natCast] at hrows;rw [hx] at hnc;rw [hy] at hq';rw [hm,hy,Int.toNat_natCast] at hS' hM';rw [hS'] at hhs;rw [hm] at hS hF;rw [hm,hy] at hA;rw [hm] at hp;have hcar:xdo w.L ch.L:=hF.2.1;have hdu0:xdx (m:Int) f.I w.L ch.L=true:=hF.2.2.1;obtain ⟨f1,f2,f3,f4,f5,-,-,-,f9⟩:=xj3 hp hcar hdu0;have hdu:(du.L.drop 1).take (w.L.length+1)=(xaf (m:Int) f.I w.L ch.L):=by rw [hF.2.2.2.1];exact f5
  have l1:du.L.length=w.L.length+2:=by rw [hF.2.2.2.1];exact f1
  have l2:cl.L.length=w.L.length:=by rw [hF.2.2.2.2.1];exact f2
  have l3:op.L.length=w.L.length:=by rw [hF.2.2.2.2.2.1];exact f3
  have l9:(xaf (m:Int) f.I w.L ch.L).length<big:=by rw [f9,xdg];omega
  have l4:=f4;clear f1 f2 f3 f4 f5 f9;have hzz:z=0:=by omega
  subst hzz;refine ⟨by rw [xa9];show ((w.L.length:Int) - j.I).toNat<_;omega,?_⟩;rw [xar (j:=h0) (n:=4) hh (by decide),show (xal C (xah sp3 lp3 sw3) 3 (xaa C.P 3 20) 0 xih [.i 4,la,q,mi,g,nc,k,j,c,f,w,lo,n,n1,n2,n3,ni,k1,a1,a2,ml,ll,nj,re,ms,no,pe,po,rows,q',hc,hs,hl,k0,du,cl,op,ch,it,ju,S',M']).run=_ from xXc la q mi g nc k j c f w lo n n1 n2 n3 ni k1 a1 a2 ml ll nj re ms no pe po rows q' hc hs hl k0 du cl op ch it ju S' M'];have one1:Int.toNat 1=1:=rfl;simp only [hx,hy,hm,hz,hni,hit,hg,hk0,hnc,hrows,hq',hhc,hhs,hhl,hS',hM',elo,en,en1,en2,en3,enj,one1,hdu,Int.toNat_natCast,Nat.reduceAdd] at h kx0 kx1 ⊢;refine xa2 (fun hlt=>?_) fun hge=>?_
  ·have hzl:0<w.L.length:=by omega
   refine xac (by omega) (xac (by omega) (xac (by omega) (xac (by omega) (xbe ⟨l9,xrn hF (by omega) (by omega) hzl⟩ ?_))));obtain ⟨s1,s2⟩:=xet h hzl;rw [xbd (by omega)];refine xa2 (fun c2=>xao (s1 (xrm c2))) fun c2=>?_
   ·exact xiy rfl (xaj ((xam ⟨rfl,⟨⟨hS,hA,hF⟩,hR⟩,⟨rfl,rfl,rfl⟩,⟨by simp only [I_i];omega,by simp only [I_i];omega⟩,rfl,⟨⟨by simp only [I_i];omega,rfl⟩,rfl,rfl,rfl,rfl,rfl,rfl,rfl⟩,⟨by simp only [I_i];omega,by simp only [I_i,L_l];omega⟩,rfl,rfl,rfl,rfl⟩).trans (s2 (xj4 c2))) (show ((w.L.length:Int) - ((0+1:Nat):Int)).toNat<((w.L.length:Int) - j.I).toNat by omega))
  ·exact absurd (show ((0:Nat):Int)<w.L.length by omega) hge
 ·rename_i h0 la q mi g nc k j c f w lo n n1 n2 n3 ni k1 a1 a2 ml ll nj re ms no pe po rows q' hc hs hl k0 ns nl du cl op ch it ju S' M' S M;obtain ⟨hp,h⟩:=xab h;rw [xad] at hp;obtain ⟨hh,⟨⟨hS,hA,hF⟩,hR⟩,⟨hni,hit,hg⟩,⟨kx0,kx1⟩,hk0,⟨⟨kq0,hq'⟩,hnc,hrows,hhc,hhs,hhl,hS',hM'⟩,⟨⟨j0,j1⟩,hns,hnl,hSS,hMM⟩⟩:=hp;obtain ⟨hp,-,h6⟩:=xe4 hS;obtain ⟨p1,p2⟩:=(xb1 hp).2.1;have elo:lo.I=1:=hF.2.2.2.2.2.2.1;have en:n.I=((w.L.length+1:Nat):Int):=by rw [hF.2.2.2.2.2.2.2.1];omega
  have en1:n1.I=w.L.length:=hF.2.2.2.2.2.2.2.2.1;have en2:n2.I=w.L.length:=hF.2.2.2.2.2.2.2.2.2.1;have en3:n3.I=w.L.length:=hF.2.2.2.2.2.2.2.2.2.2;have enj:nj.I=1:=hR.2.1.2.2;rw [elo,en,en1,en2,en3] at hF;rw [enj] at hR;obtain ⟨⟨q0,q1⟩,c12,m0,m1⟩:=id hA;obtain ⟨x,hx⟩:∃ x:Nat,k.I=x:=⟨k.I.toNat,by omega⟩;obtain ⟨y,hy⟩:∃ y:Nat,q.I=y:=⟨q.I.toNat,by omega⟩;obtain ⟨m,hm⟩:∃ m:Nat,c.I=m:=⟨c.I.toNat,by omega⟩;obtain ⟨z,hz⟩:∃ z:Nat,j.I=z:=⟨j.I.toNat,by omega⟩;rw [hm,hx,hy,Int.toNat_natCast,Int.toNat_natCast] at hrows;rw [hx] at hnc;rw [hy] at hq';rw [hm,hy,Int.toNat_natCast] at hS' hM';rw [hS'] at hhs;rw [hm,hx,hz,Int.toNat_natCast,Int.toNat_natCast] at hSS hMM;rw [hz] at hnl;rw [hSS] at hns;rw [hm] at hS hF;rw [hm,hy] at hA;rw [hm] at hp;have hcar:xdo w.L ch.L:=hF.2.1;have hdu0:xdx (m:Int) f.I w.L ch.L=true:=hF.2.2.1;obtain ⟨f1,f2,f3,f4,f5,-,-,-,f9⟩:=xj3 hp hcar hdu0;have hdu:(du.L.drop 1).take (w.L.length+1)=(xaf (m:Int) f.I w.L ch.L):=by rw [hF.2.2.2.1];exact f5
  have l1:du.L.length=w.L.length+2:=by rw [hF.2.2.2.1];exact f1
  have l2:cl.L.length=w.L.length:=by rw [hF.2.2.2.2.1];exact f2
  have l3:op.L.length=w.L.length:=by rw [hF.2.2.2.2.2.1];exact f3
  have l9:(xaf (m:Int) f.I w.L ch.L).length<big:=by rw [f9,xdg];omega
  have l4:=f4;clear f1 f2 f3 f4 f5 f9;have hsl:=xrw w.L (xaf (m:Int) f.I w.L ch.L) x z;have htl:(xbu w.L (xaf (m:Int) f.I w.L ch.L) x z).take z=xbu w.L (xaf (m:Int) f.I w.L ch.L) x z:=List.take_of_length_le (by rw [xcp];exact Nat.le_refl _);refine ⟨by rw [xa9];show ((w.L.length:Int) - j.I).toNat<_;omega,?_⟩;rw [xar (j:=h0) (n:=5) hh (by decide),show (xal C (xah sp3 lp3 sw3) 3 (xaa C.P 3 20) 0 xih [.i 5,la,q,mi,g,nc,k,j,c,f,w,lo,n,n1,n2,n3,ni,k1,a1,a2,ml,ll,nj,re,ms,no,pe,po,rows,q',hc,hs,hl,k0,ns,nl,du,cl,op,ch,it,ju,S',M',S,M]).run=_ from xXb la q mi g nc k j c f w lo n n1 n2 n3 ni k1 a1 a2 ml ll nj re ms no pe po rows q' hc hs hl k0 ns nl du cl op ch it ju S' M' S M];have one1:Int.toNat 1=1:=rfl;simp only [hx,hy,hm,hz,hni,hit,hg,hk0,hnc,hrows,hq',hhc,hhs,hhl,hS',hM',hns,hnl,hSS,hMM,htl,elo,en,en1,en2,en3,enj,one1,hdu,Int.toNat_natCast,Nat.reduceAdd,List.take_length] at h j0 j1 kx0 kx1 ⊢;refine xa2 (fun hlt=>?_) fun hge=>?_
  ·have hzl:z<w.L.length:=by omega
   refine xac (by omega) (xac (by omega) (xac (by omega) (xac (by omega) (xbe ⟨l9,xrn hF (by omega) (by omega) hzl⟩ ?_))));obtain ⟨s1,s2⟩:=xet h hzl;rw [xbd (by omega)];refine xa2 (fun c2=>xao (s1 (xrm c2))) fun c2=>?_
   ·refine xbr (by simp;omega) (xac (by omega) (xcm (fun hb=>?_) fun hb=>?_))
    ·have e:xax w.L (xaf (m:Int) f.I w.L ch.L) x (z+1)=xax w.L (xaf (m:Int) f.I w.L ch.L) x z++[[.i (xb5 w.L (xaf (m:Int) f.I w.L ch.L) (x:Int) z)]]:=by rw [xax,if_pos (.inr hb)]
     exact xac (by rw [xro];omega) (xac (by rw [xcp,xok];omega) (xaj ((xam ⟨rfl,⟨⟨hS,hA,hF⟩,hR⟩,⟨rfl,rfl,rfl⟩,⟨by simp only [I_i];omega,by simp only [I_i];omega⟩,rfl,⟨⟨by simp only [I_i];omega,rfl⟩,rfl,rfl,rfl,rfl,rfl,rfl,rfl⟩,⟨by simp only [I_i];omega,by simp only [I_i,L_l];omega⟩,by simp only [I_i,L_l,List.length_append];rfl,rfl,e.symm,rfl⟩).trans (s2 (xj4 c2))) (show ((w.L.length:Int) - ((z+1:Nat):Int)).toNat<((w.L.length:Int) - j.I).toNat by omega)))
    ·have e:xax w.L (xaf (m:Int) f.I w.L ch.L) x (z+1)=xax w.L (xaf (m:Int) f.I w.L ch.L) x z:=by rw [xax,if_neg (fun h=>h.elim (fun h=>by omega) fun h=>by rw [show bx (w.L.getD z []) 4=false from hb] at h;cases h),List.append_nil]
     exact xac (by rw [xcp,xok];omega) (xaj ((xam ⟨rfl,⟨⟨hS,hA,hF⟩,hR⟩,⟨rfl,rfl,rfl⟩,⟨by simp only [I_i];omega,by simp only [I_i];omega⟩,rfl,⟨⟨by simp only [I_i];omega,rfl⟩,rfl,rfl,rfl,rfl,rfl,rfl,rfl⟩,⟨by simp only [I_i];omega,by simp only [I_i,L_l];omega⟩,rfl,rfl,e.symm,rfl⟩).trans (s2 (xj4 c2))) (show ((w.L.length:Int) - ((z+1:Nat):Int)).toNat<((w.L.length:Int) - j.I).toNat by omega))
  ·have hz2:z=w.L.length:=by omega
   subst hz2;refine xao (xmx h (by omega))
 ·cases h
set_option linter.unusedVariables false
set_option maxRecDepth 100000
theorem xXj (a b c d e f g h i j k l m n o p q r s t u v w x y z z26 z27 z28 z29 z30:D) :
 let X1:=(↑(Int.toNat (h.L.length:Int)):Int);let X2:=xax h.L (xaf f.I g.I h.L z28.L) e.I.toNat h.L.length;let X3:=xbu h.L (xaf f.I g.I h.L z28.L) e.I.toNat h.L.length;let X4:=(↑(List.length X2):Int);let X5:=(↑(Int.toNat (↑(h.L.length+1):Int)):Int);let X6:=(IntKind.i64.wrap (e.I+(1:Int)));(xb4 C xlm 3 (xaa C.P 3 16) xpw (.i 0::a::[b,c,d,e,f,g,h,i,j,k,l,m,n,o,p,q,r,s,t,u,v,w,x,y,z,z26,z27,z28,z29,z30])).run =
 T.run (T.ite (decide (e.I<f.I)) (T.need (yes ((↑0:Int)=(0:Int)/\((xec f.I g.I h.L=true/\xke f.I b.I c.I/\xgp f.I g.I h.L z.L z26.L z27.L z28.L (i.I.toNat:Int) (j.I.toNat:Int) (k.I.toNat:Int) (l.I.toNat:Int) (m.I.toNat:Int))/\xg7 o.I p.I q.I r.I s.I (t.I.toNat:Int) u.B v.I w.I x.I y.I z30.L a.I)/\((n.I.toNat:Int)=(h.L.length:Int)/\z29.L=xa8 h.L h.L.length/\d.I=xbg h.L h.L.length)/\((0:Int)<=e.I/\e.I<f.I)/\(0:Int)=(0:Int)/\e.I=(0:Int)/\(0:Int)=(0:Int))) (T.ite (xay (xnv h.L (xaf f.I g.I h.L z28.L) e.I.toNat) 0 (h.L.length - 0)) (T.ite (decide (e.I=b.I)) (T.leaf (Rd.again [D.i 2,D.i a.I,D.i b.I,D.i c.I,D.i (xbg h.L h.L.length),D.i 1,D.i X6,D.i f.I,D.i g.I,D.l h.L,D.i 1,D.i X5,D.i X1,D.i X1,D.i X1,D.i X1,D.i o.I,D.i p.I,D.i q.I,D.i r.I,D.i s.I,D.i 1,D.b u.B,D.i v.I,D.i w.I,D.i x.I,D.i y.I,D.l [[]],D.i 0,D.i 0,D.i (↑(Int.toNat X4):Int),D.i X1,D.l z.L,D.l z26.L,D.l z27.L,D.l z28.L,D.l (xa8 h.L h.L.length),D.l z30.L,D.l X2,D.l X3])) (T.need (decide (Int.toNat X4<=List.length X2)) (T.need (decide (Int.toNat (h.L.length:Int)<=List.length X3)) (T.leaf (Rd.again [D.i 1,D.i a.I,D.i b.I,D.i c.I,D.i (xbg h.L h.L.length),D.i 1,D.i X6,D.i f.I,D.i g.I,D.l h.L,D.i 1,D.i X5,D.i X1,D.i X1,D.i X1,D.i X1,D.i o.I,D.i p.I,D.i q.I,D.i r.I,D.i s.I,D.i 1,D.b u.B,D.i v.I,D.i w.I,D.i x.I,D.i y.I,D.l [[D.i 0,D.l (List.take (Int.toNat X4) X2),D.l (List.take (Int.toNat (h.L.length:Int)) X3)]],D.l z.L,D.l z26.L,D.l z27.L,D.l z28.L,D.l (xa8 h.L h.L.length),D.l z30.L]))))) (T.leaf (Rd.out Ex.ret [D.b true])))) T.fail):=by
 intros
 kernel_rfl
theorem xXi (a b c d e f g h i j k l m n o p q r s t u v w x y z z26 z27 z28 z29 z30 z31 z32:D) :
 let X2:=(↑(Int.toNat (i.L.length:Int)):Int);let X3:=xaf g.I h.I i.L z30.L;let X6:=(↑(Int.toNat (↑(i.L.length+1):Int)):Int);let X7:=(IntKind.i64.wrap (f.I+(1:Int)));let X8:=xbu i.L X3 f.I.toNat i.L.length;let X9:=xcj i.L X3 b.I.toNat f.I.toNat;let X1:=xax i.L X3 f.I.toNat i.L.length;let X4:=decide (f.I.toNat<=List.length X9/\f.I.toNat+1<=2 ^ 62/\(f.I.toNat+1)*Tryz.prog.types[49].bytes<=2 ^ 47);let X5:=[[D.i 0,D.l (List.take (Int.toNat (↑(List.length X1):Int)) X1),D.l (List.take (Int.toNat (i.L.length:Int)) X8)]];(xb4 C xlm 3 (xaa C.P 3 16) xpw (.i 1::a::b::c::[d,e,f,g,h,i,j,k,l,m,n,o,p,q,r,s,t,u,v,w,x,y,z,z26,z27,z28,z29,z30,z31,z32])).run =
 T.run (T.ite (decide (f.I<g.I)) (T.need (yes ((↑(0+1+1):Int)=(2:Int)/\((xec g.I h.I i.L=true/\xke g.I b.I c.I/\xgp g.I h.I i.L z27.L z28.L z29.L z30.L (j.I.toNat:Int) (k.I.toNat:Int) (l.I.toNat:Int) (m.I.toNat:Int) (n.I.toNat:Int))/\xg7 p.I q.I r.I s.I t.I (u.I.toNat:Int) v.B w.I x.I y.I z.I z32.L a.I)/\((o.I.toNat:Int)=(i.L.length:Int)/\z31.L=xa8 i.L i.L.length/\d.I=xbg i.L i.L.length)/\((0:Int)<=f.I/\f.I<g.I)/\(0:Int)=(0:Int)/\(((0:Int)<f.I/\f.I<=b.I)/\(e.I.toNat:Int)=f.I/\z26.L=xcj i.L X3 b.I.toNat f.I.toNat)/\(0:Int)=(0:Int))) (T.ite (xay (xnv i.L X3 f.I.toNat) 0 (i.L.length - 0)) (T.ite (decide (f.I=b.I)) (T.need X4 (T.leaf (Rd.again [D.i 2,D.i a.I,D.i b.I,D.i c.I,D.i (xbg i.L i.L.length),D.i (↑(f.I.toNat+1):Int),D.i X7,D.i g.I,D.i h.I,D.l i.L,D.i 1,D.i X6,D.i X2,D.i X2,D.i X2,D.i X2,D.i p.I,D.i q.I,D.i r.I,D.i s.I,D.i t.I,D.i 1,D.b v.B,D.i w.I,D.i x.I,D.i y.I,D.i z.I,D.l (List.take f.I.toNat X9++[[]]),D.i (f.I.toNat:Int),D.i 0,D.i (↑(Int.toNat (↑(List.length X1):Int)):Int),D.i X2,D.l z27.L,D.l z28.L,D.l z29.L,D.l z30.L,D.l (xa8 i.L i.L.length),D.l z32.L,D.l X1,D.l X8]))) (T.need (decide (Int.toNat (↑(List.length X1):Int)<=List.length X1)) (T.need (decide (Int.toNat (i.L.length:Int)<=List.length X8)) (T.need X4 (T.leaf (Rd.again [D.i 1,D.i a.I,D.i b.I,D.i c.I,D.i (xbg i.L i.L.length),D.i (↑(f.I.toNat+1):Int),D.i X7,D.i g.I,D.i h.I,D.l i.L,D.i 1,D.i X6,D.i X2,D.i X2,D.i X2,D.i X2,D.i p.I,D.i q.I,D.i r.I,D.i s.I,D.i t.I,D.i 1,D.b v.B,D.i w.I,D.i x.I,D.i y.I,D.i z.I,D.l (List.take f.I.toNat X9++List.take (List.length X5) X5),D.l z27.L,D.l z28.L,D.l z29.L,D.l z30.L,D.l (xa8 i.L i.L.length),D.l z32.L])))))) (T.leaf (Rd.out Ex.ret [D.b true])))) T.fail):=by
 intros
 kernel_rfl
theorem xXh (a b c d e f g h i j k l m n o p q r s t u v w x y z z26 z27 z28 z29 z30 z31 z32 z33 z34 z35 z36 z37 z38:D) :
 let X1:=xaf g.I h.I i.L z34.L;let X3:=(↑(Int.toNat (i.L.length:Int)):Int);let X4:=xax i.L X1 f.I.toNat i.L.length;let X5:=xax i.L X1 b.I.toNat i.L.length;let X6:=xcj i.L X1 b.I.toNat f.I.toNat;let X2:=[[D.i 0,D.l (List.take (Int.toNat (↑(List.length X4):Int)) X4),D.l (List.take (Int.toNat (i.L.length:Int)) (xbu i.L X1 f.I.toNat i.L.length))]];(xb4 C xlm 3 (xaa C.P 3 16) xpw (.i 2::a::b::c::d::e::f::g::h::i::[j,k,l,m,n,o,p,q,r,s,t,u,v,w,x,y,z,z26,z27,z28,z29,z30,z31,z32,z33,z34,z35,z36,z37,z38])).run =
 T.run (T.ite (decide (f.I<g.I)) (T.need (yes ((↑(0+1+1+1+1):Int)=(4:Int)/\((xec g.I h.I i.L=true/\xke g.I b.I c.I/\xgp g.I h.I i.L z31.L z32.L z33.L z34.L (j.I.toNat:Int) (k.I.toNat:Int) (l.I.toNat:Int) (m.I.toNat:Int) (n.I.toNat:Int))/\xg7 p.I q.I r.I s.I t.I (u.I.toNat:Int) v.B w.I x.I y.I z.I z36.L a.I)/\((o.I.toNat:Int)=(i.L.length:Int)/\z35.L=xa8 i.L i.L.length/\d.I=xbg i.L i.L.length)/\((0:Int)<=f.I/\f.I<g.I)/\(0:Int)=(0:Int)/\((b.I<f.I/\(z27.I.toNat:Int)=b.I)/\(e.I.toNat:Int)=f.I/\z26.L=xcj i.L X1 b.I.toNat f.I.toNat/\z28.I=(0:Int)/\(z29.I.toNat:Int)=(z37.L.length:Int)/\(z30.I.toNat:Int)=(i.L.length:Int)/\z37.L=xax i.L X1 b.I.toNat i.L.length/\z38.L=xbu i.L X1 b.I.toNat i.L.length)/\(0:Int)=(0:Int))) (T.ite (xay (xnv i.L X1 f.I.toNat) 0 (i.L.length - 0)) (T.ite (decide (f.I=b.I)) T.fail (T.need (decide (Int.toNat (↑(List.length X4):Int)<=List.length X4)) (T.need (decide (Int.toNat (i.L.length:Int)<=List.length (xbu i.L X1 f.I.toNat i.L.length))) (T.need (decide (b.I.toNat<f.I.toNat/\f.I.toNat<=List.length X6/\f.I.toNat+1<=2 ^ 62/\(f.I.toNat+1)*Tryz.prog.types[49].bytes<=2 ^ 47)) (T.leaf (Rd.again [D.i 2,D.i a.I,D.i b.I,D.i c.I,D.i (xbg i.L i.L.length),D.i (↑(f.I.toNat+1):Int),D.i (IntKind.i64.wrap (f.I+(1:Int))),D.i g.I,D.i h.I,D.l i.L,D.i 1,D.i (↑(Int.toNat (↑(i.L.length+1):Int)):Int),D.i X3,D.i X3,D.i X3,D.i X3,D.i p.I,D.i q.I,D.i r.I,D.i s.I,D.i t.I,D.i 1,D.b v.B,D.i w.I,D.i x.I,D.i y.I,D.i z.I,D.l (List.take f.I.toNat X6++List.take (List.length X2) X2),D.i (b.I.toNat:Int),D.i 0,D.i (↑(Int.toNat (↑(List.length X5):Int)):Int),D.i X3,D.l z31.L,D.l z32.L,D.l z33.L,D.l z34.L,D.l (xa8 i.L i.L.length),D.l z36.L,D.l X5,D.l (xbu i.L X1 b.I.toNat i.L.length)])))))) (T.leaf (Rd.out Ex.ret [D.b true])))) (T.leaf (Rd.out (Ex.exit 2) [D.i a.I,D.i b.I,D.i c.I,D.i d.I,D.i (e.I.toNat:Int),D.i g.I,D.i h.I,D.l i.L,D.i (o.I.toNat:Int),D.i p.I,D.i q.I,D.i r.I,D.i s.I,D.i t.I,D.i (u.I.toNat:Int),D.b v.B,D.i w.I,D.i x.I,D.i y.I,D.i z.I,D.l z26.L,D.i (z27.I.toNat:Int),D.i z28.I,D.i (z29.I.toNat:Int),D.i (z30.I.toNat:Int),D.l z35.L,D.l z36.L,D.l z37.L,D.l z38.L]))):=by
 intros
 kernel_rfl
set_option maxRecDepth 100000
theorem xCr:Tryz.prog.types[49].bytes=56:=by kernel_rfl
theorem xIm (w d:List (List D)) (q:Nat):xcj w d q (q+1)=xcj w d q q++[[]]:=by
 rw [xcj,if_pos rfl]
theorem xCf (w d:List (List D)) {q n:Nat} (h:¬ n=q):xcj w d q (n+1)=xcj w d q n++[[.i 0,.l (xax w d n w.length),.l (xbu w d n w.length)]]:=by
 rw [xcj,if_neg h];rfl
theorem yb6 (h20:xct C 12 3 (xaa C.P 3 20) (mkL xih xGe)):xct C 12 3 (xaa C.P 3 16) (mkL xpw xPv):=by
 refine xbb hC (sp:=sp3) (lp:=lp3) (sw:=sw3) xCv xwp 0 [20] (by kernel_rfl) (by kernel_rfl) (fun k hk L hL=>by simp at hk;subst hk;cases hL;exact h20) (by kernel_rfl) (fun ds=>(if ds.length=32 then (ds.getD 6 default).I - (ds.getD 5 default).I else (ds.getD 7 default).I - (ds.getD 6 default).I).toNat) fun ds rr h=>?_
 unfold xPv at h;split at h
 ·rename_i h0 la q mi g k c f w lo n n1 n2 n3 ni k1 a1 a2 ml ll nj re ms no pe po du cl op ch it ju;obtain ⟨hp,h⟩:=xab h;rw [xad] at hp;obtain ⟨hh,⟨⟨hS,hA,hF⟩,hR⟩,⟨hni,hit,hg⟩,⟨kx0,kx1⟩,hk⟩:=hp;obtain ⟨hp,-,h6⟩:=xe4 hS;obtain ⟨p1,p2⟩:=(xb1 hp).2.1;have elo:lo.I=1:=hF.2.2.2.2.2.2.1;have en:n.I=((w.L.length+1:Nat):Int):=by rw [hF.2.2.2.2.2.2.2.1];omega
  have en1:n1.I=w.L.length:=hF.2.2.2.2.2.2.2.2.1;have en2:n2.I=w.L.length:=hF.2.2.2.2.2.2.2.2.2.1;have en3:n3.I=w.L.length:=hF.2.2.2.2.2.2.2.2.2.2;have enj:nj.I=1:=hR.2.1.2.2;rw [elo,en,en1,en2,en3] at hF;rw [enj] at hR;have one:((Int.toNat 1:Nat):Int)=1:=rfl;obtain ⟨⟨q0,q1⟩,c12,m0,m1⟩:=id hA;obtain ⟨x,hx⟩:∃ x:Nat,k.I=x:=⟨k.I.toNat,by omega⟩;obtain ⟨y,hy⟩:∃ y:Nat,q.I=y:=⟨q.I.toNat,by omega⟩;obtain ⟨m,hm⟩:∃ m:Nat,c.I=m:=⟨c.I.toNat,by omega⟩;have hxy:x=0:=by omega
  rw [hm] at hS hF;rw [hm,hy] at hA;refine ⟨by rw [xa9];show (c.I - k.I).toNat<_;omega,?_⟩;rw [xar (j:=h0) (n:=0) hh (by decide),show (xal C (xah sp3 lp3 sw3) 3 (xaa C.P 3 16) 0 xpw [.i 0,la,q,mi,g,k,c,f,w,lo,n,n1,n2,n3,ni,k1,a1,a2,ml,ll,nj,re,ms,no,pe,po,du,cl,op,ch,it,ju]).run=_ from xXj la q mi g k c f w lo n n1 n2 n3 ni k1 a1 a2 ml ll nj re ms no pe po du cl op ch it ju];have htl:(xbu w.L (xaf (m:Int) f.I w.L ch.L) x w.L.length).take w.L.length=xbu w.L (xaf (m:Int) f.I w.L ch.L) x w.L.length:=List.take_of_length_le (by rw [xcp];exact Nat.le_refl _);simp only [hx,hy,hm,hni,hit,hg,elo,en,en1,en2,en3,enj,one,Int.toNat_natCast,List.take_length,Nat.sub_zero] at h kx0 kx1 ⊢;refine xa2 (fun hlt=>?_) fun hge=>?_
  ·refine xbe ⟨by first | trivial | rfl,⟨⟨hS,hA,hF⟩,hR⟩,⟨by trivial,by trivial,by trivial⟩,⟨by omega,by omega⟩,by trivial,by omega,by trivial⟩ ?_;obtain ⟨s1,s2⟩:=xet h (show x<m by omega);rw [xbd (by omega)];refine xcm (fun e=>?_) fun e=>xao (s1 e)
   refine xa2 (fun e2=>?_) fun e2=>?_
   ·obtain rfl:y=x:=by omega
    subst hxy;exact xaj ((xam ⟨rfl,⟨⟨hS,hA,hF⟩,hR⟩,⟨rfl,rfl,rfl⟩,⟨by simp only [I_i];omega,by simp only [I_i];omega⟩,⟨⟨by simp only [I_i];omega,rfl⟩,rfl,(xIm _ _ 0).symm,rfl,rfl,rfl,rfl,rfl⟩⟩).trans (s2 e)) (show ((m:Int) - ((0+1:Nat):Int)).toNat<(c.I - k.I).toNat by omega)
   ·subst hxy;rw [htl];refine xac (by omega) (xac (by rw [xcp];omega) ?_);exact xaj ((xam ⟨rfl,⟨⟨hS,hA,hF⟩,hR⟩,⟨rfl,rfl,rfl⟩,⟨by simp only [I_i];omega,by simp only [I_i];omega⟩,⟨by simp only [I_i];omega,by simp only [I_i];omega⟩,rfl,(xCf w.L (xaf (m:Int) f.I w.L ch.L) (q:=y) (n:=0) (by omega)).symm⟩).trans (s2 e)) (show ((m:Int) - ((0+1:Nat):Int)).toNat<(c.I - k.I).toNat by omega)
  ·exact absurd (show (x:Int)<m by omega) hge
 ·rename_i h0 la q mi g nc k c f w lo n n1 n2 n3 ni k1 a1 a2 ml ll nj re ms no pe po rows du cl op ch it ju;obtain ⟨hp,h⟩:=xab h;rw [xad] at hp;obtain ⟨hh,⟨⟨hS,hA,hF⟩,hR⟩,⟨hni,hit,hg⟩,⟨kx0,kx1⟩,⟨⟨kq0,kq1⟩,hnc,hrows⟩⟩:=hp;obtain ⟨hp,-,h6⟩:=xe4 hS;obtain ⟨p1,p2⟩:=(xb1 hp).2.1;have elo:lo.I=1:=hF.2.2.2.2.2.2.1;have en:n.I=((w.L.length+1:Nat):Int):=by rw [hF.2.2.2.2.2.2.2.1];omega
  have en1:n1.I=w.L.length:=hF.2.2.2.2.2.2.2.2.1;have en2:n2.I=w.L.length:=hF.2.2.2.2.2.2.2.2.2.1;have en3:n3.I=w.L.length:=hF.2.2.2.2.2.2.2.2.2.2;have enj:nj.I=1:=hR.2.1.2.2;rw [elo,en,en1,en2,en3] at hF;rw [enj] at hR;have one:((Int.toNat 1:Nat):Int)=1:=rfl;obtain ⟨⟨q0,q1⟩,c12,m0,m1⟩:=id hA;obtain ⟨x,hx⟩:∃ x:Nat,k.I=x:=⟨k.I.toNat,by omega⟩;obtain ⟨y,hy⟩:∃ y:Nat,q.I=y:=⟨q.I.toNat,by omega⟩;obtain ⟨m,hm⟩:∃ m:Nat,c.I=m:=⟨c.I.toNat,by omega⟩;rw [hm,hx,hy,Int.toNat_natCast,Int.toNat_natCast] at hrows;rw [hx] at hnc;rw [hm] at hS hF;rw [hm,hy] at hA;refine ⟨by rw [xa9];show (c.I - k.I).toNat<_;omega,?_⟩;rw [xar (j:=h0) (n:=1) hh (by decide),show (xal C (xah sp3 lp3 sw3) 3 (xaa C.P 3 16) 0 xpw [.i 1,la,q,mi,g,nc,k,c,f,w,lo,n,n1,n2,n3,ni,k1,a1,a2,ml,ll,nj,re,ms,no,pe,po,rows,du,cl,op,ch,it,ju]).run=_ from xXi la q mi g nc k c f w lo n n1 n2 n3 ni k1 a1 a2 ml ll nj re ms no pe po rows du cl op ch it ju];have htk:(xcj w.L (xaf (m:Int) f.I w.L ch.L) y x).take x=xcj w.L (xaf (m:Int) f.I w.L ch.L) y x:=List.take_of_length_le (by rw [xfu];exact Nat.le_refl _);have htl:(xbu w.L (xaf (m:Int) f.I w.L ch.L) x w.L.length).take w.L.length=xbu w.L (xaf (m:Int) f.I w.L ch.L) x w.L.length:=List.take_of_length_le (by rw [xcp];exact Nat.le_refl _);simp only [hx,hy,hm,hni,hit,hg,hnc,hrows,htk,elo,en,en1,en2,en3,enj,one,Int.toNat_natCast,List.take_length,Nat.sub_zero] at h kx0 kx1 ⊢;refine xa2 (fun hlt=>?_) fun hge=>?_
  ·refine xbe ⟨by first | trivial | rfl,⟨⟨hS,hA,hF⟩,hR⟩,⟨by trivial,by trivial,by trivial⟩,⟨by omega,by omega⟩,by trivial,⟨⟨by omega,by omega⟩,by first | trivial | rfl,by first | trivial | rfl⟩,by trivial⟩ ?_;obtain ⟨s1,s2⟩:=xet h (show x<m by omega);rw [xbd (by omega)];refine xcm (fun e=>?_) fun e=>xao (s1 e)
   refine xa2 (fun e2=>?_) fun e2=>?_
   ·obtain rfl:y=x:=by omega
    refine xac (by rw [xfu,xCr];omega) ?_;exact xaj ((xam ⟨rfl,⟨⟨hS,hA,hF⟩,hR⟩,⟨rfl,rfl,rfl⟩,⟨by simp only [I_i];omega,by simp only [I_i];omega⟩,⟨⟨by simp only [I_i];omega,rfl⟩,rfl,(xIm _ _ _).symm,rfl,rfl,rfl,rfl,rfl⟩⟩).trans (s2 e)) (show ((m:Int) - ((y+1:Nat):Int)).toNat<(c.I - k.I).toNat by omega)
   ·rw [htl];refine xac (by omega) (xac (by rw [xcp];omega) (xac (by rw [xfu,xCr];omega) ?_));exact xaj ((xam ⟨rfl,⟨⟨hS,hA,hF⟩,hR⟩,⟨rfl,rfl,rfl⟩,⟨by simp only [I_i];omega,by simp only [I_i];omega⟩,⟨by simp only [I_i];omega,by simp only [I_i];omega⟩,rfl,(xCf _ _ (by omega)).symm⟩).trans (s2 e)) (show ((m:Int) - ((x+1:Nat):Int)).toNat<(c.I - k.I).toNat by omega)
  ·exact absurd (show (x:Int)<m by omega) hge
 ·rename_i h0 la q mi g nc k c f w lo n n1 n2 n3 ni k1 a1 a2 ml ll nj re ms no pe po rows q' hc hs hl du cl op ch it ju S' M';obtain ⟨hp,h⟩:=xab h;rw [xad] at hp;obtain ⟨hh,⟨⟨hS,hA,hF⟩,hR⟩,⟨hni,hit,hg⟩,⟨kx0,kx1⟩,⟨⟨kq0,hq'⟩,hnc,hrows,hhc,hhs,hhl,hS',hM'⟩⟩:=hp;obtain ⟨hp,-,h6⟩:=xe4 hS;obtain ⟨p1,p2⟩:=(xb1 hp).2.1;have elo:lo.I=1:=hF.2.2.2.2.2.2.1;have en:n.I=((w.L.length+1:Nat):Int):=by rw [hF.2.2.2.2.2.2.2.1];omega
  have en1:n1.I=w.L.length:=hF.2.2.2.2.2.2.2.2.1;have en2:n2.I=w.L.length:=hF.2.2.2.2.2.2.2.2.2.1;have en3:n3.I=w.L.length:=hF.2.2.2.2.2.2.2.2.2.2;have enj:nj.I=1:=hR.2.1.2.2;rw [elo,en,en1,en2,en3] at hF;rw [enj] at hR;have one:((Int.toNat 1:Nat):Int)=1:=rfl;obtain ⟨⟨q0,q1⟩,c12,m0,m1⟩:=id hA;obtain ⟨x,hx⟩:∃ x:Nat,k.I=x:=⟨k.I.toNat,by omega⟩;obtain ⟨y,hy⟩:∃ y:Nat,q.I=y:=⟨q.I.toNat,by omega⟩;obtain ⟨m,hm⟩:∃ m:Nat,c.I=m:=⟨c.I.toNat,by omega⟩;rw [hm,hx,hy,Int.toNat_natCast,Int.toNat_natCast] at hrows;rw [hx] at hnc;rw [hy] at hq';rw [hm,hy,Int.toNat_natCast] at hS' hM';rw [hS'] at hhs;rw [hm] at hS hF;rw [hm,hy] at hA;refine ⟨by rw [xa9];show (c.I - k.I).toNat<_;omega,?_⟩;rw [xar (j:=h0) (n:=2) hh (by decide),show (xal C (xah sp3 lp3 sw3) 3 (xaa C.P 3 16) 0 xpw [.i 2,la,q,mi,g,nc,k,c,f,w,lo,n,n1,n2,n3,ni,k1,a1,a2,ml,ll,nj,re,ms,no,pe,po,rows,q',hc,hs,hl,du,cl,op,ch,it,ju,S',M']).run=_ from xXh la q mi g nc k c f w lo n n1 n2 n3 ni k1 a1 a2 ml ll nj re ms no pe po rows q' hc hs hl du cl op ch it ju S' M'];have htk:(xcj w.L (xaf (m:Int) f.I w.L ch.L) y x).take x=xcj w.L (xaf (m:Int) f.I w.L ch.L) y x:=List.take_of_length_le (by rw [xfu];exact Nat.le_refl _);have htl:(xbu w.L (xaf (m:Int) f.I w.L ch.L) x w.L.length).take w.L.length=xbu w.L (xaf (m:Int) f.I w.L ch.L) x w.L.length:=List.take_of_length_le (by rw [xcp];exact Nat.le_refl _);simp only [hx,hy,hm,hni,hit,hg,hnc,hrows,htk,hq',hhc,hhs,hhl,hS',hM',elo,en,en1,en2,en3,enj,one,Int.toNat_natCast,List.take_length,Nat.sub_zero] at h kx0 kx1 ⊢;refine xa2 (fun hlt=>?_) fun hge=>?_
  ·refine xbe ⟨by first | trivial | rfl,⟨⟨hS,hA,hF⟩,hR⟩,⟨by trivial,by trivial,by trivial⟩,⟨by omega,by omega⟩,by trivial,⟨⟨by omega,by first | trivial | rfl⟩,by first | trivial | rfl,by first | trivial | rfl,by first | trivial | rfl,by first | trivial | rfl,by first | trivial | rfl,by first | trivial | rfl,by first | trivial | rfl⟩,by trivial⟩ ?_;obtain ⟨s1,s2⟩:=xet h (show x<m by omega);rw [xbd (by omega)];refine xcm (fun e=>?_) fun e=>xao (s1 e)
   refine xa2 (fun e2=>?_) fun e2=>?_
   ·omega
   ·rw [htl];refine xac (by omega) (xac (by rw [xcp];omega) (xac (by rw [xfu,xCr];omega) ?_));exact xaj ((xam ⟨rfl,⟨⟨hS,hA,hF⟩,hR⟩,⟨rfl,rfl,rfl⟩,⟨by simp only [I_i];omega,by simp only [I_i];omega⟩,⟨⟨by simp only [I_i];omega,rfl⟩,rfl,(xCf _ _ (by omega)).symm,rfl,rfl,rfl,rfl,rfl⟩⟩).trans (s2 e)) (show ((m:Int) - ((x+1:Nat):Int)).toNat<(c.I - k.I).toNat by omega)
  ·have hm2:x=m:=by omega
   subst hm2;refine xao (xmx h (by omega))
 ·cases h
set_option linter.unusedVariables false
set_option maxRecDepth 100000
theorem t3 (a b c d e f g:D) :
 let X1:=xaf a.I b.I c.L (xdf a.I b.I c.L).snd;let X2:=(Int.toNat (IntKind.i64.wrap ((c.L.length:Int) - (1:Int))));let X4:=xbu c.L X1 f.I.toNat c.L.length;let X5:=List.length [K.int IntKind.i64,K.int IntKind.i64,K.bool,K.int IntKind.i64];let X7:=(Int.toNat (c.L.length:Int));let X11:=List.take X7 (xa8 c.L c.L.length);let X12:=xcj c.L X1 f.I.toNat a.I.toNat;let X16:=(decide ((0:Int)<=IntKind.i64.wrap ((c.L.length:Int) - (1:Int))/\IntKind.i64.wrap ((c.L.length:Int) - (1:Int))<(↑(List.length (D.L (List.getD (List.getD X12 f.I.toNat []) (0+1+1) default))):Int)));let X17:=(decide ((0:Int)<=IntKind.i64.wrap ((c.L.length:Int) - (1:Int))/\IntKind.i64.wrap ((c.L.length:Int) - (1:Int))<(↑(Int.toNat (↑X7:Int)):Int)));let X19:=(xec a.I b.I c.L=true/\xke a.I f.I g.I/\xgp a.I b.I c.L (xjd a.I b.I c.L (xdf a.I b.I c.L).snd) (clR a.I b.I c.L (xdf a.I b.I c.L).snd) (opR a.I b.I c.L (xdf a.I b.I c.L).snd) (xdf a.I b.I c.L).snd (↑(Int.toNat (1:Int)):Int) (↑(Int.toNat (↑(c.L.length+1):Int)):Int) (↑X7:Int) (↑X7:Int) (↑X7:Int))/\xg7 (1:Int) d.I e.I (1440:Int) (1440:Int) (↑(Int.toNat (1:Int)):Int) false (0:Int) (1:Int) (100:Int) (-1:Int) [[D.i 0]] d.I;let X21:=(Int.toNat (a.I.toNat:Int));let X22:=List.set X4 X2 (xex (List.getD X4 X2 []) [D.i (IntKind.i64.wrap (D.I (List.getD (List.getD (D.L (List.getD (List.getD X12 f.I.toNat []) (0+1+1) default)) X2 []) 0 default)+g.I))] (0+0) 0 X5);let X24:=decide (Int.toNat (IntKind.i64.wrap ((c.L.length:Int) - (1:Int)))<List.length X4);let X25:=List.take (Int.toNat (1:Int)) [[D.i 0]];let X26:=xax c.L X1 f.I.toNat c.L.length;let X28:=(Int.toNat (f.I.toNat:Int));let X29:=(decide ((0:Int)<=f.I/\f.I<(↑X21:Int)));let X30:=(↑(Int.toNat (↑(List.length X26):Int)):Int);let X31:=(decide (f.I.toNat=Int.toNat (f.I.toNat:Int)));let X37:=decide (Int.toNat (c.L.length:Int)<=List.length (xa8 c.L c.L.length));let X38:=decide (f.I.toNat<List.length X12);let X41:=(↑(List.length X12):Int);let X42:=(decide (xbg c.L c.L.length>=(6:Int)));let X43:=decide (Int.toNat X30<=List.length X26);let X44:=List.set X12 X28 [D.i 0,D.l X26,D.l X4];let X3:=List.take (Int.toNat X30) X26;let X6:=[D.i (IntKind.i64.wrap (D.I (List.getD (List.getD (D.L (List.getD (List.getD X12 f.I.toNat []) ((0:Nat)+(1:Nat)+(1:Nat)) default)) X2 []) (0:Nat) default)+g.I))];let X8:=List.set X12 X28 [D.i 0,D.l X3,D.l (List.take (Int.toNat (↑X7:Int)) (List.set X4 X2 (xex (List.getD X4 X2 []) [D.i (IntKind.i64.wrap (D.I (List.getD (List.getD X4 X2 []) 0 default)+g.I))] (0+0) 0 X5)))];let X9:=List.set X12 X28 [D.i 0,D.l X3,D.l (List.take (Int.toNat (↑X7:Int)) (List.set X4 X2 (xex (List.getD X4 X2 []) [D.i (IntKind.i64.wrap (D.I (List.getD (List.getD X4 X2 []) (0:Nat) default)+g.I))] (0+(0:Nat)) 0 X5)))];let X10:=List.set X12 X28 [D.i 0,D.l X3,D.l (List.take (Int.toNat (↑X7:Int)) (List.set X4 X2 (xex (List.getD X4 X2 []) [D.i (IntKind.i64.wrap (D.I (List.getD (List.getD (D.L (List.getD (List.getD X12 f.I.toNat []) ((0:Nat)+(1:Nat)+(1:Nat)) default)) X2 []) 0 default)+g.I))] (0+0) 0 X5)))];let X13:=List.set X12 X28 [D.i 0,D.l X3,D.l (List.take (Int.toNat (↑X7:Int)) (List.set X4 X2 (xex (List.getD X4 X2 []) X6 (0+(0:Nat)) 0 X5)))];let X14:=List.set X12 X28 [D.i 0,D.l X3,D.l (List.take (Int.toNat (↑X7:Int)) (List.set X4 X2 (xex (List.getD X4 X2 []) [D.i (IntKind.i64.wrap (D.I (List.getD (List.getD X4 X2 []) (0:Nat) default)+g.I))] ((0:Nat)+(0:Nat)) (0:Nat) X5)))];let X15:=List.set X12 X28 [D.i 0,D.l X3,D.l (List.take (Int.toNat (↑X7:Int)) (List.set X4 X2 (xex (List.getD X4 X2 []) [D.i (IntKind.i64.wrap (D.I (List.getD (List.getD (D.L (List.getD (List.getD X12 f.I.toNat []) (0+(1:Nat)+1) default)) X2 []) 0 default)+g.I))] (0+0) 0 X5)))];let X18:=List.set X12 X28 [D.i 0,D.l X3,D.l (List.take (Int.toNat (↑X7:Int)) (List.set X4 X2 (xex (List.getD X4 X2 []) [D.i (IntKind.i64.wrap (D.I (List.getD (List.getD X4 X2 []) (0:Nat) default)+g.I))] (0+0) 0 X5)))];let X20:=List.set X12 X28 [D.i 0,D.l X3,D.l (List.take (Int.toNat (↑X7:Int)) (List.set X4 X2 (xex (List.getD X4 X2 []) X6 (0+0) 0 X5)))];let X23:=List.set X12 X28 [D.i 0,D.l X3,D.l (List.take (Int.toNat (↑X7:Int)) (List.set X4 X2 (xex (List.getD X4 X2 []) X6 ((0:Nat)+(0:Nat)) (0:Nat) X5)))];let X27:=xcv X11 (List.set X12 X28 [D.i 0,D.l X3,D.l (List.take (Int.toNat (↑X7:Int)) (List.set X4 X2 (xex (List.getD X4 X2 []) X6 ((0:Nat)+(0:Nat)) 0 X5)))]) d.I;let X32:=xbc X11 (List.take X21 X15) d.I f.I.toNat != IntKind.i64.wrap (g.I*d.I);let X33:=xbc X11 (List.take X21 X8) d.I f.I.toNat != IntKind.i64.wrap (g.I*d.I);let X34:=(↑(List.length (xcv X11 X13 d.I)):Int);let X35:=(↑(List.length (xcv X11 X9 d.I)):Int);let X36:=List.set X12 X28 [D.i 0,D.l X3,D.l (List.take (Int.toNat (↑X7:Int)) X22)];let X39:=(List.take (Int.toNat (↑(List.length X23):Int)) X13);let X40:=(List.take (Int.toNat (↑(List.length X14):Int)) X9);(fnT C xlm 3 s3 [a,b,c,d,e,f,g]).run =
 T.run (T.ite (!xec a.I b.I c.L) (T.leaf [D.b true]) (T.ite (decide (a.I > (12:Int))) (T.leaf [D.b true]) (T.ite (decide (d.I<(0:Int))) (T.leaf [D.b true]) (T.ite (decide (d.I > (1000000:Int))) (T.leaf [D.b true]) (T.ite (decide (e.I<(0:Int))) (T.leaf [D.b true]) (T.ite (decide (e.I > (1000000:Int))) (T.leaf [D.b true]) (T.ite (decide (f.I<(0:Int))) (T.leaf [D.b true]) (T.ite (decide (f.I>=a.I)) (T.leaf [D.b true]) (T.ite (decide (g.I<(0:Int))) (T.leaf [D.b true]) (T.ite (decide (g.I > (1000:Int))) (T.leaf [D.b true]) (T.need (yes (xaw a.I b.I c.L=true/\xqn c.L)) (T.ite (decide ((xdf a.I b.I c.L).fst=(0:Int))) (T.need (yes ((↑0:Int)=(0:Int)/\X19/\(0:Int)=(0:Int)/\(0:Int)=(0:Int))) (T.need (yes ((↑0:Int)=(0:Int)/\X19/\((↑X7:Int)=(c.L.length:Int)/\xa8 c.L c.L.length=xa8 c.L c.L.length/\xbg c.L c.L.length=xbg c.L c.L.length)/\((0:Int)<=(0:Int)/\(0:Int)<=a.I)/\(0:Int)=(0:Int))) (T.ite (xay (xl8 c.L X1) (Int.toNat (0:Int)) (a.I.toNat - Int.toNat (0:Int))) (T.ite X42 (T.ite X42 (T.leaf [D.b true]) (T.leaf [D.b false])) (T.need X37 (T.need (yes (xan X11 (1:Int) d.I e.I (1440:Int) (1440:Int) X25 false (0:Int) (1:Int) (100:Int) (-1:Int) [] [])) (T.need X37 (T.need (yes ((xan X11 (1:Int) d.I e.I (1440:Int) (1440:Int) X25 false (0:Int) (1:Int) (100:Int) (-1:Int) [] []/\xat X11 X44)/\(∀ (k:Nat),k<List.length X12->xhb X11 X44 k=(0:Int))/\((a.I.toNat:Int)=X41/\a.I=X41)/\((0:Int)<=(f.I.toNat:Int)/\(f.I.toNat:Int)<X41)/\(X30=(↑(List.length X26):Int)/\(↑X7:Int)=(↑(List.length X4):Int))/\(0:Int)<=(0:Int)/\(0:Int)<=(a.I.toNat:Int))) (T.need X29 (T.need X38 (T.ite X31 (T.need X29 (T.need X38 (T.ite X31 (T.need X17 (T.need X24 (T.need X17 (T.need X24 (T.need X43 (T.need (decide (Int.toNat (↑X7:Int)<=List.length (List.set X4 X2 (xex (List.getD X4 X2 []) [D.i (IntKind.i64.wrap (D.I (List.getD (List.getD X4 X2 []) 0 default)+g.I))] (0+0) 0 X5)))) (T.need (decide (Int.toNat (a.I.toNat:Int)<=List.length X8)) (T.need (yes (xan X11 (1:Int) d.I e.I (1440:Int) (1440:Int) X25 false (0:Int) (1:Int) (100:Int) (-1:Int) [] []/\xat X11 (List.take X21 X8)/\(0:Int)<=f.I/\f.I<(↑(List.length (List.take X21 X8)):Int))) (T.need (yes (xan X11 (1:Int) d.I e.I (1440:Int) (1440:Int) X25 false (0:Int) (1:Int) (100:Int) (-1:Int) [] []/\xat X11 X8/\(↑X21:Int)=(↑(List.length X8):Int))) (T.ite (List.isEmpty (xcv X11 X8 d.I)) (T.ite X33 (T.leaf [D.b false]) T.fail) (T.ite X33 (T.leaf [D.b false]) (T.need (yes (((↑X21:Int)=(↑(List.length X18):Int)/\(↑(Int.toNat (↑(List.length (xcv X11 (List.set X12 X28 [D.i 0,D.l X3,D.l (List.take (Int.toNat (↑X7:Int)) (List.set X4 X2 (xex (List.getD X4 X2 []) [D.i (IntKind.i64.wrap (D.I (List.getD (List.getD X4 X2 []) (0:Nat) default)+g.I))] ((0:Nat)+(0:Nat)) 0 X5)))]) d.I)):Int)):Int)=X35)/\List.length (xcv X11 X18 d.I)<=1000/\((0:Int)<=(0:Int)/\(0:Int)<=X35)/\(0:Int)=xf6 (List.take (Int.toNat (0:Int)) (xcv X11 X9 d.I))/\∀ (j:Nat),j<List.length (xcv X11 X9 d.I)->(0:Int)<=ix (List.getD (xcv X11 X14 d.I) j []) 3/\ix (List.getD (xcv X11 X14 d.I) j []) 3<=(1000000000:Int))) (T.ite (xf6 (xcv X11 X8 d.I) == xbc X11 (List.take X21 X8) d.I f.I.toNat) (T.need (decide (Int.toNat (↑(List.length X9):Int)<=List.length X8)) (T.need (decide (Int.toNat X35<=List.length (xcv X11 X18 d.I))) (T.need (yes (xan X11 (1:Int) d.I e.I (1440:Int) (1440:Int) X25 false (0:Int) (1:Int) (100:Int) (-1:Int) [] []/\xat X11 X40/\xq6 X11 X40 d.I (List.take (Int.toNat (↑(List.length (xcv X11 X14 d.I)):Int)) (xcv X11 X9 d.I)))) (T.leaf [D.b true])))) (T.leaf [D.b false])))))))))))))) (T.need X16 (T.need X17 (T.need X24 (T.need X43 (T.need (decide (Int.toNat (↑X7:Int)<=List.length X22)) (T.need (decide (Int.toNat (a.I.toNat:Int)<=List.length X36)) (T.need (yes (xan X11 (1:Int) d.I e.I (1440:Int) (1440:Int) X25 false (0:Int) (1:Int) (100:Int) (-1:Int) [] []/\xat X11 (List.take X21 X15)/\(0:Int)<=f.I/\f.I<(↑(List.length (List.take X21 X10)):Int))) (T.need (yes (xan X11 (1:Int) d.I e.I (1440:Int) (1440:Int) X25 false (0:Int) (1:Int) (100:Int) (-1:Int) [] []/\xat X11 X15/\(↑X21:Int)=(↑(List.length X10):Int))) (T.ite (List.isEmpty (xcv X11 X36 d.I)) (T.ite X32 (T.leaf [D.b false]) T.fail) (T.ite X32 (T.leaf [D.b false]) (T.need (yes (((↑X21:Int)=(↑(List.length X20):Int)/\(↑(Int.toNat X34):Int)=(↑(List.length (xcv X11 X20 d.I)):Int))/\List.length (xcv X11 X10 d.I)<=1000/\((0:Int)<=(0:Int)/\(0:Int)<=X34)/\(0:Int)=xf6 (List.take (Int.toNat (0:Int)) (xcv X11 X13 d.I))/\∀ (j:Nat),j<List.length (xcv X11 X13 d.I)->(0:Int)<=ix (List.getD X27 j []) 3/\ix (List.getD X27 j []) 3<=(1000000000:Int))) (T.ite (xf6 (xcv X11 X10 d.I) == xbc X11 (List.take X21 X10) d.I f.I.toNat) (T.need (decide (Int.toNat (↑(List.length X20):Int)<=List.length X10)) (T.need (decide (Int.toNat X34<=List.length (xcv X11 X20 d.I))) (T.need (yes (xan X11 (1:Int) d.I e.I (1440:Int) (1440:Int) X25 false (0:Int) (1:Int) (100:Int) (-1:Int) [] []/\xat X11 X39/\xq6 X11 X39 d.I (List.take (Int.toNat (↑(List.length (xcv X11 X23 d.I)):Int)) (xcv X11 X13 d.I)))) (T.leaf [D.b true])))) (T.leaf [D.b false])))))))))))))))) (T.need X29 (T.need X38 (T.ite X31 (T.need X17 (T.need X24 (T.need X16 T.fail))) (T.need X16 (T.need X16 T.fail))))))))))))) (T.leaf [D.b true])))) (T.ite (decide ((xdf a.I b.I c.L).fst=(5:Int))) (T.leaf [D.b true]) (T.leaf [D.b true])))))))))))))):=by
 intros
 kernel_rfl
end Go.Proofs.YtgoedfonmocafaaGreat
