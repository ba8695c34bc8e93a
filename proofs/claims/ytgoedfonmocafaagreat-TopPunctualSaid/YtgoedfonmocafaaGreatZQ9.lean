/-
 The statement of PunPN holds for every input;what it rests on stands in the parts before.
-/
import Derived.Test.YtgoedfonmocafaaGreatZQ8
import Derived.Test.YtgoedfonmocafaaGreatRows
noncomputable section
namespace Go.Proofs.YtgoedfonmocafaaGreat
open Go.Lite Go.ChangeShapes Go.WideShapes Go.ChangeAt Go.RowKit
theorem yg7:Kids Tryz.prog (·<Tryz.prog.types.size):=kids_rows (by kernel_rfl) (by kernel_rfl)
theorem yhc:∀ t e,t<Tryz.prog.types.size->Tryz.prog.underlying t=some (.slice e)->0<Tryz.prog.cellsOf e:=slices_full_of Tryz.prog (by kernel_rfl)
end Go.Proofs.YtgoedfonmocafaaGreat
namespace Go.Proofs.YtgoedfonmocafaaGreat
open Go.Lite Go.ChangeShapes Go.WideShapes Go.ChangeAt Go.RowKit
def xmg:Prop:=∀ xs:List AV,xjw Tryz.prog 12 [24,3,3,3,3] xs->∃ n h',xbv C n Unit none 3 xs [] ()=some (.bool true,h',())
theorem xww:∀ t∈[24,3,3,3,3],xhx Tryz.prog 12 t=true:=by
 intro t ht;have h:[24,3,3,3,3].all (xhx Tryz.prog 12)=true:=by kernel_rfl
 exact List.all_eq_true.1 h t ht
set_option maxRecDepth 100000 in
theorem xtk (law:xmg) (os:Os) (started:os.Started) (H:Type) (enc:TypeId×Value->H) :
    ReturnsInHanded {} Tryz.checked os 3 .any (Rows.topPunctualSpec.pre6 enc Tryz.prog Tryz.f3 Rows.topPunctualRow.domain false) (Rows.topPunctualSpec.post enc Tryz.prog Tryz.f3 false true false false):=by
 refine returnsInHanded_of_change (C:=Tryz.checked) own started (by kernel_rfl) Tryz.func3
  (ChangeSpec.witness6 (enc:=enc) (C:=Tryz.checked) false ⟨#[],#[.agg #[.int .i64 0,.int .i64 0,.slice none 0 0],.int .i64 0,.int .i64 0,.int .i64 0,.int .i64 0],[]⟩ 8 (by kernel_rfl) (by kernel_rfl) (by kernel_rfl) (by kernel_rfl)) ?_
 intro W base args ds gs before hval0 hW hcnd _;have hval:∀ (j:Nat) t v,Tryz.f3.params[j]?=some t->args[j]?=some v->Value.okWide Tryz.prog W .any base t v:=hval0;have hW':=hW;obtain ⟨p,q,hA0,hV,rfl,hfz,hnd⟩:=hW;have hA:DataW.TrodAll enc Tryz.prog W 0 (fun _=>true) true Tryz.f3.params.toList args.toList ds p:=hA0;have hAk:=hA;rw [Tryz.params3] at hA hval;obtain ⟨xs,hs,hr⟩:=xBi (J:=fun _=>False) (d:=12) (fun t ht=>xww t (by simpa using ht)) (fun j t v h1 h2=>hval j t v (by simpa using h1) (by simpa using h2)) hA;obtain ⟨n,h',hc⟩:=law xs hs;obtain ⟨v0,vs0,d0,ds0,p0,q0,hargs,rfl,rfl,h0,r0⟩:=trodAll_cons hA;obtain ⟨v1,vs1,d1,ds1,p1,q1,rfl,rfl,rfl,h1,r1⟩:=trodAll_cons r0;obtain ⟨v2,vs2,d2,ds2,p2,q2,rfl,rfl,rfl,h2,r2⟩:=trodAll_cons r1;obtain ⟨v3,vs3,d3,ds3,p3,q3,rfl,rfl,rfl,h3,r3⟩:=trodAll_cons r2;obtain ⟨v4,vs4,d4,ds4,p4,q4,rfl,rfl,rfl,h4,r4⟩:=trodAll_cons r3;obtain ⟨rfl,rfl,rfl⟩:=trodAll_nil r4;obtain rfl:args=#[v0,v1,v2,v3,v4]:=by cases args;simp_all
 obtain ⟨rfl,rfl⟩:=trodVars_none hV;clear hA0 hval0;simp only [List.append_nil] at hW';refine (xR0 (xY3 n) hc hr).mono fun e W' ⟨he,h1,h2,hk⟩=>?_
 subst he;have hlt:∀ x∈p0++p1++p2++p3++p4,x.block<W.heap.size:=fun x hx=>hW'.lt x (by simpa [List.append_assoc] using hx)
 exact ⟨_,rfl,xHl (pa:=p0++p1++p2++p3++p4) (pv:=[]) hW' (fun _ _ _=>trodAll_mk1 (shut_bool Tryz.underlying4 _))
  (fun sp hsp=>xs8 (DataW.TrodAll.respare yg7 yhc (by rw [Tryz.params3];decide) (by simpa [List.append_assoc,Rows.topPunctualSpec] using hAk) (fun x hx=>hsp x (by simpa [List.append_assoc] using hx))) (fun x hx=>xQ3 (hk _ (hlt x hx))))
  (fun _ _=>rfl) (by simp [List.append_assoc]) h1 h2 hk (ok_one (by kernel_rfl) rfl (okWide_bool_mk Tryz.underlying4 _))⟩
theorem xxj (law:xmg):Rows.TopPunctualSaid:=
 OpenClaim.holds_of_wide 3 Tryz.f3 rfl rfl rfl rfl rfl rfl rfl ⟨rfl,rfl,rfl,rfl,rfl⟩ rfl rfl rfl rfl rfl (by kernel_rfl) Tryz.func3 (by kernel_rfl)
  (of_decide_eq_true (by kernel_rfl)) (by unfold Func.isWrapper;first | (rw [if_pos (by decide +kernel)];kernel_rfl) | (rw [if_neg (by decide +kernel)];exact ⟨rfl,rfl⟩))
  (fun os started H enc _=>xtk law os started H enc)
set_option maxRecDepth 100000
theorem xRx {w d:List (List D)} {k:Nat} {e x:Int} (hw:1<=w.length) (hx:x=xb5 w d k (w.length - 1)+ix (w.getD (w.length - 1) []) 0+e):xAe w d ((xbu w d k w.length).set (w.length - 1) [.i x,.i 0,.b false,.i 0]) k e:=by
 refine ⟨by rw [List.length_set,xcp],fun j hj=>?_⟩;by_cases h:j=w.length - 1
 ·subst h;rw [xQ1 _ (by rw [xcp];exact hj),if_pos (by omega)];exact ⟨hx,rfl,rfl,rfl⟩
 ·rw [xQ0 _ h,xvt hj,if_neg (by omega),Int.add_zero];exact ⟨rfl,rfl,rfl,rfl⟩
theorem xL0 {x y:Int} (h1:0<=x) (h2:x<=1000) (h3:0<=y) (h4:y<=1000000):0<=x*y/\x*y<=1000000000:=xuc h1 h2 h3 h4
section
variable {l cs:List (List D)} {la:Int}
theorem xDc {q:Nat} (h0:0<=xbc l cs la q):∀ c,(∀ k,k<c->k≠q->xbc l cs la k<=0)->xf6 (xc4 l cs la c)=if q<c then xbc l cs la q else 0
 | 0,_=>rfl
 | c + 1,h=>by
   simp only [xc4];rw [xm1,xDc h0 c fun k hk=>h k (by omega)];by_cases e:c=q
   ·subst e;rw [if_neg (show ¬ c<c by omega),if_pos (show c<c+1 by omega)];split
    ·show 0+((if ix (xg2 l cs la c) 0=4 then ix (xg2 l cs la c) 3 else 0)+0)=_;rw [if_pos (show ix (xg2 l cs la c) 0=4 from rfl)];show 0+(xbc l cs la c+0)=xbc l cs la c;rw [Int.zero_add,Int.add_zero]
    ·show (0:Int)+0=_;omega
   ·have:=h c (by omega) e;rw [if_neg (show ¬ 0<xbc l cs la c by omega),show xf6 ([]:List (List D))=0 from rfl,Int.add_zero];by_cases e2:q<c
    ·rw [if_pos e2,if_pos (show q<c+1 by omega)]
    ·rw [if_neg e2,if_neg (show ¬ q<c+1 by omega)]
theorem xTq (hl:1<=l.length) {q:Nat} (hq:q<cs.length) (h:∀ k,k<cs.length->k≠q->xbc l cs la k<=0) (h0:0<=xbc l cs la q):xf6 (xcv l cs la)=xbc l cs la q:=by
 rw [xwk hl,xm1,xDd,xDc h0 _ h,if_pos hq];omega
theorem xY1 (hl:1<=l.length) {i:Nat} (hi:i<(xcv l cs la).length):∃ k,k<cs.length/\ix ((xcv l cs la).getD i []) 3=xbc l cs la k:=by
 rcases xwj hl hi with ⟨k,h1,-,-,h4⟩ | ⟨k,h1,-,h4⟩ <;> rw [h4] <;> exact ⟨k,h1,rfl⟩
end
section
variable {l cs:List (List D)} {la e:Int} {q:Nat}
theorem xYq (hl:1<=l.length) (hq:q<cs.length) (h:∀ k,k<cs.length->xhb l cs k=if k=q then e else 0) (e0:0<=e) (e1:e<=1000) (l0:0<=la) (l1:la<=1000000) :
    xf6 (xcv l cs la)=xbc l cs la q/\xbc l cs la q=e*la/\∀ j,j<(xcv l cs la).length->0<=ix ((xcv l cs la).getD j []) 3/\ix ((xcv l cs la).getD j []) 3<=1000000000:=by
 have hq1:xbc l cs la q=e*la:=by
  unfold xbc;rw [h q hq,if_pos rfl]
 have hz:∀ k,k<cs.length->k≠q->xbc l cs la k=0:=fun k hk hn=>by
  unfold xbc;rw [h k hk,if_neg hn,Int.zero_mul]
 have hb:=xL0 e0 e1 l0 l1;refine ⟨xTq hl hq (fun k hk hn=>by rw [hz k hk hn];exact Int.le_refl _) (by rw [hq1];exact hb.1),hq1,fun j hj=>?_⟩;obtain ⟨k,hk,hv⟩:=xY1 hl hj;rw [hv];by_cases hn:k=q
 ·rw [hn,hq1];exact hb
 ·rw [hz k hk hn];exact ⟨by omega,by omega⟩
end
set_option maxHeartbeats 4000000 in
theorem yg6 (a b c d e f g:D):(fnT C (xah sp3 lp3 sw3) 3 s3 [a,b,c,d,e,f,g]).run=some [D.b true]:=by
 refine (t3 a b c d e f g).trans ?_;refine xd6 (fun _=>rfl) fun hS=>xdk (fun _=>rfl) fun h1=>xdk (fun _=>rfl) fun h2=>xdk (fun _=>rfl) fun h3=>xdk (fun _=>rfl) fun h4=>xdk (fun _=>rfl) fun h5=>
  xdk (fun _=>rfl) fun h6=>xdk (fun _=>rfl) fun h7=>xdk (fun _=>rfl) fun h8=>xdk (fun _=>rfl) fun h9=>?_
 obtain ⟨hp,hfew,hw6⟩:=xe4 hS;obtain ⟨⟨p1,-⟩,⟨w1,-⟩,-⟩:=xb1 hp;obtain ⟨m,hm⟩:∃ m:Nat,a.I=m:=⟨a.I.toNat,by omega⟩;obtain ⟨y,hy⟩:∃ y:Nat,f.I=y:=⟨f.I.toNat,by omega⟩;simp only [hm,hy] at hS hp h1 h6 h7 p1 ⊢;refine xai ⟨hp,hfew⟩ (xdk (fun hf=>?_) fun _=>xdk (fun _=>rfl) fun _=>rfl);obtain ⟨hcar,hdu⟩:=xU5 hf;generalize hch:(xdf (m:Int) b.I c.L).2=ch at hcar hdu ⊢;have hF:=xEi hp hcar hdu;have hA:xke (m:Int) (y:Int) g.I:=⟨⟨by omega,by omega⟩,by omega,by omega,by omega⟩;have hR:xg7 1 d.I e.I 1440 1440 1 false 0 1 100 (-1) [[.i 0]] d.I:=⟨⟨rfl,rfl,⟨by omega,by omega⟩,by omega,by omega⟩,⟨rfl,rfl,rfl⟩,rfl,⟨rfl,rfl,rfl,rfl⟩,rfl⟩;refine xai ⟨by first | trivial | rfl,⟨⟨hS,hA,hF⟩,hR⟩,by first | trivial | rfl,by first | trivial | rfl⟩ (xai ⟨by first | trivial | rfl,⟨⟨hS,hA,hF⟩,hR⟩,⟨by first | trivial | rfl,by first | trivial | rfl,by first | trivial | rfl⟩,⟨by omega,by omega⟩,by first | trivial | rfl⟩ (xhc (fun hall=>?_) fun _=>rfl));have hall:xay (xl8 c.L (xaf (m:Int) b.I c.L ch)) 0 (m:Int).toNat=true:=hall;have hleg:xbg c.L c.L.length<=5:=by
  have:=xuj hp (j:=c.L.length - 1) (by omega);rw [show c.L.length - 1+1=c.L.length by omega] at this;omega
 have hplan:=xYc hS hR;have hyw:xl8 c.L (xaf (m:Int) b.I c.L ch) y=true:=by
  rw [xdz] at hall;exact hall y (Nat.zero_le _) (by omega)
 have hend:xb5 c.L (xaf (m:Int) b.I c.L ch) y (c.L.length - 1)+ix (c.L.getD (c.L.length - 1) []) 0<=90000:=by
  unfold xl8 at hyw;rw [xdz] at hyw;exact of_decide_eq_true (hyw (c.L.length - 1) (Nat.zero_le _) (by omega))
 have hnn:=xSh hF (k:=(y:Int)) (by omega) (show c.L.length - 1<c.L.length by omega);have htg:=(xdh (xdt hp (show c.L.length - 1<c.L.length by omega)).1).1.1;have hc0:=xI3 hF (by omega) hall (q:=y) (by omega) (xAd (w:=c.L) _ y) (by omega) (by omega);have hx:IntKind.wrap .i64 (xb5 c.L (xaf (m:Int) b.I c.L ch) y (c.L.length - 1)+ix (c.L.getD (c.L.length - 1) []) 0+g.I)=xb5 c.L (xaf (m:Int) b.I c.L ch) y (c.L.length - 1)+ix (c.L.getD (c.L.length - 1) []) 0+g.I:=xas (by omega) (by omega);have hc1:=xI3 hF (by omega) hall (q:=y) (by omega) (xRx (w:=c.L) (d:=xaf (m:Int) b.I c.L ch) (k:=y) (e:=g.I) w1 hx) (by omega) (by omega);have hil:=xew c.L c.L.length;have hhl:=xfu (w:=c.L) (xaf (m:Int) b.I c.L ch) y m;have hll:=xcp (w:=c.L) (d:=xaf (m:Int) b.I c.L ch) (kk:=y) c.L.length;have hit:(xa8 c.L c.L.length).take c.L.length=xa8 c.L c.L.length:=List.take_of_length_le (by omega);have hone:List.take (Int.toNat 1) [[D.i 0]]=[[D.i 0]]:=rfl;have hw:IntKind.wrap .i64 ((c.L.length:Int) - 1)=((c.L.length - 1:Nat):Int):=by rw [xas (by omega) (by omega)];omega
 have hrow:=xvt (w:=c.L) (d:=xaf (m:Int) b.I c.L ch) (kk:=y) (show c.L.length - 1<c.L.length by omega);have hup:∀ u v:Int,xex [D.i u,.i 0,.b false,.i 0] [D.i v] (0+0) 0 (List.length [K.int .i64,K.int .i64,K.bool,K.int .i64])=[.i v,.i 0,.b false,.i 0]:=fun _ _=>rfl
 have hr0:∀ u:Int,(([D.i u,.i 0,.b false,.i 0]:List D).getD 0 default).I=u:=fun _=>rfl
 refine xkj (by omega) ?_;simp only [Int.toNat_natCast,hit,hone,hw,hrow,hr0,hup,hx,List.take_length];obtain ⟨a1,a2,a3⟩:=hc0;obtain ⟨b1,b2,b3⟩:=hc1;simp only [Int.toNat_natCast] at a1 a2 a3;simp only [Int.toNat_natCast,hx] at b1 b2 b3;have hml:((xbu c.L (xaf (m:Int) b.I c.L ch) y c.L.length).set (c.L.length - 1) [.i (xb5 c.L (xaf (m:Int) b.I c.L ch) y (c.L.length - 1)+ix (c.L.getD (c.L.length - 1) []) 0+g.I),.i 0,.b false,.i 0]).length=c.L.length:=by rw [List.length_set,xcp]
 have htl1:List.take c.L.length ((xbu c.L (xaf (m:Int) b.I c.L ch) y c.L.length).set (c.L.length - 1) [.i (xb5 c.L (xaf (m:Int) b.I c.L ch) y (c.L.length - 1)+ix (c.L.getD (c.L.length - 1) []) 0+g.I),.i 0,.b false,.i 0])=((xbu c.L (xaf (m:Int) b.I c.L ch) y c.L.length).set (c.L.length - 1) [.i (xb5 c.L (xaf (m:Int) b.I c.L ch) y (c.L.length - 1)+ix (c.L.getD (c.L.length - 1) []) 0+g.I),.i 0,.b false,.i 0]):=List.take_of_length_le (by rw [hml];exact Nat.le_refl _);simp only [htl1];have htc:List.take m ((xcj c.L (xaf (m:Int) b.I c.L ch) y m).set y [.i 0,.l (xax c.L (xaf (m:Int) b.I c.L ch) y c.L.length),.l ((xbu c.L (xaf (m:Int) b.I c.L ch) y c.L.length).set (c.L.length - 1) [.i (xb5 c.L (xaf (m:Int) b.I c.L ch) y (c.L.length - 1)+ix (c.L.getD (c.L.length - 1) []) 0+g.I),.i 0,.b false,.i 0])])=((xcj c.L (xaf (m:Int) b.I c.L ch) y m).set y [.i 0,.l (xax c.L (xaf (m:Int) b.I c.L ch) y c.L.length),.l ((xbu c.L (xaf (m:Int) b.I c.L ch) y c.L.length).set (c.L.length - 1) [.i (xb5 c.L (xaf (m:Int) b.I c.L ch) y (c.L.length - 1)+ix (c.L.getD (c.L.length - 1) []) 0+g.I),.i 0,.b false,.i 0])]):=List.take_of_length_le (by rw [b2];exact Nat.le_refl _);simp only [htc];generalize ((xcj c.L (xaf (m:Int) b.I c.L ch) y m).set y [.i 0,.l (xax c.L (xaf (m:Int) b.I c.L ch) y c.L.length),.l ((xbu c.L (xaf (m:Int) b.I c.L ch) y c.L.length).set (c.L.length - 1) [.i (xb5 c.L (xaf (m:Int) b.I c.L ch) y (c.L.length - 1)+ix (c.L.getD (c.L.length - 1) []) 0+g.I),.i 0,.b false,.i 0])])=cs1 at b1 b2 b3 ⊢;generalize ((xcj c.L (xaf (m:Int) b.I c.L ch) y m).set y [.i 0,.l (xax c.L (xaf (m:Int) b.I c.L ch) y c.L.length),.l (xbu c.L (xaf (m:Int) b.I c.L ch) y c.L.length)])=cs0 at a1 a2 a3 ⊢;generalize ((xbu c.L (xaf (m:Int) b.I c.L ch) y c.L.length).set (c.L.length - 1) [.i (xb5 c.L (xaf (m:Int) b.I c.L ch) y (c.L.length - 1)+ix (c.L.getD (c.L.length - 1) []) 0+g.I),.i 0,.b false,.i 0])=ml at hml ⊢;clear hend hnn hx hall hrow hF hcar hdu hyw hup hr0 hS;have hcl:cs1.length=m:=b2;obtain ⟨s1,s2,s3⟩:=xYq (l:=xa8 c.L c.L.length) (cs:=cs1) (la:=d.I) (e:=g.I) (q:=y) (by omega) (by omega) b3 (by omega) (by omega) (by omega) (by omega);have hlines:=xSl (l:=xa8 c.L c.L.length) (cs:=cs1) (la:=d.I) (by omega) (by omega);obtain ⟨n1,n2⟩:=xLy (l:=xa8 c.L c.L.length) (cs:=cs1) (la:=d.I) (by omega);have hg:=xL0 (x:=g.I) (y:=d.I) (by omega) (by omega) (by omega) (by omega);have hlate:∀ k,k<(xcj c.L (xaf (m:Int) b.I c.L ch) y m).length->xhb (xa8 c.L c.L.length) cs0 k=0:=fun k hk=>by
  rw [a3 k (by rw [a2];omega),ite_self]
 have hcost:(xbc (xa8 c.L c.L.length) cs1 d.I y != IntKind.wrap .i64 (g.I*d.I))=false:=by
  rw [s2,xas (by omega) (by omega)];exact xJf _
 refine xau (by omega) (xai hplan (xau (by omega) (xai ⟨⟨hplan,a1⟩,hlate,⟨by omega,by omega⟩,⟨by omega,by omega⟩,⟨trivial,by omega⟩,by omega,by omega⟩ ?_)));refine xau (by omega) (xau (by omega) (xIp trivial (xau (by omega) (xau (by omega) (xIp trivial (xau (by omega) (xau (by omega) (xau (by omega) (xau (by omega) ?_)))))))));refine xau (Nat.le_refl _) (xau (by omega) (xau (by omega) (xai ⟨hplan,b1,by omega,by omega⟩ (xai ⟨hplan,b1,by omega⟩ (xaq (xk0 (by omega)) (xaq hcost ?_))))));refine xai ⟨⟨by omega,trivial⟩,hlines.1,⟨by omega,by omega⟩,rfl,s3⟩ (xcx (by rw [s1];exact beq_self_eq_true _) ?_);exact xau (Nat.le_refl _) (xau (Nat.le_refl _) (xai ⟨hplan,b1,hlines⟩ rfl))
theorem xy1:xmg:=fun xs hx=>
 xIc hC (sp:=sp3) (lp:=lp3) (sw:=sw3) (n:=12) xCv xwp (by kernel_rfl) [9,16,32,46] (by kernel_rfl) (by kernel_rfl) (fun k hk L hL=>by
  simp at hk;rcases hk with rfl | rfl | rfl | rfl <;> cases hL
  ·exact yf2
  ·exact yb6 yb5
  ·exact yb4
  ·exact yb3)
  (ts:=[24,3,3,3,3]) (ks:=s3.args) (by kernel_rfl) (of_decide_eq_true (by kernel_rfl)) (m:=7) (by kernel_rfl) (fun ds hl _=>by
   match ds,hl with
   | [a,b,c,d,e,f,g],_=>exact yg6 a b c d e f g) 12 xs hx
theorem top_punctual:Rows.TopPunctualSaid:=xxj xy1
end Go.Proofs.YtgoedfonmocafaaGreat
