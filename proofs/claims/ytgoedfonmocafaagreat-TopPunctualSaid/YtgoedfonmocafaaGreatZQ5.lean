/-
 What the claim top_punctual rests on,part 5.
-/
import Derived.Test.YtgoedfonmocafaaGreatZQ4
noncomputable section
namespace Go.Lite
theorem xKq {a:AV} (h:xAx a=true):xby a:=by
 cases a <;> first | (simp [xAx] at h;done) | exact xcq fun _=>rfl
theorem xkk:∀ {vs:List AV},xfa vs=true->∀ v∈vs,xby v
 | v :: vs,h,u,hu=>by
   simp only [xfa,Bool.and_eq_true] at h;rcases List.mem_cons.1 hu with rfl | hu
   ·exact xKq h.1
   ·exact xkk h.2 u hu
theorem xYd {c:SV} {v:AV} (hc:okS c=true) (h:VR c v):okV v=true:=by
 cases c <;> simp only [okS,Bool.false_eq_true] at hc <;> simp only [VR] at h
 case eptr=>obtain ⟨_,_,rfl,_⟩:=h;rfl
 case ro=>rcases h with ⟨rfl,_⟩ | ⟨_,_,_,rfl,_⟩ <;> rfl
 case emp=>rcases h with rfl | rfl <;> rfl
 case sl=>obtain ⟨_,rfl⟩:=h;rfl
 case sub=>obtain ⟨_,rfl⟩:=h;rfl
 case fn=>obtain ⟨_,_,rfl,_⟩:=h;rfl
 case ifc=>obtain ⟨_,rfl,_⟩:=h;rfl
 case opt=>rcases h with ⟨_,rfl⟩ | ⟨_,_,_,_,_,rfl,_⟩ <;> rfl
 case alt=>obtain ⟨_,_,rfl⟩:=xjv h;rfl
 all_goals (subst h;rfl)
theorem xoy:∀ {cs:List SV} {vs:List AV},xt6 cs=true->VRL cs vs->okL vs=true
 | [],_,_,h=>by simp only [VRL] at h;subst h;rfl
 | c :: cs,_,hc,h=>by
   simp only [xt6,Bool.and_eq_true] at hc;simp only [VRL] at h;obtain ⟨v,vs',rfl,h1,h2⟩:=h;simp only [okL,xYd hc.1 h1,xoy hc.2 h2,Bool.and_self]
theorem xW5 {k:K} {v:SV} {d:D} (h:xBt k v=some d):okS v=true:=by
 unfold xBt at h;split at h <;> first | rfl | cases h
theorem xW4 {k:K} {v:SV} {d:D} (h:xBs k v=some d):okS v=true:=by
 unfold xBs at h;split at h
 ·rfl
 ·exact xW5 h
theorem xZe {k:K} {v:SV} {d:D} (h:toD k v=some d):okS v=true:=by
 unfold toD at h;split at h
 ·rfl
 ·exact xW4 h
theorem xK4:∀ {ks:List K} {vs:List SV} {ds:List D},xf5 ks vs=some ds->xt6 vs=true
 | [],[],_,_=>rfl
 | k :: ks,v::vs,ds,h=>by
   simp only [xf5] at h;split at h
   ·rename_i h1 h2;simp only [xt6,xZe h1,xK4 h2,Bool.and_self]
   ·cases h
 | [],_::_,_,h=>by simp [xf5] at h
 | _::_,[],_,h=>by simp [xf5] at h
theorem xLo {s:Nat}:∀ {es:List (List AV)},(∀ e∈es,e.length=s)->xse s es=true
 | [],_=>rfl
 | e :: es,h=>by
   simp only [xse];rw [decide_eq_true (h e List.mem_cons_self),xLo fun x hx=>h x (List.mem_cons_of_mem _ hx)];rfl
theorem xEk:∀ {es:List (List AV)},xsp es=true->∀ e∈es,xfa e=true
 | e :: es,h,x,hx=>by
   simp only [xsp,Bool.and_eq_true] at h;rcases List.mem_cons.1 hx with rfl | hx
   ·exact h.1
   ·exact xEk h.2 x hx
structure RR {S:Type} (r:RS) (r':Res S):Prop where
 v : VR r.v r'.v
 ups:UR r.ups r'.ups
 len:r.news.length=r'.news.length
 news:∀ (i:Nat) b B,r.news[i]?=some b->r'.news[i]?=some B->OR b B
theorem RR.plain {S:Type} {v:SV} {a:AV} {s:S} (h:VR v a):RR ⟨v,[],[]⟩ (⟨a,[],[],s⟩:Res S):=⟨h,by simp only [UR],rfl,fun i b B h=>by simp at h⟩
theorem RR.one {S:Type} {v:SV} {a:AV} {s:S} {b:SB} {B:Blk} {us:List (Nat×Option SB)} {us':List (Nat×Option Blk)} (h:VR v a) (hu:UR us us') (hb:xa3 b B):RR ⟨v,us,[some b]⟩ (⟨a,us',[some B],s⟩:Res S):=
 ⟨h, hu,rfl,fun i b' B' h1 h2=>by
  cases i with
  | zero=>simp at h1 h2;subst h1;subst h2;exact hb
  | succ i=>simp at h1⟩
theorem RR.upd {S:Type} {v:SV} {a:AV} {s:S} {i:Nat} {b:SB} {B:Blk} (h:VR v a) (hb:xa3 b B):RR ⟨v,[(i,some b)],[]⟩ (⟨a,[(i,some B)],[],s⟩:Res S):=
 ⟨h,by simp only [UR];exact ⟨_,_,rfl,rfl,hb,rfl⟩,rfl,fun i b B h=>by simp at h⟩
def YOK (Y:YS):Prop:=∀ cargs ch d,Y.fit cargs ch=some d->∀ ya yh,VRL cargs ya->HR ch yh->VRL (Y.head d).1 ya/\HR (Y.head d).2 yh
def xfk (Y:Option YS) (q:Nat) {S:Type} (H:Option (Hd S)) (P:Nat->S->Prop) (L:List (List D)):Prop:=∀ j d,L[j]?=some d->∀ Y0,Y=some Y0->∃ Hf,H=some Hf/\∀ s,P j s->∀ ya yh,VRL (Y0.head d).1 ya->HR (Y0.head d).2 yh ->
 ∃ nh s',Hf ya yh s=some (.bool (!(j == q)),nh,s')/\P (j+1) s'/\(Y0.give=true->HR (Y0.head d).2 nh)/\(Y0.give=false->∀ i,xag nh i=none)
def ygd (C:Cfg) (n:Nat) (Y:Option YS) (q:Nat) (f:FuncId) (F:List SV->xav->List (List D)->T ((SV×xav)×List (List D))):Prop:=∀ args h lg r nw,(F args h lg).run=some (r,nw)->∀ avs h0,VRL args avs->HR h h0 ->
 ∀ (S:Type) (H:Option (Hd S)) (P:Nat->S->Prop) (L:List (List D)),xfk Y q H P L->lg++nw <+: L->∀ s,P lg.length s->∃ v' h' s',xbv C n S H f avs h0 s=some (v',h',s')/\P (lg++nw).length s'/\VR r.1 v'/\HR r.2 h'
def xk4 (C:Cfg) (tab:Tab) (n:Nat):Prop:=(∀ f F,tab.sp f=some F->∀ args v hb,(F args).run=some (v,hb)->∀ avs,VRL args avs ->
 ∃ v' h',xbv C n Unit none f avs [] ()=some (v',h',())/\VR v v'/\HR hb h') /\
 ((∀ f F,tab.spw f=some F->∀ args h v hb,(F args h).run=some (v,hb)->∀ avs h0,VRL args avs->HR h h0->∀ (S:Type) (H:Option (Hd S)) (s:S),
   ∃ v' h',xbv C n S H f avs h0 s=some (v',h',s)/\VR v v'/\HR hb h')/\∀ f F,tab.spy f=some F->ygd C n tab.y tab.q f F)/\∀ Y,tab.y=some Y->YOK Y
theorem OR.map {b:Option SB} {B:Option Blk} (h:OR b B) (ρ:Nat->Option Nat) {kb ky:Bool}:OR (b.map (xft kb ky ρ)) (B.map (mvB kb ky ρ)):=by
 cases b with
 | none=>rw [xws h];trivial
 | some b=>
   obtain ⟨B',rfl,hr⟩:=xbm h;exact xLl kb ky _ hr
theorem xn6 {ls:Nat->Option SB} {l:Nat->Option Blk} (hl:∀ i,OR (ls i) (l i)) (flags:List Bool) {args:List SV} {as:List AV} (hv:VRL args as) (hn:∀ c∈xoh ls flags args,c=true) :
    (xen l flags as).1=(xd3 ls flags args).1/\VRL (xd3 ls flags args).2.1 (xen l flags as).2.1/\HR (xd3 ls flags args).2.2 (xen l flags as).2.2:=by
 have hlen:=xa4 hv;have hids:∀ (fl:List Bool) {args:List SV} {as:List AV},VRL args as->((as.zip fl).flatMap fun p=>if p.2 then ids xak p.1 else [])=(args.zip fl).flatMap fun p=>if p.2 then xd2 xak p.1 else []:=by
  intro fl;induction fl with
  | nil=>intro args as _;simp
  | cons b fl ih=>
    intro args as h;cases args with
    | nil=>simp only [VRL] at h;subst h;rfl
    | cons c cs=>
      simp only [VRL] at h;obtain ⟨v,vs,rfl,h1,h2⟩:=h;simp only [List.zip_cons_cons,List.flatMap_cons,ih h2,xne xak c v h1]
 have hms:(xen l flags as).1=(xd3 ls flags args).1:=by
  simp only [xen,xd3,hlen,hids _ hv];exact xid hl _ _ _
 refine ⟨hms,?_,?_⟩
 ·simp only [xoh] at hn;simp only [xen,xd3] at hms ⊢;rw [hms,<- hlen];clear hms;generalize xg9 ls wide _ []=ms at hn ⊢;generalize flags++List.replicate args.length false=fl at hn ⊢;clear hlen;induction fl generalizing args as with
  | nil=>simp [VRL]
  | cons b fl ih=>
    cases args with
    | nil=>simp only [VRL] at hv;subst hv;exact xbt
    | cons c cs=>
      simp only [VRL] at hv;obtain ⟨v,vs,rfl,h1,h2⟩:=hv;simp only [List.zip_cons_cons,List.flatMap_cons,List.mem_append,List.map_cons] at hn ⊢;refine xa1 ?_ (ih h2 fun d hd=>hn d (.inr hd));cases b with
      | true=>exact xe1 true true _ xak c v h1
      | false=>
        simp only [Bool.false_eq_true,if_false];refine xAu (fun i=>?_) xak c v h1 fun d hd=>hn d (.inl (by simpa using hd))
        split
        ·trivial
        ·exact hl i
 ·simp only [xen,xd3] at hms ⊢;rw [hms];refine ⟨by simp,fun i=>?_⟩;simp only [xbz,xag,List.getElem?_map];cases (xg9 ls wide _ [])[i]? with
  | none=>trivial
  | some m=>exact (hl m).map _
theorem xgo (ms:List Nat) (at_:Nat) {nh:xav} {h:xap} (hh:HR nh h):UR (xc8 ms at_ nh).1 (xba ms at_ h).1/\(xc8 ms at_ nh).2.length=(xba ms at_ h).2.length /\
    ∀ (i:Nat) b B,(xc8 ms at_ nh).2[i]?=some b->(xba ms at_ h).2[i]?=some B->OR b B:=by
 refine ⟨?_,by simp [xc8,xba,hh.1],fun i b B h1 h2=>?_⟩
 ·simp only [xc8,xba];generalize ms.zip (List.range ms.length)=l;generalize back ms at_=ρ;induction l with
  | nil=>simp only [List.map_nil,UR]
  | cons p l ih=>
    simp only [List.map_cons,UR];exact ⟨_,_,rfl,rfl,(hh.2 p.2).map _,ih⟩
 ·simp only [xc8,xba,List.getElem?_map,List.getElem?_drop] at h1 h2;have:=hh.2 (ms.length+i);simp only [xbz,xag] at this;cases e1:nh[ms.length+i]? with
  | none=>rw [e1] at h1;cases h1
  | some o1=>
    cases e2:h[ms.length+i]? with
    | none=>rw [e2] at h2;cases h2
    | some o2=>
      rw [e1] at h1;rw [e2] at h2;rw [e1,e2] at this;simp only [Option.map_some,Option.some.injEq] at h1 h2;subst h1;subst h2;exact this.map _
theorem xph {ls:Nat->Option SB} {l:Nat->Option Blk} (hl:∀ i,OR (ls i) (l i)) {ks:List K} {x:SV} {a:AV} {xs:List (List D)} (h:(xnl ls ks x).run=some xs) (hx:VR x a):∃ es fx,xgs l ks.length a=some (es,fx)/\xej ks xs es:=by
 unfold xnl at h;split at h
 ·cases h;simp only [VR] at hx;subst hx;exact ⟨[],true,rfl,xk7⟩
 ·split at h
  ·rename_i hs;cases h;simp only [VR] at hx;subst hs;rcases hx with rfl | rfl
   ·exact ⟨[],true,rfl,xk7⟩
   ·exact ⟨[],_,by simp only [xgs,if_true] <;> rfl,xk7⟩
  ·cases h
 ·rename_i c0 ks' l';split at h
  ·rename_i hk;cases h;have:=xee _ _ hk;subst this;simp only [VR] at hx;rcases hx with ⟨rfl,rfl⟩ | ⟨kd,c0',es,rfl,_,he⟩
   ·exact ⟨[],true,rfl,xk7⟩
   ·exact ⟨es,_,by simp only [xgs,if_true] <;> rfl,he⟩
  ·cases h
 ·rename_i i s n;split at h
  ·rename_i ks' l' hi;split at h
   ·rename_i hk;obtain ⟨hk,rfl⟩:=hk;have:=xee _ _ hk;subst this;simp only [T.run] at h;split at h
    ·rename_i hn;cases h;simp only [decide_eq_true_eq] at hn;simp only [VR] at hx;obtain ⟨cap,rfl⟩:=hx;have:=hl i;rw [hi] at this;obtain ⟨B,hB,hr⟩:=xbm this;obtain ⟨s',es,fl,rfl⟩:=xce hr;simp only [xa3] at hr;obtain ⟨rfl,he⟩:=hr;refine ⟨_,_,by simp only [xgs,hB];rw [if_pos ⟨by trivial,by trivial,by have:=he.1;omega⟩],by simpa using xep n he⟩
    ·cases h
   ·cases h
  ·cases h
 ·rename_i i s lo n;split at h
  ·rename_i ks' l' hi;split at h
   ·rename_i hk;obtain ⟨hk,rfl⟩:=hk;have:=xee _ _ hk;subst this;simp only [T.run] at h;split at h
    ·rename_i hn;cases h;simp only [decide_eq_true_eq] at hn;simp only [VR] at hx;obtain ⟨cap,rfl⟩:=hx;have:=hl i;rw [hi] at this;obtain ⟨B,hB,hr⟩:=xbm this;obtain ⟨s',es,fl,rfl⟩:=xce hr;simp only [xa3] at hr;obtain ⟨rfl,he⟩:=hr;refine ⟨_,_,by simp only [xgs,hB];rw [if_pos ⟨by trivial,by trivial,by have:=he.1;omega⟩],xep n (xno lo he)⟩
    ·cases h
   ·cases h
  ·cases h
 ·cases h
theorem xKc {ks:List K} {l:List (List D)} {es:List (List AV)} (h:xej ks l es):es.isEmpty=l.isEmpty:=by
 have:=h.1;cases es <;> cases l <;> first | rfl | (simp at this)
theorem xEz {ks:List K} {l:List (List D)} {es:List (List AV)} (h:xej ks l es) {i:Nat} (hi:i<l.length):∃ e,es[i]?=some e/\xaz ks (l.getD i []) 0 e:=by
 have hl:=h.1;have hi':i<es.length:=by omega
 refine ⟨es[i],List.getElem?_eq_getElem hi',h.2 i _ _ (List.getElem?_eq_getElem hi') ?_⟩;rw [List.getD_eq_getElem?_getD,List.getElem?_eq_getElem hi];rfl
theorem xV3 {ks:List K} {l:List (List D)} {es:List (List AV)} (h:xej ks l es) (i:Nat) {c:List D} {e:List AV} (hc:xaz ks c 0 e):xej ks (l.set i c) (es.set i e):=by
 refine ⟨by simp [h.1],fun j e' c' he hc'=>?_⟩;rw [List.getElem?_set] at he hc';split at he
 ·rename_i hij;rw [if_pos hij] at hc';split at he
  ·rename_i hlt;rw [if_pos (by rw [<- h.1];exact hlt)] at hc';cases he;cases hc';exact hc
  ·cases he
 ·rename_i hij;rw [if_neg hij] at hc';exact h.2 j e' c' he hc'
theorem xyx:∀ {ks:List K} {c:List D} {j q:Nat} {vs:List AV} {k:K},xaz ks c j vs->ks[q]?=some k->∃ v,vs[q]?=some v/\xb3 k (c.getD (j+q) default) v
 | k :: ks,c,j,q,vs,k',h,hk=>by
   simp only [xaz] at h;obtain ⟨v,vs',rfl,h1,h2⟩:=h;cases q with
   | zero=>simp at hk;subst hk;exact ⟨v,rfl,h1⟩
   | succ q=>
     simp at hk;obtain ⟨v',h3,h4⟩:=xyx h2 hk;exact ⟨v',by simpa using h3,by rw [show j+(q+1)=j+1+q by omega];exact h4⟩
 | [],_,_,_,_,_,_,hk=>by simp at hk
theorem xMf:∀ {ks:List K} {c:List D} {j:Nat} {vs:List AV},vs.length=ks.length->(∀ (q:Nat) k v,ks[q]?=some k->vs[q]?=some v->xb3 k (c.getD (j+q) default) v)->xaz ks c j vs
 | [],c,j,vs,hl,_=>by simp only [xaz];exact List.length_eq_zero_iff.1 hl
 | k :: ks,c,j,v::vs,hl,h=>by
   simp only [xaz];refine ⟨v,vs,rfl,by simpa using h 0 k v rfl rfl,xMf (by simpa using hl) fun q k' v' h1 h2=>?_⟩;have:=h (q+1) k' v' (by simpa using h1) (by simpa using h2);rw [show j+1+q=j+(q+1) by omega];exact this
 | k::ks,c,j,[],hl,_=>by simp at hl
theorem xGj (c ds:List D) (j:Nat):∀ (n q i:Nat),i<n->(xex c ds j q n)[i]?=some (if j<=q+i/\q+i<j+ds.length then ds.getD (q+i - j) default else c.getD (q+i) default)
 | n + 1,q,i,hi=>by
   cases i with
   | zero=>simp [xex]
   | succ i=>
     simp only [xex,List.getElem?_cons_succ];rw [xGj c ds j n (q+1) i (by omega)];rw [show q+1+i=q+(i+1) by omega]
theorem xV4 {ks:List K} {c ds:List D} {j:Nat} {e:List AV} {vs:List SV} {as:List AV} (h:xaz ks c 0 e) (hd:xf5 ((ks.drop j).take vs.length) vs=some ds) (hv:VRL vs as) (hj:j+vs.length<=ks.length) :
    xaz ks (xex c ds j 0 ks.length) 0 (e.take j++as++e.drop (j+as.length)):=by
 have hel:=xhp h;have hal:=xa4 hv;obtain ⟨hdl,_⟩:=xm0 hd;have hdl':ds.length=vs.length:=by rw [hdl];simp;omega
 have henc:=xgj (c:=ds) (j:=0) hd hv (fun i d h=>by simpa using h);refine xMf (by simp;omega) fun q k v hk hq=>?_
 have hqk:q<ks.length:=(List.getElem?_eq_some_iff.1 hk).1;have hu:=xGj c ds j ks.length 0 q hqk;simp only [Nat.zero_add] at hu ⊢;rw [List.getD_eq_getElem?_getD,hu];simp only [Option.getD_some];by_cases hc:j<=q/\q<j+ds.length
 ·rw [if_pos hc];have:(e.take j++as++e.drop (j+as.length))[q]?=as[q - j]?:=by
   rw [List.getElem?_append_left (by simp;omega),List.getElem?_append_right (by simp;omega)];congr 1;simp;omega
  rw [this] at hq;have hk':((ks.drop j).take vs.length)[q - j]?=some k:=by
   rw [List.getElem?_take,if_pos (by omega),List.getElem?_drop,show j+(q - j)=q by omega];exact hk
  obtain ⟨v',h1,h2⟩:=xyx henc hk';rw [hq] at h1;cases h1;simpa using h2
 ·rw [if_neg hc];obtain ⟨v',h1,h2⟩:=xyx h hk;have:(e.take j++as++e.drop (j+as.length))[q]?=e[q]?:=by
   by_cases hlt:q<j
   ·rw [List.getElem?_append_left (by simp;omega),List.getElem?_append_left (by simp;omega),List.getElem?_take,if_pos hlt]
   ·rw [List.getElem?_append_right (by simp;omega),List.getElem?_drop];congr 1;simp;omega
  rw [this,h1] at hq;cases hq;simpa using h2
theorem xz9 {ls:Nat->Option SB} {l:Nat->Option Blk} (hl:∀ i,OR (ls i) (l i)) {i s k j:Nat} {agg:Bool} {n:Nat} {v:SV} (h:(xAa ls i s k j agg n).run=some v):∃ u,xpt l i s k j agg n=some u/\VR v u:=by
 unfold xAa at h;unfold xpt;have hli:=xJt (hl i);split at h
 ·rename_i cs hi;rw [hi] at hli;obtain ⟨B,hB,hr⟩:=xbm hli;obtain ⟨s',es,fl,rfl⟩:=xce hr;simp only [xa3] at hr;obtain ⟨vs,rfl,rfl,hv,-⟩:=hr;split at h
  case isFalse=>cases h
  rename_i hc;obtain ⟨rfl,rfl⟩:=hc;simp only [hB,if_true,List.getElem?_cons_zero];split at h
  ·rename_i hag;rw [if_pos hag];split at h
   ·rename_i hle;cases h;rw [if_pos (by rw [<- xa4 hv];exact hle)];exact ⟨_,rfl,by simp only [VR];exact ⟨_,rfl,xdy _ (xcw _ hv)⟩⟩
   ·cases h
  ·rename_i hag;rw [if_neg hag];split at h
   ·rename_i c hc;cases h;exact xd4 hv hc
   ·cases h
 ·rename_i ks l' hi;rw [hi] at hli;obtain ⟨B,hB,hr⟩:=xbm hli;obtain ⟨s',es,fl,rfl⟩:=xce hr;simp only [xa3] at hr;obtain ⟨rfl,he⟩:=hr;split at h
  case isFalse=>cases h
  rename_i hc;subst hc;simp only [T.run] at h;split at h
  case isFalse=>cases h
  rename_i hk;simp only [decide_eq_true_eq] at hk;obtain ⟨e,hge,hec⟩:=xEz he hk;have hv:=xiq hec;simp only [hB,if_true,hge];split at h
  ·rename_i hag;rw [if_pos hag];split at h
   ·rename_i hle;cases h;rw [if_pos (by rw [xhp hec];exact hle)];exact ⟨_,rfl,by simp only [VR];exact ⟨_,rfl,xdy _ (xcw _ hv)⟩⟩
   ·cases h
  ·rename_i hag;rw [if_neg hag];split at h
   ·rename_i c hc;cases h;exact xd4 hv hc
   ·cases h
 ·rename_i ks l' q cs hi;rw [hi] at hli;obtain ⟨B,hB,hr⟩:=xbm hli;obtain ⟨s',es,fl,rfl⟩:=xce hr;have hr:HoleR true ks l' q cs s' es fl:=hr;obtain ⟨rfl,he⟩:=hr.enc rfl;split at h
  case isFalse=>cases h
  rename_i hc;subst hc;simp only [T.run] at h;split at h
  case isFalse=>cases h
  rename_i hk;simp only [decide_eq_true_eq] at hk;have hke:k<es.length:=by rw [hr.len];exact hk
  simp only [hB,if_true,List.getElem?_eq_getElem hke];split at h
  ·rename_i hkq;simp only [decide_eq_true_eq] at hkq;have hv:=hr.own _ (by rw [<- hkq];exact List.getElem?_eq_getElem hke);split at h
   ·rename_i hag;rw [if_pos hag];split at h
    ·rename_i hle;cases h;rw [if_pos (by rw [<- xa4 hv];exact hle)];exact ⟨_,rfl,by simp only [VR];exact ⟨_,rfl,xdy _ (xcw _ hv)⟩⟩
    ·cases h
   ·rename_i hag;rw [if_neg hag];split at h
    ·rename_i c hc;cases h;exact xd4 hv hc
    ·cases h
  ·rename_i hkq;simp only [decide_eq_true_eq] at hkq;have hg:l'.getD k []=l'[k]:=by rw [List.getD_eq_getElem?_getD,List.getElem?_eq_getElem hk];rfl
   rw [hg] at h;have hec:=he k _ _ hkq (List.getElem?_eq_getElem hke) (List.getElem?_eq_getElem hk);have hv:=xiq hec;split at h
   ·rename_i hag;rw [if_pos hag];split at h
    ·rename_i hle;cases h;rw [if_pos (by rw [xhp hec];exact hle)];exact ⟨_,rfl,by simp only [VR];exact ⟨_,rfl,xdy _ (xcw _ hv)⟩⟩
    ·cases h
   ·rename_i hag;rw [if_neg hag];split at h
    ·rename_i c hc;cases h;exact xd4 hv hc
    ·cases h
 ·rename_i s' es hi;rw [hi] at hli;obtain ⟨B,hB,hr⟩:=xbm hli;obtain ⟨s2,es2,fl,rfl⟩:=xce hr;simp only [xa3] at hr;obtain ⟨rfl,hv,hlen,-⟩:=hr;split at h
  case isFalse=>cases h
  rename_i hs;subst hs;obtain ⟨p,-,hp,hkp,h⟩:=xps _ _ h;obtain rfl:k=p:=by omega
  simp only [hB,if_true];split at h
  case h_2=>cases h
  rename_i cs hcs;have hk:k<es2.length:=by rw [<- hv.1];omega
  have hvv:=hv.2 k cs _ hcs (List.getElem?_eq_getElem hk);rw [List.getElem?_eq_getElem hk];split at h
  ·rename_i hag;simp only [if_pos hag];split at h
   ·rename_i hle;cases h;rw [if_pos (by rw [<- xa4 hvv];exact hle)];exact ⟨_,rfl,by simp only [VR];exact ⟨_,rfl,xdy _ (xcw _ hvv)⟩⟩
   ·cases h
  ·rename_i hag;simp only [if_neg hag];split at h
   ·rename_i c hc;cases h;exact xd4 hvv hc
   ·cases h
 ·cases h
theorem HoleR.append {ks:List K} {l xs:List (List D)} {q n s:Nat} {cs:List SV} {es0 es:List (List AV)} {fl fx:Bool} (h:HoleR true ks l q cs s es0 fl) (hq:q<n) (hn:n<=l.length) (he:xej ks xs es):HoleR true ks (l.take n++xs) q cs s (es0.take n++es) (fl && fx):=by
 have hl:=h.len;have hx:=he.1;have ht:(es0.take n).length=n:=by simp;omega
 have hu:(l.take n).length=n:=by simp;omega
 refine ⟨by simp;omega,by simp;omega,fun _=>⟨(h.enc rfl).1,fun i e c hi h1 h2=>?_⟩,fun i e hi h1=>?_,fun e h1=>?_,fun hf e h1=>?_⟩
 ·rw [List.getElem?_append,ht] at h1;rw [List.getElem?_append,hu] at h2;split at h1
  ·rename_i hlt;rw [if_pos hlt,List.getElem?_take,if_pos hlt] at h2;rw [List.getElem?_take,if_pos hlt] at h1;exact (h.enc rfl).2 i e c hi h1 h2
  ·rename_i hlt;rw [if_neg hlt] at h2;exact he.2 _ e c h1 h2
 ·rw [List.getElem?_append,ht] at h1;split at h1
  ·rename_i hlt;rw [List.getElem?_take,if_pos hlt] at h1;exact h.no i e hi h1
  ·exact xj7 he e (List.mem_of_getElem? h1)
 ·rw [List.getElem?_append,ht,if_pos hq,List.getElem?_take,if_pos hq] at h1;exact h.own e h1
 ·simp only [Bool.and_eq_true] at hf;rcases List.mem_append.1 h1 with h1 | h1
  ·exact h.flat hf.1 e (List.mem_of_mem_take h1)
  ·exact xj7 he e h1
theorem HoleR.new {ks:List K} {l:List (List D)} {n:Nat} {cs:List SV} {es0:List (List AV)} {e:List AV} {fl:Bool} (he:xej ks l es0) (hn:n<=l.length) (hv:VRL cs e) (hf:fl=true->∀ v∈e,xby v):HoleR true ks (l.take n++[[]]) n cs ks.length (es0.take n++[e]) fl:=by
 have hl:=he.1;have ht:(es0.take n).length=n:=by simp;omega
 have hu:(l.take n).length=n:=by simp;omega
 have hlast:∀ {i:Nat} {x:List AV},i≠n->(es0.take n++[e])[i]?=some x->i<n/\es0[i]?=some x:=fun {i x} hi h=>by
  rw [List.getElem?_append,ht] at h;split at h
  ·rename_i hlt;rw [List.getElem?_take,if_pos hlt] at h;exact ⟨hlt,h⟩
  ·rename_i hlt;obtain ⟨k,hk⟩:∃ k,i - n=k+1:=⟨i - n - 1,by omega⟩;rw [hk] at h;simp at h
 refine ⟨by simp;omega,by simp;omega,fun _=>⟨rfl,fun i x c hi h1 h2=>?_⟩,fun i x hi h1=>?_,fun x h1=>?_,fun hf' x h1=>?_⟩
 ·obtain ⟨hlt,h1⟩:=hlast hi h1;rw [List.getElem?_append,hu,if_pos hlt,List.getElem?_take,if_pos hlt] at h2;exact he.2 i x c h1 h2
 ·exact xj7 he x (List.mem_of_getElem? (hlast hi h1).2)
 ·rw [List.getElem?_append,ht,if_neg (Nat.lt_irrefl n),Nat.sub_self] at h1;simp only [List.getElem?_cons_zero,Option.some.injEq] at h1;subst h1;exact hv
 ·rcases List.mem_append.1 h1 with h1 | h1
  ·exact xj7 he x (List.mem_of_mem_take h1)
  ·rw [List.mem_singleton] at h1;subst h1;exact hf hf'
theorem xVp {C:Cfg} {call:xb6} {S:Type} {H:Option (Hd S)} {at_:Nat} {ls:Nat->Option SB} {l:Nat->Option Blk} (hl:∀ i,OR (ls i) (l i)) {a x:SV} {a' x':AV} {cs:List SV} {by_:Nat} {ks:List K} {r:RS} (s:S)
    (hone:xT4 ls ks.length x=some cs) (h:(xVq at_ ls a cs ks.length by_ ks).run=some r) (ha:VR a a') (hx:VR x x'):∃ r',act C call H at_ l s (.append a' x' ks.length by_)=some r'/\r'.s=s/\RR r r':=by
 unfold xT4 at hone;split at hone
 case h_2=>cases hone
 rename_i i s' m;split at hone
 case h_2=>cases hone
 rename_i s'' cs' hi;split at hone
 case isFalse=>cases hone
 rename_i hc;cases hone;obtain ⟨rfl,rfl,rfl⟩:=hc;simp only [VR] at hx;obtain ⟨cap,rfl⟩:=hx;have hli:=hl i;rw [hi] at hli;obtain ⟨B,hB,hr⟩:=xbm hli;obtain ⟨s2,es2,fx,rfl⟩:=xce hr;simp only [xa3] at hr;obtain ⟨rfl,hv,hlen,hno⟩:=hr;obtain ⟨e,rfl⟩:∃ e,es2=[e]:=by
  have:=hv.1
  match es2,this with
  | [e],_=>exact ⟨e,rfl⟩
 have hve:VRL cs e:=hv.2 0 _ _ rfl rfl;have hfe:fx=true->∀ v∈e,xby v:=fun h=>hno h e List.mem_cons_self
 have hct:xgs l ks.length (.sl i ks.length 0 1 cap)=some ([e],fx):=by
  simp only [xgs,hB];rw [if_pos ⟨by trivial,by trivial,by simp⟩];rfl
 unfold xVq at h;split at h
 case isFalse=>cases h
 rename_i hs;simp only [act,hct,List.isEmpty_cons,Bool.false_eq_true,if_false,List.length_singleton];split at h
 ·simp only [VR] at ha;subst ha;simp only [T.run] at h;split at h
  case isFalse=>cases h
  rename_i hb;cases h;simp only [decide_eq_true_eq] at hb;simp only;rw [if_pos ⟨hb.1,hb.2,hs.1⟩];exact ⟨_,rfl,rfl,RR.one (by simp only [VR];exact ⟨_,rfl⟩) (by simp only [UR]) (HoleR.new (n:=0) (es0:=[]) xk7 (Nat.le_refl _) hve hfe)⟩
 ·rename_i i2 s3 n';simp only [VR] at ha;obtain ⟨cap2,rfl⟩:=ha;split at h
  case h_2=>cases h
  rename_i ks' l' hi2;split at h
  case isFalse=>cases h
  rename_i hk;obtain ⟨hk,rfl⟩:=hk;have:=xee _ _ hk;subst this;simp only [T.run] at h;split at h
  case isFalse=>cases h
  rename_i hb;cases h;simp only [decide_eq_true_eq] at hb;have hli:=hl i2;rw [hi2] at hli;obtain ⟨B2,hB2,hr2⟩:=xbm hli;obtain ⟨s4,es0,fl,rfl⟩:=xce hr2;simp only [xa3] at hr2;obtain ⟨rfl,he0⟩:=hr2;have hl0:=he0.1;simp only [hB2];rw [if_pos ⟨by trivial,by trivial,by trivial,by omega,hb.2.1,hb.2.2,hs.1⟩];exact ⟨_,rfl,rfl,RR.one (by simp only [VR];exact ⟨none,rfl⟩) (by simp only [UR];exact ⟨_,_,rfl,rfl,by simp only [OR],rfl⟩) (HoleR.new he0 hb.1 hve fun h=>hfe (by simp only [Bool.and_eq_true] at h;exact h.2))⟩
 ·cases h
theorem xrv {v:SV} {a:AV} (h:VR v a):VR (xvn v) (strike a):=xe1 false true some xak v a h
theorem xqh {sh:xav} {h:xap} (hh:HR sh h):HR (xks sh) (xed h):=by
 unfold xks xed;refine ⟨by simp [hh.1],fun i=>?_⟩;have:=hh.2 i;simp only [xbz,xag,List.getElem?_map] at this ⊢;cases e1:sh[i]? with
 | none=>
   cases e2:h[i]? with
   | none=>trivial
   | some o2=>
     have h1:=(List.getElem?_eq_none_iff.1 e1);have h2:=(List.getElem?_eq_some_iff.1 e2).1;have:=hh.1;omega
 | some o1=>
   cases e2:h[i]? with
   | none=>have h1:=(List.getElem?_eq_none_iff.1 e2);have h2:=(List.getElem?_eq_some_iff.1 e1).1;have:=hh.1;omega
   | some o2=>
     rw [e1,e2] at this;simp only [Option.getD_some] at this;exact this.map some
theorem xKs {C:Cfg} {f k:Nat} {fn:Func} {σ:St} {r:AV×xap} (hz:C.frz f=true) (h:xdj C f k fn σ=some r):strike r.1=r.1:=by
 unfold xdj at h;split at h
 ·cases h
 rw [hz] at h;simp only [if_true] at h;split at h
 ·cases h
 split at h
 ·cases h;exact xzb xak _
 ·cases h
theorem xSr {C:Cfg} {n f:Nat} (hz:C.frz f=true) {S:Type} {H:Option (Hd S)} {as:List AV} {h0:xap} {s:S} {v:AV} {h1:xap} {s1:S} (h:xbv C n S H f as h0 s=some (v,h1,s1)):strike v=v:=by
 cases n with
 | zero=>simp only [xbv] at h;cases h
 | succ n=>
   have fin:∀ {k:Nat} {fn:Func} {σ:St} {s':S},(xdj C f k fn σ).map (fun r=>(r.1,r.2,s'))=some (v,h1,s1)->strike v=v:=fun h=>by
    rw [Option.map_eq_some_iff] at h;obtain ⟨r,h2,h3⟩:=h;cases h3;exact xKs hz h2
   unfold xbv at h;split at h
   ·cases h
   split at h
   ·cases h
   split at h
   ·split at h
    case h_2=>cases h
    split at h
    ·cases h
    ·split at h
     ·exact fin h
     ·cases h
    ·split at h
     ·exact fin h
     ·cases h
   ·split at h
    ·exact fin h
    ·exact fin h
    ·split at h
     ·cases h;rfl
     ·cases h
    ·cases h
theorem xBe {C:Cfg} {tab:Tab} {n:Nat} (hS:xk4 C tab n) {S:Type} {H:Option (Hd S)} {at_:Nat} {ls:Nat->Option SB} {l:Nat->Option Blk} (hl:∀ i,OR (ls i) (l i)) {f:FuncId} {args:List SV} {as:List AV} {r:RS} (s:S)
    (h:(xBf C tab at_ ls f args).run=some r) (hv:VRL args as):∃ r',xg4 C (xbv C n) H at_ l s f as=some r'/\r'.s=s/\RR r r':=by
 unfold xBf at h;split at h
 ·rename_i E hext;split at h
  ·rename_i b hb;simp only [VRL] at hv;subst hv;cases h;refine ⟨⟨.bool b,[],[],s⟩,?_,rfl,RR.plain (by simp only [VR])⟩;simp only [xg4,hext,List.map_nil,hb,Option.map_some];rfl
  ·cases h
 ·rename_i F hext hwr hsp;obtain ⟨hneed,h⟩:=T.run_needs _ _ _ h;rw [T.run_map,Option.map_eq_some_iff] at h;obtain ⟨⟨v,hb⟩,hF,rfl⟩:=h;have hargs:VRL (args.map (fzS ls xak)) (as.map (fz l xak)):=by
   clear hF hsp h;induction args generalizing as with
   | nil=>simp only [VRL] at hv;subst hv;exact xbt
   | cons c cs ih=>
     simp only [VRL] at hv;obtain ⟨u,us,rfl,h1,h2⟩:=hv;exact xa1 (xAu hl xak c u h1 fun d hd=>hneed d (by simp only [List.flatMap_cons,List.mem_append];exact .inl hd)) (ih h2 fun d hd=>hneed d (by simp only [List.flatMap_cons,List.mem_append];exact .inr hd))
  obtain ⟨v',h',hcall,hvv,hh⟩:=hS.1 f F hsp _ _ _ hF _ hargs;obtain ⟨u1,u2,u3⟩:=xgo [] at_ (xqh hh);refine ⟨⟨mv true true (back [] at_) xak (strike v'),[],(xba [] at_ (xed h')).2,s⟩,?_,rfl,?_⟩
  ·simp only [xg4,hext,hwr,hcall]
  ·refine ⟨xe1 true true (back [] at_) xak _ _ ?_,by simp only [UR],u2,u3⟩;by_cases hz:C.frz f=true
   ·simp only [hz,if_true];rw [xSr hz hcall];exact hvv
   ·simp only [if_neg hz];exact xrv hvv
 ·rename_i b bs hext hwr;split at h
  case h_2=>cases h
  rename_i F hsp;obtain ⟨hneed,h⟩:=T.run_needs _ _ _ h;obtain ⟨k1,k2,k3⟩:=xn6 hl (b::bs) hv hneed;rw [T.run_map,Option.map_eq_some_iff] at h;obtain ⟨⟨v,hb⟩,hF,rfl⟩:=h;obtain ⟨v',h',hcall,hvv,hh⟩:=hS.2.1.1 f F hsp _ _ _ _ hF _ _ k2 k3 S H s;have hall:xpi (b::bs) as=(decide (args.length<=(b::bs).length) && (b::bs).all id):=by unfold xpi;rw [xa4 hv]
  simp only [xg4,hext,hwr,hcall,hall];generalize (decide (args.length<=(b::bs).length) && (b::bs).all id)=al;cases al with
  | true=>
    obtain ⟨u1,u2,u3⟩:=xgo (xd3 ls (b::bs) args).1 at_ hh;refine ⟨_,rfl,rfl,?_⟩;rw [k1];exact ⟨xe1 true true _ xak v v' hvv,u1,u2,u3⟩
  | false=>
    obtain ⟨u1,u2,u3⟩:=xgo (xd3 ls (b::bs) args).1 at_ (xqh hh);refine ⟨_,rfl,rfl,?_⟩;rw [k1];exact ⟨xe1 true true _ xak _ _ (xrv hvv),u1,u2,u3⟩
 ·cases h
theorem xKd {ks:List K} {l xs:List (List D)} {es fs:List (List AV)} (h:xej ks l es) (hx:xej ks xs fs) (lo n:Nat) :
    xej ks (cpy l xs lo n) (es.take lo++fs.take (min fs.length n)++es.drop (lo+min fs.length n)):=by
 have hl:=hx.1;cases xs with
 | nil=>
   have:fs=[]:=by cases fs with | nil=>rfl | cons a b=>simp at hl
   subst this;simpa [cpy] using h
 | cons x xs=>
   simp only [cpy];rw [<- hl];exact xm9 (xm9 (xep _ h) (xep _ hx)) (xno _ h)
theorem xVo {k:IntKind} {n:Nat} {l:List (List D)} {tl:List SV} {p:Nat} (hp:p<n):(xgt k n l++tl)[p]?=some (.int k ((l.getD p []).getD 0 default).I):=by
 rw [List.getElem?_append_left (by rw [xe8];exact hp)];simp only [xgt,List.getElem?_map,List.getElem?_range hp,Option.map_some]
theorem xVm {k:IntKind} {n:Nat} {l:List (List D)} {tl:List SV} {p:Nat} {x:Int} (hp:p<n/\p<l.length):xgt k n (l.set p [.i x])++tl=(xgt k n l++tl).take p++[.int k x]++(xgt k n l++tl).drop (p+1):=by
 have e:xgt k n (l.set p [.i x])=(xgt k n l).set p (.int k x):=by
  refine List.ext_getElem (by simp [xgt]) fun q h1 h2=>?_
  simp only [xgt,List.getElem_map,List.getElem_range,List.getElem_set,List.getD_eq_getElem?_getD,List.getElem?_set];by_cases e:p=q
  ·subst e;simp [hp.2,D.I]
  ·simp [e]
 rw [e,<- List.set_append_left _ _ (by rw [xe8];exact hp.1),List.set_eq_take_append_cons_drop,if_pos (by rw [List.length_append,xe8];omega)];simp
theorem xJn {C:Cfg} (call:xb6) {S:Type} (H:Option (Hd S)) (at_:Nat) (l:Nat->Option Blk) (s:S) {i sz k j:Nat} {agg:Bool} {n:Nat}:(xpt l i sz k j agg n).map (fun v=>(⟨v,[],[],s⟩:Res S))=act C call H at_ l s (.load i sz k j agg n):=by
 simp only [xpt,act];split
 ·split
  ·split
   ·split
    ·split <;> rfl
    ·rename_i cs _ _;cases cs[j]? <;> rfl
   ·rfl
  ·rfl
 ·rfl
theorem xKe {ks:List K}:∀ {c c':List D} {j:Nat} {vs:List AV},(∀ i,j<=i->i<j+ks.length->c.getD i default=c'.getD i default)->xaz ks c j vs->xaz ks c' j vs:=by
 induction ks with
 | nil=>intro c c' j vs _ h;exact h
 | cons k ks ih=>
   intro c c' j vs hc h;simp only [xaz] at h ⊢;obtain ⟨v,vs',rfl,h1,h2⟩:=h;refine ⟨v,vs',rfl,?_,ih (fun i h3 h4=>hc i (by omega) (by simp only [List.length_cons];omega)) h2⟩;rw [<- hc j (Nat.le_refl _) (by simp only [List.length_cons];omega)];exact h1
theorem xye {ka:Bool} {kk:List K} {k:SV} {a:AV} {key:List D} (h:xIg ka kk k=some key) (hv:VR k a):xmd ka kk key a/\key.length=kk.length:=by
 unfold xIg at h;split at h
 ·simp only [VR] at hv;obtain ⟨vs,rfl,hv⟩:=hv;exact ⟨⟨vs,rfl,xgj h hv fun i d hd=>by simpa using hd⟩,(xm0 h).1⟩
 ·cases h
 ·exact ⟨xgj h (xa1 hv xbt) fun i d hd=>by simpa using hd,(xm0 h).1⟩
theorem xIz:∀ {kk:List K} {bs:List Bool} {c d:List D} {j:Nat} {xs ys:List AV},kk.map xOq=bs.map some->xaz kk c j xs->xaz kk d j ys->xbl bs xs ys=some (xmw kk c d j):=by
 intro kk;induction kk with
 | nil=>
   intro bs c d j xs ys hb hx hy;cases bs with
   | nil=>simp only [xaz] at hx hy;subst hx;subst hy;rfl
   | cons b bs=>simp at hb
 | cons k kk ih=>
   intro bs c d j xs ys hb hx hy;cases bs with
   | nil=>simp at hb
   | cons b bs=>
     simp only [List.map_cons,List.cons.injEq] at hb;simp only [xaz] at hx hy;obtain ⟨x,xs',rfl,hx1,hx2⟩:=hx;obtain ⟨y,ys',rfl,hy1,hy2⟩:=hy;have hr:=ih hb.2 hx2 hy2;cases k <;> simp only [xOq,Option.some.injEq,reduceCtorEq,false_and] at hb
     ·obtain ⟨rfl,-⟩:=hb;simp only [xb3] at hx1 hy1;subst hx1;subst hy1;simp only [xbl,if_true,hr,Option.map_some,xmw,eqD]
     ·obtain ⟨rfl,-⟩:=hb;simp only [xb3] at hx1 hy1;subst hx1;subst hy1;simp only [xbl,hr,Option.map_some,xmw,eqD]
theorem xsw {Y:Option Ty} {ka:Bool} {kk:List K} {c d:List D} {x y:AV} (h:xl4 Y ka kk=true) (hx:xmd ka kk c x) (hy:xmd ka kk d y):eqK Y x y=some (xmw kk c d 0):=by
 unfold xl4 at h;split at h
 ·simp only [xmd,xaz,xb3] at hx hy;obtain ⟨v,vs,e,rfl,e2⟩:=hx;obtain ⟨u,us,e',rfl,e2'⟩:=hy;cases e;cases e';simp only [eqK,if_true,xmw,eqD,Bool.and_true]
 ·simp only [xmd,xaz,xb3] at hx hy;obtain ⟨v,vs,e,rfl,e2⟩:=hx;obtain ⟨u,us,e',rfl,e2'⟩:=hy;cases e;cases e';simp only [eqK,xmw,eqD,Bool.and_true]
 ·simp only [xmd] at hx hy;obtain ⟨vs,rfl,hx⟩:=hx;obtain ⟨us,rfl,hy⟩:=hy;simp only [eqK];exact xIz (by simpa using h) hx hy
 ·cases h
theorem xp9:∀ {kk:List K} {c:List D} {j:Nat},xc5 kk=true->xmw kk c c j=true
 | [],_,_,_=>rfl
 | k :: kk,c,j,h=>by
   cases k <;> simp only [xc5,Bool.false_eq_true] at h <;> simp only [xmw,eqD,beq_self_eq_true,Bool.true_and] <;> exact xp9 h
theorem xp7 {Y:Option Ty} {ka:Bool} {kk:List K} {key:List D} {k:AV} (hY:xl4 Y ka kk=true) (hk:xmd ka kk key k):∀ {l:List (List D)} {kvs:List (AV×AV)} {i:Nat},kvs.length=l.length->(∀ (i:Nat) p c,kvs[i]?=some p->l[i]?=some c->xmd ka kk c p.1) ->
    (xi8 kk key l i=none/\xgv Y k kvs i=some none)\/∃ j p,xi8 kk key l i=some j/\i<=j/\j - i<l.length/\kvs[j - i]?=some p/\xgv Y k kvs i=some (some (j,p.2))
 | [],[],i,_,_=>.inl ⟨rfl,rfl⟩
 | c :: l,p::kvs,i,hl,h=>by
   have h1:=xsw hY hk (h 0 p c rfl rfl);simp only [xi8,xgv,h1];cases he:xmw kk key c 0 with
   | true=>exact .inr ⟨i,p,by simp,Nat.le_refl _,by simp,by simp,by simp⟩
   | false=>
     simp only [Bool.false_eq_true,if_false];rcases xp7 hY hk (l:=l) (kvs:=kvs) (i:=i+1) (by simpa using hl) (fun i p c h3 h4=>h (i+1) p c (by simpa using h3) (by simpa using h4)) with h2 | ⟨j,q,h2,h3,h4,h5,h6⟩
     ·exact .inl h2
     ·refine .inr ⟨j,q,h2,by omega,by simp only [List.length_cons];omega,?_,h6⟩;rw [show j - i=(j - (i+1))+1 by omega,List.getElem?_cons_succ];exact h5
 | [],_::_,_,hl,_=>by simp at hl
 | _::_,[],_,hl,_=>by simp at hl
theorem xX8 {ka:Bool} {kk:List K} {vk:K} {key:List D} {d:D} {k v:AV} (hl:key.length=kk.length) (hk:xmd ka kk key k) (hv:xb3 vk d v):xmd ka kk (key++[d]) k/\xb3 vk ((key++[d]).getD kk.length default) v:=by
 have hp:∀ i,0<=i->i<0+kk.length->key.getD i default=(key++[d]).getD i default:=fun i _ hi=>by
  rw [List.getD_eq_getElem?_getD,List.getD_eq_getElem?_getD,List.getElem?_append_left (by omega)]
 refine ⟨?_,?_⟩
 ·cases ka with
  | true=>
    obtain ⟨vs,rfl,hk⟩:=hk;exact ⟨vs,rfl,xKe hp hk⟩
  | false=>exact xKe (ks:=kk) (vs:=[k]) hp hk
 ·rw [List.getD_eq_getElem?_getD,List.getElem?_append_right (by omega)];simpa [hl] using hv
theorem xD5 {α:Type} {q:IntKind} {m:Int} {f:Option SV->T α} {r:α} {Y:Option Ty} (hY:xl4 Y false [.int .i64]=true):∀ {es:List (SV×SV)} {kvs:List (AV×AV)} (i:Nat),(xFm q m f es).run=some r->es.length=kvs.length->(∀ (i:Nat) e p,es[i]?=some e->kvs[i]?=some p->VR e.1 p.1/\VR e.2 p.2) ->
    (xgv Y (.int q m) kvs i=some none/\(f none).run=some r)\/∃ j p v,xgv Y (.int q m) kvs i=some (some (j,p))/\VR v p/\(f (some v)).run=some r
 | [],[],i,h,_,_=>.inl ⟨rfl,h⟩
 | (e, v)::es,p::kvs,i,h,hl,hh=>by
   obtain ⟨h1,h2⟩:=hh 0 (e,v) p rfl rfl;cases e <;> try (cases h;done)
   rename_i k' n;simp only [VR] at h1;simp only [xFm] at h;split at h
   case isFalse=>cases h
   rename_i hk;subst hk;have hY':eqK Y (.int q m) p.1=some (m == n):=by
    rw [h1];unfold xl4 at hY;split at hY
    ·simp only [eqK,if_true]
    ·rename_i h3;cases h3
    ·rename_i h3;cases h3
    ·cases hY
   simp only [xgv,hY'];simp only [T.run] at h;by_cases hm:m=n
   ·subst hm;simp only [decide_true,if_true] at h;simp only [beq_self_eq_true];exact .inr ⟨i,p.2,v,rfl,h2,h⟩
   ·rw [if_neg (by simpa using hm)] at h;rw [show (m == n)=false by simpa using hm];exact xD5 hY (i+1) h (by simpa using hl) fun i e p h3 h4=>hh (i+1) e p (by simpa using h3) (by simpa using h4)
 | [],_::_,_,_,hl,_=>by simp at hl
 | _::_,[],_,_,hl,_=>by simp at hl
theorem xHu {q:IntKind} {m:Int} {Y:Option Ty} (hY:xl4 Y false [.int .i64]=true):∀ {es:List (SV×SV)} {kvs:List (AV×AV)} (i:Nat),xN8 q m es=true->es.length=kvs.length->(∀ (i:Nat) e p,es[i]?=some e->kvs[i]?=some p->VR e.1 p.1/\VR e.2 p.2)->xgv Y (.int q m) kvs i=some none
 | [],[],i,_,_,_=>rfl
 | (e, v)::es,p::kvs,i,h,hl,hh=>by
   obtain ⟨h1,h2⟩:=hh 0 (e,v) p rfl rfl;cases e <;> try (cases h;done)
   rename_i k' n;simp only [VR] at h1;simp only [xN8,Bool.and_eq_true,decide_eq_true_eq,Bool.not_eq_true',decide_eq_false_iff_not] at h;obtain ⟨⟨hk,hm⟩,h⟩:=h;subst hk;have hY':eqK Y (.int q m) p.1=some (m == n):=by
    rw [h1];unfold xl4 at hY;split at hY
    ·simp only [eqK,if_true]
    ·rename_i h3;cases h3
    ·rename_i h3;cases h3
    ·cases hY
   simp only [xgv,hY'];rw [show (m == n)=false by simpa using hm];exact xHu hY (i+1) h (by simpa using hl) fun i e p h3 h4=>hh (i+1) e p (by simpa using h3) (by simpa using h4)
 | [],_::_,_,_,hl,_=>by simp at hl
 | _::_,[],_,_,hl,_=>by simp at hl
theorem xCn {Y:Option Ty} (hY:xl4 Y false [.int .i64]=true) (q:IntKind) (m:Int):eqK Y (.int q m) (.int q m)=some true:=by
 unfold xl4 at hY;split at hY
 ·simp only [eqK,if_true,beq_self_eq_true]
 ·rename_i h3;cases h3
 ·rename_i h3;cases h3
 ·cases hY
theorem xqj {vk:K} {kk:List K} (h:xc5 (vk::kk)=true):xc5 [vk]=true/\xc5 kk=true:=by
 cases vk <;> simp_all [xc5]
theorem xS6 {vk:K} {v:SV} {a:AV} {d:D} {ds:List D} (h:xf5 [vk] [v]=some (d::ds)) (hv:VR v a):xb3 vk d a:=by
 have:=xgj (c:=d::ds) (j:=0) h (xa1 hv xbt) fun i d hd=>by simpa using hd
 simp only [xaz] at this;obtain ⟨u,us,e,h1,-⟩:=this;cases e;exact h1
theorem xL9 {C:Cfg} {tab:Tab} {n:Nat} (hS:xk4 C tab n) {S:Type} {H:Option (Hd S)} {at_:Nat} {ls:Nat->Option SB} {l:Nat->Option Blk} (hl:∀ i,OR (ls i) (l i)) {ms:MS} {m:MA} {r:RS} (s:S)
    (h:(xjr C tab at_ ls ms).run=some r) (hm:MR ms m):∃ r',act C (xbv C n) H at_ l s m=some r'/\r'.s=s/\RR r r':=by
 cases ms with
 | pure v=>
   simp only [MR] at hm;obtain ⟨a,rfl,hv⟩:=hm;cases h;exact ⟨_,rfl,rfl,RR.plain hv⟩
 | pan t=>
   simp only [MR] at hm;subst hm;cases h;exact ⟨_,rfl,rfl,RR.plain (by simp only [VR])⟩
 | newbox cs=>
   simp only [MR] at hm;obtain ⟨vs,rfl,hv⟩:=hm;simp only [xjr] at h;split at h
   ·rename_i hok;cases h;refine ⟨_,by simp only [act];rw [if_pos (xoy hok hv)],rfl,RR.one ?_ (by simp only [UR]) ?_⟩
    ·simp only [VR,xa4 hv]
    ·refine xDv ?_;simp only [xa3];exact ⟨vs,rfl,(xa4 hv).symm,hv,xkk⟩
   ·cases h
 | loadx i sz p=>
   simp only [MR] at hm;obtain ⟨nn,rfl⟩:=hm;simp only [xjr] at h;have hli:=hl i;split at h
   ·rename_i k n' l' tl hi;rw [hi] at hli;obtain ⟨B,hB,hr⟩:=xbm hli;split at h
    ·rename_i hsz;simp only [T.run] at h;split at h
     ·rename_i hp;cases h;simp only [decide_eq_true_eq] at hp;obtain ⟨hl',hr⟩:=xol hr;obtain ⟨s',es,fl,rfl⟩:=xce hr;simp only [xa3] at hr;obtain ⟨us,rfl,rfl,hu,-⟩:=hr;obtain ⟨u,hu1,hu2⟩:=xd4 hu (xVo (tl:=tl) hp);simp only [VR] at hu2;subst hu2;refine ⟨⟨.int k ((l'.getD p []).getD 0 default).I,[],[],s⟩,?_,rfl,RR.plain (by simp only [VR])⟩;rw [<- xJn (xbv C n) H at_ l s];simp only [xpt,hB,List.length_append,xe8,hsz,if_true,List.getElem?_cons_zero,Bool.false_eq_true,if_false,hu1,Option.map_some]
     ·cases h
    ·cases h
   ·cases h
 | storex i sz p v=>
   simp only [MR] at hm;obtain ⟨a,rfl,hv⟩:=hm;simp only [xjr] at h;have hli:=hl i;split at h
   ·rename_i k n' l' tl k' x hi;rw [hi] at hli;obtain ⟨B,hB,hr⟩:=xbm hli;split at h
    ·rename_i hsz;obtain ⟨hsz,rfl⟩:=hsz;simp only [T.run] at h;split at h
     ·rename_i hp;cases h;simp only [decide_eq_true_eq] at hp;obtain ⟨hl',hr⟩:=xol hr;obtain ⟨s',es,fl,rfl⟩:=xce hr;simp only [xa3] at hr;obtain ⟨us,rfl,rfl,hu,hno⟩:=hr;simp only [VR] at hv;subst hv;have hlen:us.length=n'+tl.length:=by rw [<- xa4 hu,List.length_append,xe8]
      simp only [act,hB,List.length_append,xe8,hsz,if_true,List.getElem?_cons_zero,List.length_singleton];rw [if_pos ⟨by omega,rfl⟩];refine ⟨_,rfl,rfl,RR.upd (by simp only [VR]) (xJh (by rw [List.length_set];exact hl') ?_)⟩;rw [xVm (by omega)];simp only [xa3,List.set_cons_zero];refine ⟨_,rfl,by simp only [List.length_append,List.length_take,List.length_drop,List.length_singleton,xe8];omega,xch (xch (xdy _ hu) (xa1 (by simp only [VR]) xbt)) (xcw _ hu),fun hfl v hm=>?_⟩;simp only [Bool.and_eq_true] at hfl;rcases List.mem_append.1 hm with hm | hm
      ·rcases List.mem_append.1 hm with hm | hm
       ·exact hno hfl.1 v (List.mem_of_mem_take hm)
       ·exact xkk hfl.2 v hm
      ·exact hno hfl.1 v (List.mem_of_mem_drop hm)
     ·cases h
    ·cases h
   ·cases h
 | newrow ks l' n'=>
   simp only [MR] at hm;obtain ⟨es,cap,rfl,he,hok⟩:=hm;cases h;refine ⟨_,by simp only [act];rw [if_pos (by rw [hok,xS1 he];rfl)],rfl,RR.one ?_ (by simp only [UR]) ?_⟩
   ·simp only [VR];exact ⟨_,rfl⟩
   ·simp only [xa3];exact ⟨by trivial,he⟩
 | newe s'=>
   simp only [MR] at hm;subst hm;cases h;exact ⟨_,rfl,rfl,RR.plain (by simp only [VR];exact .inr trivial)⟩
 | newlst s' cs=>
   simp only [MR] at hm;obtain ⟨es,rfl,hv⟩:=hm;simp only [xjr] at h;split at h
   ·rename_i hok;cases h;rw [List.all_eq_true] at hok;have hrow:∀ e∈es,okL e=true/\e.length=s':=fun e he=>by
     obtain ⟨i,hi,rfl⟩:=List.getElem_of_mem he;have hi':i<cs.length:=by rw [hv.1];exact hi
     have h2:=hv.2 i _ _ (List.getElem?_eq_getElem hi') (List.getElem?_eq_getElem hi);have h3:=hok _ (List.getElem_mem hi');rw [Bool.and_eq_true,decide_eq_true_iff] at h3;exact ⟨xoy h3.1 h2,by rw [<- xa4 h2];exact h3.2⟩
    refine ⟨_,by simp only [act];rw [if_pos (by rw [xRi fun e he=>(hrow e he).1,xLo fun e he=>(hrow e he).2];rfl)],rfl,RR.one ?_ (by simp only [UR]) ?_⟩
    ·simp only [VR];exact ⟨_,rfl⟩
    ·simp only [xa3];exact ⟨by trivial,hv,fun e he=>(hrow e he).2,fun hf e he=>xkk (xEk hf e he)⟩
   ·cases h
 | load i sz k j agg nn=>
   simp only [MR] at hm;subst hm;simp only [xjr,T.run_bind,Option.bind_eq_some_iff] at h;obtain ⟨v,h1,h2⟩:=h;cases h2;obtain ⟨u,hu,hr⟩:=xz9 hl h1;refine ⟨⟨u,[],[],s⟩,?_,rfl,RR.plain hr⟩;rw [<- xJn (xbv C n) H at_ l s,hu];rfl
 | store i sz k j vs=>
   simp only [MR] at hm;obtain ⟨as,rfl,hv⟩:=hm;simp only [xjr] at h;have hli:=hl i;have hal:=xa4 hv;split at h
   ·rename_i cs hi;rw [hi] at hli;obtain ⟨B,hB,hr⟩:=xbm hli;obtain ⟨s',es,fl,rfl⟩:=xce hr;simp only [xa3] at hr;obtain ⟨us,rfl,rfl,hu,hno⟩:=hr;split at h
    ·rename_i hc;obtain ⟨rfl,rfl⟩:=hc;split at h
     ·rename_i hok;cases h;simp only [act,hB,if_true,List.getElem?_cons_zero];rw [if_pos ⟨by rw [<- hal,<- xa4 hu];exact hok.1,xoy hok.2 hv⟩];refine ⟨_,rfl,rfl,RR.upd (by simp only [VR]) (xDv ?_)⟩;simp only [xa3,List.set_cons_zero];refine ⟨_,rfl,by simp;omega,by rw [<- hal];exact xch (xch (xdy _ hu) hv) (xcw _ hu),fun hfl v hm=>?_⟩;simp only [Bool.and_eq_true] at hfl;rcases List.mem_append.1 hm with hm | hm
      ·rcases List.mem_append.1 hm with hm | hm
       ·exact hno hfl.1 v (List.mem_of_mem_take hm)
       ·exact xkk hfl.2 v hm
      ·exact hno hfl.1 v (List.mem_of_mem_drop hm)
     ·cases h
    ·cases h
   ·rename_i ks l' hi;rw [hi] at hli;obtain ⟨B,hB,hr⟩:=xbm hli;obtain ⟨s',es,fl,rfl⟩:=xce hr;simp only [xa3] at hr;obtain ⟨rfl,he⟩:=hr;split at h
    ·rename_i hc;subst hc;split at h
     ·rename_i ds hd;split at h
      ·rename_i hj;simp only [T.run] at h;split at h
       ·rename_i hk;cases h;obtain ⟨e,hek,henc⟩:=xEz he (of_decide_eq_true hk);simp only [act,hB,if_true,hek];rw [if_pos ⟨by rw [<- hal,xhp henc];exact hj,xoy (xK4 hd) hv⟩];refine ⟨_,rfl,rfl,RR.upd (by simp only [VR]) ?_⟩;simp only [xa3];exact ⟨by trivial,xV3 he k (xV4 henc hd hv hj)⟩
       ·cases h
      ·cases h
     ·cases h
    ·cases h
   ·cases h
 | append a x sz by_ ks=>
   simp only [MR] at hm;obtain ⟨a',x',rfl,ha,hx,rfl⟩:=hm;simp only [xjr] at h;split at h
   ·rename_i cs hone;exact xVp hl s hone h ha hx
   simp only [T.run_bind,Option.bind_eq_some_iff] at h;obtain ⟨xs,hxs,h⟩:=h;obtain ⟨es,fx,hc,he⟩:=xph hl hxs hx;have hemp:=xKc he;have hlen:=he.1;simp only [act,hc];split at h
   ·simp only [VR] at ha;subst ha;simp only [T.run] at h;split at h
    ·rename_i hem;cases h;rw [if_pos (by rw [hemp];exact hem)];exact ⟨_,rfl,rfl,RR.plain (by simp only [VR])⟩
    ·rename_i hem;rw [if_neg (by rw [hemp];exact hem)];split at h
     ·rename_i hs;simp only [T.run] at h;split at h
      ·rename_i hb;cases h;simp only [decide_eq_true_eq] at hb;rw [if_pos (by rw [hlen];exact ⟨hb.1,hb.2,hs⟩)];exact ⟨_,rfl,rfl,RR.one (by simp only [VR];exact ⟨_,by rw [hlen]⟩) (by simp only [UR]) (by simp only [xa3];exact ⟨by trivial,he⟩)⟩
      ·cases h
     ·cases h
   ·split at h
    case isFalse=>cases h
    rename_i hss;subst hss;simp only [T.run] at h;have ha0:=ha;simp only [VR] at ha;split at h
    ·rename_i hem;cases h;rcases ha with rfl | rfl
     ·simp only;rw [if_pos (by rw [hemp];exact hem)];exact ⟨_,rfl,rfl,RR.plain ha0⟩
     ·simp only;rw [if_pos (by rw [hemp];exact hem)];exact ⟨_,rfl,rfl,RR.plain ha0⟩
    ·rename_i hem;split at h
     ·rename_i hs;simp only [T.run] at h;split at h
      ·rename_i hb;cases h;simp only [decide_eq_true_eq] at hb;rcases ha with rfl | rfl
       ·simp only;rw [if_neg (by rw [hemp];exact hem),if_pos (by rw [hlen];exact ⟨hb.1,hb.2,hs⟩)];exact ⟨_,rfl,rfl,RR.one (by simp only [VR];exact ⟨_,by rw [hlen]⟩) (by simp only [UR]) (by simp only [xa3];exact ⟨by trivial,he⟩)⟩
       ·simp only [List.length_nil,Nat.zero_add,List.nil_append];rw [if_neg (by rw [hemp];exact hem),if_pos (by rw [hlen];simp only [Bool.true_and,decide_eq_true_eq];exact ⟨by trivial,hb.1,hb.2,hs⟩)];exact ⟨_,rfl,rfl,RR.one (by simp only [VR];exact ⟨_,by rw [hlen]⟩) (by simp only [UR]) (by simp only [xa3];exact ⟨by trivial,he⟩)⟩
      ·cases h
     ·cases h
   ·rename_i c0 ks' es0;split at h
    ·rename_i hk;have:=xee _ _ hk;subst this;simp only [T.run] at h;have ha0:=ha;simp only [VR] at ha;split at h
     ·rename_i hem;cases h;rcases ha with ⟨rfl,h0⟩ | ⟨kd,c0',fs,rfl,hc0,he0⟩
      ·simp only [hemp,hem,if_true];exact ⟨_,rfl,rfl,RR.plain ha0⟩
      ·simp only [hemp,hem,if_true];exact ⟨_,rfl,rfl,RR.plain ha0⟩
     ·rename_i hem;split at h
      ·rename_i hs;simp only [T.run] at h;split at h
       ·rename_i hb;cases h;simp only [Bool.and_eq_true,decide_eq_true_eq] at hb;obtain ⟨hb0,hb1,hb2⟩:=hb;rcases ha with ⟨rfl,rfl⟩ | ⟨kd,c0',fs,rfl,hc0,he0⟩
        ·simp only [hemp];rw [if_neg hem];simp only [List.length_nil,Nat.zero_add] at hb1 hb2;rw [if_pos (by rw [hlen];exact ⟨hb1,hb2,hs⟩)];exact ⟨_,rfl,rfl,RR.one (by simp only [VR];exact ⟨none,by simp [hlen]⟩) (by simp only [UR]) (by simp only [xa3,List.nil_append];exact ⟨by trivial,he⟩)⟩
        ·simp only [hemp];rw [if_neg hem];have hl0:=he0.1;rw [if_pos (by simp only [hc0 hb0,Bool.true_and,decide_eq_true_eq];exact ⟨by trivial,by rw [hlen,hl0];exact hb1,by rw [hlen,hl0];exact hb2,hs⟩)];exact ⟨_,rfl,rfl,RR.one (by simp only [VR];exact ⟨none,by rw [hlen,hl0]⟩) (by simp only [UR]) (by simp only [xa3];exact ⟨by trivial,xm9 he0 he⟩)⟩
       ·cases h
      ·cases h
    ·cases h
   ·rename_i i s' n';split at h
    ·rename_i ks' l' hi;split at h
     ·rename_i hcnd;obtain ⟨hk,rfl,hs⟩:=hcnd;have:=xee _ _ hk;subst this;simp only [T.run] at h;have ha0:=ha;simp only [VR] at ha;obtain ⟨cap,rfl⟩:=ha;have hli:=hl i;rw [hi] at hli;obtain ⟨B,hB,hr⟩:=xbm hli;obtain ⟨s',es0,fl,rfl⟩:=xce hr;simp only [xa3] at hr;obtain ⟨rfl,he0⟩:=hr;have hl0:=he0.1;split at h
      ·rename_i hem;cases h;simp only [hemp,hem,if_true];exact ⟨_,rfl,rfl,RR.plain ha0⟩
      ·rename_i hem;split at h
       ·rename_i hb;cases h;simp only [decide_eq_true_eq] at hb;obtain ⟨hb0,hb1,hb2⟩:=hb;simp only [hemp,hB];rw [if_neg hem,if_pos ⟨by trivial,by trivial,by trivial,by omega,by omega,by rw [hlen];exact hb2,hs⟩];exact ⟨_,rfl,rfl,RR.one (by simp only [VR];exact ⟨none,by rw [hlen]⟩) (by simp only [UR];exact ⟨_,_,rfl,rfl,by simp only [OR],rfl⟩) (by simp only [xa3];exact ⟨by trivial,xm9 (xep _ he0) he⟩)⟩
       ·cases h
     ·cases h
    ·rename_i ks' l' q cs hi;split at h
     ·rename_i hcnd;obtain ⟨hk,rfl,hs⟩:=hcnd;have:=xee _ _ hk;subst this;simp only [T.run] at h;have ha0:=ha;simp only [VR] at ha;obtain ⟨cap,rfl⟩:=ha;have hli:=hl i;rw [hi] at hli;obtain ⟨B,hB,hr⟩:=xbm hli;obtain ⟨s',es0,fl,rfl⟩:=xce hr;have hr:HoleR true ks l' q cs s' es0 fl:=hr;obtain ⟨rfl,-⟩:=hr.enc rfl;have hl0:=hr.len;split at h
      ·rename_i hem;cases h;simp only [hemp,hem,if_true];exact ⟨_,rfl,rfl,RR.plain ha0⟩
      ·rename_i hem;split at h
       ·rename_i hb;cases h;simp only [decide_eq_true_eq] at hb;obtain ⟨hbq,hb0,hb1,hb2⟩:=hb;simp only [hemp,hB];rw [if_neg hem,if_pos ⟨by trivial,by trivial,by trivial,by omega,by omega,by rw [hlen];exact hb2,hs⟩];exact ⟨_,rfl,rfl,RR.one (by simp only [VR];exact ⟨none,by rw [hlen]⟩) (by simp only [UR];exact ⟨_,_,rfl,rfl,by simp only [OR],rfl⟩) (hr.append hbq hb0 he)⟩
       ·cases h
     ·cases h
    ·cases h
   ·cases h
 | copy d x sz=>
   simp only [MR] at hm;obtain ⟨a',x',rfl,ha,hx⟩:=hm;simp only [xjr] at h;split at h
   ·rename_i i s' n';split at h
    ·rename_i ks l' hi;split at h
     case isFalse=>cases h
     rename_i hc;obtain ⟨rfl,rfl⟩:=hc;rw [T.run_bind,Option.bind_eq_some_iff] at h;obtain ⟨xs,h1,h⟩:=h;obtain ⟨es,fx,e1,e2⟩:=xph hl h1 hx;simp only [T.run] at h;split at h
     case isFalse=>cases h
     rename_i hn;cases h;simp only [decide_eq_true_eq] at hn;simp only [VR] at ha;obtain ⟨cap,rfl⟩:=ha;have hli:=hl i;rw [hi] at hli;obtain ⟨B,hB,hr⟩:=xbm hli;obtain ⟨s2,es0,fl,rfl⟩:=xce hr;simp only [xa3] at hr;obtain ⟨rfl,he⟩:=hr;have hl0:=he.1;simp only [act,e1,hB];rw [if_pos ⟨by trivial,by trivial,by omega⟩];exact ⟨_,rfl,rfl,RR.upd (by simp only [VR,i64,<- e2.1]) (by simp only [xa3];exact ⟨by trivial,xKd he e2 0 n'⟩)⟩
    ·cases h
   ·rename_i i s' lo n';split at h
    ·rename_i ks l' hi;split at h
     case isFalse=>cases h
     rename_i hc;obtain ⟨rfl,rfl⟩:=hc;rw [T.run_bind,Option.bind_eq_some_iff] at h;obtain ⟨xs,h1,h⟩:=h;obtain ⟨es,fx,e1,e2⟩:=xph hl h1 hx;simp only [T.run] at h;split at h
     case isFalse=>cases h
     rename_i hn;cases h;simp only [decide_eq_true_eq] at hn;simp only [VR] at ha;obtain ⟨cap,rfl⟩:=ha;have hli:=hl i;rw [hi] at hli;obtain ⟨B,hB,hr⟩:=xbm hli;obtain ⟨s2,es0,fl,rfl⟩:=xce hr;simp only [xa3] at hr;obtain ⟨rfl,he⟩:=hr;have hl0:=he.1;simp only [act,e1,hB];rw [if_pos ⟨by trivial,by trivial,by omega⟩];exact ⟨_,rfl,rfl,RR.upd (by simp only [VR,i64,<- e2.1]) (by simp only [xa3];exact ⟨by trivial,xKd he e2 lo n'⟩)⟩
    ·cases h
   ·cases h
 | call f args=>
   simp only [MR] at hm;obtain ⟨as,rfl,hv⟩:=hm;simp only [xjr] at h;simp only [act];exact xBe hS hl s h hv
 | callp f i sz k j agg nn args=>
   simp only [MR] at hm;obtain ⟨as,rfl,hv⟩:=hm;simp only [xjr,T.run_bind,Option.bind_eq_some_iff] at h;obtain ⟨v,h1,h2⟩:=h;obtain ⟨u,hu,hr⟩:=xz9 hl h1;simp only [act,hu];exact xBe hS hl s h2 (xa1 hr hv)
 | yld args=>cases h
 | newm b=>
   simp only [MR] at hm;obtain ⟨rfl,hb⟩:=hm;cases h;exact ⟨_,rfl,rfl,RR.one (by simp only [VR]) (by simp only [UR]) hb⟩
 | mlen i=>
   simp only [MR] at hm;subst hm;simp only [xjr] at h;have hli:=hl i;split at h
   ·rename_i ka kk vk l' hi;rw [hi] at hli;obtain ⟨B,hB,hr⟩:=xbm hli;obtain ⟨kvs,rfl⟩:=xmy hr;simp only [xa3] at hr;cases h;exact ⟨_,by simp only [act,hB] <;> rfl,rfl,RR.plain (by simp only [VR,i64,hr.2.1])⟩
   ·cases h
 | mget i Y k z ok=>
   simp only [MR] at hm;obtain ⟨k',z',rfl,hk,hz⟩:=hm;simp only [xjr] at h;have hli:=hl i;have tup:∀ {v:SV} {a:AV} {b:Bool},VR v a->VR (if ok then .tup [v,.kb b] else v) (if ok then .tup [a,.bool b] else a):=fun {v a b} hv=>by
    cases ok with
    | true=>simp only [if_true,VR];exact ⟨_,rfl,xa1 hv (xa1 (by simp only [VR]) xbt)⟩
    | false=>simpa using hv
   split at h
   ·rename_i ka kk vk l' hi;rw [hi] at hli;obtain ⟨B,hB,hr⟩:=xbm hli;obtain ⟨kvs,rfl⟩:=xmy hr;simp only [xa3] at hr;obtain ⟨hp,h2,h3⟩:=hr;split at h
    ·rename_i key hY hkey;obtain ⟨hK,hlk⟩:=xye hkey hk;have hself:eqK Y k' k'=some true:=by rw [xsw hY hK hK,xp9 (xqj hp).2]
     simp only [T.run] at h;rcases xp7 hY hK (i:=0) h2 (fun i p c h4 h5=>(h3 i p c h4 h5).1) with ⟨h4,h5⟩ | ⟨j,p,h4,h5,h6,h7,h8⟩
     ·rw [if_neg (by simp [xjk,h4])] at h;cases h;exact ⟨_,by simp only [act,hB,hself,h5] <;> rfl,rfl,RR.plain (tup hz)⟩
     ·rw [if_pos (by simp [xjk,h4])] at h;cases h;refine ⟨_,by simp only [act,hB,hself,h8] <;> rfl,rfl,RR.plain (tup ?_)⟩;have hm:xjh kk key l'=(l'[j]'(by omega)).getD kk.length default:=by
       simp only [xjh,h4,Option.getD_some];rw [List.getD_eq_getElem?_getD (l:=l'),List.getElem?_eq_getElem (by omega),Option.getD_some]
      rw [hm];exact xyw (h3 j p _ h7 (List.getElem?_eq_getElem (by omega))).2
    ·cases h
   ·rename_i es hi;rw [hi] at hli;obtain ⟨B,hB,hr⟩:=xbm hli;obtain ⟨kvs,rfl⟩:=xnp hr;simp only [xa3] at hr;split at h
    ·rename_i q m hY;simp only [VR] at hk;subst hk;rcases xD5 hY 0 h hr.1 hr.2 with ⟨h1,h2⟩ | ⟨j,p,v,h1,h2,h3⟩
     ·cases h2;exact ⟨_,by simp only [act,hB,xCn hY,h1] <;> rfl,rfl,RR.plain (tup hz)⟩
     ·cases h3;exact ⟨_,by simp only [act,hB,xCn hY,h1] <;> rfl,rfl,RR.plain (tup h2)⟩
    ·cases h
   ·cases h
 | mset i Y k v=>
   simp only [MR] at hm;obtain ⟨k',v',rfl,hk,hv⟩:=hm;simp only [xjr] at h;have hli:=hl i;split at h
   ·rename_i ka kk vk l' hi;rw [hi] at hli;obtain ⟨B,hB,hr⟩:=xbm hli;obtain ⟨kvs,rfl⟩:=xmy hr;simp only [xa3] at hr;obtain ⟨hp,h2,h3⟩:=hr;split at h
    ·rename_i key d ds hY hkey hd;obtain ⟨hK,hlk⟩:=xye hkey hk;have hV:=xS6 hd hv;obtain ⟨r1,r2⟩:=xX8 hlk hK hV;have hself:eqK Y k' k'=some true:=by rw [xsw hY hK hK,xp9 (xqj hp).2]
     cases h;rcases xp7 hY hK (i:=0) h2 (fun i p c h4 h5=>(h3 i p c h4 h5).1) with ⟨h4,h5⟩ | ⟨j,p,h4,h5,h6,h7,h8⟩
     ·refine ⟨_,by simp only [act,hB,hself,h5] <;> rfl,rfl,RR.upd (by simp only [VR]) ?_⟩;simp only [xf9,h4,xa3];refine ⟨hp,by simp [h2],fun i p c hp' hc=>?_⟩;rw [List.getElem?_append] at hp' hc;split at hp'
      ·rename_i hi';rw [if_pos (by rw [<- h2];exact hi')] at hc;exact h3 i p c hp' hc
      ·rename_i hi';rw [if_neg (by rw [<- h2];exact hi'),<- h2] at hc;obtain ⟨n,hn⟩:∃ n,i - kvs.length=n:=⟨_,rfl⟩;rw [hn] at hp' hc;cases n with
       | zero=>
         simp only [List.getElem?_cons_zero,Option.some.injEq] at hp' hc;subst hp';subst hc;exact ⟨r1,r2⟩
       | succ n=>simp at hp'
     ·refine ⟨_,by simp only [act,hB,hself,h8] <;> rfl,rfl,RR.upd (by simp only [VR]) ?_⟩;simp only [xf9,h4,xa3];refine ⟨hp,by simp [h2],fun i p c hp' hc=>?_⟩;rw [List.getElem?_set] at hp' hc;split at hp'
      ·rename_i e;rw [if_pos e] at hc;split at hp'
       ·rename_i hlt;rw [if_pos (by rw [<- h2];exact hlt)] at hc;cases hp';cases hc;exact ⟨r1,r2⟩
       ·cases hp'
      ·rename_i e;rw [if_neg e] at hc;exact h3 i p c hp' hc
    ·cases h
   ·rename_i es hi;rw [hi] at hli;obtain ⟨B,hB,hr⟩:=xbm hli;obtain ⟨kvs,rfl⟩:=xnp hr;simp only [xa3] at hr;split at h
    ·rename_i q m hY;simp only [VR] at hk;subst hk;simp only [T.run] at h;split at h
     case isFalse=>cases h
     rename_i hn;cases h;have h1:=xHu hY 0 hn hr.1 hr.2;refine ⟨_,by simp only [act,hB,xCn hY,h1] <;> rfl,rfl,RR.upd (by simp only [VR]) ?_⟩;simp only [xa3];refine ⟨by simp [hr.1],fun i e p he hp'=>?_⟩;rw [List.getElem?_append] at hp' he;split at he
     ·rename_i hi';rw [if_pos (by rw [<- hr.1];exact hi')] at hp';exact hr.2 i e p he hp'
     ·rename_i hi';rw [if_neg (by rw [<- hr.1];exact hi'),<- hr.1] at hp';obtain ⟨n,hn'⟩:∃ n,i - es.length=n:=⟨_,rfl⟩;rw [hn'] at hp' he;cases n with
      | zero=>
        simp only [List.getElem?_cons_zero,Option.some.injEq] at hp' he;subst hp';subst he;exact ⟨by simp only [VR],hv⟩
      | succ n=>simp at hp'
    ·cases h
   ·cases h
 | mdel i Y k=>
   simp only [MR] at hm;obtain ⟨k',rfl,hk⟩:=hm;simp only [xjr] at h;have hli:=hl i;split at h
   ·rename_i ka kk vk l' hi;rw [hi] at hli;obtain ⟨B,hB,hr⟩:=xbm hli;obtain ⟨kvs,rfl⟩:=xmy hr;simp only [xa3] at hr;obtain ⟨hp,h2,h3⟩:=hr;split at h
    ·rename_i key hY hkey;obtain ⟨hK,hlk⟩:=xye hkey hk;have hself:eqK Y k' k'=some true:=by rw [xsw hY hK hK,xp9 (xqj hp).2]
     cases h;rcases xp7 hY hK (i:=0) h2 (fun i p c h4 h5=>(h3 i p c h4 h5).1) with ⟨h4,h5⟩ | ⟨j,p,h4,h5,h6,h7,h8⟩
     ·refine ⟨_,by simp only [act,hB,hself,h5] <;> rfl,rfl,RR.upd (by simp only [VR];exact ⟨[],rfl,xbt⟩) ?_⟩;simp only [xFk,h4,xa3];exact ⟨hp,h2,h3⟩
     ·refine ⟨_,by simp only [act,hB,hself,h8] <;> rfl,rfl,RR.upd (by simp only [VR];exact ⟨[],rfl,xbt⟩) ?_⟩;simp only [xFk,h4,xa3];refine ⟨hp,by simp [List.length_eraseIdx,h2],fun i p c hp' hc=>?_⟩;rw [List.getElem?_eraseIdx] at hp' hc;split at hp'
      ·rename_i e;rw [if_pos e] at hc;exact h3 i p c hp' hc
      ·rename_i e;rw [if_neg e] at hc;exact h3 (i+1) p c hp' hc
    ·cases h
   ·cases h
theorem xY8 {sh:xav} {h:xap} (H:HR sh h) (n:Nat):HR (sh.take n) (h.take n):=by
 refine ⟨by simp [H.1],fun i=>?_⟩;have:=H.2 i;simp only [xbz,xag,List.getElem?_take] at this ⊢;split
 ·exact this
 ·trivial
theorem xY6 {l:List (Nat×Nat)} {a:Nat->Option SB} {b:Nat->Option Blk} (h:∀ p∈l,OR (a p.2) (b p.2)):UR (l.map fun p=>(p.1,a p.2)) (l.map fun p=>(p.1,b p.2)):=by
 induction l with
 | nil=>simp only [List.map_nil,UR]
 | cons p l ih=>
   simp only [List.map_cons,UR];exact ⟨_,_,rfl,rfl,h p List.mem_cons_self,ih fun q hq=>h q (List.mem_cons_of_mem _ hq)⟩
theorem xJo {C:Cfg} {tab:Tab} {log:List (List D)} {at_:Nat} {ls:Nat->Option SB} {ms:MS} {r:RS×List (List D)} (h:(xCw C tab log at_ ls ms).run=some r):log <+: r.2:=by
 unfold xCw at h;split at h
 ·split at h
  ·cases h
  ·obtain ⟨-,h⟩:=T.run_needs _ _ _ h;generalize xd3 ls _ _=p at h;obtain ⟨ms,cargs,ch⟩:=p;dsimp only at h;split at h
   ·cases h;exact List.prefix_append _ _
   ·cases h
 ·split at h
  ·obtain ⟨-,h⟩:=T.run_needs _ _ _ h;generalize xd3 ls _ _=p at h;obtain ⟨ms,cargs,ch⟩:=p;dsimp only at h;rw [T.run_bind,Option.bind_eq_some_iff] at h;obtain ⟨r0,-,h⟩:=h;cases h;exact List.prefix_append _ _
  ·rw [T.run_bind,Option.bind_eq_some_iff] at h;obtain ⟨r0,-,h⟩:=h;cases h;exact List.prefix_refl _
 ·rw [T.run_bind,Option.bind_eq_some_iff] at h;obtain ⟨r0,-,h⟩:=h;cases h;exact List.prefix_refl _
theorem xym {C:Cfg} {tab:Tab} {n:Nat} (hS:xk4 C tab n) (hY:∀ Y,tab.y=some Y->YOK Y) {S:Type} {H:Option (Hd S)} {P:Nat->S->Prop} {L:List (List D)} (hc:xfk tab.y tab.q H P L) {log:List (List D)} {at_:Nat} {ls:Nat->Option SB} {l:Nat->Option Blk} (hl:∀ i,OR (ls i) (l i)) {ms:MS} {m:MA} {r:RS×List (List D)}
    (h:(xCw C tab log at_ ls ms).run=some r) (hp:r.2 <+: L) (hm:MR ms m) {s:S} (hs:P log.length s):∃ r',act C (xbv C n) H at_ l s m=some r'/\P r.2.length r'.s/\RR r.1 r':=by
 unfold xCw at h;split at h
 ·rename_i args;split at h
  ·cases h
  rename_i Y hy;obtain ⟨hneed,h⟩:=T.run_needs _ _ _ h;simp only [MR] at hm;obtain ⟨as,rfl,hv⟩:=hm;have hlen:(args.map fun _=>true)=(as.map fun _=>true):=by rw [List.map_const',List.map_const',xa4 hv]
  obtain ⟨k1,k2,k3⟩:=xn6 hl (args.map fun _=>true) hv hneed;rw [hlen] at k1 k2 k3 h;generalize xd3 ls (as.map fun _=>true) args=p at h k1 k2 k3;obtain ⟨ms,cargs,ch⟩:=p;dsimp only at h k1 k2 k3;split at h
  case h_2=>cases h
  rename_i d hd;cases h;obtain ⟨e1,e2⟩:=hY Y hy _ _ _ hd _ _ k2 k3;have hj:L[log.length]?=some d:=by
   obtain ⟨t,rfl⟩:=hp;simp
  obtain ⟨Hf,rfl,hf⟩:=hc _ _ hj Y hy;obtain ⟨nh,s',g1,g0,g2,g3⟩:=hf s hs _ _ e1 e2;simp only [act,g1];refine ⟨_,rfl,by simpa using g0,?_⟩;rw [k1];refine ⟨by simp only [VR],?_,rfl,fun i b B h=>by simp at h⟩;cases hg:Y.give with
  | true=>
    simp only [if_true];exact (xgo ms at_ (xY8 (g2 hg) ms.length)).1
  | false=>
    have hn:=g3 hg;have hno:∀ i,xag (nh.take ms.length) i=none:=fun i=>by rw [xR1];split <;> first | exact hn i | rfl
    simp only [xc8,xba,Bool.false_eq_true,if_false];refine xY6 (a:=fun k=>(xbz [] k).map (xft true true (back ms at_))) (b:=fun k=>(xag (List.take ms.length nh) k).map (mvB true true (back ms at_))) fun p _=>?_
    rw [hno];simp [xbz,OR]
 ·rename_i f args;split at h
  ·rename_i b bs F hext hwr hsp;obtain ⟨hneed,h⟩:=T.run_needs _ _ _ h;simp only [MR] at hm;obtain ⟨as,rfl,hv⟩:=hm;obtain ⟨k1,k2,k3⟩:=xn6 hl (b::bs) hv hneed;rw [T.run_bind,Option.bind_eq_some_iff] at h;obtain ⟨⟨⟨v,hb⟩,nw⟩,hF,h2⟩:=h;cases h2;obtain ⟨v',h',s',hcall,hs',hvv,hh⟩:=hS.2.1.2 f F hsp _ _ _ _ _ hF _ _ k2 k3 S H P L hc hp s hs;have hall:xpi (b::bs) as=(decide (args.length<=(b::bs).length) && (b::bs).all id):=by unfold xpi;rw [xa4 hv]
   simp only [act,xg4,hext,hwr,hcall,hall];generalize (decide (args.length<=(b::bs).length) && (b::bs).all id)=al;cases al with
   | true=>
     obtain ⟨u1,u2,u3⟩:=xgo (xd3 ls (b::bs) args).1 at_ hh;refine ⟨_,rfl,hs',?_⟩;rw [k1];exact ⟨xe1 true true _ xak v v' hvv,u1,u2,u3⟩
   | false=>
     obtain ⟨u1,u2,u3⟩:=xgo (xd3 ls (b::bs) args).1 at_ (xqh hh);refine ⟨_,rfl,hs',?_⟩;rw [k1];exact ⟨xe1 true true _ xak _ _ (xrv hvv),u1,u2,u3⟩
  ·rw [T.run_bind,Option.bind_eq_some_iff] at h;obtain ⟨r0,h1,h2⟩:=h;cases h2;obtain ⟨r',a1,a2,a3⟩:=xL9 hS (H:=H) hl s h1 hm;exact ⟨r',a1,by rw [a2];exact hs,a3⟩
 ·rw [T.run_bind,Option.bind_eq_some_iff] at h;obtain ⟨r0,h1,h2⟩:=h;cases h2;obtain ⟨r',a1,a2,a3⟩:=xL9 hS (H:=H) hl s h1 hm;exact ⟨r',a1,by rw [a2];exact hs,a3⟩
def SSR (σ:SSt) (τ:St):Prop:=VRL σ.tmps τ.tmps/\HR σ.h τ.h
theorem xiz {ts:List SV} {as:List AV} (h:VRL ts as) (dst:Option Tmp) {v:SV} {a:AV} (hv:VR v a):VRL (xkt dst v ts) (put dst a as):=by
 cases dst with
 | none=>exact h
 | some d=>exact xwq d h hv
theorem xBr:VR .und .und:=by simp only [VR]
theorem xyz {ops:Array Oper} {ts ts':List SV} {as:List AV} {o:Oper} {w:Bool} (h:(xvk ops ts o).run=some (w,ts')) (hv:VRL ts as):xhu ops as o=some w/\VRL ts' as:=by
 unfold xvk at h;unfold xhu;cases hg:o.guard with
 | none=>
   rw [hg] at h;simp only [T.run,Option.some.injEq,Prod.mk.injEq] at h;obtain ⟨rfl,rfl⟩:=h;exact ⟨rfl,hv⟩
 | some p =>
   obtain ⟨j,want⟩:=p;rw [hg] at h;simp only at h ⊢;cases hd:(ops[j]?).bind (·.dst) with
   | none=>rw [hd] at h;cases h
   | some d=>
     rw [hd] at h;simp only [Option.bind_some] at h ⊢;cases ht:ts[d]? with
     | none=>rw [ht] at h;cases h
     | some c=>
       rw [ht] at h;obtain ⟨a,ha,hr⟩:=xd4 hv ht;rw [ha];cases c <;> simp only at h <;> try (cases h;done)
       case und=>
        simp only [VR] at hr;subst hr;simp only [T.run,Option.some.injEq,Prod.mk.injEq] at h;obtain ⟨rfl,rfl⟩:=h;exact ⟨rfl,hv⟩
       case bool b=>
        simp only [VR] at hr;subst hr;simp only [T.run] at h;cases b <;> simp only [Bool.false_eq_true,if_false,if_true,Option.some.injEq,Prod.mk.injEq] at h <;> obtain ⟨rfl,rfl⟩:=h
        ·exact ⟨by cases want <;> rfl,xyo d hv ha (by simp only [VR])⟩
        ·exact ⟨by cases want <;> rfl,xyo d hv ha (by simp only [VR])⟩
       case kb b=>
        simp only [VR] at hr;subst hr;simp only [T.run,Option.some.injEq,Prod.mk.injEq] at h;obtain ⟨rfl,rfl⟩:=h;exact ⟨rfl,hv⟩
theorem xJq {v:SV} {a:AV} (h:VR v a):xds a=xHp v:=by
 cases v <;> simp only [VR] at h
 case any=>
  cases a <;> first | rfl | exact absurd (h 1) (by simp [ids])
 case agg=>obtain ⟨_,rfl,_⟩:=h;rfl
 case tup=>obtain ⟨_,rfl,_⟩:=h;rfl
 case eptr=>obtain ⟨_,_,rfl,_⟩:=h;rfl
 case ro=>rcases h with ⟨rfl,_⟩ | ⟨_,_,_,rfl,_⟩ <;> rfl
 case emp=>rcases h with rfl | rfl <;> rfl
 case sl=>obtain ⟨_,rfl⟩:=h;rfl
 case sub=>obtain ⟨_,rfl⟩:=h;rfl
 case fn=>obtain ⟨_,_,rfl,_⟩:=h;rfl
 case ifc=>obtain ⟨_,rfl,_⟩:=h;rfl
 case opt=>rcases h with ⟨_,rfl⟩ | ⟨_,_,_,_,_,rfl,_⟩ <;> rfl
 case alt=>obtain ⟨_,_,rfl⟩:=xjv h;rfl
 all_goals (subst h;rfl)
theorem xCm {v:SV} {a:AV} (h:VR v a):exV a=xIx v:=by
 unfold exV xIx;rw [xJq h];cases xHp v <;> rfl
theorem xwh {ms:MS} {m:MA} (hm:MR ms m) {v:SV} {a:AV} (h:VR v a):exA m a=exS ms v:=by
 cases ms <;> simp only [MR] at hm
 case pure=>obtain ⟨_,rfl,_⟩:=hm;rfl
 case newbox=>obtain ⟨_,rfl,_⟩:=hm;rfl
 case newrow=>obtain ⟨_,_,rfl,_⟩:=hm;rfl
 case newe=>subst hm;rfl
 case newlst=>obtain ⟨_,rfl,_⟩:=hm;rfl
 case load=>subst hm;rfl
 case store=>obtain ⟨_,rfl,_⟩:=hm;rfl
 case loadx=>obtain ⟨_,rfl⟩:=hm;rfl
 case storex=>obtain ⟨_,rfl,_⟩:=hm;rfl
 case append=>obtain ⟨_,_,rfl,_⟩:=hm;rfl
 case copy=>obtain ⟨_,_,rfl,_⟩:=hm;rfl
 case call=>obtain ⟨_,rfl,_⟩:=hm;exact xCm h
 case callp=>obtain ⟨_,rfl,_⟩:=hm;exact xCm h
 case yld=>obtain ⟨_,rfl,_⟩:=hm;rfl
 case pan=>subst hm;exact xCm h
 case newm=>obtain ⟨rfl,_⟩:=hm;rfl
 case mlen=>subst hm;rfl
 case mget=>obtain ⟨_,_,rfl,_⟩:=hm;rfl
 case mset=>obtain ⟨_,_,rfl,_⟩:=hm;rfl
 case mdel=>obtain ⟨_,rfl,_⟩:=hm;rfl
theorem xL7:VR .any .any:=by simp only [VR];exact fun g=>by cases g <;> rfl
theorem xZd {ms:MS} {m:MA} (hm:MR ms m) {v:SV} {a:AV} (h:VR v a):VR (vS ms v) (vA m a):=by
 unfold vS vA;rw [xwh hm h];cases exS ms v <;> first | exact h | exact xL7
theorem xTr {C:Cfg} {tab:Tab} {ops:Array Oper} {o:Oper} {σ σ':SSt} {e:Ex} (h:(xzc C tab ops o σ).run=some (e,σ')):σ.log <+: σ'.log:=by
 unfold xzc at h;rw [T.run_bind,Option.bind_eq_some_iff] at h;obtain ⟨⟨w,ts'⟩,hw,h⟩:=h;cases w with
 | false=>
   simp only [T.run,Option.some.injEq,Prod.mk.injEq] at h;obtain ⟨-,rfl⟩:=h;exact List.prefix_refl _
 | true=>
   simp only [T.run_bind,Option.bind_eq_some_iff] at h;obtain ⟨ms,hms,r,hra,h⟩:=h;simp only [T.run,Option.some.injEq,Prod.mk.injEq] at h;obtain ⟨-,rfl⟩:=h;exact xJo hra
theorem xU4 {σ σ':SSt} {t:Nat} (h:(xIu σ t).run=some σ'):σ'.log=σ.log:=by
 unfold xIu at h;split at h
 ·split at h
  ·split at h
   ·cases h
   ·obtain ⟨-,h⟩:=T.run_needs _ _ _ h;split at h
    ·simp only [T.run,Option.some.injEq] at h;subst h;rfl
    ·cases h
  ·simp only [T.run,Option.some.injEq] at h;subst h;rfl
  ·split at h
   ·cases h
   ·obtain ⟨-,h⟩:=T.run_needs _ _ _ h;split at h
    ·simp only [T.run,Option.some.injEq] at h;subst h;rfl
    ·cases h
  ·cases h
 ·cases h
theorem xIt {σ σ':SSt} {t:Nat} (h:(xCk σ t).run=some σ'):σ'.log=σ.log:=by
 unfold xCk at h;obtain ⟨-,h⟩:=T.run_needs _ _ _ h;simp only [T.run,Option.some.injEq] at h;subst h;rfl
theorem xpc:∀ {l:List Nat} {σ σ':SSt},(xuv l σ).run=some σ'->σ'.log=σ.log
 | [],σ,σ',h=>by
   simp only [xuv,T.run,Option.some.injEq] at h;rw [h]
 | t :: l,σ,σ',h=>by
   simp only [xuv,T.run_bind,Option.bind_eq_some_iff] at h;obtain ⟨σ1,h1,h2⟩:=h;split at h1
   ·rw [xpc h2,xIt h1]
   ·split at h1
    ·rw [xpc h2,xU4 h1]
    ·rw [xpc h2];unfold xOz at h1;split at h1
     ·simp only [T.run] at h1;split at h1
      ·simp only [Option.some.injEq] at h1;rw [h1]
      ·exact xIt h1
     ·cases h1
theorem xos {C:Cfg} {tab:Tab} {ops:Array Oper}:∀ {l:List Oper} {σ σ':SSt} {e:Ex},(xry C tab ops l σ).run=some (e,σ')->σ.log <+: σ'.log
 | [],σ,σ',e,h=>by
   simp only [xry,T.run,Option.some.injEq,Prod.mk.injEq] at h;obtain ⟨-,rfl⟩:=h;exact List.prefix_refl _
 | o :: l,σ,σ',e,h=>by
   simp only [xry,T.run_bind,Option.bind_eq_some_iff] at h;obtain ⟨σ0,h0,⟨e1,σ1⟩,h1,h2⟩:=h;rw [<- xpc h0];refine (xTr h1).trans ?_;cases e1 with
   | normal=>exact xos h2
   | _ =>
     simp only [T.run,Option.some.injEq,Prod.mk.injEq] at h2;obtain ⟨-,rfl⟩:=h2;exact List.prefix_refl _
theorem xnc {C:Cfg} {tab:Tab} {ops:Array Oper} {deps:Array Nat} {m:Nat}:∀ {l:List (Oper×Nat)} {done:List Done} {σ σ':SSt} {e:Ex},(xn2 C tab ops deps m l done σ).run=some (e,σ')->σ.log <+: σ'.log
 | [],done,σ,σ',e,h=>by
   simp only [xn2,T.run,Option.some.injEq,Prod.mk.injEq] at h;obtain ⟨-,rfl⟩:=h;exact List.prefix_refl _
 | (o, i)::l,done,σ,σ',e,h=>by
   unfold xn2 at h;rw [T.run_bind,Option.bind_eq_some_iff] at h;obtain ⟨⟨w,ts'⟩,hw,h⟩:=h;cases w with
   | false=>exact xnc (l:=l) (σ:={ tmps:=xkt o.dst .und ts',h:=σ.h,log:=σ.log }) h
   | true=>
     simp only [T.run_bind,Option.bind_eq_some_iff] at h;obtain ⟨ms,hms,h⟩:=h;split at h
     ·cases h
     simp only [T.run_bind,Option.bind_eq_some_iff] at h;obtain ⟨r,hra,h⟩:=h;refine (xJo hra).trans ?_;split at h
     ·exact xnc (l:=l) h
     ·split at h
      ·simp only [T.run,Option.some.injEq,Prod.mk.injEq] at h;obtain ⟨-,rfl⟩:=h;exact List.prefix_refl _
      ·cases h
theorem xSj {C:Cfg} {tab:Tab} {ops:Array Oper} {σ σ':SSt} {e:Ex} (h:(xA9 C tab ops σ).run=some (e,σ')):σ.log <+: σ'.log:=by
 unfold xA9 at h;rw [T.run_bind,Option.bind_eq_some_iff] at h;obtain ⟨⟨e1,σ1⟩,h1,h2⟩:=h;split at h2
 ·simp only [T.run,Option.some.injEq,Prod.mk.injEq] at h2;obtain ⟨-,rfl⟩:=h2;exact xnc h1
 ·simp only [T.run,Option.some.injEq,Prod.mk.injEq] at h2;obtain ⟨-,rfl⟩:=h2;exact xnc (σ':=σ1) h1
section
variable {C:Cfg} (hC:∀ t Y,C.ty t=some Y->xcc C.P t=some Y) {tab:Tab} {n:Nat} (hS:xk4 C tab n) (hY:∀ Y,tab.y=some Y->YOK Y)
variable {S:Type} {H:Option (Hd S)} {P:Nat->S->Prop} {Lg:List (List D)} (hcs:xfk tab.y tab.q H P Lg)
include hC hS hY hcs
theorem xGx {ops:Array Oper} {o:Oper} {σ σ':SSt} {e:Ex} {τ:St} (h:(xzc C tab ops o σ).run=some (e,σ')) (hp:σ'.log <+: Lg) (hr:SSR σ τ) {s:S} (hs:P σ.log.length s):∃ τ' s',xzd C (xbv C n) H ops o τ s=some (e,τ',s')/\P σ'.log.length s'/\SSR σ' τ':=by
 unfold xzc at h;rw [T.run_bind,Option.bind_eq_some_iff] at h;obtain ⟨⟨w,ts'⟩,hw,h⟩:=h;obtain ⟨hw1,hw2⟩:=xyz hw hr.1;unfold xzd;rw [hw1];cases w with
 | false=>
   simp only [T.run,Option.some.injEq,Prod.mk.injEq] at h;obtain ⟨rfl,rfl⟩:=h;exact ⟨_,s,rfl,hs,xiz hw2 _ xBr,hr.2⟩
 | true=>
   simp only [T.run_bind,Option.bind_eq_some_iff] at h;obtain ⟨ms,hms,r,hra,h⟩:=h;simp only [T.run,Option.some.injEq,Prod.mk.injEq] at h;obtain ⟨rfl,rfl⟩:=h
   -- the guard's slot reads as before
   obtain ⟨m,hm,hmr⟩:=xDr hC (xmu hw2) hms;obtain ⟨r',hr',hrs,hrr⟩:=xym hS hY hcs hr.2.2 hra hp hmr hs;rw [hr.2.1] at hr';simp only [hm,hr'];refine ⟨_,_,by rw [xwh hmr hrr.v],hrs,xiz hw2 _ (xZd hmr hrr.v),?_⟩;simp only;rw [hr.2.1];exact HR.puts _ (HR.ups hr.2 hrr.ups) hrr.len hrr.news
omit hC hS hY hcs in
theorem xyq (ms:List Nat):UR (ms.map fun i=>(i,none)) (ms.map fun i=>(i,none)):=by
 induction ms with
 | nil=>simp only [List.map_nil,UR]
 | cons m ms ih=>
   simp only [List.map_cons,UR];exact ⟨_,_,rfl,rfl,trivial,ih⟩
omit hC hS hY hcs in
theorem xCx {ls:Nat->Option SB} {l:Nat->Option Blk} (hl:∀ i,OR (ls i) (l i)):∀ {cs:List SV} {vs:List AV},VRL cs vs->(∀ c∈cs.flatMap (xsn ls xak),c=true)->VRL (cs.map (xg0 ls xak)) (vs.map (fzk l xak))
 | [],vs,h,_=>by simp only [VRL] at h;subst h;exact xbt
 | c :: cs,vs,h,hn=>by
   simp only [VRL] at h;obtain ⟨v,r,rfl,h1,h2⟩:=h;exact xa1 (xCj hl xak c v h1 fun d hd=>hn d (by rw [List.flatMap_cons,List.mem_append];exact .inl hd)) (xCx hl h2 fun d hd=>hn d (by rw [List.flatMap_cons,List.mem_append];exact .inr hd))
omit hC hS hY hcs in
theorem xIe:∀ {vs:List SV} {ks:List K},xIf vs=some ks->ks.length=vs.length
 | [],ks,h=>by simp only [xIf,Option.some.injEq] at h;subst h;rfl
 | v :: vs,ks,h=>by
   simp only [xIf] at h;split at h
   ·rename_i k kr h1 h2;cases h;simp [xIe h2]
   ·cases h
omit hC hS hY hcs in
theorem xIs {look:Nat->Option Blk} {f:Nat}:∀ {a:KA} {q:Nat} {c:List D} {v:AV},xfz a q c v->fzk look (f+1) v=v
 | .nil,_,_,_,h=>by simp only [xfz] at h
 | .cons t ks r,q,c,v,h=>by
   simp only [xfz] at h;rcases h with ⟨-,-,vs,rfl,-⟩ | ⟨-,h⟩
   ·simp only [fzk]
   ·exact xIs h
omit hC hS hY hcs in
theorem xU3 {look:Nat->Option Blk} {k:K} {d:D} {v:AV} (h:xb3 k d v):fzk look xak v=v:=by
 show fzk look (11+1) v=v;cases k with
 | int k=>simp only [xb3] at h;subst h;simp only [fzk]
 | bool=>simp only [xb3] at h;subst h;simp only [fzk]
 | ro ks=>
   simp only [xb3] at h;rcases h with ⟨rfl,-⟩ | ⟨kd,c0,es,rfl,-⟩
   ·simp only [fzk]
   ·simp only [fzk]
 | opt ks=>
   simp only [xb3] at h;rcases h with ⟨-,rfl⟩ | ⟨kd,vs,c,r,-,rfl,-⟩
   ·simp only [fzk]
   ·simp only [fzk]
 | alt a=>
   simp only [xb3] at h;exact xIs h
omit hC hS hY hcs in
theorem xyh {look:Nat->Option Blk}:∀ {ks:List K} {c:List D} {j:Nat} {e:List AV},xaz ks c j e->e.map (fzk look xak)=e
 | [],_,_,e,h=>by simp only [xaz] at h;subst h;rfl
 | k :: ks,c,j,e,h=>by
   simp only [xaz] at h;obtain ⟨v,vs,rfl,h1,h2⟩:=h;rw [List.map_cons,xU3 h1,xyh h2]
omit hC hS hY hcs in
theorem xYw {σ σ':SSt} {τ:St} {t:Nat} (h:(xIu σ t).run=some σ') (hr:SSR σ τ):SSR σ' (fzI τ t):=by
 have hv:VR ((σ.tmps[t]?).getD .und) ((τ.tmps[t]?).getD .und):=by
  cases e1:σ.tmps[t]? with
  | none=>
    rw [xs2 hr.1 e1];simp only [Option.getD_none,VR]
  | some c=>
    obtain ⟨v,h3,h4⟩:=xd4 hr.1 e1;rw [h3];exact h4
 unfold xIu at h;split at h
 case h_2=>cases h
 rename_i i s0 n he;rw [he] at hv;simp only [VR] at hv;obtain ⟨cap,hv⟩:=hv;split at h
 case h_4=>cases h
 case h_3=>
  rename_i ks l q cs hs;split at h
  ·cases h
  rename_i hcond;obtain ⟨hneed,h⟩:=T.run_needs _ _ _ h;split at h
  case h_2=>cases h
  rename_i d hd;simp only [T.run,Option.some.injEq] at h;subst h;have hO:=hr.2.2 i;rw [hs] at hO;obtain ⟨B,hB,hBR⟩:=xbm hO;obtain ⟨s2,es2,fl,rfl⟩:=xce hBR;have hR:HoleR true ks l q cs s2 es2 fl:=hBR;obtain ⟨e1,henc⟩:=hR.enc rfl;rw [Bool.or_eq_true,not_or] at hcond;obtain ⟨hc1,hc2⟩:=hcond;have hq:es2[q]?=some (es2[q]'(by have:=hR.len;have:=hR.lt;omega)):=List.getElem?_eq_getElem _;have hvq:=hR.own _ hq;have hM:xhs σ [cs]=xjq τ es2:=by
   unfold xhs xjq;rw [xqm hq fun i x hi hx=>List.flatMap_eq_nil_iff.2 fun v hv=>hR.no i x hi hx v hv xak,xle hvq,List.flatMap_cons,List.flatMap_nil,List.append_nil];exact (xid hr.2.2 _ _ _).symm
  have hflf:fl=false:=by
   cases hf:fl with
   | false=>rfl
   | true=>
     exfalso;apply hc2;rw [List.all_eq_true];intro v hvv;obtain ⟨j,hj,rfl⟩:=List.mem_iff_getElem.1 hvv;obtain ⟨u,hu,hvu⟩:=xd4 hvq (List.getElem?_eq_getElem hj);have:=hR.flat hf _ (List.mem_of_getElem? hq) u (List.mem_of_getElem? hu) xak;rw [xne xak _ _ hvu] at this;rw [this];rfl
  subst hflf;have hl:∀ i,OR (if (xhs σ [cs]).contains i then xbz σ.h i else none) (if (xjq τ es2).contains i then xag τ.h i else none):=fun i=>by
   rw [hM];split
   ·exact hr.2.2 i
   ·trivial
  have hc1':(xjq τ es2).contains i=false:=by rw [<- hM];simpa using hc1
  have hfz:fzI τ t={ τ with h:=xcn (xb7 τ.h i (some (.row s2 (xmq τ es2) false))) ((xjq τ es2).map fun i=>(i,none)) }:=by
   unfold fzI;rw [hv];simp only [hB,hc1',Bool.false_eq_true,if_false]
  rw [hfz];refine ⟨hr.1,?_⟩;show HR (xj9 (xhw σ.h i (some (.row ks (l.set q d)))) ((xhs σ [cs]).map fun i=>(i,none))) _;rw [hM] at hd ⊢;refine HR.ups (HR.set hr.2 i ⟨e1,?_⟩) (xyq _);unfold xmq;refine xyg (by rw [List.length_map];exact hR.len) (fun k e c hk he hc=>?_) fun e he=>?_
  ·rw [List.getElem?_map,Option.map_eq_some_iff] at he;obtain ⟨e0,he0,rfl⟩:=he;have:=henc k e0 c hk he0 hc;rw [xyh this];exact this
  ·rw [List.getElem?_map,Option.map_eq_some_iff] at he;obtain ⟨e0,he0,rfl⟩:=he;rw [hM] at hl hneed;exact xgj hd (xCx hl (hR.own e0 he0) hneed) fun i d h=>by simpa using h
 case h_2=>
  rename_i ks l hs;simp only [T.run,Option.some.injEq] at h;subst h;unfold fzI;rw [hv];simp only;have hO:=hr.2.2 i;rw [hs] at hO;obtain ⟨B,hB,hBR⟩:=xbm hO;rw [hB];split
  case h_2=>exact hr
  rename_i s2 es2 hBe;cases hBe;split
  ·exact hr
  obtain ⟨e1,hE⟩:=hBR;have h0:xjq τ es2=[]:=by
   unfold xjq;have:(es2.flatMap fun e=>e.flatMap (ids xak))=[]:=by
    rw [List.flatMap_eq_nil_iff];intro e he;rw [List.flatMap_eq_nil_iff];intro v hv;exact xj7 hE e he v hv xak
   rw [this];rfl
  have hi:i<τ.h.length:=by
   by_cases hi:i<τ.h.length
   ·exact hi
   ·unfold xag at hB;rw [List.getElem?_eq_none (by omega)] at hB;cases hB
  refine ⟨hr.1,?_⟩;show HR σ.h (xcn (xb7 τ.h i (some (.row s2 (xmq τ es2) false))) ((xjq τ es2).map fun i=>(i,none)));rw [h0];show HR σ.h (xb7 τ.h i (some (.row s2 (xmq τ es2) false)));refine ⟨by rw [xeq,hr.2.1];omega,fun j=>?_⟩;rw [xci];split
  ·rename_i e;subst e;rw [hs];refine ⟨e1,?_⟩;unfold xmq;exact xs5 hE fun c e he=>by rw [xyh he];exact he
  ·exact hr.2.2 j
 rename_i s1 es hs;split at h
 ·cases h
 rename_i hcond;obtain ⟨hneed,h⟩:=T.run_needs _ _ _ h;split at h
 case h_2=>cases h
 rename_i p hp;simp only [T.run,Option.some.injEq] at h;subst h;have hO:=hr.2.2 i;rw [hs] at hO;obtain ⟨B,hB,hBR⟩:=xbm hO;cases B with
 | map kvs=>exact hBR.elim
 | row s2 es2 fl=>
   obtain ⟨e1,hLL,hlen,hfl⟩:=hBR;subst e1;rw [Bool.or_eq_true,not_or] at hcond;obtain ⟨hc1,hc2⟩:=hcond;have hM:xhs σ es=xjq τ es2:=by
    unfold xhs xjq;rw [<- xmb.ids hLL];exact (xid hr.2.2 _ _ _).symm
   have hflf:fl=false:=by
    cases hf:fl with
    | false=>rfl
    | true=>
      exfalso;apply hc2;rw [List.all_eq_true];intro e hee;rw [List.all_eq_true];intro v hvv;obtain ⟨k,hk,rfl⟩:=List.mem_iff_getElem.1 hee;have hk2:k<es2.length:=by rw [<- hLL.1];exact hk
      have hVR:=hLL.2 k es[k] es2[k] (List.getElem?_eq_getElem hk) (List.getElem?_eq_getElem hk2);obtain ⟨j,hj,rfl⟩:=List.mem_iff_getElem.1 hvv;obtain ⟨u,hu,hvu⟩:=xd4 hVR (List.getElem?_eq_getElem hj);have hmem:u∈es2[k]:=List.mem_of_getElem? hu;have:=hfl hf es2[k] (List.getElem_mem hk2) u hmem xak;rw [xne xak _ _ hvu] at this;rw [this];rfl
   subst hflf;have hl:∀ i,OR (if (xhs σ es).contains i then xbz σ.h i else none) (if (xjq τ es2).contains i then xag τ.h i else none):=fun i=>by
    rw [hM];split
    ·exact hr.2.2 i
    ·trivial
   have hc1':(xjq τ es2).contains i=false:=by rw [<- hM];simpa using hc1
   have hfz:fzI τ t={ τ with h:=xcn (xb7 τ.h i (some (.row s2 (xmq τ es2) false))) ((xjq τ es2).map fun i=>(i,none)) }:=by
    unfold fzI;rw [hv];simp only [hB,hc1',Bool.false_eq_true,if_false]
   rw [hfz];refine ⟨hr.1,?_⟩;show HR (xj9 (xhw σ.h i (some (.row p.1 p.2))) ((xhs σ es).map fun i=>(i,none))) _;rw [hM];refine HR.ups (HR.set hr.2 i ?_) (xyq _);have hL2:∀ (k:Nat) v e,(xwc σ es)[k]?=some v->(xmq τ es2)[k]?=some e->VRL v e:=fun k v e h1 h2=>by
    unfold xwc at h1;unfold xmq at h2;rw [List.getElem?_map,Option.map_eq_some_iff] at h1 h2;obtain ⟨c,h3,rfl⟩:=h1;obtain ⟨d,h4,rfl⟩:=h2;exact xCx hl (hLL.2 k c d h3 h4) fun x hx=>hneed x (by rw [List.mem_flatMap];exact ⟨c,List.mem_of_getElem? h3,hx⟩)
   rw [Option.bind_eq_some_iff] at hp;obtain ⟨ks,hks,hp⟩:=hp;rw [Option.map_eq_some_iff] at hp;obtain ⟨l,hl',rfl⟩:=hp;refine ⟨?_,xtm hl' (by unfold xwc xmq;rw [List.length_map,List.length_map];exact hLL.1) hL2⟩;have hne:es≠[]:=fun e=>hc2 (by rw [e];rfl)
   cases hes:es with
   | nil=>exact absurd hes hne
   | cons c0 cr=>
     have h0:ks.length=c0.length:=by
      have:=xIe hks;unfold xwc at this;rw [hes] at this;simpa using this
     have hk2:0<es2.length:=by rw [<- hLL.1,hes];simp
     have hVR:=hLL.2 0 c0 es2[0] (by rw [hes];rfl) (List.getElem?_eq_getElem hk2);have hl0:=hlen es2[0] (List.getElem_mem hk2);rw [h0,<- hl0];exact (xa4 hVR).symm
omit hC hS hY hcs in
theorem xBu {σ:SSt} {τ:St} (hr:SSR σ τ) (t:Nat):VR ((σ.tmps[t]?).getD .und) ((τ.tmps[t]?).getD .und):=by
 cases e1:σ.tmps[t]? with
 | none=>
   rw [xs2 hr.1 e1];simp only [Option.getD_none,VR]
 | some c=>
   obtain ⟨v,h3,h4⟩:=xd4 hr.1 e1;rw [h3];exact h4
omit hC hS hY hcs in
theorem xLu {σ σ':SSt} {τ:St} {t:Nat} (h1:(xCk σ t).run=some σ') (hr:SSR σ τ):SSR σ' (fzT τ t):=by
 unfold xCk at h1;obtain ⟨hneed,h1⟩:=T.run_needs _ _ _ h1;simp only [T.run,Option.some.injEq] at h1;subst h1;have hv:=xBu hr t;have hM:xCl σ t=fzM τ t:=by
  unfold xCl fzM;rw [xne xak _ _ hv];exact (xid hr.2.2 _ _ _).symm
 have hl:∀ i,OR (if (xCl σ t).contains i then xbz σ.h i else none) (if (fzM τ t).contains i then xag τ.h i else none):=fun i=>by
  rw [hM];split
  ·exact hr.2.2 i
  ·trivial
 exact ⟨xwq t hr.1 (xCj hl xak _ _ hv hneed),by rw [hM];exact HR.ups hr.2 (xyq _)⟩
omit hC hS hY hcs in
theorem xYy {σ σ':SSt} {τ:St} {c:Nat} (h:(xOz σ c).run=some σ') (hr:SSR σ τ):SSR σ' (fzC τ c):=by
 have e1:=xBu hr (c / 1000 % 1000);have e2:=xBu hr (c / 1000000);unfold xOz at h;unfold fzC xWo;split at h
 ·rename_i k a k' b g1 g2;rw [g1] at e1;rw [g2] at e2;simp only [VR] at e1 e2;rw [e1,e2];simp only [T.run] at h;split at h
  ·rename_i hc;simp only [Option.some.injEq] at h;subst h;simp only [hc,if_true];exact hr
  ·rename_i hc;simp only [hc];exact xLu h hr
 ·cases h
omit hC hS hY hcs in
theorem xwb:∀ {l:List Nat} {σ σ':SSt} {τ:St},(xuv l σ).run=some σ'->SSR σ τ->SSR σ' (fzL l τ)/\σ'.log=σ.log
 | [],σ,σ',τ,h,hr=>by
   simp only [xuv,T.run,Option.some.injEq] at h;subst h;exact ⟨hr,rfl⟩
 | t :: l,σ,σ',τ,h,hr=>by
   refine ⟨?_,xpc h⟩;simp only [xuv,T.run_bind,Option.bind_eq_some_iff] at h;obtain ⟨σ1,h1,h2⟩:=h;unfold fzL;split at h1
   ·rename_i hlt;rw [if_pos hlt];exact (xwb (l:=l) h2 (xLu h1 hr)).1
   ·rename_i hge;rw [if_neg hge];split at h1
    ·rename_i hlt;rw [if_pos hlt];exact (xwb (l:=l) h2 (xYw h1 hr)).1
    ·rename_i hge2;rw [if_neg hge2];exact (xwb (l:=l) h2 (xYy h1 hr)).1
theorem xxu {ops:Array Oper}:∀ {l:List Oper} {σ σ':SSt} {e:Ex} {τ:St},(xry C tab ops l σ).run=some (e,σ')->σ'.log <+: Lg->SSR σ τ->∀ {s:S},P σ.log.length s->∃ τ' s',xnq C (xbv C n) H ops l τ s=some (e,τ',s')/\P σ'.log.length s'/\SSR σ' τ'
 | [],σ,σ',e,τ,h,_,hr,s,hs=>by
   simp only [xry,T.run,Option.some.injEq,Prod.mk.injEq] at h;obtain ⟨rfl,rfl⟩:=h;exact ⟨τ,s,rfl,hs,hr⟩
 | o :: l,σ,σ',e,τ,h,hp,hr,s,hs=>by
   simp only [xry,T.run_bind,Option.bind_eq_some_iff] at h;obtain ⟨σ0,h0,⟨e1,σ1⟩,h1,h2⟩:=h;obtain ⟨hr,hlg⟩:=xwb h0 hr;rw [<- hlg] at hs;cases e1 with
   | normal=>
     obtain ⟨τ1,s1,h3,hs1,h4⟩:=xGx hC hS hY hcs h1 ((xos h2).trans hp) hr hs;obtain ⟨τ2,s2,h5,hs2,h6⟩:=xxu (l:=l) h2 hp h4 hs1;exact ⟨τ2,s2,by simp only [xnq,h3,h5],hs2,h6⟩
   | _ =>
     simp only [T.run,Option.some.injEq,Prod.mk.injEq] at h2;obtain ⟨rfl,rfl⟩:=h2;obtain ⟨τ1,s1,h3,hs1,h4⟩:=xGx hC hS hY hcs h1 hp hr hs;exact ⟨τ1,s1,by simp only [xnq,h3],hs1,h4⟩
omit hC hS hY hcs in
theorem xzm {x:SV} {a:AV} (h:VR x a):sid a=xG9 x:=by
 cases x <;> simp only [VR] at h
 case any=>cases a <;> first | rfl | (have:=h 1;simp [ids] at this)
 case agg=>obtain ⟨_,rfl,_⟩:=h;rfl
 case tup=>obtain ⟨_,rfl,_⟩:=h;rfl
 case eptr=>obtain ⟨_,_,rfl,_⟩:=h;rfl
 case ro=>rcases h with ⟨rfl,_⟩ | ⟨_,_,_,rfl,_⟩ <;> rfl
 case emp=>rcases h with rfl | rfl <;> rfl
 case sl=>obtain ⟨_,rfl⟩:=h;rfl
 case sub=>obtain ⟨_,rfl⟩:=h;rfl
 case fn=>obtain ⟨_,_,rfl,_⟩:=h;rfl
 case ifc=>obtain ⟨_,rfl,_⟩:=h;rfl
 case opt=>rcases h with ⟨_,rfl⟩ | ⟨_,_,_,_,_,rfl,_⟩ <;> rfl
 case alt=>obtain ⟨_,_,rfl⟩:=xjv h;rfl
 all_goals (subst h;rfl)
omit hC hS hY hcs in
theorem xS5 {ms:MS} {m:MA} (h:MR ms m):xbp C m=xgi C ms:=by
 cases ms <;> simp only [MR] at h
 case pure=>obtain ⟨_,rfl,_⟩:=h;rfl
 case newbox=>obtain ⟨_,rfl,_⟩:=h;rfl
 case newrow=>obtain ⟨_,_,rfl,_⟩:=h;rfl
 case newe=>subst h;rfl
 case newlst=>obtain ⟨_,rfl,_⟩:=h;rfl
 case load=>subst h;rfl
 case store=>obtain ⟨_,rfl,_⟩:=h;rfl
 case loadx=>obtain ⟨_,rfl⟩:=h;rfl
 case storex=>obtain ⟨_,rfl,_⟩:=h;rfl
 case append=>obtain ⟨_,_,rfl,h1,h2,_⟩:=h;simp only [xbp,xgi,xzm h1,xzm h2]
 case copy=>obtain ⟨_,_,rfl,h1,h2⟩:=h;simp only [xbp,xgi,xzm h1,xzm h2]
 case call=>obtain ⟨_,rfl,_⟩:=h;rfl
 case callp=>obtain ⟨_,rfl,_⟩:=h;rfl
 case yld=>obtain ⟨_,rfl,_⟩:=h;rfl
 case pan=>subst h;rfl
 case newm=>obtain ⟨rfl,_⟩:=h;rfl
 case mlen=>subst h;rfl
 case mget=>obtain ⟨_,_,rfl,_⟩:=h;rfl
 case mset=>obtain ⟨_,_,rfl,_⟩:=h;rfl
 case mdel=>obtain ⟨_,rfl,_⟩:=h;rfl
theorem xpn {ops:Array Oper} {deps:Array Nat} {m:Nat}:∀ {l:List (Oper×Nat)} {done:List Done} {σ σ':SSt} {e:Ex} {τ:St},(xn2 C tab ops deps m l done σ).run=some (e,σ')->σ'.log <+: Lg->SSR σ τ->∀ {s:S},P σ.log.length s ->
    ∃ τ' s',xrz C (xbv C n) H ops deps m l done τ s=some (e,τ',s')/\P σ'.log.length s'/\SSR σ' τ'
 | [],done,σ,σ',e,τ,h,_,hr,s,hs=>by
   simp only [xn2,T.run,Option.some.injEq,Prod.mk.injEq] at h;obtain ⟨rfl,rfl⟩:=h;exact ⟨τ,s,rfl,hs,hr⟩
 | (o, i) :: l,done,σ,σ',e,τ,h,hp,hr,s,hs=>by
   unfold xn2 at h;rw [T.run_bind,Option.bind_eq_some_iff] at h;obtain ⟨⟨w,ts'⟩,hw,h⟩:=h;obtain ⟨hw1,hw2⟩:=xyz hw hr.1;unfold xrz;rw [hw1];cases w with
   | false=>exact xpn (l:=l) (σ:={ tmps:=xkt o.dst .und ts',h:=σ.h,log:=σ.log }) (τ:={ τ with tmps:=put o.dst .und τ.tmps }) h hp ⟨xiz hw2 _ xBr,hr.2⟩ hs
   | true =>
     simp only [T.run_bind,Option.bind_eq_some_iff] at h;obtain ⟨ms,hms,h⟩:=h;obtain ⟨ma,hm,hmr⟩:=xDr hC (xmu hw2) hms;simp only [hm];have ht:=xS5 (C:=C) hmr;rw [ht];split at h
     ·cases h
     rename_i hcl;rw [if_neg hcl];simp only [T.run_bind,Option.bind_eq_some_iff] at h;obtain ⟨r,hra,h⟩:=h;have hlook:∀ id,OR (if xfl m done (deps.getD i 0) id && (decide ((xgi C ms).cls=3\/(xgi C ms).cls=4) || (xgi C ms).is.contains id) then xbz σ.h id else none)
         (if xfl m done (deps.getD i 0) id && (decide ((xgi C ms).cls=3\/(xgi C ms).cls=4) || (xgi C ms).is.contains id) then xag τ.h id else none):=fun id=>by
      split
      ·exact hr.2.2 id
      ·trivial
     cases hex:exS ms r.1.v with
     | normal=>
       simp only [hex] at h;obtain ⟨r',hr',hrs,hrr⟩:=xym hS hY hcs hlook hra ((xnc (l:=l) h).trans hp) hmr hs;rw [hr.2.1] at hr';simp only [hr',xwh hmr hrr.v,hex];have:=xpn (l:=l) (τ:={ tmps:=put o.dst r'.v τ.tmps,h:=xdn (xcn τ.h r'.ups) τ.h.length r'.news }) h hp ⟨xiz hw2 _ hrr.v,by
        simp only;rw [hr.2.1];exact HR.puts _ (HR.ups hr.2 hrr.ups) hrr.len hrr.news⟩ hrs
       rw [hr.2.1,hrr.len] at this;exact this
     | _ =>
       simp only [hex] at h;split at h
       case isFalse=>cases h
       rename_i hc;simp only [T.run,Option.some.injEq,Prod.mk.injEq] at h;obtain ⟨rfl,rfl⟩:=h;obtain ⟨r',hr',hrs,hrr⟩:=xym hS hY hcs hlook hra hp hmr hs;rw [hr.2.1] at hr';simp only [hr',xwh hmr hrr.v,hex,if_pos hc];refine ⟨_,_,rfl,hrs,xiz hw2 _ hrr.v,?_⟩;simp only;rw [hr.2.1];exact HR.puts _ (HR.ups hr.2 hrr.ups) hrr.len hrr.news
omit hC hS hY hcs in
theorem xw0:∀ (l:List Oper) {ts:List SV} {as:List AV},VRL ts as->VRL (xGw l ts) (xqu l as)
 | [],_,_,h=>h
 | o::l,_,_,h=>xw0 l (xiz h o.dst xL7)
theorem xSi {ops:Array Oper} {σ σ':SSt} {e:Ex} {τ:St} (h:(xA9 C tab ops σ).run=some (e,σ')) (hp:σ'.log <+: Lg) (hr:SSR σ τ) {s:S} (hs:P σ.log.length s) :
    ∃ τ' s',xwi C (xbv C n) H ops τ s=some (e,τ',s')/\P σ'.log.length s'/\SSR σ' τ':=by
 unfold xA9 at h;rw [T.run_bind,Option.bind_eq_some_iff] at h;obtain ⟨⟨e1,σ1⟩,h1,h2⟩:=h;unfold xwi;cases e1 with
 | normal=>
   simp only [T.run,Option.some.injEq,Prod.mk.injEq] at h2;obtain ⟨rfl,rfl⟩:=h2;obtain ⟨τ',s',h3,hs',h4⟩:=xpn hC hS hY hcs h1 hp hr hs;rw [hr.2.1] at h3;exact ⟨τ',s',by simp only [h3],hs',h4⟩
 | _ =>
   simp only [T.run,Option.some.injEq,Prod.mk.injEq] at h2;obtain ⟨rfl,rfl⟩:=h2;obtain ⟨τ',s',h3,hs',h4⟩:=xpn hC hS hY hcs h1 hp hr hs;have h3':=h3;rw [hr.2.1] at h3;refine ⟨_,_,by simp only [h3] <;> rfl,hs',xw0 _ hr.1,?_⟩;simp only;rw [hr.2.1,h4.2.1];refine ⟨by simp [hr.2.1],fun i=>?_⟩;have e1:xbz (σ.h++List.replicate (τ'.h.length - τ.h.length) none) i=xbz σ.h i:=by
    unfold xbz;rw [List.getElem?_append];split
    ·rfl
    ·rename_i hlt;rw [List.getElem?_replicate,List.getElem?_eq_none (by omega)];split <;> rfl
   have e2:xag (τ.h++List.replicate (τ'.h.length - τ.h.length) none) i=xag τ.h i:=by
    unfold xag;rw [List.getElem?_append];split
    ·rfl
    ·rename_i hlt;rw [List.getElem?_replicate,List.getElem?_eq_none (by omega)];split <;> rfl
   rw [e1,e2];exact hr.2.2 i
omit hC hS hY hcs in
def xh7 (C:Cfg) (n k:Nat) (f:FuncId) (c:Code) (Y:Option YS) (q:Nat) (L:SSt->T (Ex×SSt)):Prop:=∀ σ e σ',(L σ).run=some (e,σ')->σ.log <+: σ'.log/\∀ τ,SSR σ τ->∀ (S:Type) (H:Option (Hd S)) (P:Nat->S->Prop) (Lg:List (List D)),xfk Y q H P Lg->σ'.log <+: Lg->∀ s,P σ.log.length s ->
 ∃ τ' s',xbs C (xbv C n) f k H c τ s=some (e,τ',s')/\P σ'.log.length s'/\SSR σ' τ'
omit hC hS hY hcs in
abbrev xfy (C:Cfg) (n k:Nat) (f:FuncId) (b:Code) (Y:Option YS) (q:Nat) (L:SSt->T (Ex×SSt)):Prop:=xh7 C n k f (.loop b) Y q L
omit hC hS hY hcs in
abbrev xb0 (C:Cfg) (n k:Nat) (f:FuncId) (b:Code) (L:SSt->T (Ex×SSt)):Prop:=xfy C n k f b none 0 L
omit hC hS hY hcs in
abbrev xct (C:Cfg) (n:Nat) (f:FuncId) (b:Code) (L:SSt->T (Ex×SSt)):Prop:=xb0 C n 0 f b L
omit hC hS hY hcs in
def xbf (C:Cfg) (tab:Tab) (n k:Nat) (f:FuncId):Code->Prop
 | .loop b=>∀ L,tab.lp f (xbn b)=some L->xh7 C n k f (.loop b) tab.y tab.q L
 | .rangeFunc g ps a b=>∀ L,tab.rg f (xbn b)=some L->xh7 C n k f (.rangeFunc g ps a b) tab.y tab.q L
 | .seq a b=>xbf C tab n k f a/\xbf C tab n k f b
 | .cond _ a b=>xbf C tab n k f a/\xbf C tab n k f b
 | .block _ b=>xbf C tab n k f b
 | .scope b=>xbf C tab n k f b
 | _=>True
omit hC hS hY hcs in
abbrev xMd (C:Cfg) (tab:Tab) (n:Nat) (f:FuncId) (c:Code):Prop:=xbf C tab n 0 f c
omit hC hS hY hcs in
theorem xkz {f:FuncId} {k:Nat}:∀ (c:Code),xbf C tab n k f c->∀ {σ σ':SSt} {e:Ex},(xca C tab f c σ).run=some (e,σ')->σ.log <+: σ'.log:=by
 intro c;induction c with
 | skip=>
   intro _ σ σ' e h;simp only [xca,T.run,Option.some.injEq,Prod.mk.injEq] at h;obtain ⟨rfl,rfl⟩:=h;exact List.prefix_refl _
 | label l=>
   intro _ σ σ' e h;simp only [xca,T.run,Option.some.injEq,Prod.mk.injEq] at h;obtain ⟨rfl,rfl⟩:=h;exact List.prefix_refl _
 | region id ops draw=>
   intro _ σ σ' e h;simp only [xca] at h;cases draw with
   | true=>exact xSj h
   | false=>exact xos h
 | seq a b iha ihb=>
   intro hl σ σ' e h;simp only [xbf] at hl;simp only [xca,T.run_bind,Option.bind_eq_some_iff] at h;obtain ⟨⟨e1,σ1⟩,h1,h2⟩:=h;refine (iha hl.1 h1).trans ?_;cases e1 with
   | normal=>exact ihb hl.2 h2
   | exit id=>
     simp only [T.run,Option.some.injEq,Prod.mk.injEq] at h2;obtain ⟨rfl,rfl⟩:=h2;exact List.prefix_refl _
   | ret=>
     simp only [T.run,Option.some.injEq,Prod.mk.injEq] at h2;obtain ⟨rfl,rfl⟩:=h2;exact List.prefix_refl _
   | pan t=>
     simp only [T.run,Option.some.injEq,Prod.mk.injEq] at h2;obtain ⟨rfl,rfl⟩:=h2;exact List.prefix_refl _
 | cond c a b iha ihb=>
   intro hl σ σ' e h;simp only [xbf] at hl;simp only [xca] at h;split at h
   ·rename_i t ht;simp only [T.run] at h;cases t with
    | true=>exact iha hl.1 (by simpa using h)
    | false=>exact ihb hl.2 (by simpa using h)
   ·rename_i t ht;cases t with
    | true=>exact iha hl.1 h
    | false=>exact ihb hl.2 h
   ·cases h
 | block id b ih=>
   intro hl σ σ' e h;simp only [xbf] at hl;simp only [xca,T.run_bind,Option.bind_eq_some_iff] at h;obtain ⟨⟨e1,σ1⟩,h1,h2⟩:=h;refine (ih hl h1).trans ?_;cases e1 <;> simp only [T.run,Option.some.injEq,Prod.mk.injEq] at h2 <;> obtain ⟨rfl,rfl⟩:=h2 <;> exact List.prefix_refl _
 | loop b ih=>
   intro hl σ σ' e h;simp only [xbf] at hl;simp only [xca] at h;split at h
   ·rename_i L hL;exact (hl L hL σ e σ' h).1
   ·cases h
 | scope b ih=>
   intro hl σ σ' e h;simp only [xbf] at hl;simp only [xca] at h;exact ih hl h
 | exit id=>
   intro _ σ σ' e h;simp only [xca,T.run,Option.some.injEq,Prod.mk.injEq] at h;obtain ⟨rfl,rfl⟩:=h;exact List.prefix_refl _
 | ret=>
   intro _ σ σ' e h;simp only [xca,T.run,Option.some.injEq,Prod.mk.injEq] at h;obtain ⟨rfl,rfl⟩:=h;exact List.prefix_refl _
 | rangeFunc g ps a b _ _=>
   intro hl σ σ' e h;simp only [xbf] at hl;simp only [xca] at h;split at h
   ·rename_i L hL;exact (hl L hL σ e σ' h).1
   ·cases h
 | goto l=>intro _ σ σ' e h;simp [xca,T.run] at h
 | refuse w=>intro _ σ σ' e h;simp [xca,T.run] at h
theorem xfw {f:FuncId} {k:Nat}:∀ (c:Code),xbf C tab n k f c->∀ {σ σ':SSt} {e:Ex} {τ:St},(xca C tab f c σ).run=some (e,σ')->σ'.log <+: Lg->SSR σ τ->∀ {s:S},P σ.log.length s->∃ τ' s',xbs C (xbv C n) f k H c τ s=some (e,τ',s')/\P σ'.log.length s'/\SSR σ' τ':=by
 intro c;induction c with
 | skip=>
   intro _ σ σ' e τ h hp hr s hs;simp only [xca,T.run,Option.some.injEq,Prod.mk.injEq] at h;obtain ⟨rfl,rfl⟩:=h;exact ⟨τ,s,rfl,hs,hr⟩
 | label l=>
   intro _ σ σ' e τ h hp hr s hs;simp only [xca,T.run,Option.some.injEq,Prod.mk.injEq] at h;obtain ⟨rfl,rfl⟩:=h;exact ⟨τ,s,rfl,hs,hr⟩
 | region id ops draw=>
   intro _ σ σ' e τ h hp hr s hs;simp only [xca] at h;cases draw with
   | true=>
     obtain ⟨τ',s',h3,hs',h4⟩:=xSi hC hS hY hcs h hp hr hs;exact ⟨τ',s',by simp only [xbs,if_true,h3],hs',h4⟩
   | false=>
     obtain ⟨τ',s',h3,hs',h4⟩:=xxu hC hS hY hcs h hp hr hs;exact ⟨τ',s',by simp only [xbs,Bool.false_eq_true,if_false,h3],hs',h4⟩
 | seq a b iha ihb=>
   intro hl σ σ' e τ h hp hr s hs;simp only [xbf] at hl;simp only [xca,T.run_bind,Option.bind_eq_some_iff] at h;obtain ⟨⟨e1,σ1⟩,h1,h2⟩:=h;cases e1 with
   | normal=>
     obtain ⟨τ1,s1,h3,hs1,h4⟩:=iha hl.1 h1 ((xkz b hl.2 h2).trans hp) hr hs;obtain ⟨τ2,s2,h5,hs2,h6⟩:=ihb hl.2 h2 hp h4 hs1;exact ⟨τ2,s2,by simp only [xbs,h3,h5],hs2,h6⟩
   | exit id=>
     simp only [T.run,Option.some.injEq,Prod.mk.injEq] at h2;obtain ⟨rfl,rfl⟩:=h2;obtain ⟨τ1,s1,h3,hs1,h4⟩:=iha hl.1 h1 hp hr hs;exact ⟨τ1,s1,by simp only [xbs,h3],hs1,h4⟩
   | ret=>
     simp only [T.run,Option.some.injEq,Prod.mk.injEq] at h2;obtain ⟨rfl,rfl⟩:=h2;obtain ⟨τ1,s1,h3,hs1,h4⟩:=iha hl.1 h1 hp hr hs;exact ⟨τ1,s1,by simp only [xbs,h3],hs1,h4⟩
   | pan t=>
     simp only [T.run,Option.some.injEq,Prod.mk.injEq] at h2;obtain ⟨rfl,rfl⟩:=h2;obtain ⟨τ1,s1,h3,hs1,h4⟩:=iha hl.1 h1 hp hr hs;exact ⟨τ1,s1,by simp only [xbs,h3],hs1,h4⟩
 | cond c a b iha ihb=>
   intro hl σ σ' e τ h hp hr s hs;simp only [xbf] at hl;have hc:=xmu hr.1 c;simp only [xca] at h;split at h
   ·rename_i t ht;rw [ht] at hc;simp only [VR] at hc;simp only [T.run] at h;cases t with
    | true=>
      obtain ⟨τ',s',h1,hs',h2⟩:=iha hl.1 (by simpa using h) hp hr hs;exact ⟨τ',s',by simp only [xbs,hc,if_true,h1],hs',h2⟩
    | false=>
      obtain ⟨τ',s',h1,hs',h2⟩:=ihb hl.2 (by simpa using h) hp hr hs;exact ⟨τ',s',by simp only [xbs,hc,Bool.false_eq_true,if_false,h1],hs',h2⟩
   ·rename_i t ht;rw [ht] at hc;simp only [VR] at hc;cases t with
    | true=>
      obtain ⟨τ',s',h1,hs',h2⟩:=iha hl.1 h hp hr hs;exact ⟨τ',s',by simp only [xbs,hc,if_true,h1],hs',h2⟩
    | false=>
      obtain ⟨τ',s',h1,hs',h2⟩:=ihb hl.2 h hp hr hs;exact ⟨τ',s',by simp only [xbs,hc,Bool.false_eq_true,if_false,h1],hs',h2⟩
   ·cases h
 | block id b ih=>
   intro hl σ σ' e τ h hp hr s hs;simp only [xbf] at hl;simp only [xca,T.run_bind,Option.bind_eq_some_iff] at h;obtain ⟨⟨e1,σ1⟩,h1,h2⟩:=h;have hlg:σ1.log=σ'.log:=by
    cases e1 <;> simp only [T.run,Option.some.injEq,Prod.mk.injEq] at h2 <;> obtain ⟨-,rfl⟩:=h2 <;> rfl
   obtain ⟨τ1,s1,h3,hs1,h4⟩:=ih hl h1 (by rw [hlg];exact hp) hr hs;cases e1 with
   | exit id'=>
     simp only [T.run,Option.some.injEq,Prod.mk.injEq] at h2;obtain ⟨rfl,rfl⟩:=h2;refine ⟨τ1,s1,?_,hs1,h4⟩;simp only [xbs,h3];split <;> rfl
   | normal=>
     simp only [T.run,Option.some.injEq,Prod.mk.injEq] at h2;obtain ⟨rfl,rfl⟩:=h2;exact ⟨τ1,s1,by simp only [xbs,h3],hs1,h4⟩
   | ret=>
     simp only [T.run,Option.some.injEq,Prod.mk.injEq] at h2;obtain ⟨rfl,rfl⟩:=h2;exact ⟨τ1,s1,by simp only [xbs,h3],hs1,h4⟩
   | pan t=>
     simp only [T.run,Option.some.injEq,Prod.mk.injEq] at h2;obtain ⟨rfl,rfl⟩:=h2;exact ⟨τ1,s1,by simp only [xbs,h3],hs1,h4⟩
 | loop b ih=>
   intro hl σ σ' e τ h hp hr s hs;simp only [xbf] at hl;simp only [xca] at h;split at h
   ·rename_i L hL;exact (hl L hL σ e σ' h).2 τ hr S H P Lg hcs hp s hs
   ·cases h
 | scope b ih=>
   intro hl σ σ' e τ h hp hr s hs;simp only [xbf] at hl;simp only [xca] at h;obtain ⟨τ',s',h1,hs',h2⟩:=ih hl h hp hr hs;exact ⟨τ',s',by simp only [xbs,h1],hs',h2⟩
 | exit id=>
   intro _ σ σ' e τ h hp hr s hs;simp only [xca,T.run,Option.some.injEq,Prod.mk.injEq] at h;obtain ⟨rfl,rfl⟩:=h;exact ⟨τ,s,rfl,hs,hr⟩
 | ret=>
   intro _ σ σ' e τ h hp hr s hs;simp only [xca,T.run,Option.some.injEq,Prod.mk.injEq] at h;obtain ⟨rfl,rfl⟩:=h;exact ⟨τ,s,rfl,hs,hr⟩
 | rangeFunc g ps a b _ _=>
   intro hl σ σ' e τ h hp hr s hs;simp only [xbf] at hl;simp only [xca] at h;split at h
   ·rename_i L hL;exact (hl L hL σ e σ' h).2 τ hr S H P Lg hcs hp s hs
   ·cases h
 | goto l=>intro _ σ σ' e τ h;simp [xca,T.run] at h
 | refuse w=>intro _ σ σ' e τ h;simp [xca,T.run] at h
end
theorem xuo (live:List Nat):∀ {ts:List SV} {as:List AV} (i:Nat),VRL ts as->VRL (xpy live i ts) (xii live i as)
 | [],_,i,h=>by simp only [VRL] at h;subst h;exact xbt
 | c :: cs,_,i,h=>by
   simp only [VRL] at h;obtain ⟨v,vs,rfl,h1,h2⟩:=h;simp only [xpy,xii];refine xa1 ?_ (xuo live (i+1) h2);split
   ·exact h1
   ·simp only [VR];exact xcq fun _=>rfl
theorem xEh {k:Nat} {vs:List SV} {as:List AV} {sh:xav} {h:xap} (hv:VRL vs as) (hh:HR sh h):xhd k as h=xwa k vs sh:=by
 unfold xhd xwa;simp only [xle hv,xid hh.2]
theorem xAt (kb ky:Bool) (R:List Nat) {sh:xav} {h:xap} (hh:HR sh h):HR (xrh kb ky R sh) (xpb kb ky R h):=by
 refine ⟨by simp [xrh,xpb],fun i=>?_⟩;unfold xrh xpb;simp only [xbz,xag,List.getElem?_map];cases hR:R[i]? with
 | none=>trivial
 | some m=>
   simp only [Option.map_some,Option.getD_some];have:=hh.2 m;simp only [xbz,xag] at this;cases e:(sh[m]?).getD none with
   | none=>rw [e] at this;rw [xws this];trivial
   | some b=>
     rw [e] at this;obtain ⟨B,hB,hr⟩:=xbm this;rw [hB];exact xLl kb ky _ hr
theorem xjf {k:Nat} {live:List Nat} {σ:SSt} {τ:St} (h:SSR σ τ):SSR (xf8 k live σ) (xig k live τ):=by
 have hk:=xuo live 0 h.1;have hg:=xEh (k:=k) hk h.2;unfold xf8 xig;simp only [hg];exact ⟨xg5 (xe1 true true _ xak) hk,xAt true true _ h.2⟩
theorem xIr {C:Cfg} {k:Nat} {f:FuncId} {b:Code} {σ:SSt} {τ:St} (h:SSR σ τ):SSR (xF6 C k f b σ) (xkx C k f b τ):=by
 unfold xF6 xkx;cases C.ann f (xbn b) with
 | none=>exact h
 | some live=>exact xjf h
section
variable {C:Cfg} (hC:∀ t Y,C.ty t=some Y->xcc C.P t=some Y) {tab:Tab} {n:Nat} (hS:xk4 C tab n) {f:FuncId}
include hC hS
omit hC hS in
def xbo (C:Cfg) (n:Nat) (f:FuncId) (F:List SV->T (SV×xav)):Prop:=∀ args v hb,(F args).run=some (v,hb)->∀ avs,VRL args avs ->
 ∃ v' h',xbv C n Unit none f avs [] ()=some (v',h',())/\VR v v'/\HR hb h'
omit hC hS in
theorem xOl {σ:SSt} {τ:St} (hr:HR σ.h τ.h) {c:SV} {a:AV} (hc:VR c a) {t:TypeId} {v:SV} (h:xH8 σ.h C c t=some v):∃ u,xAb τ.h C a t=some u/\VR v u:=by
 unfold xH8 at h;split at h
 ·rename_i ty i s q j hty;simp only [VR] at hc;subst hc;split at h
  ·rename_i cs hi;split at h
   ·rename_i hcond;obtain ⟨rfl,rfl⟩:=hcond;have:=hr.2 i;rw [hi] at this;obtain ⟨B,hB,hbr⟩:=xbm this;obtain ⟨s',es,fl,rfl⟩:=xce hbr;simp only [xa3] at hbr;obtain ⟨vs,rfl,rfl,hv,-⟩:=hbr;simp only [xAb,hty,hB,if_true,List.getElem?_cons_zero];split at h
    ·rename_i hag;rw [if_pos hag];split at h
     ·rename_i hle;cases h;rw [if_pos (by rw [<- xa4 hv];exact hle)];exact ⟨_,rfl,by simp only [VR];exact ⟨_,rfl,xdy _ (xcw _ hv)⟩⟩
     ·cases h
    ·rename_i hag;rw [if_neg hag];obtain ⟨u,hu,hr⟩:=xd4 hv h;exact ⟨u,hu,hr⟩
   ·cases h
  ·cases h
 ·cases h
omit hC hS in
theorem xIq {ts:List SV} {as:List AV} (h:VRL ts as) (t:Nat):VR ((ts[t]?).getD .und) ((as[t]?).getD .und):=by
 cases ht:ts[t]? with
 | none=>rw [xs2 h ht];simp only [Option.getD_none,VR]
 | some c=>
   obtain ⟨v,hv,hr⟩:=xd4 h ht;rw [hv];exact hr
omit hC hS in
theorem xls {σ:SSt} {τ:St} (hr:SSR σ τ):∀ (rs:List ResultVar) {vs:List SV},xje C σ rs=some vs->∃ us,xhj C τ rs=some us/\VRL vs us
 | [],vs,h=>by
   simp only [xje,Option.some.injEq] at h;subst h;exact ⟨[],rfl,xbt⟩
 | .tmp t::rs,vs,h=>by
   simp only [xje] at h;split at h
   ·rename_i vs' h';cases h;obtain ⟨us,h1,h2⟩:=xls hr rs h';exact ⟨_,by simp only [xhj,h1] <;> rfl,xa1 (xIq hr.1 t) h2⟩
   ·cases h
 | .cell a t::rs,vs,h=>by
   simp only [xje] at h;split at h
   ·rename_i v vs' hv h';cases h;obtain ⟨us,h1,h2⟩:=xls hr rs h';obtain ⟨u,h3,h4⟩:=xOl hr.2 (xIq hr.1 a) hv;exact ⟨_,by simp only [xhj,h1,h3] <;> rfl,xa1 h4 h2⟩
   ·cases h
omit hC hS in
theorem xLj {vs:List SV} {us:List AV} (h:VRL vs us):VR (xlw vs) (xha us):=by
 match vs,us,h with
 | [],us,h=>simp only [VRL] at h;subst h;simp only [xlw,xha,VR];exact ⟨[],rfl,xbt⟩
 | [v],us,h=>
   simp only [VRL] at h;obtain ⟨u,us',rfl,h1,rfl⟩:=h;simpa only [xlw,xha] using h1
 | v :: v'::vs,us,h=>
   have hh:=h;simp only [VRL] at h;obtain ⟨u,us',rfl,h1,u2,us2,rfl,h2,h3⟩:=h;simp only [xlw,xha,VR];exact ⟨_,rfl,hh⟩
omit hC hS in
theorem xin {f:FuncId} {k:Nat} {fn:Func} {σ:SSt} {τ:St} (hr:SSR σ τ) {v:SV} {hb:xav} (h:xky C f k fn σ=some (v,hb)):∃ v' h',xdj C f k fn τ=some (v',h')/\VR v v'/\HR hb h':=by
 unfold xky at h;split at h
 ·cases h
 rename_i vs hvs;split at h
 ·cases h
 rename_i hfz;cases h;rw [Bool.or_eq_true,not_or] at hfz;obtain ⟨us,h1,h2⟩:=xls hr _ hvs;have h3:=xLj h2;have hpn:¬ (xds (xha us)).isSome=true:=by rw [xJq h3];exact hfz.2
 have hg:=xEh (k:=k) (xa1 h3 xbt) hr.2;refine ⟨_,_,by simp only [xdj,h1,if_neg hpn,if_neg hfz.1] <;> rfl,?_,?_⟩
 ·rw [hg];exact xe1 true true _ xak _ _ h3
 ·rw [hg];exact xAt true true _ hr.2
omit hC hS in
theorem xKr {f:FuncId} {fn:Func} {σ:SSt} {τ:St} (hr:SSR σ τ) {v:SV} {hb:xav} (hz:C.frz f=true) (h:(xwe C fn σ).run=some (v,hb)):∃ v' h',xdj C f 0 fn τ=some (v',h')/\VR v v'/\HR hb h':=by
 unfold xwe at h;split at h
 ·cases h
 rename_i vs hvs;split at h
 ·cases h
 rename_i hfz;obtain ⟨hneed,h⟩:=T.run_needs _ _ _ h;cases h;obtain ⟨us,h1,h2⟩:=xls hr _ hvs;have h3:=xLj h2;have hpn:¬ (xds (xha us)).isSome=true:=by rw [xJq h3];exact hfz
 exact ⟨_,_,by simp only [xdj,h1,if_neg hpn,if_pos hz,if_true] <;> rfl,xri hr.2.2 xak _ _ h3 hneed,rfl,fun i=>by simp only [xbz,xag,List.getElem?_nil];trivial⟩
omit hC hS in
theorem xw9 {f:FuncId} {fn:Func} {σ:SSt} {τ:St} (hr:SSR σ τ) {v:SV} {hb:xav} (h:(if C.frz f then xwe C fn σ else T.ofO (xwf C f fn σ)).run=some (v,hb)):∃ v' h',xdj C f 0 fn τ=some (v',h')/\VR v v'/\HR hb h':=by
 by_cases hz:C.frz f=true
 ·rw [if_pos hz] at h;exact xKr hr hz h
 ·rw [if_neg hz,T.run_ofO] at h;exact xin hr h
omit hC hS in
theorem xfk.nil {Y:Option YS} {q:Nat} {S:Type} {H:Option (Hd S)} {P:Nat->S->Prop}:xfk Y q H P []:=fun j d h=>by simp at h
omit hC hS in
theorem xud:∀ (l:List Oper) {ts ts':List SV} {as:List AV},xq4 l ts=some ts'->VRL ts as->∃ as',xlx l as=some as'/\VRL ts' as'
 | [],ts,ts',as,h,hv=>by
   simp only [xq4,Option.some.injEq] at h;subst h;exact ⟨as,rfl,hv⟩
 | o :: l,ts,ts',as,h,hv=>by
   simp only [xq4] at h;split at h
   ·rename_i x hg hop;obtain ⟨as',h1,h2⟩:=xud l h (xiz hv o.dst (xmu hv x));exact ⟨as',by simp only [xlx,hg,hop,h1],h2⟩
   ·rename_i x hg hop;obtain ⟨as',h1,h2⟩:=xud l h (xiz hv o.dst (xmu hv x));exact ⟨as',by simp only [xlx,hg,hop,h1],h2⟩
   ·cases h
omit hC hS in
theorem xr8 {k:Nat}:∀ (c:Code),xhz c=false->xbf C tab n k f c:=by
 intro c;induction c with
 | seq a b iha ihb=>intro h;simp only [xhz,Bool.or_eq_false_iff] at h;exact ⟨iha h.1,ihb h.2⟩
 | cond c a b iha ihb=>intro h;simp only [xhz,Bool.or_eq_false_iff] at h;exact ⟨iha h.1,ihb h.2⟩
 | block id b ih=>intro h;exact ih h
 | scope b ih=>intro h;exact ih h
 | loop b ih=>intro h;cases h
 | rangeFunc g ps a b _ _=>intro h;cases h
 | _=>intro _;trivial
omit hC hS in
theorem xSf {k:Nat}:∀ (c:Code),xbf C tab n k f (xpp c)->∀ {σ σ':SSt} {g:FuncId×List SV} {e:Ex},(xrl C tab k f c σ).run=some (g,e,σ')->σ.log <+: σ'.log:=by
 intro c;induction c with
 | seq a b iha ihb=>
   intro hl σ σ' g e h;simp only [xpp] at hl;simp only [xrl] at h;split at h
   ·rename_i ops o x hdh;rw [hdh] at hl;simp only at hl;rw [T.run_bind,Option.bind_eq_some_iff] at h;obtain ⟨⟨e1,σ1⟩,h1,h2⟩:=h;simp only at h2;split at h2
    case h_2=>cases h2
    split at h2
    ·cases h2
    split at h2
    case h_2=>cases h2
    rw [T.run_bind,Option.bind_eq_some_iff] at h2;obtain ⟨⟨e2,σ2⟩,h3,h4⟩:=h2;simp only [T.run,Option.some.injEq,Prod.mk.injEq] at h4;obtain ⟨-,rfl,rfl⟩:=h4;exact (xos h1).trans (xkz (σ:={ σ1 with tmps:=xkt o.dst .und σ1.tmps }) b hl h3)
   ·rename_i hdh;rw [hdh] at hl;simp only at hl;split at h
    ·cases h
    rename_i hno;rw [T.run_bind,Option.bind_eq_some_iff] at h;obtain ⟨⟨e1,σ1⟩,h1,h2⟩:=h;simp only at h2;split at h2
    case h_2=>cases h2
    exact (xkz (n:=n) (k:=0) a (xr8 a (by simpa using hno)) h1).trans (ihb hl h2)
 | _=>intro _ _ _ _ _ h;cases h
theorem xSe {k:Nat}:∀ (c:Code),xbf C tab n k f (xpp c)->∀ {σ σ':SSt} {g:FuncId} {ds:List SV} {e:Ex} {τ:St},(xrl C tab k f c σ).run=some ((g,ds),e,σ')->σ'.log=[]->SSR σ τ ->
    ∃ as τ',xsv C (xbv C n) f 0 (none:Option (Hd Unit)) c τ ()=some ((g,as),e,τ',())/\VRL ds as/\SSR σ' τ'/\σ.log=[]:=by
 intro c;induction c with
 | seq a b iha ihb=>
   intro hl σ σ' g ds e τ h hlog hr;simp only [xpp] at hl;simp only [xrl] at h;split at h
   ·rename_i ops o x hdh;rw [hdh] at hl;simp only at hl;rw [T.run_bind,Option.bind_eq_some_iff] at h;obtain ⟨⟨e1,σ1⟩,h1,h2⟩:=h;simp only at h2;split at h2
    case h_2=>cases h2
    split at h2
    ·cases h2
    rename_i hk;have hk:σ1.h.length=k:=Classical.not_not.1 hk;split at h2
    case h_2=>cases h2
    rename_i g' as cs hev;rw [T.run_bind,Option.bind_eq_some_iff] at h2;obtain ⟨⟨e2,σ2⟩,h3,h4⟩:=h2;simp only [T.run,Option.some.injEq,Prod.mk.injEq] at h4;obtain ⟨⟨rfl,rfl⟩,rfl,rfl⟩:=h4;have hpre:=xkz (σ:={ σ1 with tmps:=xkt o.dst .und σ1.tmps }) b hl h3;have hl1:σ1.log=[]:=by rw [hlog] at hpre;exact List.prefix_nil.1 hpre
    have hl0:σ.log=[]:=by have:=xos h1;rw [hl1] at this;exact List.prefix_nil.1 this
    obtain ⟨τ1,s1,h5,-,h6⟩:=xxu hC hS hS.2.2 (H:=(none:Option (Hd Unit))) (P:=fun _ _=>True) (Lg:=[]) xfk.nil h1 (by rw [hl1];exact List.prefix_refl _) hr (s:=()) trivial;have hx:=xmu h6.1 x;rw [hev] at hx;simp only [VR] at hx;obtain ⟨as',cs',hx,ha1,ha2⟩:=hx;obtain ⟨τ2,s2,h7,-,h8⟩:=xfw hC hS hS.2.2 (H:=(none:Option (Hd Unit))) (P:=fun _ _=>True) (Lg:=[]) xfk.nil b hl (τ:={ τ1 with tmps:=put o.dst .und τ1.tmps }) h3 (by rw [hlog];exact List.prefix_refl _) ⟨xiz h6.1 _ xBr,h6.2⟩ (s:=()) trivial;refine ⟨as'++cs',τ2,?_,xch ha1 ha2,h8,hl0⟩;have hk2:τ1.h.length=k:=h6.2.1.symm.trans hk;simp only [xsv,hdh,h5,hx,hk2,h7,Option.map_some]
   ·rename_i hdh;rw [hdh] at hl;simp only at hl;split at h
    ·cases h
    rename_i hno;rw [T.run_bind,Option.bind_eq_some_iff] at h;obtain ⟨⟨e1,σ1⟩,h1,h2⟩:=h;simp only at h2;split at h2
    case h_2=>cases h2
    have hla:xbf C tab n 0 f a:=xr8 a (by simpa using hno);have hl1:σ1.log=[]:=by have:=xSf b hl h2;rw [hlog] at this;exact List.prefix_nil.1 this
    have hl0:σ.log=[]:=by have:=xkz a hla h1;rw [hl1] at this;exact List.prefix_nil.1 this
    obtain ⟨τ1,s1,h5,-,h6⟩:=xfw hC hS hS.2.2 (H:=(none:Option (Hd Unit))) (P:=fun _ _=>True) (Lg:=[]) xfk.nil a hla h1 (by rw [hl1];exact List.prefix_refl _) hr (s:=()) trivial;obtain ⟨as,τ2,h7,h8,h9,-⟩:=ihb hl h2 hlog h6;exact ⟨as,τ2,by simp only [xsv,hdh,h5,h7],h8,h9,hl0⟩
 | _=>intro _ _ _ _ _ _ _ h;cases h
theorem xPe {rv:SV} {ra:AV} (hrv:VR rv ra) {args:List SV} {h:xav} {v:SV} {hb:xav} (hr:(xI8 C tab rv f args h).run=some (v,hb)) {avs:List AV} {h0:xap} (hv:VRL args avs) (hh:HR h h0) :
    ∃ v' h',xsy C (xbv C n) ra (none:Option (Hd Unit)) f avs h0 ()=some (v',h',())/\VR v v'/\HR hb h':=by
 unfold xI8 at hr;unfold xsy;cases hfn:C.P.funcs[f]? with
 | none=>rw [hfn] at hr;cases hr
 | some fn=>
 rw [hfn] at hr;simp only at hr ⊢;cases hbody:fn.body with
 | none=>rw [hbody] at hr;cases hr
 | some c=>
 rw [hbody] at hr;simp only at hr ⊢;rw [T.run_bind,Option.bind_eq_some_iff] at hr;obtain ⟨⟨e,σ⟩,h1,h2⟩:=hr;have hlog:σ.log=[]:=by
  cases hg:σ.log with
  | nil=>rfl
  | cons a l=>simp only [hg] at h2;cases e <;> cases h2
 have hbod:∃ τ,xBg C (xbv C n) f ra h0.length (none:Option (Hd Unit)) c { tmps:=avs++List.replicate (fn.ntmps - avs.length) .und,h:=h0 } ()=some (e,τ,())/\SSR σ τ:=by
  unfold xSs at h1;split at h1
  case h_2=>cases h1
  rename_i id ops b;split at h1
  ·cases h1
  rename_i hno;rw [Bool.or_eq_true,not_or] at hno;split at h1
  case h_2=>cases h1
  rename_i o r hops;split at h1
  case isFalse=>cases h1
  rename_i hrec;split at h1
  case h_2=>cases h1
  rename_i ts hmv;have hts:=xiz (xch hv (xiw (fn.ntmps - avs.length))) o.dst hrv;have hlen:fn.ntmps - args.length=fn.ntmps - avs.length:=by rw [xa4 hv]
  rw [hlen] at hmv;obtain ⟨as',k1,k2⟩:=xud r hmv hts;obtain ⟨τ,s',h3,-,h4⟩:=xfw hC hS hS.2.2 (f:=f) (k:=h0.length) (H:=(none:Option (Hd Unit))) (P:=fun _ _=>True) (Lg:=[]) xfk.nil b (xr8 b (by simpa using hno.2)) (τ:={ tmps:=as',h:=h0 }) h1 (by rw [hlog];exact List.prefix_refl _) ⟨k2,hh⟩ (s:=()) trivial;exact ⟨τ,by simp only [xBg,if_neg hno.1,hops,if_pos hrec,k1,h3],h4⟩
 obtain ⟨τ,h3,h4⟩:=hbod;simp only [h3];simp only [hlog] at h2;cases e with
 | exit id=>cases h2
 | pan t=>cases h2
 | normal=>
   simp only [T.run_ofO] at h2;obtain ⟨v',h',h5,h6,h7⟩:=xin h4 h2;rw [hh.1] at h5;exact ⟨v',h',by simp only [h5,Option.map_some],h6,h7⟩
 | ret=>
   simp only [T.run_ofO] at h2;obtain ⟨v',h',h5,h6,h7⟩:=xin h4 h2;rw [hh.1] at h5;exact ⟨v',h',by simp only [h5,Option.map_some],h6,h7⟩
theorem xRz {rv:SV} {ra:AV} (hrv:VR rv ra) {g:FuncId} {args:List SV} {σ σ':SSt} (hr:(xAh C tab rv g args σ).run=some σ') {as:List AV} (hv:VRL args as) {τ:St} (ht:SSR σ τ) :
    ∃ τ',xo3 C (xbv C n) ra (none:Option (Hd Unit)) g as τ ()=some (τ',())/\SSR σ' τ':=by
 unfold xAh at hr;obtain ⟨hneed,hr⟩:=T.run_needs _ _ _ hr;have hlen:(args.map fun _=>true)=(as.map fun _=>true):=by rw [List.map_const',List.map_const',xa4 hv]
 obtain ⟨k1,k2,k3⟩:=xn6 ht.2.2 (args.map fun _=>true) hv hneed;rw [hlen] at k1 k2 k3 hr;unfold xo3;generalize xd3 (xbz σ.h) (as.map fun _=>true) args=p at hr k1 k2 k3;generalize xen (xag τ.h) (as.map fun _=>true) as=q at k1 k2 k3 ⊢;obtain ⟨ms,cargs,ch⟩:=p;obtain ⟨ms',cargs',ch'⟩:=q;dsimp only at hr k1 k2 k3 ⊢;subst k1;rw [T.run_bind,Option.bind_eq_some_iff] at hr;obtain ⟨⟨v,hb⟩,h1,h2⟩:=hr;obtain ⟨v',h',h3,-,h5⟩:=xPe hC hS (f:=g) hrv h1 k2 k3;cases h2;simp only [h3];obtain ⟨u1,u2,u3⟩:=xgo ms' σ.h.length h5;refine ⟨_,rfl,ht.1,?_⟩;simp only;rw [<- ht.2.1];exact HR.puts _ (HR.ups ht.2 u1) u2 u3
theorem xPc {k:Nat} {fn:Func} {c:Code} (hfn:C.P.funcs[f]?=some fn) (hbody:fn.body=some c) (hl:xbf C tab n k f (xpp c)):xbo C (n+1) f (xI7 C tab k f):=by
 intro args v hb h avs hv;unfold xI7 at h;rw [hfn] at h;simp only [hbody] at h;split at h
 ·cases h
 rename_i hd;have hd:xh0 c=true:=by simpa using hd
 simp only [T.run_bind,Option.bind_eq_some_iff] at h;obtain ⟨⟨⟨g,ds⟩,e,σ⟩,h1,h2⟩:=h;have hlog:σ.log=[]:=by
  cases hg:σ.log with
  | nil=>rfl
  | cons a l=>simp only [hg] at h2;cases e <;> cases h2
 obtain ⟨as,τ,h3,h4,h5,-⟩:=xSe hC hS c hl (τ:={ tmps:=avs++List.replicate (fn.ntmps - avs.length) .und,h:=[] }) h1 hlog ⟨by rw [<- xa4 hv];exact xch hv (xiw _),rfl,fun i=>by simp only [xbz,xag,List.getElem?_nil];trivial⟩;unfold xbv;simp only [hfn,hbody,hd,List.length_nil,h3];have fin:∀ {rv:SV} {ra:AV},VR rv ra->((xAh C tab rv g ds σ).bind fun σ'=>T.ofO (xwf C f fn σ')).run=some (v,hb)->∃ σ',xo3 C (xbv C n) ra (none:Option (Hd Unit)) g as τ ()=some (σ',())/\∃ v' h',xdj C f 0 fn σ'=some (v',h')/\VR v v'/\HR hb h':=fun {rv ra} hrv h=>by
  rw [T.run_bind,Option.bind_eq_some_iff] at h;obtain ⟨σ1,k1,k2⟩:=h;rw [T.run_ofO] at k2;obtain ⟨τ1,k3,k4⟩:=xRz hC hS hrv k1 h4 h5;obtain ⟨v',h',k5,k6,k7⟩:=xin k4 k2;exact ⟨τ1,k3,v',h',k5,k6,k7⟩
 simp only [hlog] at h2;cases e with
 | exit id=>cases h2
 | normal=>
   obtain ⟨τ1,k3,v',h',k5,k6,k7⟩:=fin (ra:=.nili) (by simp only [xNh,VR]) h2;exact ⟨v',h',by simp only [k3,k5,Option.map_some],k6,k7⟩
 | ret=>
   obtain ⟨τ1,k3,v',h',k5,k6,k7⟩:=fin (ra:=.nili) (by simp only [xNh,VR]) h2;exact ⟨v',h',by simp only [k3,k5,Option.map_some],k6,k7⟩
 | pan t=>
   obtain ⟨τ1,k3,v',h',k5,k6,k7⟩:=fin (ra:=.ifc t (.agg [])) (by simp only [xNh,VR];exact ⟨_,rfl,[],rfl,xbt⟩) h2;exact ⟨v',h',by simp only [k3,k5,Option.map_some],k6,k7⟩
theorem xI4 {fn:Func} {c:Code} (hfn:C.P.funcs[f]?=some fn) (hbody:fn.body=some c) (hl:xMd C tab n f c):xbo C (n+1) f (xPd C tab f):=by
 intro args v hb h avs hv;unfold xPd at h;rw [hfn] at h;simp only [hbody] at h;split at h
 ·cases h
 rename_i hnd;simp only [T.run_bind,Option.bind_eq_some_iff] at h;obtain ⟨⟨e,σ⟩,h1,h2⟩:=h;have hlog:σ.log=[]:=by
  cases hg:σ.log with
  | nil=>rfl
  | cons a l=>simp only [hg] at h2;cases e <;> cases h2
 obtain ⟨τ,_,h3,-,h4⟩:=xfw hC hS hS.2.2 (H:=(none:Option (Hd Unit))) (P:=fun _ _=>True) (Lg:=[]) xfk.nil c hl (s:=()) (τ:={ tmps:=avs++List.replicate (fn.ntmps - avs.length) .und,h:=[] }) h1 (by rw [hlog];exact List.prefix_refl _) ⟨by rw [<- xa4 hv];exact xch hv (xiw _),rfl,fun i=>by simp only [xbz,xag,List.getElem?_nil];trivial⟩ trivial;unfold xbv;simp only [hfn,hbody,(by simpa using hnd:xh0 c=false),List.length_nil,h3];simp only [hlog] at h2;cases e with
 | exit id=>cases h2
 | normal=>
   obtain ⟨v',h',h5,h6,h7⟩:=xw9 h4 h2;exact ⟨v',h',by simp only [h5,Option.map_some],h6,h7⟩
 | ret=>
   obtain ⟨v',h',h5,h6,h7⟩:=xw9 h4 h2;exact ⟨v',h',by simp only [h5,Option.map_some],h6,h7⟩
 | pan t=>
   cases h2;exact ⟨.pan t,[],by simp only [if_true],by simp only [VR],rfl,fun i=>trivial⟩
omit hC hS in
def xeu (C:Cfg) (n:Nat) (f:FuncId) (F:List SV->xav->T (SV×xav)):Prop:=∀ args h v hb,(F args h).run=some (v,hb)->∀ avs h0,VRL args avs->HR h h0->∀ (S:Type) (H:Option (Hd S)) (s:S),
 ∃ v' h',xbv C n S H f avs h0 s=some (v',h',s)/\VR v v'/\HR hb h'
theorem xSp {fn:Func} {c:Code} (hfn:C.P.funcs[f]?=some fn) (hbody:fn.body=some c) {args:List SV} {h:xav} (hl:xbf C tab n h.length f c) {v:SV} {hb:xav} (hr:(xI6 C tab f args h).run=some (v,hb))
    {avs:List AV} {h0:xap} (hv:VRL args avs) (hh:HR h h0) (S:Type) (H:Option (Hd S)) (s:S):∃ v' h',xbv C (n+1) S H f avs h0 s=some (v',h',s)/\VR v v'/\HR hb h':=by
 unfold xI6 at hr;rw [hfn] at hr;simp only [hbody] at hr;split at hr
 ·cases hr
 rename_i hnd;simp only [T.run_bind,Option.bind_eq_some_iff] at hr;obtain ⟨⟨e,σ⟩,h1,h2⟩:=hr;have hlog:σ.log=[]:=by
  cases hg:σ.log with
  | nil=>rfl
  | cons a l=>simp only [hg] at h2;cases e <;> cases h2
 obtain ⟨τ,s',h3,hs',h4⟩:=xfw hC hS hS.2.2 (H:=H) (P:=fun _ x=>x=s) (Lg:=[]) xfk.nil c hl (s:=s) (τ:={ tmps:=avs++List.replicate (fn.ntmps - avs.length) .und,h:=h0 }) h1 (by rw [hlog];exact List.prefix_refl _) ⟨by rw [<- xa4 hv];exact xch hv (xiw _),hh⟩ rfl;subst hs';rw [hh.1] at h3;unfold xbv;simp only [hfn,hbody,(by simpa using hnd:xh0 c=false),h3];simp only [hlog] at h2;cases e with
 | exit id=>cases h2
 | pan t=>cases h2
 | normal=>
   simp only [T.run_ofO] at h2;obtain ⟨v',h',h5,h6,h7⟩:=xin h4 h2;rw [hh.1] at h5;exact ⟨v',h',by simp only [h5,Option.map_some],h6,h7⟩
 | ret=>
   simp only [T.run_ofO] at h2;obtain ⟨v',h',h5,h6,h7⟩:=xin h4 h2;rw [hh.1] at h5;exact ⟨v',h',by simp only [h5,Option.map_some],h6,h7⟩
omit hC hS in
def xrq (C:Cfg) (n:Nat) (f:FuncId) (Y:YS) (F:List SV->xav->T (List (List D))):Prop:=∀ args h L,(F args h).run=some L->∀ avs h0,VRL args avs->HR h h0->∀ (S:Type) (H:Option (Hd S)) (P:Nat->S->Prop) (q:Nat),
 xfk (some Y) q H P (L.take (q+1))->∀ s,P 0 s->∃ v' h' s',xbv C n S H f avs h0 s=some (v',h',s')/\xds v'=none/\P (L.take (q+1)).length s'
theorem xUz {fn:Func} {c:Code} (hfn:C.P.funcs[f]?=some fn) (hbody:fn.body=some c) {args:List SV} {h:xav} (hl:xbf C tab n h.length f c) {Lg:List (List D)} (hr:(xI5 C tab f args h).run=some Lg)
    {avs:List AV} {h0:xap} (hv:VRL args avs) (hh:HR h h0) {S:Type} {H:Option (Hd S)} {P:Nat->S->Prop} (hc:xfk tab.y tab.q H P Lg) {s:S} (hs:P 0 s):∃ v' h' s',xbv C (n+1) S H f avs h0 s=some (v',h',s')/\xds v'=none/\P Lg.length s':=by
 unfold xI5 at hr;rw [hfn] at hr;simp only [hbody] at hr;split at hr
 ·cases hr
 rename_i hnd;simp only [T.run_bind,Option.bind_eq_some_iff] at hr;obtain ⟨⟨e,σ⟩,h1,h2⟩:=hr;have hfin:∃ r,xky C f h.length fn σ=some r/\σ.log=Lg/\(∀ id,e≠.exit id)/\∀ t,e≠.pan t:=by
  cases e with
  | exit id=>cases h2
  | pan t=>cases h2
  | normal=>
    simp only at h2;split at h2
    ·rename_i r hf;cases h2;exact ⟨r,hf,rfl,(fun _ h=>by cases h),fun _ h=>by cases h⟩
    ·cases h2
  | ret=>
    simp only at h2;split at h2
    ·rename_i r hf;cases h2;exact ⟨r,hf,rfl,(fun _ h=>by cases h),fun _ h=>by cases h⟩
    ·cases h2
 obtain ⟨⟨v,hb⟩,hf,rfl,hne,hnp⟩:=hfin;obtain ⟨τ,s',h3,hs',h4⟩:=xfw hC hS hS.2.2 hc c hl (s:=s) (τ:={ tmps:=avs++List.replicate (fn.ntmps - avs.length) .und,h:=h0 }) h1 (List.prefix_refl _) ⟨by rw [<- xa4 hv];exact xch hv (xiw _),hh⟩ hs;rw [hh.1] at h3;unfold xbv;simp only [hfn,hbody,(by simpa using hnd:xh0 c=false),h3];obtain ⟨v',h',h5,-,-⟩:=xin h4 hf;rw [hh.1] at h5;cases e with
 | exit id=>exact absurd rfl (hne id)
 | pan t=>exact absurd rfl (hnp t)
 | normal=>exact ⟨v',h',s',by simp only [h5,Option.map_some],xn7 h5,hs'⟩
 | ret=>exact ⟨v',h',s',by simp only [h5,Option.map_some],xn7 h5,hs'⟩
end
abbrev SpL:=List (FuncId×(List SV->T (SV×xav)))
abbrev LpL:=List (Nat×(SSt->T (Ex×SSt)))
def xBz:SpL->FuncId->Option (List SV->T (SV×xav))
 | [],_=>none
 | p::ps,f=>if p.1=f then some p.2 else xBz ps f
def xgy:LpL->Nat->Option (SSt->T (Ex×SSt))
 | [],_=>none
 | p::ps,k=>if p.1=k then some p.2 else xgy ps k
abbrev SwL:=List (FuncId×(List SV->xav->T (SV×xav)))
def xBw:SwL->FuncId->Option (List SV->xav->T (SV×xav))
 | [],_=>none
 | p::ps,f=>if p.1=f then some p.2 else xBw ps f
def xah (sp:SpL) (lp:LpL) (sw:SwL:=[]):Tab:={ sp:=xBz sp,lp:=fun _ k=>xgy lp k,spw:=xBw sw }
def xly (sp:SpL) (lp:LpL) (sw:SwL) (rg:LpL):Tab:={ sp:=xBz sp,lp:=fun _ k=>xgy lp k,spw:=xBw sw,rg:=fun _ k=>xgy rg k }
def xjj (sp:SpL) (lp:LpL) (sw:SwL) (Y:YS) (q:Nat):Tab:={ sp:=xBz sp,lp:=fun _ k=>xgy lp k,spw:=xBw sw,y:=some Y,q:=q }
def xht (C:Cfg) (n:Nat):SpL->Prop
 | []=>True
 | p::ps=>xbo C n p.1 p.2/\xht C n ps
def xf4 (C:Cfg) (n:Nat):SwL->Prop
 | []=>True
 | p::ps=>xeu C n p.1 p.2/\xf4 C n ps
theorem xqc {C:Cfg} {n:Nat}:∀ {sp:SpL},xht C n sp->∀ f F,xBz sp f=some F->xbo C n f F
 | [],_,f,F,h=>by cases h
 | p :: ps,ho,f,F,h=>by
   simp only [xBz] at h;split at h
   ·rename_i e;cases h;subst e;exact ho.1
   ·exact xqc ho.2 f F h
theorem xoa {C:Cfg} {n:Nat}:∀ {sw:SwL},xf4 C n sw->∀ f F,xBw sw f=some F->xeu C n f F
 | [],_,f,F,h=>by cases h
 | p :: ps,ho,f,F,h=>by
   simp only [xBw] at h;split at h
   ·rename_i e;cases h;subst e;exact ho.1
   ·exact xoa ho.2 f F h
theorem xoo {C:Cfg} {n:Nat} {sp:SpL} {lp:LpL} {sw:SwL} (h:xht C n sp) (hw:xf4 C n sw):xk4 C (xah sp lp sw) n:=
 ⟨fun f F hF=>xqc h f F hF,⟨fun f F hF=>xoa hw f F hF,fun f F hF=>by cases hF⟩,fun Y h=>by cases h⟩
theorem xxp {C:Cfg} {n:Nat} {sp:SpL} {lp:LpL} {sw:SwL} {rg:LpL} (h:xht C n sp) (hw:xf4 C n sw):xk4 C (xly sp lp sw rg) n:=
 ⟨fun f F hF=>xqc h f F hF,⟨fun f F hF=>xoa hw f F hF,fun f F hF=>by cases hF⟩,fun Y h=>by cases h⟩
theorem xG0 {C:Cfg} {n:Nat} {sp:SpL} {lp:LpL} {sw:SwL} {Y:YS} {q:Nat} (h:xht C n sp) (hw:xf4 C n sw) (hY:YOK Y):xk4 C (xjj sp lp sw Y q) n:=
 ⟨fun f F hF=>xqc h f F hF,⟨fun f F hF=>xoa hw f F hF,fun f F hF=>by cases hF⟩,fun Z h=>by cases h;exact hY⟩
theorem xbo.mono {C:Cfg} {n:Nat} {f:FuncId} {F F':List SV->T (SV×xav)} (h:xbo C n f F) (hF:∀ args v hb,(F' args).run=some (v,hb)->(F args).run=some (v,hb)):xbo C n f F':=
 fun args v hb hr=>h args v hb (hF args v hb hr)
inductive SK where
 | any
 | und
 | k (k:K)
 | agg (cs:List SK)
 | tup (cs:List SK)
 | eptr (cs:List SK)
 | ptr (i s k j:Nat)
 | sl (i s:Nat)
 | fn (f:FuncId) (a c:List SK)
 | nilf
 | nilp
 | nils
 | emp (s:Nat)
 | yl
 | ifc (t:TypeId) (v:SK)
 | nili
 /-- a pointer to an element; the datum says which one -/
 | pel (i s j:Nat)
 /-- a call that panics -/
 | pan (t:TypeId)
 /-- a slice from an element on; the data say which one, and how many -/
 | sub (i s:Nat)
 /-- a map of one's own -/
 | mp (i:Nat)
inductive BK where
 | none
 | box (cs:List SK)
 | row (ks:List K)
 | junk
 | lst (s:Nat) (es:List (List SK))
 | map (ka:Bool) (kk:List K) (vk:K)
 /-- a map with these integers as keys -/
 | mlst (es:List ((IntKind×Int)×SK))
 /-- so many numbers, and further cells -/
 | arr (k:IntKind) (n:Nat) (tl:List SK)
 /-- rows as data but for one, of these cells; the data say which one -/
 | hole (ks:List K) (cs:List SK)
def xO2:K->SV->Option D
 | .int k,.int k' n=>if k=k' then some (.i n) else none
 | .bool,.bool b=>some (.b b)
 | .bool,.kb b=>some (.b b)
 | .ro ks,.ro _ ks' l=>if xgz ks ks' then some (.l l) else none
 | .ro _,.nils=>some (.l [])
 | .ro ks,.emp s=>if s=ks.length then some (.l []) else none
 | .opt ks,.opt ks' l=>if xgz ks ks' then some (.l l) else none
 | .alt a,.alt a' c=>if xun a a' then some (.l [c]) else none
 | _,_=>none
mutual
def xek:SK->SV->Option (List D)
 | .any,v=>match v with
   | .any=>some []
   | _=>none
 | .und,v=>match v with
   | .und=>some []
   | _=>none
 | .k k,v=>match xO2 k v with
   | some d=>some [d]
   | none=>none
 | .agg cs,v=>match v with
   | .agg vs=>xdv cs vs
   | _=>none
 | .tup cs,v=>match v with
   | .tup vs=>xdv cs vs
   | _=>none
 | .eptr cs,v=>match v with
   | .eptr vs=>xdv cs vs
   | _=>none
 | .ptr i s k j,v=>match v with
   | .ptr i' s' k' j'=>if i=i'/\s=s'/\k=k'/\j=j' then some [] else none
   | _=>none
 | .sl i s,v=>match v with
   | .sl i' s' n=>if i=i'/\s=s' then some [.i n] else none
   | _=>none
 | .fn f a c,v=>match v with
   | .fn (.func f') a' c'=>if f=f' then (match xdv a a',xdv c c' with
     | some x,some y=>some (x++y)
     | _,_=>none) else none
   | _=>none
 | .nilf,v=>match v with
   | .nilf=>some []
   | _=>none
 | .nilp,v=>match v with
   | .nilp=>some []
   | _=>none
 | .emp s,v=>match v with
   | .emp s'=>if s=s' then some [] else none
   | _=>none
 | .nils,v=>match v with
   | .nils=>some []
   | _=>none
 | .yl,v=>match v with
   | .yl=>some []
   | _=>none
 | .nili,v=>match v with
   | .nili=>some []
   | _=>none
 | .pan t,v=>match v with
   | .pan t'=>if t=t' then some [] else none
   | _=>none
 | .sub i s,v=>match v with
   | .sub i' s' lo n=>if i=i'/\s=s' then some [.i lo,.i n] else none
   | _=>none
 | .mp i,v=>match v with
   | .mp i'=>if i=i' then some [] else none
   | _=>none
 | .ifc t c,v=>match v with
   | .ifc t' x=>if t=t' then xek c x else none
   | _=>none
 | .pel i s j,v=>match v with
   | .ptr i' s' k' j'=>if i=i'/\s=s'/\j=j' then some [.i k'] else none
   | _=>none
def xdv:List SK->List SV->Option (List D)
 | [],vs=>match vs with
   | []=>some []
   | _=>none
 | c :: cs,vs=>match vs with
   | []=>none
   | v :: vs=>match xek c v,xdv cs vs with
     | some x,some y=>some (x++y)
     | _,_=>none
end
mutual
/-- A value of a shape with data (and the data that are left). -/
def xcs:SK->List D->SV×List D
 | .any,ds=>(.any,ds)
 | .und,ds=>(.und,ds)
 | .k k,ds=>(dec k (ds.headD default),ds.tail)
 | .agg cs,ds=>(.agg (xbw cs ds).1,(xbw cs ds).2)
 | .tup cs,ds=>(.tup (xbw cs ds).1,(xbw cs ds).2)
 | .eptr cs,ds=>(.eptr (xbw cs ds).1,(xbw cs ds).2)
 | .ptr i s k j,ds=>(.ptr i s k j,ds)
 | .sl i s,ds=>(.sl i s (ds.headD default).I.toNat,ds.tail)
 | .fn f a c,ds=>(.fn (.func f) (xbw a ds).1 (xbw c (xbw a ds).2).1,(xbw c (xbw a ds).2).2)
 | .nilf,ds=>(.nilf,ds)
 | .nilp,ds=>(.nilp,ds)
 | .nils,ds=>(.nils,ds)
 | .emp s,ds=>(.emp s,ds)
 | .yl,ds=>(.yl,ds)
 | .nili,ds=>(.nili,ds)
 | .pan t,ds=>(.pan t,ds)
 | .sub i s,ds=>(.sub i s (ds.headD default).I.toNat (ds.tail.headD default).I.toNat,ds.tail.tail)
 | .mp i,ds=>(.mp i,ds)
 | .ifc t c,ds=>(.ifc t (xcs c ds).1,(xcs c ds).2)
 | .pel i s j,ds=>(.ptr i s (ds.headD default).I.toNat j,ds.tail)
def xbw:List SK->List D->List SV×List D
 | [],ds=>([],ds)
 | c::cs,ds=>((xcs c ds).1::(xbw cs (xcs c ds).2).1,(xbw cs (xcs c ds).2).2)
end
def xpe:List (List SK)->List (List SV)->Option (List D)
 | [],[]=>some []
 | c :: cs,v::vs=>match xdv c v,xpe cs vs with
   | some x,some y=>some (x++y)
   | _,_=>none
 | _,_=>none
def xo7:List (List SK)->List D->List (List SV)×List D
 | [],ds=>([],ds)
 | c::cs,ds=>((xbw c ds).1::(xo7 cs (xbw c ds).2).1,(xo7 cs (xbw c ds).2).2)
def xnh:List ((IntKind×Int)×SK)->List (SV×SV)->Option (List D)
 | [],[]=>some []
 | c :: cs,(.int k n,v)::vs=>if c.1.1=k/\c.1.2=n then (match xek c.2 v,xnh cs vs with
   | some x,some y=>some (x++y)
   | _,_=>none) else none
 | _,_=>none
def xki:List ((IntKind×Int)×SK)->List D->List (SV×SV)×List D
 | [],ds=>([],ds)
 | c::cs,ds=>((.int c.1.1 c.1.2,(xcs c.2 ds).1)::(xki cs (xcs c.2 ds).2).1,(xki cs (xcs c.2 ds).2).2)
def xO3:BK->Option SB->Option (List D)
 | .none,none=>some []
 | .box cs,some (.box vs)=>xdv cs vs
 | .row ks,some (.row ks' l)=>if xgz ks ks' then some [.l l] else none
 | .junk,some .junk=>some []
 | .lst s es,some (.lst s' vs)=>if s=s' then xpe es vs else none
 | .map ka kk vk,some (.map ka' kk' vk' l)=>if ka=ka'/\xgz (vk::kk) (vk'::kk')=true then some [.l l] else none
 | .mlst es,some (.mlst vs)=>xnh es vs
 | .arr k n tl,some (.arr k' n' l vs)=>if k=k'/\n=n' then (xdv tl vs).map (D.l l::·) else none
 | .hole ks cs,some (.hole true ks' l q vs)=>if xgz ks ks' then (xdv cs vs).map (fun ds=>D.l l::D.i (q:Int)::ds) else none
 | _,_=>none
def xm6:List BK->xav->Option (List D)
 | [],h=>match h with
   | []=>some []
   | _=>none
 | b :: bs,h=>match h with
   | []=>none
   | o :: os=>match xO3 b o,xm6 bs os with
     | some x,some y=>some (x++y)
     | _,_=>none
def xm4:BK->List D->Option SB×List D
 | .none,ds=>(none,ds)
 | .box cs,ds=>(some (.box (xbw cs ds).1),(xbw cs ds).2)
 | .row ks,ds=>(some (.row ks (ds.headD default).L),ds.tail)
 | .junk,ds=>(some .junk,ds)
 | .lst s es,ds=>(some (.lst s (xo7 es ds).1),(xo7 es ds).2)
 | .map ka kk vk,ds=>(some (.map ka kk vk (ds.headD default).L),ds.tail)
 | .mlst es,ds=>(some (.mlst (xki es ds).1),(xki es ds).2)
 | .arr k n tl,ds=>(some (.arr k n (ds.headD default).L (xbw tl ds.tail).1),(xbw tl ds.tail).2)
 | .hole ks cs,ds=>(some (.hole true ks (ds.headD default).L (ds.tail.headD default).I.toNat (xbw cs ds.tail.tail).1),(xbw cs ds.tail.tail).2)
def xj2:List BK->List D->xav×List D
 | [],ds=>([],ds)
 | b::bs,ds=>((xm4 b ds).1::(xj2 bs (xm4 b ds).2).1,(xj2 bs (xm4 b ds).2).2)
theorem xSa {k:K} {v:SV} {d:D} {a:AV} (h:xO2 k v=some d) (hv:VR v a):VR (dec k d) a:=by
 unfold xO2 at h;split at h
 ·split at h
  ·rename_i e;subst e;cases h;simpa only [dec,D.I,VR] using hv
  ·cases h
 ·cases h;simpa only [dec,D.B,VR] using hv
 ·cases h;simpa only [dec,D.B,VR] using hv
 ·split at h
  ·rename_i e;cases h;have:=xee _ _ e;subst this;simp only [dec,D.L,VR] at hv ⊢;rcases hv with hv | ⟨kd,c0',es,h1,_,h2⟩
   ·exact .inl hv
   ·exact .inr ⟨kd,c0',es,h1,fun h=>(by cases h),h2⟩
  ·cases h
 ·cases h;simp only [dec,D.L,VR] at hv ⊢;exact .inl ⟨hv,by trivial⟩
 ·split at h
  ·rename_i e;subst e;cases h;simp only [dec,D.L,VR] at hv ⊢;rcases hv with rfl | rfl
   ·exact .inl ⟨by trivial,by trivial⟩
   ·exact .inr ⟨_,_,[],rfl,fun h=>(by cases h),xk7⟩
  ·cases h
 ·split at h
  ·rename_i e;cases h;have:=xee _ _ e;subst this;exact hv
  ·cases h
 ·split at h
  ·rename_i e;cases h;have:=xv5 _ _ e;subst this;exact hv
  ·cases h
 ·cases h
mutual
theorem xp5:∀ (sk:SK) {v:SV} {ds:List D} {a:AV} (r:List D),xek sk v=some ds->VR v a->VR (xcs sk (ds++r)).1 a/\(xcs sk (ds++r)).2=r
 | .any,v,ds,a,r,h,hv=>by
   simp only [xek] at h;split at h
   ·cases h;simp only [xcs,List.nil_append];exact ⟨hv,by trivial⟩
   ·cases h
 | .und,v,ds,a,r,h,hv=>by
   simp only [xek] at h;split at h
   ·cases h;simp only [xcs,List.nil_append];exact ⟨hv,by trivial⟩
   ·cases h
 | .nilf,v,ds,a,r,h,hv=>by
   simp only [xek] at h;split at h
   ·cases h;simp only [xcs,List.nil_append];exact ⟨hv,by trivial⟩
   ·cases h
 | .nilp,v,ds,a,r,h,hv=>by
   simp only [xek] at h;split at h
   ·cases h;simp only [xcs,List.nil_append];exact ⟨hv,by trivial⟩
   ·cases h
 | .emp s,v,ds,a,r,h,hv=>by
   simp only [xek] at h;split at h
   ·split at h
    ·rename_i e;subst e;cases h;simp only [xcs,List.nil_append];exact ⟨hv,by trivial⟩
    ·cases h
   ·cases h
 | .nils,v,ds,a,r,h,hv=>by
   simp only [xek] at h;split at h
   ·cases h;simp only [xcs,List.nil_append];exact ⟨hv,by trivial⟩
   ·cases h
 | .k k,v,ds,a,r,h,hv=>by
   simp only [xek] at h;split at h
   ·rename_i d hd;cases h;simp only [xcs,List.cons_append,List.nil_append,List.headD_cons,List.tail_cons];exact ⟨xSa hd hv,by trivial⟩
   ·cases h
 | .agg cs,v,ds,a,r,h,hv=>by
   simp only [xek] at h;split at h
   ·simp only [VR] at hv;obtain ⟨us,rfl,hv⟩:=hv;obtain ⟨h1,h2⟩:=xcz cs r h hv;simp only [xcs,VR];exact ⟨⟨_,rfl,h1⟩,h2⟩
   ·cases h
 | .tup cs,v,ds,a,r,h,hv=>by
   simp only [xek] at h;split at h
   ·simp only [VR] at hv;obtain ⟨us,rfl,hv⟩:=hv;obtain ⟨h1,h2⟩:=xcz cs r h hv;simp only [xcs,VR];exact ⟨⟨_,rfl,h1⟩,h2⟩
   ·cases h
 | .eptr cs,v,ds,a,r,h,hv=>by
   simp only [xek] at h;split at h
   ·simp only [VR] at hv;obtain ⟨kd,us,rfl,hv⟩:=hv;obtain ⟨h1,h2⟩:=xcz cs r h hv;simp only [xcs,VR];exact ⟨⟨_,_,rfl,h1⟩,h2⟩
   ·cases h
 | .ptr i s k j,v,ds,a,r,h,hv=>by
   simp only [xek] at h;split at h
   ·split at h
    ·rename_i e;obtain ⟨rfl,rfl,rfl,rfl⟩:=e;cases h;simp only [xcs,List.nil_append];exact ⟨hv,by trivial⟩
    ·cases h
   ·cases h
 | .sl i s,v,ds,a,r,h,hv=>by
   simp only [xek] at h;split at h
   ·split at h
    ·rename_i e;obtain ⟨rfl,rfl⟩:=e;cases h;simp only [xcs,List.cons_append,List.nil_append,List.headD_cons,List.tail_cons,D.I,Int.toNat_natCast];exact ⟨hv,by trivial⟩
    ·cases h
   ·cases h
 | .sub i s,v,ds,a,r,h,hv=>by
   simp only [xek] at h;split at h
   ·split at h
    ·rename_i e;obtain ⟨rfl,rfl⟩:=e;cases h;simp only [xcs,List.cons_append,List.nil_append,List.headD_cons,List.tail_cons,D.I,Int.toNat_natCast];exact ⟨hv,by trivial⟩
    ·cases h
   ·cases h
 | .fn f x y,v,ds,a,r,h,hv=>by
   simp only [xek] at h;split at h
   ·split at h
    ·rename_i e;subst e;split at h
     ·rename_i d1 d2 h1 h2;cases h;simp only [VR] at hv;obtain ⟨us,ws,rfl,hv1,hv2⟩:=hv;obtain ⟨h3,h4⟩:=xcz x (d2++r) h1 hv1;obtain ⟨h5,h6⟩:=xcz y r h2 hv2;simp only [xcs,VR,List.append_assoc,h4];exact ⟨⟨_,_,rfl,h3,h5⟩,h6⟩
     ·cases h
    ·cases h
   ·cases h
 | .pel i s j,v,ds,a,r,h,hv=>by
   simp only [xek] at h;split at h
   ·split at h
    ·rename_i e;obtain ⟨rfl,rfl,rfl⟩:=e;cases h;simp only [xcs,List.cons_append,List.nil_append,List.headD_cons,List.tail_cons,D.I,Int.toNat_natCast];exact ⟨hv,by trivial⟩
    ·cases h
   ·cases h
 | .yl,v,ds,a,r,h,hv=>by
   simp only [xek] at h;split at h
   ·cases h;simp only [xcs,List.nil_append];exact ⟨hv,by trivial⟩
   ·cases h
 | .nili,v,ds,a,r,h,hv=>by
   simp only [xek] at h;split at h
   ·cases h;simp only [xcs,List.nil_append];exact ⟨hv,by trivial⟩
   ·cases h
 | .mp i,v,ds,a,r,h,hv=>by
   simp only [xek] at h;split at h
   ·split at h
    ·rename_i e;subst e;cases h;simp only [xcs,List.nil_append];exact ⟨hv,by trivial⟩
    ·cases h
   ·cases h
 | .pan t,v,ds,a,r,h,hv=>by
   simp only [xek] at h;split at h
   ·split at h
    ·rename_i e;subst e;cases h;simp only [xcs,List.nil_append];exact ⟨hv,by trivial⟩
    ·cases h
   ·cases h
 | .ifc t c,v,ds,a,r,h,hv=>by
   simp only [xek] at h;split at h
   ·split at h
    ·rename_i e;subst e;simp only [VR] at hv;obtain ⟨u,rfl,hv⟩:=hv;obtain ⟨h1,h2⟩:=xp5 c r h hv;simp only [xcs,VR];exact ⟨⟨_,rfl,h1⟩,h2⟩
    ·cases h
   ·cases h
theorem xcz:∀ (cs:List SK) {vs:List SV} {ds:List D} {as:List AV} (r:List D),xdv cs vs=some ds->VRL vs as->VRL (xbw cs (ds++r)).1 as/\(xbw cs (ds++r)).2=r
 | [], vs,ds,as,r,h,hv=>by
   simp only [xdv] at h;split at h
   ·cases h;simp only [xbw,List.nil_append];exact ⟨hv,by trivial⟩
   ·cases h
 | c :: cs,vs,ds,as,r,h,hv=>by
   simp only [xdv] at h;split at h
   ·cases h
   ·split at h
    ·rename_i d1 d2 h1 h2;cases h;simp only [VRL] at hv;obtain ⟨u,us,rfl,hv1,hv2⟩:=hv;obtain ⟨h3,h4⟩:=xp5 c (d2++r) h1 hv1;obtain ⟨h5,h6⟩:=xcz cs r h2 hv2;simp only [xbw,List.append_assoc,h4];exact ⟨xa1 h3 h5,h6⟩
    ·cases h
end
theorem xA4:∀ (cs:List (List SK)) {vs:List (List SV)} {ds:List D} {as:List (List AV)} (r:List D),xpe cs vs=some ds->xmb vs as->xmb (xo7 cs (ds++r)).1 as/\(xo7 cs (ds++r)).2=r
 | [],[],ds,as,r,h,hv=>by
   simp only [xpe,Option.some.injEq] at h;subst h;exact ⟨hv,rfl⟩
 | c::cs,v::vs,ds,[],r,h,hv=>by have:=hv.1;simp at this
 | c :: cs,v::vs,ds,a::as,r,h,hv=>by
   simp only [xpe] at h;split at h
   ·rename_i d1 d2 h1 h2;cases h;obtain ⟨t1,t2⟩:=hv.tail;obtain ⟨h3,h4⟩:=xcz c (d2++r) h1 t1;obtain ⟨h5,h6⟩:=xA4 cs r h2 t2;simp only [xo7,List.append_assoc,h4];refine ⟨⟨by simp [h5.1],fun i c v e1 e2=>?_⟩,h6⟩;cases i with
    | zero=>simp at e1 e2;subst e1;subst e2;exact h3
    | succ i=>exact h5.2 i c v (by simpa using e1) (by simpa using e2)
   ·cases h
 | [],_::_,_,_,_,h,_=>by simp [xpe] at h
 | _::_,[],_,_,_,h,_=>by simp [xpe] at h
theorem xA3:∀ (cs:List ((IntKind×Int)×SK)) {vs:List (SV×SV)} {ds:List D} {kvs:List (AV×AV)} (r:List D),xnh cs vs=some ds->vs.length=kvs.length->(∀ (i:Nat) e p,vs[i]?=some e->kvs[i]?=some p->VR e.1 p.1/\VR e.2 p.2) ->
    ((xki cs (ds++r)).1.length=kvs.length/\∀ (i:Nat) e p,(xki cs (ds++r)).1[i]?=some e->kvs[i]?=some p->VR e.1 p.1/\VR e.2 p.2)/\(xki cs (ds++r)).2=r
 | [], vs,ds,kvs,r,h,hl,hv=>by
   cases vs with
   | cons v vs=>simp [xnh] at h
   | nil=>
     simp only [xnh,Option.some.injEq] at h;subst h;exact ⟨⟨by simpa [xki] using hl,fun i e p he=>by simp [xki] at he⟩,rfl⟩
 | c :: cs, vs,ds,kvs,r,h,hl,hv=>by
   cases vs with
   | nil=>simp [xnh] at h
   | cons v vs=>
     obtain ⟨k,v⟩:=v;cases k <;> try (simp [xnh] at h;done)
     rename_i k n;simp only [xnh] at h;split at h
     case isFalse=>cases h
     rename_i hc;split at h
     ·rename_i x y hx hy;cases h;cases kvs with
      | nil=>simp at hl
      | cons p kvs=>
        obtain ⟨h1,h2⟩:=hv 0 _ p rfl rfl;obtain ⟨h3,h4⟩:=xp5 c.2 (y++r) hx h2;obtain ⟨⟨h5,h6⟩,h7⟩:=xA3 cs r hy (kvs:=kvs) (by simpa using hl) fun i e p h8 h9=>hv (i+1) e p (by simpa using h8) (by simpa using h9)
        simp only [xki,List.append_assoc,h4];refine ⟨⟨by simp [h5],fun i e q he hq=>?_⟩,h7⟩;cases i with
        | zero=>
          simp only [List.getElem?_cons_zero,Option.some.injEq] at he hq;subst he;subst hq;exact ⟨by rw [hc.1,hc.2];exact h1,h3⟩
        | succ i=>exact h6 i e q (by simpa using he) (by simpa using hq)
     ·cases h
theorem xSb {b:BK} {o:Option SB} {O:Option Blk} {ds:List D} (r:List D) (h:xO3 b o=some ds) (ho:OR o O):OR (xm4 b (ds++r)).1 O/\(xm4 b (ds++r)).2=r:=by
 unfold xO3 at h;split at h
 ·cases h;exact ⟨ho,rfl⟩
 ·rename_i cs vs;obtain ⟨B,rfl,hr⟩:=xbm ho;cases B with
  | map kvs=>exact hr.elim
  | row s es fl=>
    simp only [xa3] at hr;obtain ⟨us,rfl,rfl,hv,hno⟩:=hr;obtain ⟨h1,h2⟩:=xcz cs r h hv;simp only [xm4,OR,xa3];exact ⟨⟨us,rfl,by rw [xa4 hv,xa4 h1],h1,hno⟩,h2⟩
 ·split at h
  ·rename_i e;cases h;have:=xee _ _ e;subst this;exact ⟨ho,rfl⟩
  ·cases h
 ·cases h;exact ⟨ho,rfl⟩
 ·split at h
  ·rename_i s vs' _ vs e;subst e;obtain ⟨B,rfl,hr⟩:=xbm ho;cases B with
   | map kvs=>exact hr.elim
   | row s es fl=>
     simp only [xa3] at hr;obtain ⟨rfl,hv,hl,hno⟩:=hr;obtain ⟨h1,h2⟩:=xA4 _ r h hv;simp only [xm4,OR,xa3];exact ⟨⟨by trivial,h1,hl,hno⟩,h2⟩
  ·cases h
 ·split at h
  ·rename_i e;cases h;obtain ⟨rfl,e⟩:=e;have:=xee _ _ e;cases this;exact ⟨ho,rfl⟩
  ·cases h
 ·rename_i es vs;obtain ⟨B,rfl,hr⟩:=xbm ho;obtain ⟨kvs,rfl⟩:=xnp hr;simp only [xa3] at hr;obtain ⟨h1,h2⟩:=xA3 es r h hr.1 hr.2;simp only [xm4,OR,xa3];exact ⟨h1,h2⟩
 ·rename_i k n tl k' n' l vs;split at h
  ·rename_i e;obtain ⟨rfl,rfl⟩:=e;rw [Option.map_eq_some_iff] at h;obtain ⟨d,hd,rfl⟩:=h;obtain ⟨B,rfl,hr⟩:=xbm ho;obtain ⟨hl',hr⟩:=xol hr;obtain ⟨s',es,fl,rfl⟩:=xce hr;simp only [xa3] at hr;obtain ⟨us,rfl,rfl,hv,hno⟩:=hr;have hv1:=xdy n hv;have hv2:=xcw n hv;rw [List.take_left' xe8] at hv1;rw [List.drop_left' xe8] at hv2;obtain ⟨h1,h2⟩:=xcz tl r hd hv2;simp only [xm4,List.cons_append,List.headD_cons,List.tail_cons,D.L];have h3:=xch hv1 h1;rw [List.take_append_drop] at h3;exact ⟨⟨hl',us,rfl,by rw [xa4 hv,xa4 h3],h3,hno⟩,h2⟩
  ·cases h
 ·rename_i ks cs ks' l q vs;split at h
  ·rename_i e;have:=xee _ _ e;subst this;rw [Option.map_eq_some_iff] at h;obtain ⟨d,hd,rfl⟩:=h;obtain ⟨B,rfl,hr⟩:=xbm ho;obtain ⟨s',es,fl,rfl⟩:=xce hr;have hr:HoleR true ks l q vs s' es fl:=hr;have hq:es[q]?=some (es[q]'(by have:=hr.len;have:=hr.lt;omega)):=List.getElem?_eq_getElem _;have h2:=(xcz cs r hd (hr.own _ hq)).2;simp only [xm4,List.cons_append,List.headD_cons,List.tail_cons,D.L,D.I,Int.toNat_natCast];exact ⟨show HoleR _ _ _ _ _ _ _ _ from ⟨hr.len,hr.lt,hr.enc,hr.no,fun e he=>(xcz cs r hd (hr.own e he)).1,hr.flat⟩,h2⟩
  ·cases h
 ·cases h
theorem xlh:∀ (bs:List BK) {sh:xav} {h:xap} {ds:List D} (r:List D),xm6 bs sh=some ds->HR sh h->HR (xj2 bs (ds++r)).1 h/\(xj2 bs (ds++r)).2=r
 | [], sh,h,ds,r,hf,hh=>by
   simp only [xm6] at hf;split at hf
   ·cases hf;simp only [xj2,List.nil_append];exact ⟨hh,by trivial⟩
   ·cases hf
 | b :: bs,sh,h,ds,r,hf,hh=>by
   simp only [xm6] at hf;split at hf
   ·cases hf
   ·rename_i o os;split at hf
    ·rename_i d1 d2 h1 h2;cases hf;cases h with
     | nil=>have:=hh.1;simp at this
     | cons O Os=>
       have h0:OR o O:=by simpa [xbz,xag] using hh.2 0
       have hrest:HR os Os:=⟨by simpa using hh.1,fun i=>by simpa [xbz,xag] using hh.2 (i+1)⟩;obtain ⟨h3,h4⟩:=xSb (d2++r) h1 h0;obtain ⟨h5,h6⟩:=xlh bs r h2 hrest;simp only [xj2,List.append_assoc,h4];refine ⟨⟨by simp [h5.1],fun i=>?_⟩,h6⟩;cases i with
       | zero=>simpa [xbz,xag] using h3
       | succ i=>simpa [xbz,xag] using h5.2 i
    ·cases hf
structure Shp where
 tmps:List SK
 h : List BK
def xF7 (s:Shp) (σ:SSt):Option (List D):=match xdv s.tmps σ.tmps,xm6 s.h σ.h with
 | some x,some y=>some (x++y)
 | _,_=>none
def xAr (s:Shp) (ds:List D):SSt:={ tmps:=(xbw s.tmps ds).1,h:=(xj2 s.h (xbw s.tmps ds).2).1 }
theorem xEl {s:Shp} {σ:SSt} {ds:List D} {τ:St} (h:xF7 s σ=some ds) (hr:SSR σ τ):SSR (xAr s ds) τ:=by
 unfold xF7 at h;split at h
 ·rename_i x y h1 h2;cases h;obtain ⟨h3,h4⟩:=xcz s.tmps y h1 hr.1;obtain ⟨h5,h6⟩:=xlh s.h [] h2 hr.2;unfold xAr;rw [h4];rw [List.append_nil] at h5;exact ⟨h3,h5⟩
 ·cases h
def xsr:List Shp->Nat->SSt->Option (List D)
 | [],_,_=>none
 | s :: ss,j,σ=>match xF7 s σ with
   | some ds=>some (.i j::ds)
   | none=>xsr ss (j+1) σ
def xss (ss:List Shp) (σ:SSt):Option (List D):=match ss with
 | [s]=>xF7 s σ
 | ss=>xsr ss 0 σ
def xck (ss:List Shp) (ds:List D):SSt:=match ss with
 | [s]=>xAr s ds
 | ss=>xAr (ss.getD (ds.headD default).I.toNat ⟨[],[]⟩) ds.tail
theorem xuy:∀ (ss:List Shp) (j:Nat) {σ:SSt} {ds:List D} {τ:St},xsr ss j σ=some ds->SSR σ τ->∃ i ds',ds=.i ((j+i:Nat):Int)::ds'/\SSR (xAr (ss.getD i ⟨[],[]⟩) ds') τ
 | [],j,σ,ds,τ,h,_=>by cases h
 | s :: ss,j,σ,ds,τ,h,hr=>by
   simp only [xsr] at h;split at h
   ·rename_i ds' h';cases h;exact ⟨0,ds',rfl,by simpa using xEl h' hr⟩
   ·obtain ⟨i,ds',h1,h2⟩:=xuy ss (j+1) h hr;exact ⟨i+1,ds',by rw [h1];congr 2;omega,by simpa using h2⟩
theorem xnj {ss:List Shp} {σ:SSt} {ds:List D} {τ:St} (h:xss ss σ=some ds) (hr:SSR σ τ):SSR (xck ss ds) τ:=by
 unfold xss at h;unfold xck;split at h
 ·exact xEl h hr
 ·rename_i ss' hne;obtain ⟨i,ds',rfl,h2⟩:=xuy ss 0 h hr;simpa [D.I] using h2
def xzj:Nat->Nat->List (Nat×SK)->List SK
 | 0,_,_=>[]
 | n + 1,i,l=>(match l.find? (fun p=>p.1 == i) with
   | some p=>p.2
   | none=>.any)::xzj n (i+1) l
structure Sig where
 args:List SK
 res:List (SK×List BK)
def xA1 (s:SK×List BK) (r:SV×xav):Option (List D):=match xek s.1 r.1,xm6 s.2 r.2 with
 | some x,some y=>some (x++y)
 | _,_=>none
def xo6 (s:SK×List BK) (ds:List D):SV×xav:=((xcs s.1 ds).1,(xj2 s.2 (xcs s.1 ds).2).1)
def xAz:List (SK×List BK)->Nat->SV×xav->Option (List D)
 | [],_,_=>none
 | s :: ss,j,r=>match xA1 s r with
   | some ds=>some (.i j::ds)
   | none=>xAz ss (j+1) r
def xA2 (ss:List (SK×List BK)) (r:SV×xav):Option (List D):=match ss with
 | [s]=>xA1 s r
 | ss=>xAz ss 0 r
def xp3 (ss:List (SK×List BK)) (ds:List D):SV×xav:=match ss with
 | [s]=>xo6 s ds
 | ss=>xo6 (ss.getD (ds.headD default).I.toNat (.und,[])) ds.tail
theorem xA0 {s:SK×List BK} {r:SV×xav} {ds:List D} {v:AV} {h:xap} (hf:xA1 s r=some ds) (h1:VR r.1 v) (h2:HR r.2 h):VR (xo6 s ds).1 v/\HR (xo6 s ds).2 h:=by
 unfold xA1 at hf;split at hf
 ·rename_i x y e1 e2;cases hf;obtain ⟨h6,h7⟩:=xp5 s.1 y e1 h1;obtain ⟨h8,h9⟩:=xlh s.2 [] e2 h2;rw [List.append_nil] at h8;unfold xo6;rw [h7];exact ⟨h6,h8⟩
 ·cases hf
theorem xAy:∀ (ss:List (SK×List BK)) (j:Nat) {r:SV×xav} {ds:List D} {v:AV} {h:xap},xAz ss j r=some ds->VR r.1 v->HR r.2 h ->
    ∃ i ds',ds=.i ((j+i:Nat):Int)::ds'/\VR (xo6 (ss.getD i (.und,[])) ds').1 v/\HR (xo6 (ss.getD i (.und,[])) ds').2 h
 | [],j,r,ds,v,h,hf,_,_=>by cases hf
 | s :: ss,j,r,ds,v,h,hf,h1,h2=>by
   simp only [xAz] at hf;split at hf
   ·rename_i ds' h';cases hf;exact ⟨0,ds',rfl,by simpa using xA0 h' h1 h2⟩
   ·obtain ⟨i,ds',e,h3⟩:=xAy ss (j+1) hf h1 h2;exact ⟨i+1,ds',by rw [e];congr 2;omega,by simpa using h3⟩
theorem xp6 {ss:List (SK×List BK)} {r:SV×xav} {ds:List D} {v:AV} {h:xap} (hf:xA2 ss r=some ds) (h1:VR r.1 v) (h2:HR r.2 h):VR (xp3 ss ds).1 v/\HR (xp3 ss ds).2 h:=by
 unfold xA2 at hf;unfold xp3;split at hf
 ·exact xA0 hf h1 h2
 ·rename_i ss' hne;obtain ⟨i,ds',rfl,h3⟩:=xAy ss 0 hf h1 h2;simpa [D.I] using h3
def fnT (C:Cfg) (tab:Tab) (f:FuncId) (s:Sig) (ds:List D):T (List D):=(xPd C tab f (xbw s.args ds).1).bind fun r=>T.ofO (xA2 s.res r)
def mkF (s:Sig) (G:List D->T (List D)):List SV->T (SV×xav):=fun args=>match xdv s.args args with
 | some ds=>(G ds).map (xp3 s.res)
 | none=>.fail
theorem xAw {C:Cfg} (hC:∀ t Y,C.ty t=some Y->xcc C.P t=some Y) {tab:Tab} {n:Nat} (hS:xk4 C tab n) {f:FuncId} {fn:Func} {c:Code} (hfn:C.P.funcs[f]?=some fn) (hbody:fn.body=some c) (hl:xMd C tab n f c)
    {s:Sig} {G:List D->T (List D)} (hG:∀ ds r,(G ds).run=some r->(fnT C tab f s ds).run=some r):xbo C (n+1) f (mkF s G):=by
 intro args v hb h avs hv;unfold mkF at h;split at h
 ·rename_i ds hds;rw [T.run_map,Option.map_eq_some_iff] at h;obtain ⟨r,hr,he⟩:=h;have hf:=hG ds r hr;unfold fnT at hf;rw [T.run_bind,Option.bind_eq_some_iff] at hf;obtain ⟨⟨v0,h0⟩,hc,hfr⟩:=hf;rw [T.run_ofO] at hfr;obtain ⟨h1,h2⟩:=xcz s.args [] hds hv;rw [List.append_nil] at h1;obtain ⟨v',h',h3,h4,h5⟩:=xI4 hC hS hfn hbody hl _ _ _ hc avs h1;refine ⟨v',h',h3,?_⟩;have:=xp6 hfr h4 h5;rw [he] at this;exact this
 ·cases h
def xO0 (C:Cfg) (tab:Tab) (k:Nat) (f:FuncId) (s:Sig) (ds:List D):T (List D):=(xI7 C tab k f (xbw s.args ds).1).bind fun r=>T.ofO (xA2 s.res r)
theorem ydz {C:Cfg} (hC:∀ t Y,C.ty t=some Y->xcc C.P t=some Y) {tab:Tab} {n:Nat} (hS:xk4 C tab n) {f:FuncId} {k:Nat} {fn:Func} {c:Code} (hfn:C.P.funcs[f]?=some fn) (hbody:fn.body=some c) (hl:xbf C tab n k f (xpp c))
    {s:Sig} {G:List D->T (List D)} (hG:∀ ds r,(G ds).run=some r->(xO0 C tab k f s ds).run=some r):xbo C (n+1) f (mkF s G):=by
 intro args v hb h avs hv;unfold mkF at h;split at h
 ·rename_i ds hds;rw [T.run_map,Option.map_eq_some_iff] at h;obtain ⟨r,hr,he⟩:=h;have hf:=hG ds r hr;unfold xO0 at hf;rw [T.run_bind,Option.bind_eq_some_iff] at hf;obtain ⟨⟨v0,h0⟩,hc,hfr⟩:=hf;rw [T.run_ofO] at hfr;obtain ⟨h1,h2⟩:=xcz s.args [] hds hv;rw [List.append_nil] at h1;obtain ⟨v',h',h3,h4,h5⟩:=xPc hC hS hfn hbody hl _ _ _ hc avs h1;refine ⟨v',h',h3,?_⟩;have:=xp6 hfr h4 h5;rw [he] at this;exact this
 ·cases h
structure SigW where
 args:List SK
 hin:List BK
 res:List (SK×List BK)
def xh2 (C:Cfg) (tab:Tab) (f:FuncId) (s:SigW) (ds:List D):T (List D):=(xI6 C tab f (xbw s.args ds).1 (xj2 s.hin (xbw s.args ds).2).1).bind fun r=>T.ofO (xA2 s.res r)
def xdm (s:SigW) (G:List D->T (List D)):List SV->xav->T (SV×xav):=fun args h=>match xdv s.args args,xm6 s.hin h with
 | some x,some y=>(G (x++y)).map (xp3 s.res)
 | _,_=>.fail
theorem xo8:∀ (bs:List BK) (ds:List D),(xj2 bs ds).1.length=bs.length
 | [],_=>rfl
 | b::bs,ds=>by simp only [xj2,List.length_cons,xo8 bs]
theorem ydy {C:Cfg} (hC:∀ t Y,C.ty t=some Y->xcc C.P t=some Y) {tab:Tab} {n:Nat} (hS:xk4 C tab n) {f:FuncId} {fn:Func} {c:Code} (hfn:C.P.funcs[f]?=some fn) (hbody:fn.body=some c)
    {s:SigW} (hl:xbf C tab n s.hin.length f c) {G:List D->T (List D)} (hG:∀ ds r,(G ds).run=some r->(xh2 C tab f s ds).run=some r):xeu C (n+1) f (xdm s G):=by
 intro args h v hb hr avs h0 hv hh S H s0;unfold xdm at hr;split at hr
 ·rename_i x y hx hy;rw [T.run_map,Option.map_eq_some_iff] at hr;obtain ⟨r,hr,he⟩:=hr;have hf:=hG _ r hr;unfold xh2 at hf;rw [T.run_bind,Option.bind_eq_some_iff] at hf;obtain ⟨⟨v0,hb0⟩,hc,hfr⟩:=hf;rw [T.run_ofO] at hfr;obtain ⟨h1,h2⟩:=xcz s.args y hx hv;obtain ⟨h3,h4⟩:=xlh s.hin [] hy hh;rw [List.append_nil] at h3;rw [<- h2] at h3;obtain ⟨v',h',h5,h6,h7⟩:=xSp hC hS hfn hbody (by rw [xo8];exact hl) hc h1 h3 S H s0;refine ⟨v',h',h5,?_⟩;have:=xp6 hfr h6 h7;rw [he] at this;exact this
 ·cases hr
structure LSig where
 live:List Nat
 head:List Shp
 exits:List (Ex×List Nat×List Shp)
def exq:Ex->Ex->Bool
 | .normal,.normal=>true
 | .exit i,.exit j=>i == j
 | .ret,.ret=>true
 | .pan t,.pan u=>t == u
 | _,_=>false
theorem yd2 {a b:Ex} (h:exq a b=true):a=b:=by cases a <;> cases b <;> simp_all [exq]
def xu1:List (Ex×List Nat×List Shp)->Ex->Option (List Nat×List Shp)
 | [],_=>none
 | p::ps,e=>if exq p.1 e then some p.2 else xu1 ps e
inductive Rd where
 | again (ds:List D)
 | out (e:Ex) (ds:List D)
def xW1 (σ:SSt) (l:List (List D)):SSt:={ σ with log:=l }
def xsq (y:Bool) (ss:List Shp) (σ:SSt):Option (List D):=match y with
 | false=>(match σ.log with
   | []=>xss ss σ
   | _=>none)
 | true=>(xss ss σ).map (.l σ.log::·)
def xil (y:Bool) (ss:List Shp) (ds:List D):SSt:=match y with
 | false=>xck ss ds
 | true=>xW1 (xck ss ds.tail) (ds.headD default).L
theorem xur (ss:List Shp) (ds:List D):(xck ss ds).log=[]:=by unfold xck;split <;> rfl
theorem xni {y:Bool} {ss:List Shp} {σ:SSt} {ds:List D} {τ:St} (h:xsq y ss σ=some ds) (hr:SSR σ τ):SSR (xil y ss ds) τ/\(xil y ss ds).log=σ.log:=by
 unfold xsq at h;unfold xil;cases y with
 | false=>
   simp only at h ⊢;split at h
   ·rename_i hl;exact ⟨xnj h hr,by rw [hl];exact xur _ _⟩
   ·cases h
 | true=>
   simp only [Option.map_eq_some_iff] at h;obtain ⟨ds',h1,rfl⟩:=h;exact ⟨xnj h1 hr,rfl⟩
def xoc (y:Bool) (C:Cfg) (tab:Tab) (f:FuncId) (b:Code) (k:Nat) (s:LSig) (ds:List D):T Rd:=(xca C tab f b (xil y s.head ds)).bind fun r=>match r.1 with
 | .normal=>T.ofO ((xsq y s.head (xf8 k s.live r.2)).map .again)
 | e => match xu1 s.exits e with
   | some x=>T.ofO ((xsq y x.2 (xf8 k x.1 r.2)).map (.out e))
   | none=>.fail
abbrev xal (C:Cfg) (tab:Tab) (f:FuncId) (b:Code) (k:Nat) (s:LSig) (ds:List D):T Rd:=xoc false C tab f b k s ds
abbrev xb4 (C:Cfg) (tab:Tab) (f:FuncId) (b:Code) (s:LSig) (ds:List D):T Rd:=xal C tab f b 0 s ds
abbrev xjy (C:Cfg) (tab:Tab) (f:FuncId) (b:Code) (k:Nat) (s:LSig) (ds:List D):T Rd:=xoc true C tab f b k s ds
def xOa (y:Bool) (k:Nat) (s:LSig) (G:List D->T (Ex×List D)):SSt->T (Ex×SSt):=fun σ=>match xsq y s.head (xf8 k s.live σ) with
 | some ds=>(G ds).bind fun r=>match xu1 s.exits r.1 with
   | some x=>.leaf (r.1,xil y x.2 r.2)
   | none=>.fail
 | none=>.fail
abbrev xde (k:Nat) (s:LSig) (G:List D->T (Ex×List D)):SSt->T (Ex×SSt):=xOa false k s G
abbrev mkL (s:LSig) (G:List D->T (Ex×List D)):SSt->T (Ex×SSt):=xde 0 s G
abbrev xr9 (k:Nat) (s:LSig) (G:List D->T (Ex×List D)):SSt->T (Ex×SSt):=xOa true k s G
def xJw (C:Cfg) (f:FuncId) (b:Code) (s:LSig):Prop:=C.ann f (xbn b)=some s.live/\∀ p∈s.exits,match p.1 with
 | .normal=>False
 | .exit id=>C.annX f (xbn b) (some id)=some p.2.1
 | .ret=>C.annX f (xbn b) none=some p.2.1
 | .pan _=>C.annX f (xbn b) (some xFi)=some p.2.1
theorem xO4 {l:List (Ex×List Nat×List Shp)} {e:Ex} {x:List Nat×List Shp} (h:xu1 l e=some x):(e,x)∈l:=by
 induction l with
 | nil=>cases h
 | cons p ps ih=>
   simp only [xu1] at h;split at h
   ·rename_i he;cases h;have:=yd2 he;subst this;exact List.mem_cons_self
   ·exact List.mem_cons_of_mem _ (ih h)
theorem xH6 {C:Cfg} (hC:∀ t Y,C.ty t=some Y->xcc C.P t=some Y) (y:Bool) {tab:Tab} {n:Nat} (hS:xk4 C tab n) {f:FuncId} {k:Nat} {b:Code} (hb:xbf C tab n k f b) {s:LSig} (hlv:xJw C f b s) {G:List D->T (Ex×List D)} (μ:List D->Nat)
    (round:∀ ds r,(G ds).run=some r->μ ds<C.fuel/\∃ o,(xoc y C tab f b k s ds).run=some o/\((∃ ds',o=.again ds'/\(G ds').run=some r/\μ ds'<μ ds)\/o=.out r.1 r.2)):xfy C n k f b tab.y tab.q (xOa y k s G):=by
 intro σ e σ' h;unfold xOa at h;split at h
 case h_2=>cases h
 rename_i ds hds;rw [T.run_bind,Option.bind_eq_some_iff] at h;obtain ⟨⟨e0,r⟩,hG,h⟩:=h;simp only at h;split at h
 case h_2=>cases h
 rename_i x hx;cases h;have hann:∀ σ,xF6 C k f b σ=xf8 k s.live σ:=fun σ=>by unfold xF6;rw [hlv.1]
 have hannX:gcX C k f b e=xig k x.1:=by
  have:=hlv.2 _ (xO4 hx);unfold gcX;funext τ;cases e with
  | normal=>exact this.elim
  | exit id=>simp only at this ⊢;rw [this]
  | ret=>simp only at this ⊢;rw [this]
  | pan t=>simp only at this ⊢;rw [this]
 -- what was yielded before stays
 have hlogf:∀ {ss:List Shp} {σ:SSt} {ds:List D},xsq y ss σ=some ds->(xil y ss ds).log=σ.log:=fun {ss σ ds} h=>by
  unfold xsq at h;unfold xil;cases y with
  | false=>
    simp only at h ⊢;split at h
    ·rename_i hl;rw [hl];exact xur _ _
    ·cases h
  | true=>
    simp only [Option.map_eq_some_iff] at h;obtain ⟨ds',h1,rfl⟩:=h;rfl
 have klog:∀ (m:Nat) (ds:List D),(G ds).run=some (e,r)->μ ds<m->(xil y s.head ds).log <+: (xil y x.2 r).log:=by
  intro m;induction m with
  | zero=>intro ds _ hlt;omega
  | succ m ih=>
    intro ds hG hlt;obtain ⟨-,o,ho,hcase⟩:=round ds (e,r) hG;unfold xoc at ho;rw [T.run_bind,Option.bind_eq_some_iff] at ho;obtain ⟨⟨eb,σb⟩,h1,h2⟩:=ho;have hpre:=xkz b hb h1;cases eb with
    | normal=>
      simp only [T.run_ofO,Option.map_eq_some_iff] at h2;obtain ⟨ds1,h5,rfl⟩:=h2;rcases hcase with ⟨ds',h6,h7,h8⟩ | h6
      ·cases h6;have:=ih ds1 h7 (by omega);rw [hlogf h5] at this;exact hpre.trans this
      ·cases h6
    | exit id=>
      simp only at h2;split at h2
      ·rename_i z hz;rw [T.run_ofO,Option.map_eq_some_iff] at h2;obtain ⟨ds1,h5,rfl⟩:=h2;rcases hcase with ⟨ds',h6,_⟩ | h6
       ·cases h6
       ·cases h6;rw [hx] at hz;cases hz;rw [hlogf h5];exact hpre
      ·cases h2
    | ret =>
      simp only at h2;split at h2
      ·rename_i z hz;rw [T.run_ofO,Option.map_eq_some_iff] at h2;obtain ⟨ds1,h5,rfl⟩:=h2;rcases hcase with ⟨ds',h6,_⟩ | h6
       ·cases h6
       ·cases h6;rw [hx] at hz;cases hz;rw [hlogf h5];exact hpre
      ·cases h2
    | pan t=>
      simp only at h2;split at h2
      ·rename_i z hz;rw [T.run_ofO,Option.map_eq_some_iff] at h2;obtain ⟨ds1,h5,rfl⟩:=h2;rcases hcase with ⟨ds',h6,_⟩ | h6
       ·cases h6
       ·cases h6;rw [hx] at hz;cases hz;rw [hlogf h5];exact hpre
      ·cases h2
 have hl0:(xil y s.head ds).log=σ.log:=(hlogf hds).trans rfl;refine ⟨by rw [<- hl0];exact klog _ ds hG (Nat.lt_succ_self _),?_⟩;intro τ hr S H P Lg hcs hp s0 hs0;have key : ∀ (m:Nat) (ds:List D) (τ:St) (s0:S),(G ds).run=some (e,r)->μ ds<m->SSR (xil y s.head ds) (xkx C k f b τ)->P (xil y s.head ds).log.length s0 ->
     ∃ τ' s',xm3 (xkx C k f b) (xbs C (xbv C n) f k H b) m τ s0=some (e,τ',s')/\P (xil y x.2 r).log.length s'/\SSR (xil y x.2 r) (gcX C k f b e τ'):=by
  intro m;induction m with
  | zero=>intro ds τ s0 _ hlt;omega
  | succ m ih=>
    intro ds τ s0 hG hlt hr hs0;obtain ⟨-,o,ho,hcase⟩:=round ds (e,r) hG;unfold xoc at ho;rw [T.run_bind,Option.bind_eq_some_iff] at ho;obtain ⟨⟨eb,σb⟩,h1,h2⟩:=ho;cases eb with
    | normal=>
      simp only [T.run_ofO,Option.map_eq_some_iff] at h2;obtain ⟨ds1,h5,rfl⟩:=h2;rcases hcase with ⟨ds',h6,h7,h8⟩ | h6
      ·cases h6;have hpb:σb.log <+: Lg:=by
        have:=klog _ ds1 h7 (Nat.lt_succ_self _);rw [hlogf h5] at this;exact List.IsPrefix.trans this hp
       obtain ⟨τb,sb,h3,hsb,h4⟩:=xfw hC hS hS.2.2 hcs b hb h1 hpb hr hs0;obtain ⟨k1,k2⟩:=xni h5 (show SSR (xf8 k s.live σb) (xkx C k f b τb) by rw [<- hann];exact xIr h4);obtain ⟨τ',s',h9,h10,h11⟩:=ih ds1 τb sb h7 (by omega) k1 (by rw [k2];exact hsb);exact ⟨τ',s',by simp only [xm3,h3,h9],h10,h11⟩
      ·cases h6
    | exit id=>
      simp only at h2;split at h2
      ·rename_i z hz;rw [T.run_ofO,Option.map_eq_some_iff] at h2;obtain ⟨ds1,h5,rfl⟩:=h2;rcases hcase with ⟨ds',h6,_⟩ | h6
       ·cases h6
       ·cases h6;rw [hx] at hz;cases hz;have hlg:=hlogf h5;obtain ⟨τb,sb,h3,hsb,h4⟩:=xfw hC hS hS.2.2 hcs b hb h1 (show σb.log <+: Lg by rw [show σb.log=_ from hlg.symm];exact hp) hr hs0;exact ⟨τb,sb,by simp only [xm3,h3],by rw [hlg];exact hsb,by rw [hannX];exact (xni h5 (xjf h4)).1⟩
      ·cases h2
    | ret =>
      simp only at h2;split at h2
      ·rename_i z hz;rw [T.run_ofO,Option.map_eq_some_iff] at h2;obtain ⟨ds1,h5,rfl⟩:=h2;rcases hcase with ⟨ds',h6,_⟩ | h6
       ·cases h6
       ·cases h6;rw [hx] at hz;cases hz;have hlg:=hlogf h5;obtain ⟨τb,sb,h3,hsb,h4⟩:=xfw hC hS hS.2.2 hcs b hb h1 (show σb.log <+: Lg by rw [show σb.log=_ from hlg.symm];exact hp) hr hs0;exact ⟨τb,sb,by simp only [xm3,h3],by rw [hlg];exact hsb,by rw [hannX];exact (xni h5 (xjf h4)).1⟩
      ·cases h2
    | pan t=>
      simp only at h2;split at h2
      ·rename_i z hz;rw [T.run_ofO,Option.map_eq_some_iff] at h2;obtain ⟨ds1,h5,rfl⟩:=h2;rcases hcase with ⟨ds',h6,_⟩ | h6
       ·cases h6
       ·cases h6;rw [hx] at hz;cases hz;have hlg:=hlogf h5;obtain ⟨τb,sb,h3,hsb,h4⟩:=xfw hC hS hS.2.2 hcs b hb h1 (show σb.log <+: Lg by rw [show σb.log=_ from hlg.symm];exact hp) hr hs0;exact ⟨τb,sb,by simp only [xm3,h3],by rw [hlg];exact hsb,by rw [hannX];exact (xni h5 (xjf h4)).1⟩
      ·cases h2
 obtain ⟨τ',s',h1,h2,h3⟩:=key C.fuel ds τ s0 hG (round ds _ hG).1 (xni hds (by rw [<- hann];exact xIr hr)).1 (by rw [hl0];exact hs0);exact ⟨_,s',by simp only [xbs,h1,Option.map_some],h2,h3⟩
theorem xH5 {C:Cfg} (hC:∀ t Y,C.ty t=some Y->xcc C.P t=some Y) {tab:Tab} {n:Nat} (hS:xk4 C tab n) {f:FuncId} {k:Nat} {b:Code} (hb:xbf C tab n k f b) {s:LSig} (hlv:xJw C f b s) {G:List D->T (Ex×List D)} (μ:List D->Nat)
    (round:∀ ds r,(G ds).run=some r->μ ds<C.fuel/\∃ o,(xal C tab f b k s ds).run=some o/\((∃ ds',o=.again ds'/\(G ds').run=some r/\μ ds'<μ ds)\/o=.out r.1 r.2)):xfy C n k f b tab.y tab.q (xde k s G):=xH6 hC false hS hb hlv μ round
def xkg:Nat->Code->Option Code
 | k,.loop b=>if xbn b=k then some b else xkg k b
 | k,.seq a b=>(xkg k a).or (xkg k b)
 | k,.cond _ a b=>(xkg k a).or (xkg k b)
 | k,.block _ b=>xkg k b
 | k,.scope b=>xkg k b
 | k,.rangeFunc _ _ a b=>(xkg k a).or (xkg k b)
 | _,_=>none
def xiv (P:Program) (f:FuncId):Code:=match P.funcs[f]? with
 | some fn=>fn.body.getD .skip
 | none=>.skip
def xaa (P:Program) (f:FuncId) (k:Nat):Code:=(xkg k (xiv P f)).getD .skip
def ix (c:List D) (j:Nat):Int:=(c.getD j default).I
def bx (c:List D) (j:Nat):Bool:=(c.getD j default).B
def lx (c:List D) (j:Nat):List (List D):=(c.getD j default).L
theorem xfh (c:List D) (j:Nat):(c.getD j default).I=ix c j:=rfl
theorem xJc (c:List D) (j:Nat):(c.getD j default).B=bx c j:=rfl
theorem xlz (c:List D) (j:Nat):(c.getD j default).L=lx c j:=rfl
theorem xas {x:Int} (h1:-9223372036854775808<=x) (h2:x<9223372036854775808):IntKind.wrap .i64 x=x:=by
 unfold IntKind.wrap;simp [IntKind.signed,IntKind.bits];omega
theorem xa5 {α:Type} {c:Bool} {t e:T α}:(T.ite c t e).run=if c=true then t.run else e.run:=rfl
theorem xjb {α:Type} {c:Bool} {t:T α}:(T.need c t).run=if c=true then t.run else none:=rfl
theorem xd7 {α:Type} {a:α}:(T.leaf a).run=some a:=rfl
theorem xab {α:Type} {c:Bool} {t:T α} {a:α} (h:(T.need c t).run=some a):c=true/\t.run=some a:=by
 rw [xjb] at h;split at h
 ·exact ⟨‹_›,h⟩
 ·cases h
def yes (p:Prop):Bool:=@decide p (Classical.propDecidable p)
theorem xad {p:Prop}:yes p=true ↔ p:=by unfold yes;exact @decide_eq_true_iff p (Classical.propDecidable p)
theorem xxh {p:Prop} (h:p):yes p=true:=xad.2 h
def xa0 (n low high:Int):Bool:=decide (low<=n) && decide (n<=high)
theorem xrt {n a b:Int}:xa0 n a b=true ↔ a<=n/\n<=b:=by simp [xa0]
def xay (p:Nat->Bool):Nat->Nat->Bool
 | _,0=>true
 | i,k+1=>p i && xay p (i+1) k
theorem xdz {p:Nat->Bool}:∀ {i k:Nat},xay p i k=true ↔ ∀ j,i<=j->j<i+k->p j=true
 | i,0=>by simp only [xay,true_iff];intro j h1 h2;omega
 | i, k+1=>by
   simp only [xay,Bool.and_eq_true,xdz];constructor
   ·rintro ⟨h1,h2⟩ j h3 h4
    by_cases e:j=i
    ·subst e;exact h1
    ·exact h2 j (by omega) (by omega)
   ·intro h;exact ⟨h i (Nat.le_refl _) (by omega),fun j h1 h2=>h j (by omega) (by omega)⟩
def xbx (p:Nat->Bool):Nat->Nat->Int
 | _,0=>-1
 | i,k+1=>if p i then i else xbx p (i+1) k
theorem xnu {p:Nat->Bool}:∀ {i k:Nat},decide (xbx p i k>=0)=!xay (fun j=>!p j) i k
 | i,0=>by simp [xbx,xay]
 | i, k+1=>by
   simp only [xbx,xay];by_cases h:p i=true
   ·simp [h]
   ·simp only [h,Bool.false_eq_true,if_false,Bool.not_false,Bool.true_and];exact xnu
theorem xnt {p:Nat->Bool}:∀ {i k:Nat},xbx p i k<0->xbx p i k = -1
 | i,0,_=>rfl
 | i, k+1,h=>by
   simp only [xbx] at h ⊢;split at h
   ·omega
   ·rename_i hp;rw [if_neg hp];exact xnt h
def big:Nat:=4611686018427387904
abbrev xVs:=Nat×List (Nat×SK)×List BK
def xz4 (t:xVs):Shp:=⟨xzj t.1 0 t.2.1,t.2.2⟩
def xcu (live:List Nat) (head:List xVs) (exits:List (Ex×List Nat×List xVs)):LSig:=⟨live,head.map xz4,exits.map fun e=>(e.1,e.2.1,e.2.2.map xz4)⟩
theorem xam {α:Type} {p:Prop} {t:T α} (h:p):(T.need (yes p) t).run=t.run:=by rw [xjb,if_pos (xxh h)]
theorem I_i (n:Int):(D.i n).I=n:=rfl
theorem B_b (x:Bool):(D.b x).B=x:=rfl
theorem L_l (x:List (List D)):(D.l x).L=x:=rfl
theorem xbd {k:Nat} (h:k<9223372036854775807):IntKind.i64.wrap ((k:Int)+1)=((k+1:Nat):Int):=by rw [xas (by omega) (by omega)];rfl
theorem xC9 {k:Nat} (h:k<9223372036854775807):IntKind.i64.wrap ((k:Int) - 1)=(k:Int) - 1:=xas (by omega) (by omega)
def xco:Code->List Code
 | .loop b=>[b]
 | .seq a b=>xco a++xco b
 | .cond _ a b=>xco a++xco b
 | .block _ b=>xco b
 | .scope b=>xco b
 | _=>[]
abbrev Rg:=Operand×Array Tmp×Code×Code
def xc3:Code->List Rg
 | .rangeFunc g ps a b=>[(g,ps,a,b)]
 | .seq a b=>xc3 a++xc3 b
 | .cond _ a b=>xc3 a++xc3 b
 | .block _ b=>xc3 b
 | .scope b=>xc3 b
 | _=>[]
def xgf:Code->List Rg
 | .rangeFunc g ps a b=>(g,ps,a,b)::(xgf a++xgf b)
 | .seq a b=>xgf a++xgf b
 | .cond _ a b=>xgf a++xgf b
 | .block _ b=>xgf b
 | .scope b=>xgf b
 | .loop b=>xgf b
 | _=>[]
def xcb (P:Program) (f:FuncId) (k:Nat):Rg:=((xgf (xiv P f)).find? fun r=>xbn r.2.2.2 == k).getD (.tmp 0,#[],.skip,.skip)
def Rg.code (r:Rg):Code:=.rangeFunc r.1 r.2.1 r.2.2.1 r.2.2.2
theorem xgc {C:Cfg} {tab:Tab} {n m:Nat} {f:FuncId}:∀ (c:Code),(∀ b∈xco c,∀ L,tab.lp f (xbn b)=some L->xfy C n m f b tab.y tab.q L)->(∀ r∈xc3 c,∀ L,tab.rg f (xbn r.2.2.2)=some L->xh7 C n m f r.code tab.y tab.q L)->xbf C tab n m f c
 | .loop b,h,_=>h b (by simp [xco])
 | .rangeFunc g ps a b,_,h=>h (g,ps,a,b) (by simp [xc3])
 | .seq a b,h,h'=>⟨xgc a (fun x hx=>h x (by simp [xco,hx])) (fun x hx=>h' x (by rw [xc3];exact List.mem_append_left _ hx)),xgc b (fun x hx=>h x (by simp [xco,hx])) (fun x hx=>h' x (by rw [xc3];exact List.mem_append_right _ hx))⟩
 | .cond _ a b,h,h'=>⟨xgc a (fun x hx=>h x (by simp [xco,hx])) (fun x hx=>h' x (by rw [xc3];exact List.mem_append_left _ hx)),xgc b (fun x hx=>h x (by simp [xco,hx])) (fun x hx=>h' x (by rw [xc3];exact List.mem_append_right _ hx))⟩
 | .block _ b,h,h'=>xgc b (fun x hx=>h x (by simpa [xco] using hx)) (fun x hx=>h' x (by rw [xc3];exact hx))
 | .scope b,h,h'=>xgc b (fun x hx=>h x (by simpa [xco] using hx)) (fun x hx=>h' x (by rw [xc3];exact hx))
 | .skip,_,_=>trivial
 | .label _,_,_=>trivial
 | .region _ _ _,_,_=>trivial
 | .exit _,_,_=>trivial
 | .ret,_,_=>trivial
 | .goto _,_,_=>trivial
 | .refuse _,_,_=>trivial
theorem xOk {C:Cfg} {sp:SpL} {lp:LpL} {sw:SwL} {n m:Nat} {f:FuncId} (c:Code) (h:∀ b∈xco c,∀ L,(xah sp lp sw).lp f (xbn b)=some L->xb0 C n m f b L):xbf C (xah sp lp sw) n m f c:=xgc c h fun _ _ _ h=>by cases h
theorem xo1 {C:Cfg} {sp:SpL} {lp:LpL} {sw:SwL} {n m:Nat} {f:FuncId} {c:Code} (keys:List Nat) (h1:xco c=keys.map (xaa C.P f)) (h2:keys.map (fun k=>xbn (xaa C.P f k))=keys)
    (h:∀ k∈keys,∀ L,xgy lp k=some L->xb0 C n m f (xaa C.P f k) L):xbf C (xah sp lp sw) n m f c:=by
 refine xOk c fun b hb L hL=>?_
 rw [h1,List.mem_map] at hb;obtain ⟨k,hk,rfl⟩:=hb;have hkey:xbn (xaa C.P f k)=k:=by
  have:=List.map_inj_left.1 (h2.trans (List.map_id keys).symm) k hk;simpa using this
 simp only [xah,hkey] at hL;exact h k hk L hL
theorem xlc {C:Cfg} {tab:Tab} {lp rg:LpL} {n m:Nat} {f:FuncId} {c:Code} (hlp:tab.lp f=xgy lp) (hrg:tab.rg f=xgy rg) (keys rkeys:List Nat) (h1:xco c=keys.map (xaa C.P f)) (h2:keys.map (fun k=>xbn (xaa C.P f k))=keys)
    (h:∀ k∈keys,∀ L,xgy lp k=some L->xfy C n m f (xaa C.P f k) tab.y tab.q L) (h3:xc3 c=rkeys.map (xcb C.P f)) (h4:rkeys.map (fun k=>xbn (xcb C.P f k).2.2.2)=rkeys)
    (h':∀ k∈rkeys,∀ L,xgy rg k=some L->xh7 C n m f (xcb C.P f k).code tab.y tab.q L):xbf C tab n m f c:=by
 refine xgc c (fun b hb L hL=>?_) fun r hr L hL=>?_
 ·rw [h1,List.mem_map] at hb;obtain ⟨k,hk,rfl⟩:=hb;have hkey:xbn (xaa C.P f k)=k:=by
   have:=List.map_inj_left.1 (h2.trans (List.map_id keys).symm) k hk;simpa using this
  rw [hlp,hkey] at hL;exact h k hk L hL
 ·rw [h3,List.mem_map] at hr;obtain ⟨k,hk,rfl⟩:=hr;have hkey:xbn (xcb C.P f k).2.2.2=k:=by
   have:=List.map_inj_left.1 (h4.trans (List.map_id rkeys).symm) k hk;simpa using this
  rw [hrg,hkey] at hL;exact h' k hk L hL
def xwn (P:Program) (t:TypeId):SK:=match xgn P 12 t with
 | some ks=>if xeb P t then .agg (ks.map .k) else .k (ks.headD .bool)
 | none=>.any
def xlf (P:Program) (f:FuncId):Bool:=match P.funcs[f]? with
 | some fn=>fn.body.isSome
 | none=>false
theorem xh1 {P:Program} {f:FuncId} (h:xlf P f=true):∃ fn,P.funcs[f]?=some fn/\fn.body=some (xiv P f):=by
 unfold xlf at h;split at h
 ·rename_i fn hfn;obtain ⟨c,hc⟩:=Option.isSome_iff_exists.1 h;exact ⟨fn,hfn,by simp [xiv,hfn,hc]⟩
 ·cases h
def xAc (C:Cfg) (f:FuncId) (b:Code) (s:LSig):Bool:=(C.ann f (xbn b) == some s.live) && s.exits.all fun p=>match p.1 with
 | .normal=>false
 | .exit id=>C.annX f (xbn b) (some id) == some p.2.1
 | .ret=>C.annX f (xbn b) none == some p.2.1
 | .pan _=>C.annX f (xbn b) (some xFi) == some p.2.1
theorem xB8 {C:Cfg} {f:FuncId} {b:Code} {s:LSig} (h:xAc C f b s=true):xJw C f b s:=by
 unfold xAc at h;simp only [Bool.and_eq_true,beq_iff_eq,List.all_eq_true] at h;refine ⟨h.1,fun p hp=>?_⟩;have:=h.2 p hp;split <;> rename_i e <;> rw [e] at this
 ·cases this
 ·simpa using this
 ·simpa using this
 ·simpa using this
section
variable {C:Cfg} (hC:∀ t Y,C.ty t=some Y->xcc C.P t=some Y) {sp:SpL} {lp:LpL} {n:Nat} {f:FuncId}
include hC
theorem xbk {sw:SwL} (hsp:xht C n sp) (hsw:xf4 C n sw) (hf:xlf C.P f=true) (keys:List Nat) (h1:xco (xiv C.P f)=keys.map (xaa C.P f)) (h2:keys.map (fun k=>xbn (xaa C.P f k))=keys)
    (hl:∀ k∈keys,∀ L,xgy lp k=some L->xct C n f (xaa C.P f k) L) {s:Sig} {G:List D->T (List D)} (hG:∀ ds r,(G ds).run=some r->(fnT C (xah sp lp sw) f s ds).run=some r):xbo C (n+1) f (mkF s G):=by
 obtain ⟨fn,h3,h4⟩:=xh1 hf;exact xAw hC (xoo hsp hsw) h3 h4 (xo1 keys h1 h2 hl) hG
theorem xfi {sw:SwL} (hsp:xht C n sp) (hsw:xf4 C n sw) (hf:xlf C.P f=true) (keys:List Nat) (h1:xco (xiv C.P f)=keys.map (xaa C.P f)) (h2:keys.map (fun k=>xbn (xaa C.P f k))=keys) {s:SigW}
    (hl:∀ k∈keys,∀ L,xgy lp k=some L->xb0 C n s.hin.length f (xaa C.P f k) L) {G:List D->T (List D)} (hG:∀ ds r,(G ds).run=some r->(xh2 C (xah sp lp sw) f s ds).run=some r):xeu C (n+1) f (xdm s G):=by
 obtain ⟨fn,h3,h4⟩:=xh1 hf;exact ydy hC (xoo hsp hsw) h3 h4 (xo1 keys h1 h2 hl) hG
theorem yd0 {sw:SwL} (hsp:xht C n sp) (hsw:xf4 C n sw) (hf:xlf C.P f=true) (k:Nat) (keys:List Nat) (h1:xco (xpp (xiv C.P f))=keys.map (xaa C.P f)) (h2:keys.map (fun k=>xbn (xaa C.P f k))=keys)
    (hl:∀ j∈keys,∀ L,xgy lp j=some L->xb0 C n k f (xaa C.P f j) L) {s:Sig} {G:List D->T (List D)} (hG:∀ ds r,(G ds).run=some r->(xO0 C (xah sp lp sw) k f s ds).run=some r):xbo C (n+1) f (mkF s G):=by
 obtain ⟨fn,h3,h4⟩:=xh1 hf;exact ydz hC (xoo hsp hsw) h3 h4 (xo1 keys h1 h2 hl) hG
theorem xbb {sw:SwL} (hsp:xht C n sp) (hsw:xf4 C n sw) (m:Nat) {b:Code} (keys:List Nat) (h1:xco b=keys.map (xaa C.P f)) (h2:keys.map (fun k=>xbn (xaa C.P f k))=keys)
    (hl:∀ k∈keys,∀ L,xgy lp k=some L->xb0 C n m f (xaa C.P f k) L) {s:LSig} (hlv:xAc C f b s=true) {G:List D->T (Ex×List D)} (μ:List D->Nat)
    (round:∀ ds r,(G ds).run=some r->μ ds<C.fuel/\∃ o,(xal C (xah sp lp sw) f b m s ds).run=some o/\((∃ ds',o=.again ds'/\(G ds').run=some r/\μ ds'<μ ds)\/o=.out r.1 r.2)):xb0 C n m f b (xde m s G):=
 xH5 hC (xoo hsp hsw) (xo1 keys h1 h2 hl) (xB8 hlv) μ round
end
def xez (G:List D->T (Ex×List D)) (μ:List D->Nat) (ds:List D) (r:Ex×List D) (X:Option Rd):Prop:=∃ o,X=some o/\((∃ ds',o=.again ds'/\(G ds').run=some r/\μ ds'<μ ds)\/o=.out r.1 r.2)
theorem xs6:∀ {ks:List K} {c c':List D} {j j':Nat} {vs:List AV},(∀ i,i<ks.length->c.getD (j+i) default=c'.getD (j'+i) default)->xaz ks c j vs->xaz ks c' j' vs
 | [],_,_,_,_,_,_,h=>by simpa only [xaz] using h
 | k :: ks,c,c',j,j',vs,he,h=>by
   simp only [xaz] at h ⊢;obtain ⟨v,vs',rfl,h1,h2⟩:=h;refine ⟨v,vs',rfl,?_,xs6 (fun i hi=>?_) h2⟩
   ·have:=he 0 (by simp);simp only [Nat.add_zero] at this;rw [<- this];exact h1
   ·have:=he (i+1) (by simp;omega);rw [show j+1+i=j+(i+1) by omega,show j'+1+i=j'+(i+1) by omega];exact this
theorem xKf:∀ {a b:List K} {c:List D} {j:Nat} {p q:List AV},xaz a c j p->xaz b c (j+a.length) q->xaz (a++b) c j (p++q)
 | [],b,c,j,p,q,h1,h2=>by
   simp only [xaz] at h1;subst h1;simpa using h2
 | k :: a,b,c,j,p,q,h1,h2=>by
   simp only [xaz] at h1;obtain ⟨v,vs',rfl,h3,h4⟩:=h1;simp only [List.cons_append,xaz];refine ⟨v,vs'++q,rfl,h3,xKf h4 ?_⟩;rw [show j+1+a.length=j+(k::a).length by simp;omega];exact h2
def xzk (P:Program):Nat->TypeId->Bool
 | 0,_=>false
 | d + 1,t=>match P.underlying t with
   | some .bool=>true
   | some (.int _)=>true
   | some (.slice e)=>((xgn P d e).map List.length == some (P.cellsOf e)) && xzk P d e
   | some (.struct fs)=>fs.toList.all fun f=>xzk P d f.type
   | _=>false
mutual
/-- Data as arguments have them: integers in their range, lists not longer than a slice can be. -/
def WfK:K->D->Prop
 | .int k,d=>(Lit.int k d.I).wf=true
 | .bool,_=>True
 | .ro ks,d=>d.L.length<=maxLen/\∀ c∈d.L,WfC ks c 0
 | .opt _,_=>True
 | .alt _,_=>True
def WfC:List K->List D->Nat->Prop
 | [],_,_=>True
 | k::ks,c,j=>WfK k (c.getD j default)/\WfC ks c (j+1)
end
theorem xve:∀ {ks:List K} {c c':List D} {j j':Nat},(∀ i,i<ks.length->c.getD (j+i) default=c'.getD (j'+i) default)->WfC ks c j->WfC ks c' j'
 | [],_,_,_,_,_,_=>trivial
 | k :: ks,c,c',j,j',he,h=>by
   simp only [WfC] at h ⊢;refine ⟨?_,xve (fun i hi=>?_) h.2⟩
   ·have:=he 0 (by simp);simp only [Nat.add_zero] at this;rw [<- this];exact h.1
   ·have:=he (i+1) (by simp;omega);rw [show j+1+i=j+(i+1) by omega,show j'+1+i=j'+(i+1) by omega];exact this
theorem xMb:∀ {a b:List K} {c:List D} {j:Nat},WfC a c j->WfC b c (j+a.length)->WfC (a++b) c j
 | [],b,c,j,_,h2=>by simpa using h2
 | k :: a,b,c,j,h1,h2=>by
   simp only [WfC,List.cons_append] at h1 ⊢;refine ⟨h1.1,xMb h1.2 ?_⟩;rw [show j+1+a.length=j+(k::a).length by simp;omega];exact h2
theorem xJp {a b:List K} {x y:List D} (hl:x.length=a.length) (h1:WfC a x 0) (h2:WfC b y 0):WfC (a++b) (x++y) 0:=by
 refine xMb (xve (fun i hi=>?_) h1) (xve (fun i hi=>?_) h2)
 ·simp only [Nat.zero_add,List.getD_eq_getElem?_getD];rw [List.getElem?_append_left (by omega)]
 ·simp only [Nat.zero_add,List.getD_eq_getElem?_getD];rw [List.getElem?_append_right (by omega),hl];congr 2;omega
theorem xQy (P:Program):∀ (d d':Nat) (t:TypeId) (as:List AV) (ks:List K),xhe P d t as->xgn P d' t=some ks->xzk P d' t=true->∃ ds:List D,ds.length=ks.length/\xaz ks ds 0 as/\WfC ks ds 0:=by
 intro d;induction d with
 | zero=>intro d' t as ks h;exact h.elim
 | succ d ih=>
   intro d' t as ks h hk hz;cases d' with
   | zero=>cases hk
   | succ d'=>
     unfold xhe at h;unfold xgn at hk;unfold xzk at hz;split at h
     ·rename_i hu;rw [hu] at hk hz;simp only [Option.some.injEq] at hk;subst hk;obtain ⟨b,rfl⟩:=h;exact ⟨[.b b],rfl,⟨_,_,rfl,rfl,rfl⟩,trivial,trivial⟩
     ·rename_i k hu;rw [hu] at hk hz;simp only [Option.some.injEq] at hk;subst hk;obtain ⟨n,rfl,hw⟩:=h;exact ⟨[.i n],rfl,⟨_,_,rfl,rfl,rfl⟩,hw,trivial⟩
     ·rename_i e hu;rw [hu] at hk hz;simp only [Option.map_eq_some_iff] at hk;obtain ⟨ks',hk',rfl⟩:=hk;obtain ⟨es,hsh,hl,hes⟩:=h;rcases hsh with rfl | ⟨-,rfl⟩
      case inr=>
       refine ⟨[.l []],rfl,⟨_,_,rfl,?_,rfl⟩,⟨Nat.zero_le _,fun c hc=>by cases hc⟩,trivial⟩;simp only [List.getD_cons_zero,xb3,D.L];exact .inl ⟨by trivial,by trivial⟩
      simp only [Bool.and_eq_true,beq_iff_eq,hk',Option.map_some,Option.some.injEq] at hz;obtain ⟨l,hl1,hl2⟩:∃ l:List (List D),l.length=es.length/\∀ (i:Nat) (x:List AV) (c:List D),es[i]?=some x->l[i]?=some c->c.length=ks'.length/\xaz ks' c 0 x/\WfC ks' c 0:=by
       refine xqo es fun i x hx=>?_
       exact ih d' e x ks' (hes x (List.mem_of_getElem? hx)) hk' hz.2
      have hcells:P.cellsOf e=ks'.length:=hz.1.symm;refine ⟨[.l l],rfl,⟨_,_,rfl,?_,rfl⟩,⟨?_,?_⟩,trivial⟩
      ·simp only [List.getD_cons_zero,xb3,D.L];exact .inr ⟨_,_,_,by rw [hcells],hl1.symm,fun i x c h1 h2=>(hl2 i x c h1 h2).2.1⟩
      ·simp only [List.getD_cons_zero,D.L];omega
      ·simp only [List.getD_cons_zero,D.L];intro c hc;obtain ⟨i,hi,rfl⟩:=List.getElem_of_mem hc;exact (hl2 i _ _ (List.getElem?_eq_getElem (by omega)) (List.getElem?_eq_getElem hi)).2.2
     ·rename_i fs hu;rw [hu] at hk hz;simp only [List.all_eq_true] at hk hz;generalize fs.toList=fl at h hk hz;clear hu;induction fl generalizing as ks with
      | nil=>
        simp only [xBl] at h;simp only [xAm,Option.some.injEq] at hk;subst h hk;exact ⟨[],rfl,rfl,trivial⟩
      | cons f fl ihf=>
        simp only [xBl] at h;simp only [xAm] at hk;obtain ⟨p,q,rfl,h1,h2⟩:=h;split at hk
        ·rename_i a b ha hb;simp only [Option.some.injEq] at hk;subst hk;obtain ⟨x,hx1,hx2,hx3⟩:=ih d' _ p a h1 ha (hz f (by simp));obtain ⟨y,hy1,hy2,hy3⟩:=ihf q b h2 hb (fun g hg=>hz g (by simp [hg]));refine ⟨x++y,by simp [hx1,hy1],xKf (xs6 (fun i hi=>?_) hx2) (xs6 (fun i hi=>?_) hy2),xJp hx1 hx3 hy3⟩
         ·simp only [Nat.zero_add,List.getD_eq_getElem?_getD];rw [List.getElem?_append_left (by omega)]
         ·simp only [Nat.zero_add,List.getD_eq_getElem?_getD];rw [List.getElem?_append_right (by omega),hx1];congr 2;omega
        ·cases hk
     ·exact h.elim
theorem xBa:∀ (ks:List K) (ds r:List D) (j:Nat) (c:List D),ds.length=ks.length->(∀ i,i<ks.length->c.getD (j+i) default=ds.getD i default)->(xbw (ks.map .k) (ds++r))=(xe6 ks c j,r)
 | [],ds,r,j,c,hl,_=>by
   cases ds with
   | nil=>rfl
   | cons d ds=>simp at hl
 | k :: ks,ds,r,j,c,hl,hc=>by
   cases ds with
   | nil=>simp at hl
   | cons d ds=>
     have:=xBa ks ds r (j+1) c (by simpa using hl) (fun i hi=>by
      have:=hc (i+1) (by simp;omega);rw [show j+1+i=j+(i+1) by omega,this];simp)
     simp only [List.map_cons,xbw,xcs,List.cons_append,List.headD_cons,List.tail_cons,xe6,this];have h0:=hc 0 (by simp);simp only [Nat.add_zero,List.getD_cons_zero] at h0;rw [h0]
def xul (P:Program) (t:TypeId):Nat:=((xgn P 12 t).getD []).length
def xc6 (P:Program) (t:TypeId):List K:=(xgn P 12 t).getD []
def xJj (P:Program) (t:TypeId):Bool:=(xgn P 12 t).isSome && xzk P 12 t && (xeb P t || xul P t == 1)
theorem xJi (P:Program) (d:Nat):∀ (ts:List TypeId) (xs:List AV) (r:List D),xjw P d ts xs->(∀ t∈ts,xJj P t=true)->∃ ds:List D,ds.length=(ts.map (xul P)).sum/\VRL (xbw (ts.map (xwn P)) (ds++r)).1 xs/\(xbw (ts.map (xwn P)) (ds++r)).2=r/\WfC (ts.flatMap (xc6 P)) ds 0
 | [],xs,r,h,_=>by
   simp only [xjw] at h;subst h;exact ⟨[],rfl,rfl,rfl,trivial⟩
 | t :: ts, xs,r,h,hf=>by
   simp only [xjw] at h;obtain ⟨cs,rest,rfl,h1,h2⟩:=h;obtain ⟨ds2,hl2,hv2,hr2,hw2⟩:=xJi P d ts rest r h2 (fun t ht=>hf t (by simp [ht]));have hft:=hf t (by simp);simp only [xJj,Bool.and_eq_true,Bool.or_eq_true,beq_iff_eq] at hft;obtain ⟨⟨hk,hz⟩,hg⟩:=hft;obtain ⟨ks,hks⟩:=Option.isSome_iff_exists.1 hk;obtain ⟨ds1,hl1,he,hw1⟩:=xQy P d 12 t cs ks h1 hks hz;have hkn:xul P t=ks.length:=by simp [xul,hks]
   have hdec:=xBa ks ds1 (ds2++r) 0 ds1 hl1 (fun i hi=>by simp);have hvr:=xiq he;have key:VR (xcs (xwn P t) (ds1++(ds2++r))).1 (xBj P t cs)/\(xcs (xwn P t) (ds1++(ds2++r))).2=ds2++r:=by
    unfold xwn xBj;rw [hks];simp only;split
    ·simp only [xcs,hdec,VR];exact ⟨⟨cs,rfl,hvr⟩,trivial⟩
    ·rename_i hag;have h1k:ks.length=1:=by rw [<- hkn];exact hg.resolve_left (by simpa using hag)
     match ks,h1k with
     | [k], _=>
       match ds1,hl1 with
       | [x],_=>
         simp only [xaz] at he;obtain ⟨v,vs',rfl,h3,rfl⟩:=he;simp only [List.headD_cons,xcs,List.cons_append,List.nil_append,List.tail_cons];exact ⟨xyw h3,trivial⟩
   have hkl:xc6 P t=ks:=by simp [xc6,hks]
   refine ⟨ds1++ds2,by simp [hl1,hl2,hkn],?_,?_,by rw [List.flatMap_cons,hkl];exact xJp hl1 hw1 hw2⟩
   ·simp only [List.map_cons,xbw,List.append_assoc];rw [key.2];exact ⟨_,_,rfl,key.1,hv2⟩
   ·simp only [List.map_cons,xbw,List.append_assoc];rw [key.2];exact hr2
theorem xIc {C:Cfg} (hC:∀ t Y,C.ty t=some Y->xcc C.P t=some Y) {sp:SpL} {lp:LpL} {sw:SwL} {n:Nat} {f:FuncId} (hsp:xht C n sp) (hsw:xf4 C n sw) (hf:xlf C.P f=true) (keys:List Nat) (h1:xco (xiv C.P f)=keys.map (xaa C.P f)) (h2:keys.map (fun k=>xbn (xaa C.P f k))=keys)
    (hl:∀ k∈keys,∀ L,xgy lp k=some L->xct C n f (xaa C.P f k) L) {ts:List TypeId} {ks:List SK} (hks:ks=ts.map (xwn C.P)) (hfit:∀ t∈ts,xJj C.P t=true) {m:Nat} (hm:(ts.map (xul C.P)).sum=m)
    (hrun:∀ ds:List D,ds.length=m->WfC (ts.flatMap (xc6 C.P)) ds 0->(fnT C (xah sp lp sw) f ⟨ks,[(.k .bool,[])]⟩ ds).run=some [D.b true]) (d:Nat) (xs:List AV) (hx:xjw C.P d ts xs):∃ n h',xbv C n Unit none f xs [] ()=some (.bool true,h',()):=by
 obtain ⟨ds,hlen,hv,-,hwf⟩:=xJi C.P d ts xs [] hx hfit;rw [List.append_nil,<- hks] at hv;have hr:=hrun ds (hlen.trans hm) hwf;unfold fnT at hr;rw [T.run_bind,Option.bind_eq_some_iff] at hr;obtain ⟨⟨v0,h0⟩,hc,hfr⟩:=hr;rw [T.run_ofO] at hfr;obtain ⟨fn,h3,h4⟩:=xh1 hf;obtain ⟨v',h',h5,h6,h7⟩:=xI4 hC (xoo hsp hsw) h3 h4 (xo1 keys h1 h2 hl) _ _ _ hc xs hv;have h8:=(xp6 hfr h6 h7).1;refine ⟨n+1,h',?_⟩;rw [h5];have:v'=.bool true:=h8;rw [this]
section
variable {α:Type} {x:Option α}
theorem xau {p:Prop} [Decidable p] {t:T α} (hp:p) (h:t.run=x):(T.need (decide p) t).run=x:=by rw [xjb,if_pos (decide_eq_true hp)];exact h
theorem xai {p:Prop} {t:T α} (hp:p) (h:t.run=x):(T.need (yes p) t).run=x:=by rw [xjb,if_pos (xxh hp)];exact h
theorem xv9 {c:Bool} {t:T α} (hc:c=true) (h:t.run=x):(T.need c t).run=x:=by rw [xjb,if_pos hc];exact h
theorem xdk {p:Prop} [Decidable p] {t e:T α} (h1:p->t.run=x) (h2:¬ p->e.run=x):(T.ite (decide p) t e).run=x:=by
 rw [xa5];by_cases hp:p
 ·rw [if_pos (decide_eq_true hp)];exact h1 hp
 ·rw [if_neg (by simpa using hp)];exact h2 hp
theorem xhc {c:Bool} {t e:T α} (h1:c=true->t.run=x) (h2:c=false->e.run=x):(T.ite c t e).run=x:=by
 rw [xa5];cases c with
 | true=>exact h1 rfl
 | false=>exact h2 rfl
theorem xd6 {c:Bool} {t e:T α} (h1:c=false->t.run=x) (h2:c=true->e.run=x):(T.ite (!c) t e).run=x:=by
 rw [xa5];cases c with
 | true=>exact h2 rfl
 | false=>exact h1 rfl
theorem xIp {p:Prop} [Decidable p] {t e:T α} (hp:p) (h:t.run=x):(T.ite (decide p) t e).run=x:=by rw [xa5,if_pos (decide_eq_true hp)];exact h
theorem xkj {p:Prop} [Decidable p] {t e:T α} (hp:¬ p) (h:e.run=x):(T.ite (decide p) t e).run=x:=by rw [xa5,if_neg (by simpa using hp)];exact h
theorem xcx {c:Bool} {t e:T α} (hc:c=true) (h:t.run=x):(T.ite c t e).run=x:=by rw [xa5,if_pos hc];exact h
theorem xaq {c:Bool} {t e:T α} (hc:c=false) (h:e.run=x):(T.ite c t e).run=x:=by rw [xa5,hc];exact h
theorem xv8 {c:Bool} {t e:T α} (hc:c=true) (h:e.run=x):(T.ite (!c) t e).run=x:=by rw [xa5,hc];exact h
theorem xLs {c:Bool} {t e:T α} (hc:c=false) (h:t.run=x):(T.ite (!c) t e).run=x:=by rw [xa5,hc];exact h
end
section
variable {G:List D->T (Ex×List D)} {μ:List D->Nat} {ds:List D} {r:Ex×List D}
theorem xac {p:Prop} [Decidable p] {t:T Rd} (hp:p) (h:xez G μ ds r t.run):xez G μ ds r (T.need (decide p) t).run:=by rw [xjb,if_pos (decide_eq_true hp)];exact h
theorem xbe {p:Prop} {t:T Rd} (hp:p) (h:xez G μ ds r t.run):xez G μ ds r (T.need (yes p) t).run:=by rw [xjb,if_pos (xxh hp)];exact h
theorem xdi {c:Bool} {t:T Rd} (hc:c=true) (h:xez G μ ds r t.run):xez G μ ds r (T.need c t).run:=by rw [xjb,if_pos hc];exact h
theorem xa2 {p:Prop} [Decidable p] {t e:T Rd} (h1:p->xez G μ ds r t.run) (h2:¬ p->xez G μ ds r e.run):xez G μ ds r (T.ite (decide p) t e).run:=by
 rw [xa5];by_cases hp:p
 ·rw [if_pos (decide_eq_true hp)];exact h1 hp
 ·rw [if_neg (by simpa using hp)];exact h2 hp
theorem xcm {c:Bool} {t e:T Rd} (h1:c=true->xez G μ ds r t.run) (h2:c=false->xez G μ ds r e.run):xez G μ ds r (T.ite c t e).run:=by
 rw [xa5];cases c with
 | true=>exact h1 rfl
 | false=>exact h2 rfl
theorem xlt {c:Bool} {t e:T Rd} (h1:c=false->xez G μ ds r t.run) (h2:c=true->xez G μ ds r e.run):xez G μ ds r (T.ite (!c) t e).run:=by
 rw [xa5];cases c with
 | true=>exact h2 rfl
 | false=>exact h1 rfl
theorem xiy {c:Bool} {t e:T Rd} (hc:c=true) (h:xez G μ ds r t.run):xez G μ ds r (T.ite c t e).run:=by rw [xa5,if_pos hc];exact h
theorem xbr {c:Bool} {t e:T Rd} (hc:c=false) (h:xez G μ ds r e.run):xez G μ ds r (T.ite c t e).run:=by rw [xa5,hc];exact h
theorem xgl {p:Prop} [Decidable p] {t e:T Rd} (hp:p) (h:xez G μ ds r t.run):xez G μ ds r (T.ite (decide p) t e).run:=by rw [xa5,if_pos (decide_eq_true hp)];exact h
theorem xem {p:Prop} [Decidable p] {t e:T Rd} (hp:¬ p) (h:xez G μ ds r e.run):xez G μ ds r (T.ite (decide p) t e).run:=by rw [xa5,if_neg (by simpa using hp)];exact h
theorem xaj {ds':List D} (h1:(G ds').run=some r) (h2:μ ds'<μ ds):xez G μ ds r (T.leaf (Rd.again ds')).run:=⟨_,rfl,.inl ⟨_,rfl,h1,h2⟩⟩
theorem xao {e:Ex} {ds':List D} (h:some (e,ds')=some r):xez G μ ds r (T.leaf (Rd.out e ds')).run:=by
 cases h;exact ⟨_,rfl,.inr rfl⟩
end
theorem xGk (c:List D) (d:D) (k:K):xex c [d] 0 0 (List.length [k])=[d]:=by simp [xex]
def xVw (ds:List D):T (List D):=match ds with
 | [l]=>.need (yes (l.L≠[]/\l.L.length<=1073741824)) (.leaf [.i 0,.i l.L.length,.l l.L])
 | _=>.fail
def mkY (es:List SK) (bs:List BK) (give:Bool):YS where
 fit args h:=match xdv es args,xm6 bs h with
  | some x,some y=>some (x++y)
  | _,_=>none
 head d:=((xbw es d).1,(xj2 bs (xbw es d).2).1)
 give:=give
theorem xna (es:List SK) (bs:List BK) (give:Bool):YOK (mkY es bs give):=by
 intro cargs ch d h ya yh hv hh;simp only [mkY] at h ⊢;split at h
 ·rename_i x y hx hy;cases h;obtain ⟨h1,h2⟩:=xcz es y hx hv;obtain ⟨h3,h4⟩:=xlh bs [] hy hh;rw [List.append_nil] at h3;rw [h2];exact ⟨h1,h3⟩
 ·cases h
structure SigI where
 args:List SK
 hin:List BK
def xIw (C:Cfg) (tab:Tab) (f:FuncId) (s:SigI) (ds:List D):T (List (List D)):=xI5 C tab f (xbw s.args ds).1 (xj2 s.hin (xbw s.args ds).2).1
def xx8 (s:SigI) (G:List D->T (List (List D))):List SV->xav->T (List (List D)):=fun args h=>match xdv s.args args,xm6 s.hin h with
 | some x,some y=>G (x++y)
 | _,_=>.fail
theorem xYr {C:Cfg} (hC:∀ t Y,C.ty t=some Y->xcc C.P t=some Y) {n:Nat} {f:FuncId} {Y:YS} {tab:Nat->Tab} (hy:∀ q,(tab q).y=some Y/\(tab q).q=q) (hS:∀ q,xk4 C (tab q) n) {fn:Func} {c:Code} (hfn:C.P.funcs[f]?=some fn) (hbody:fn.body=some c)
    {s:SigI} (hl:∀ q,xbf C (tab q) n s.hin.length f c) {G:List D->T (List (List D))} (hG:∀ ds L,(G ds).run=some L->∀ q,(xIw C (tab q) f s ds).run=some (L.take (q+1))):xrq C (n+1) f Y (xx8 s G):=by
 intro args h L hr avs h0 hv hh S H P q hc s0 hs0;unfold xx8 at hr;split at hr
 ·rename_i x y hx hy';have hf:=hG _ L hr q;unfold xIw at hf;obtain ⟨h1,h2⟩:=xcz s.args y hx hv;obtain ⟨h3,h4⟩:=xlh s.hin [] hy' hh;rw [List.append_nil] at h3;rw [<- h2] at h3;exact xUz hC (hS q) hfn hbody (by rw [xo8];exact hl q) hf h1 h3 (by rw [(hy q).1,(hy q).2];exact hc) hs0
 ·cases hr
abbrev ItL:=List (FuncId×(List SV->xav->T (List (List D))))
def xOv:ItL->FuncId->Option (List SV->xav->T (List (List D)))
 | [],_=>none
 | p::ps,f=>if p.1=f then some p.2 else xOv ps f
def xBp (C:Cfg) (n:Nat) (Y:YS):ItL->Prop
 | []=>True
 | p::ps=>xrq C n p.1 Y p.2/\xBp C n Y ps
theorem xBk {C:Cfg} {n:Nat} {Y:YS}:∀ {it:ItL},xBp C n Y it->∀ f F,xOv it f=some F->xrq C n f Y F
 | [],_,f,F,h=>by cases h
 | p :: ps,ho,f,F,h=>by
   simp only [xOv] at h;split at h
   ·rename_i e;cases h;subst e;exact ho.1
   ·exact xBk ho.2 f F h
def xov (k:Nat) (live:List Nat) (g:Operand) (it:ItL) (head:List Shp) (G:List (List D)->List D->T (Ex×List D)):SSt->T (Ex×SSt):=fun σ0=>match σ0.log with
 | _::_=>.fail
 | [] => match evS (xf8 k live σ0).tmps g with
   | .fn (.func gf) a cp=>(match xg9 (xbz (xf8 k live σ0).h) wide ((a++cp).flatMap (xd2 xak)) [] with
     | ms=>match xOv it gf,xss head (xf8 k live { tmps:=(xf8 k live σ0).tmps,h:=xj9 (xf8 k live σ0).h (ms.map fun i=>(i,none)) }) with
       | some F,some ds=>(F (a.map (mvS true false (pos ms) xak)++[.yl]++cp.map (mvS true false (pos ms) xak)) (ms.map fun i=>(xbz (xf8 k live σ0).h i).map (xft true false (pos ms)))).bind fun L=>(G L ds).bind fun r=>.leaf (r.1,xck head r.2)
       | _,_=>.fail)
   | _=>.fail
def xlq (ps:List Tmp) (vs:List SV) (ts:List SV):List SV:=(ps.zip vs).foldl (fun ts p=>ts.set p.1 p.2) ts
def xLt (at_:Nat) (y h:xav):xav:=(List.range y.length).map fun i=>(xbz y i).bind fun _=>(xbz h (at_+i)).map (xft false false (xrg y.length at_))
def xax (ps:List Tmp) (σ:SSt) (y:List SV×xav):SSt:=
 { tmps:=xlq ps (y.1.map (mvS false false (xgh y.2.length σ.h.length) xak)) σ.tmps,h:=σ.h++(y.2.map fun b=>b.map (xft false false (xgh y.2.length σ.h.length))) }
def xe3 (C:Cfg) (tab:Tab) (f:FuncId) (r:Rg) (k kk:Nat) (live:List Nat) (head:List Shp) (Y:YS) (ds el:List D):T (Rd×List D):=
 if (Y.head el).1.length=r.2.1.size/\(xck head ds).h.length+(Y.head el).2.length=kk then
  (xca C tab f r.2.2.1 (xax r.2.1.toList (xck head ds) (Y.head el))).bind fun r1=>match r1.1 with
   | .normal => (xca C tab f r.2.2.2 r1.2).bind fun r2=>match r2.2.log with
     | [] => (match Y.give with
       | false=>(match xss head (xf8 k live { tmps:=(xck head ds).tmps,h:=r2.2.h }) with
         | some ds'=>(match r2.1 with
           | .normal=>.leaf (.again ds',[])
           | .pan _=>.fail
           | e=>.leaf (.out e ds',[]))
         | none=>.fail)
       | true=>(match xss head (xf8 k live { tmps:=(xck head ds).tmps,h:=xj9 r2.2.h (((List.range (Y.head el).2.length).map ((xck head ds).h.length+·)).map fun i=>(i,none)) }),Y.fit (Y.head el).1 (xLt (xck head ds).h.length (Y.head el).2 r2.2.h) with
         | some ds',some el'=>(match r2.1 with
           | .normal=>.leaf (.again ds',el')
           | .pan _=>.fail
           | e=>.leaf (.out e ds',el'))
         | _,_=>.fail))
     | _=>.fail
   | _=>.fail
 else .fail
inductive FoldR (R:List D->List D->Option (Rd×List D)) (give:Bool) (E:List D->List D->Prop):List D->List (List D)->Ex->List D->Prop
 | nil {ds r:List D}:E ds r->FoldR R give E ds [] .normal r
 | again {ds x ds' x':List D} {xs:List (List D)} {e:Ex} {r:List D}:R ds x=some (.again ds',x')->(give=true->x'=x)->FoldR R give E ds' xs e r->FoldR R give E ds (x::xs) e r
 | out {ds x x':List D} {xs:List (List D)} {e:Ex} {r:List D}:R ds x=some (.out e r,x')->(give=true->x'=x)->e≠.normal->FoldR R give E ds (x::xs) e r
theorem xJr (ms:List Nat):UR (ms.map fun i=>(i,none)) (ms.map fun i=>(i,none)):=by
 induction ms with
 | nil=>simp only [List.map_nil,UR]
 | cons m ms ih=>
   simp only [List.map_cons,UR];exact ⟨_,_,rfl,rfl,trivial,ih⟩
theorem HR.append {sh sh':xav} {h h':xap} (H:HR sh h) (H':HR sh' h'):HR (sh++sh') (h++h'):=by
 refine ⟨by simp [H.1,H'.1],fun i=>?_⟩;have h1:=H.2 i;have h2:=H'.2 (i - sh.length);simp only [xbz,xag,List.getElem?_append] at h1 h2 ⊢;rw [<- H.1];split
 ·exact h1
 ·exact h2
theorem HR.mapm {sh:xav} {h:xap} (H:HR sh h) (ρ:Nat->Option Nat) {kb ky:Bool}:HR (sh.map fun b=>b.map (xft kb ky ρ)) (h.map fun b=>b.map (mvB kb ky ρ)):=by
 refine ⟨by simp [H.1],fun i=>?_⟩;have h1:=H.2 i;simp only [xbz,xag,List.getElem?_map] at h1 ⊢;cases e1:sh[i]? with
 | none=>
   have:h[i]?=none:=List.getElem?_eq_none_iff.2 (by have:=List.getElem?_eq_none_iff.1 e1;have:=H.1;omega);rw [this];trivial
 | some o=>
   cases e2:h[i]? with
   | none=>have h3:=List.getElem?_eq_none_iff.1 e2;have h4:=(List.getElem?_eq_some_iff.1 e1).1;have:=H.1;omega
   | some o'=>
     rw [e1,e2] at h1;exact OR.map h1 ρ
theorem HR.maps {f:Nat->Option SB} {g:Nat->Option Blk} (l:List Nat) (h:∀ i∈l,OR (f i) (g i)):HR (l.map f) (l.map g):=by
 refine ⟨by simp,fun i=>?_⟩;simp only [xbz,xag,List.getElem?_map];cases e:l[i]? with
 | none=>trivial
 | some j=>exact h j (List.mem_of_getElem? e)
theorem xs9:∀ (ps:List Tmp) {vs:List SV} {us:List AV} {ts:List SV} {as:List AV},VRL vs us->VRL ts as->VRL (xlq ps vs ts) (xfc ps us as)
 | [],vs,us,ts,as,_,h=>by simpa [xlq,xfc] using h
 | p::ps,[],us,ts,as,hv,h=>by simp only [VRL] at hv;subst hv;simpa [xlq,xfc] using h
 | p :: ps,v::vs,us,ts,as,hv,h=>by
   simp only [VRL] at hv;obtain ⟨u,us',rfl,h1,h2⟩:=hv;simp only [xlq,xfc,List.zip_cons_cons,List.foldl_cons];exact xs9 ps h2 (xwq p h h1)
def xm7:Ex->Bool
 | .normal=>true
 | _=>false
def xFh:Ex->Option Ex
 | .normal=>none
 | e=>some e
section
variable {C:Cfg} (hC:∀ t Y,C.ty t=some Y->xcc C.P t=some Y) {tab:Tab} {n:Nat} (hS:xk4 C tab n) {f:FuncId} {r:Rg} {k kk:Nat} {live:List Nat} {head:List Shp} {Y:YS}
 (hYok:YOK Y) (hla:xbf C tab n kk f r.2.2.1) (hlb:xbf C tab n kk f r.2.2.2)
include hC hS hYok hla hlb
omit hC hS hYok hla hlb in
theorem xNk {ds el x':List D} {e:Ex} {rr:List D} (h:(xe3 C tab f r k kk live head Y ds el).run=some (.out e rr,x')):xkf e=true:=by
 cases e with
 | pan t=>
   unfold xe3 at h;split at h
   case isFalse=>cases h
   rw [T.run_bind,Option.bind_eq_some_iff] at h;obtain ⟨⟨e1,σ1⟩,h1,h⟩:=h;cases e1 <;> simp only at h <;> try (cases h;done)
   rw [T.run_bind,Option.bind_eq_some_iff] at h;obtain ⟨⟨e2,σ2⟩,h2,h⟩:=h
   repeat' (split at h)
   all_goals first
    | (cases h;done)
    | (simp only [T.run,Option.some.injEq,Prod.mk.injEq,Rd.out.injEq] at h;obtain ⟨⟨rfl,-⟩,-⟩:=h;rename_i hne _ _;exact absurd rfl (hne t))
    | (simp only [T.run,Option.some.injEq,Prod.mk.injEq,Rd.out.injEq] at h;obtain ⟨⟨rfl,-⟩,-⟩:=h;simp_all)
 | _=>rfl
theorem xQ6 {ds el x':List D} {o:Rd} (hR:(xe3 C tab f r k kk live head Y ds el).run=some (o,x')) (hx:Y.give=true->x'=el) {τ:St} (hτ:SSR (xck head ds) τ) {ya:List AV} {yh:xap} (hya:VRL (Y.head el).1 ya) (hyh:HR (Y.head el).2 yh)
    {S : Type} (H:Option (Hd S)) (s:S):∃ nh e τ',xot r.2.1 (xig k live) Y.give (fun kk=>xbs C (xbv C n) f kk H r.2.2.1) (fun kk=>xbs C (xbv C n) f kk H r.2.2.2) ya yh (τ,none,s)=some (.bool (xm7 e),nh,(τ',xFh e,s))/\xkf e=true /\
     (Y.give=true->HR (Y.head el).2 nh)/\(Y.give=false->∀ i,xag nh i=none)/\∃ ds',SSR (xck head ds') τ'/\o=(if xm7 e then .again ds' else .out e ds'):=by
 unfold xe3 at hR;split at hR
 case isFalse=>cases hR
 rename_i hc;obtain ⟨hps,hkk⟩:=hc;have hl1:ya.length=r.2.1.size:=(xa4 hya).symm.trans hps;have hl2:=hτ.2.1;have hl3:=hyh.1;simp only [T.run_bind,Option.bind_eq_some_iff] at hR;obtain ⟨⟨e1,σ1⟩,h1,hR⟩:=hR;cases e1 with
 | exit id=>cases hR
 | ret=>cases hR
 | pan t=>cases hR
 | normal=>
 simp only [T.run_bind,Option.bind_eq_some_iff] at hR;obtain ⟨⟨e2,σ2⟩,h2,hR⟩:=hR;have hlog2:σ2.log=[]:=by
  cases hg:σ2.log with
  | nil=>rfl
  | cons a l=>simp only [hg] at hR;cases hR
 have hlog1:σ1.log=[]:=by
  have:=xkz r.2.2.2 hlb h2;rw [hlog2] at this;exact List.prefix_nil.1 this
 obtain ⟨τ1,s1,h3,rfl,h4⟩:=xfw hC hS hS.2.2 (H:=H) (P:=fun _ x=>x=s) (Lg:=[]) xfk.nil r.2.2.1 hla (s:=s) h1 (by rw [hlog1];exact List.prefix_refl _)
  (τ:={ tmps:=xfc r.2.1.toList (ya.map (mv false false (xgh yh.length τ.h.length) xak)) τ.tmps,h:=τ.h++yh.map fun b=>b.map (mvB false false (xgh yh.length τ.h.length)) })
  ⟨by
   unfold xax;rw [hl2,hl3];exact xs9 _ (xg5 (xe1 false false _ xak) hya) hτ.1,by
   unfold xax;rw [hl2,hl3];exact hτ.2.append (hyh.mapm _)⟩ rfl
 obtain ⟨τ2,s2,h5,hs2,h6⟩:=xfw hC hS hS.2.2 (H:=H) (P:=fun _ x=>x=s1) (Lg:=[]) xfk.nil r.2.2.2 hlb (s:=s1) h2 (by rw [hlog2];exact List.prefix_refl _) h4 rfl;have hs2:s2=s1:=hs2;subst hs2;have hkk2:τ.h.length+yh.length=kk:=by rw [<- hl2,<- hl3];exact hkk
 simp only [hlog2] at hR;cases hg:Y.give with
 | false=>
   rw [hg] at hR;simp only at hR;split at hR
   case h_2=>cases hR
   rename_i ds' hfit;have hfs:=xnj hfit (xjf (k:=k) (live:=live) (σ:={ tmps:=(xck head ds).tmps,h:=σ2.h }) (τ:={ tmps:=τ.tmps,h:=τ2.h }) ⟨hτ.1,h6.2⟩);have hnp:xkf e2=true:=by cases e2 <;> first | rfl | cases hR
   refine ⟨List.replicate yh.length none,e2,xig k live { tmps:=τ.tmps,h:=τ2.h },?_,hnp,(fun h=>by cases h),fun _ i=>?_,ds',hfs,?_⟩
   ·simp only [xot,hl1,if_true,hkk2,h3,h5];cases e2 <;> first | rfl | cases hnp
   ·unfold xag;rw [List.getElem?_replicate];split <;> rfl
   ·cases e2 <;> first | (cases hnp;done) | (simp only [T.run,Option.some.injEq,Prod.mk.injEq] at hR;exact hR.1.symm)
 | true =>
   rw [hg] at hR;simp only at hR;split at hR
   case h_2=>cases hR
   rename_i ds' el' hfit hfit2;have hfs:=xnj hfit (xjf (k:=k) (live:=live) (σ:={ tmps:=(xck head ds).tmps,h:=xj9 σ2.h (((List.range (Y.head el).2.length).map ((xck head ds).h.length+·)).map fun i=>(i,none)) })
    (τ := { tmps:=τ.tmps,h:=xcn τ2.h (((List.range yh.length).map (τ.h.length+·)).map fun i=>(i,none)) }) ⟨hτ.1,by
     show HR (xj9 _ _) (xcn _ _);rw [hl2,hl3];exact HR.ups h6.2 (xJr _)⟩)
   have hel:el'=el:=by
    have:x'=el':=by cases e2 <;> first | (cases hR;done) | (simp only [T.run,Option.some.injEq,Prod.mk.injEq] at hR;exact hR.2.symm)
    rw [<- this];exact hx hg
   subst hel;have hnp:xkf e2=true:=by cases e2 <;> first | rfl | cases hR
   refine ⟨xnf τ.h.length yh τ2.h,e2,xig k live { tmps:=τ.tmps,h:=xcn τ2.h (((List.range yh.length).map (τ.h.length+·)).map fun i=>(i,none)) },?_,hnp,fun _=>?_,(fun h=>by cases h),ds',hfs,?_⟩
   ·simp only [xot,hl1,if_true,hkk2,h3,h5];cases e2 <;> first | rfl | cases hnp
   ·refine (hYok _ _ _ hfit2 ya _ hya ?_).2;unfold xLt xnf;rw [hl2,hl3];refine HR.maps _ fun i _=>?_
    have h7:=hyh.2 i;have h8:=h6.2.2 (τ.h.length+i);cases e1:xbz (Y.head el').2 i with
    | none=>rw [e1] at h7;rw [xws h7];trivial
    | some b=>
      rw [e1] at h7;obtain ⟨B,hB,-⟩:=xbm h7;rw [hB];exact OR.map h8 _
   ·cases e2 <;> first | (cases hnp;done) | (simp only [T.run,Option.some.injEq,Prod.mk.injEq] at hR;exact hR.1.symm)
omit hC hS hYok hla hlb in
theorem xU6 {S:Type} {Hf:Hd (St×Option Ex×S)} {s:S} {R:List D->List D->Option (Rd×List D)} {give:Bool}
    (hround:∀ ds el x' o,R ds el=some (o,x')->(give=true->x'=el)->∀ τ,SSR (xck head ds) τ->∀ ya yh,VRL (Y.head el).1 ya->HR (Y.head el).2 yh->∃ nh e τ',Hf ya yh (τ,none,s)=some (.bool (xm7 e),nh,(τ',xFh e,s))/\xkf e=true /\
     (Y.give=true->HR (Y.head el).2 nh)/\(Y.give=false->∀ i,xag nh i=none)/\∃ ds',SSR (xck head ds') τ'/\o=(if xm7 e then .again ds' else .out e ds'))
    (hnpo:∀ {ds el x' e r},R ds el=some (.out e r,x')->xkf e=true) {ds:List D} {L:List (List D)} {e:Ex} {rr:List D} (hF:FoldR R give (fun a b=>xck head a=xck head b) ds L e rr) :
    ∃ (q:Nat) (Q:Nat->(St×Option Ex×S)->Prop),(∀ τ,SSR (xck head ds) τ->Q 0 (τ,none,s))/\xfk (some Y) q (some Hf) Q (L.take (q+1))/\xkf e=true/\∀ x,Q (L.take (q+1)).length x->∃ τ',x=(τ',xFh e,s)/\SSR (xck head rr) τ':=by
 induction hF with
 | @nil ds r hE=>exact ⟨0,fun _ x=>∃ τ',x=(τ',none,s)/\SSR (xck head r) τ',fun τ h=>⟨τ,rfl,by rw [<- hE];exact h⟩,by rw [List.take_nil];exact fun j d h=>by simp at h,rfl,fun x h=>h⟩
 | @again ds x ds' x' xs e r hR hg _ ih=>
   obtain ⟨q,Q,q1,q2,qp,q3⟩:=ih;refine ⟨q+1,fun j y=>match j with
    | 0=>∃ τ,y=(τ,none,s)/\SSR (xck head ds) τ
    | j+1=>Q j y,fun τ h=>⟨τ,rfl,h⟩,fun j d hj Y0 hY0=>⟨Hf,rfl,fun s0 hs0 ya yh hya hyh=>?_⟩,qp,fun y hy=>?_⟩
   ·cases hY0;cases j with
    | zero=>
      simp only [List.take_succ_cons,List.getElem?_cons_zero,Option.some.injEq] at hj;subst hj;obtain ⟨τ,rfl,hτ⟩:=hs0;obtain ⟨nh,e1,τ',h1,hnp,h2,h3,ds1,h4,h5⟩:=hround _ _ _ _ hR hg τ hτ ya yh hya hyh;cases e1 with
      | normal=>
        simp only [xm7,if_true,Rd.again.injEq] at h5;subst h5;exact ⟨nh,_,h1,q1 τ' h4,h2,h3⟩
      | exit id=>simp [xm7] at h5
      | ret=>simp [xm7] at h5
      | pan t=>cases hnp
    | succ j=>
      simp only [List.take_succ_cons,List.getElem?_cons_succ] at hj;obtain ⟨Hf',e1,h1⟩:=q2 j d hj Y rfl;cases e1;obtain ⟨nh,s',h2,h3,h4⟩:=h1 s0 hs0 ya yh hya hyh;exact ⟨nh,s',by rw [h2];simp,h3,h4⟩
   ·simp only [List.take_succ_cons,List.length_cons] at hy;exact q3 y hy
 | @out ds x x' xs e r hR hg hne=>
   have hnpe:xkf e=true:=hnpo hR;refine ⟨0,fun j y=>match j with
    | 0=>∃ τ,y=(τ,none,s)/\SSR (xck head ds) τ
    | j+1=>∃ τ',y=(τ',xFh e,s)/\SSR (xck head r) τ',fun τ h=>⟨τ,rfl,h⟩,fun j d hj Y0 hY0=>⟨Hf,rfl,fun s0 hs0 ya yh hya hyh=>?_⟩,hnpe,fun y hy=>?_⟩
   ·cases hY0;cases j with
    | zero=>
      simp only [List.take_succ_cons,List.getElem?_cons_zero,Option.some.injEq] at hj;subst hj;obtain ⟨τ,rfl,hτ⟩:=hs0;obtain ⟨nh,e1,τ',h1,hnp,h2,h3,ds1,h4,h5⟩:=hround _ _ _ _ hR hg τ hτ ya yh hya hyh;cases e1 with
      | normal=>simp [xm7] at h5
      | exit id=>
        simp only [xm7,Bool.false_eq_true,if_false,Rd.out.injEq] at h5;obtain ⟨rfl,rfl⟩:=h5;exact ⟨nh,_,h1,⟨τ',rfl,h4⟩,h2,h3⟩
      | ret=>
        simp only [xm7,Bool.false_eq_true,if_false,Rd.out.injEq] at h5;obtain ⟨rfl,rfl⟩:=h5;exact ⟨nh,_,h1,⟨τ',rfl,h4⟩,h2,h3⟩
      | pan t=>cases hnp
    | succ j=>simp at hj
   ·simpa using hy
theorem xQ8 (hann:C.ann f (xbn r.2.2.2)=some live) (hgive:C.give f (xbn r.2.2.2)=Y.give) {it:ItL} (hIt:xBp C n Y it) {G:List (List D)->List D->T (Ex×List D)}
    (hG:∀ L ds rr,(G L ds).run=some rr->FoldR (fun ds el=>(xe3 C tab f r k kk live head Y ds el).run) Y.give (fun a b=>xck head a=xck head b) ds L rr.1 rr.2):xh7 C n k f r.code tab.y tab.q (xov k live r.1 it head G):=by
 intro σ e σ' h;unfold xov at h;split at h
 ·cases h
 rename_i hlog;split at h
 case h_2=>cases h
 rename_i gf a cp hev;generalize hms:xg9 (xbz (xf8 k live σ).h) wide ((a++cp).flatMap (xd2 xak)) []=ms at h;dsimp only at h;split at h
 case h_2=>cases h
 rename_i F ds hF hfit;rw [T.run_bind,Option.bind_eq_some_iff] at h;obtain ⟨L,hL,h⟩:=h;rw [T.run_bind,Option.bind_eq_some_iff] at h;obtain ⟨rr,hr0,h⟩:=h;cases h;refine ⟨by rw [hlog];exact List.nil_prefix,?_⟩;intro τ hr S H P Lg _ _ s hs;have hgc:xkx C k f r.2.2.2=xig k live:=by unfold xkx;rw [hann]
 have h1:SSR (xf8 k live σ) (xig k live τ):=xjf hr;have hv:=xmu h1.1 r.1;rw [hev] at hv;simp only [VR] at hv;obtain ⟨a',c',hv,ha,hcp⟩:=hv;have hreach:xfo (xag (xig k live τ).h) wide ((a'++c').flatMap (ids xak)) []=ms:=by
  rw [<- hms,xle (xch ha hcp)];exact xid h1.2.2 _ _ _
 have h2:=xnj hfit (xjf (k:=k) (live:=live) (τ:={ tmps:=(xig k live τ).tmps,h:=xcn (xig k live τ).h (ms.map fun i=>(i,none)) }) ⟨h1.1,HR.ups h1.2 (xJr ms)⟩);have hargs:VRL (a.map (mvS true false (pos ms) xak)++[.yl]++cp.map (mvS true false (pos ms) xak)) (a'.map (mv true false (pos ms) xak)++[.yl]++c'.map (mv true false (pos ms) xak)):=
  xch (xch (xg5 (xe1 true false _ xak) ha) (xa1 (by simp only [VR]) xbt)) (xg5 (xe1 true false _ xak) hcp)
 have hheap:HR (ms.map fun i=>(xbz (xf8 k live σ).h i).map (xft true false (pos ms))) (ms.map fun i=>(xag (xig k live τ).h i).map (mvB true false (pos ms))):=HR.maps _ fun i _=>OR.map (h1.2.2 i) _
 obtain ⟨q,Q,q1,q2,qp,q3⟩:=xU6 (head:=head) (Y:=Y) (s:=s) (Hf:=xot r.2.1 (xig k live) Y.give (fun kk=>xbs C (xbv C n) f kk H r.2.2.1) (fun kk=>xbs C (xbv C n) f kk H r.2.2.2))
  (fun ds el x' o hR hx τ hτ ya yh hya hyh=>xQ6 hC hS hYok hla hlb hR hx hτ hya hyh H s) (fun hR=>xNk hR) (hG L ds rr hr0)
 obtain ⟨v',h',s',hcall,hvp,hQ⟩:=xBk hIt gf F hF _ _ L hL _ _ hargs hheap _ _ Q q q2 _ (q1 _ h2);obtain ⟨τ',rfl,hτ'⟩:=q3 _ hQ;refine ⟨τ',s,?_,by rw [xur];rw [hlog] at hs;exact hs,hτ'⟩;unfold Rg.code;simp only [xbs,hgc,hgive,hv,hreach,hcall,hvp];cases he:rr.1 with
 | pan t=>rw [he] at qp;cases qp
 | _=>rfl
end
section
variable {C:Cfg} (hC:∀ t Y,C.ty t=some Y->xcc C.P t=some Y) {sp:SpL} {sw:SwL} {n:Nat} {f:FuncId}
include hC
theorem xLq {lp:Nat->LpL} {Y:YS} (hY:YOK Y) (hsp:xht C n sp) (hsw:xf4 C n sw) (hf:xlf C.P f=true) (keys:List Nat) (h1:xco (xiv C.P f)=keys.map (xaa C.P f)) (h2:keys.map (fun k=>xbn (xaa C.P f k))=keys) (h3:xc3 (xiv C.P f)=[]) {s:SigI}
    (hl:∀ q,∀ k∈keys,∀ L,xgy (lp q) k=some L->xfy C n s.hin.length f (xaa C.P f k) (some Y) q L) {G:List D->T (List (List D))}
    (hG:∀ ds L,(G ds).run=some L->∀ q,(xIw C (xjj sp (lp q) sw Y q) f s ds).run=some (L.take (q+1))):xrq C (n+1) f Y (xx8 s G):=by
 obtain ⟨fn,h4,h5⟩:=xh1 hf;exact xYr hC (tab:=fun q=>xjj sp (lp q) sw Y q) (fun q=>⟨rfl,rfl⟩) (fun q=>xG0 hsp hsw hY) h4 h5 (fun q=>xlc (lp:=lp q) (rg:=[]) rfl (by funext k;rfl) keys [] h1 h2 (hl q) h3 rfl (fun k hk=>by cases hk)) hG
theorem xsc {lp:LpL} {Y:YS} {q:Nat} (hY:YOK Y) (hsp:xht C n sp) (hsw:xf4 C n sw) (m:Nat) {b:Code} (keys:List Nat) (h1:xco b=keys.map (xaa C.P f)) (h2:keys.map (fun k=>xbn (xaa C.P f k))=keys) (h3:xc3 b=[])
    (hl:∀ k∈keys,∀ L,xgy lp k=some L->xfy C n m f (xaa C.P f k) (some Y) q L) {s:LSig} (hlv:xAc C f b s=true) {G:List D->T (Ex×List D)} (μ:List D->Nat)
    (round:∀ ds r,(G ds).run=some r->μ ds<C.fuel/\∃ o,(xjy C (xjj sp lp sw Y q) f b m s ds).run=some o/\((∃ ds',o=.again ds'/\(G ds').run=some r/\μ ds'<μ ds)\/o=.out r.1 r.2)):xfy C n m f b (some Y) q (xr9 m s G):=
 xH6 hC true (tab:=xjj sp lp sw Y q) (xG0 hsp hsw hY) (xlc (lp:=lp) (rg:=[]) rfl (by funext k;rfl) keys [] h1 h2 hl h3 rfl (fun k hk=>by cases hk)) (xB8 hlv) μ round
theorem xR8 {lp rg:LpL} (hsp:xht C n sp) (hsw:xf4 C n sw) (hf:xlf C.P f=true) (keys rkeys:List Nat) (h1:xco (xiv C.P f)=keys.map (xaa C.P f)) (h2:keys.map (fun k=>xbn (xaa C.P f k))=keys)
    (h3:xc3 (xiv C.P f)=rkeys.map (xcb C.P f)) (h4:rkeys.map (fun k=>xbn (xcb C.P f k).2.2.2)=rkeys)
    (hl:∀ k∈keys,∀ L,xgy lp k=some L->xct C n f (xaa C.P f k) L) (hr:∀ k∈rkeys,∀ L,xgy rg k=some L->xh7 C n 0 f (xcb C.P f k).code none 0 L) {s:Sig} {G:List D->T (List D)}
    (hG:∀ ds r,(G ds).run=some r->(fnT C (xly sp lp sw rg) f s ds).run=some r):xbo C (n+1) f (mkF s G):=by
 obtain ⟨fn,h5,h6⟩:=xh1 hf;exact xAw hC (xxp hsp hsw) h5 h6 (xlc (lp:=lp) (rg:=rg) rfl rfl keys rkeys h1 h2 hl h3 h4 hr) hG
theorem xUs {lp rg:LpL} (hsp:xht C n sp) (hsw:xf4 C n sw) (m:Nat) {b:Code} (keys rkeys:List Nat) (h1:xco b=keys.map (xaa C.P f)) (h2:keys.map (fun k=>xbn (xaa C.P f k))=keys)
    (h3:xc3 b=rkeys.map (xcb C.P f)) (h4:rkeys.map (fun k=>xbn (xcb C.P f k).2.2.2)=rkeys)
    (hl:∀ k∈keys,∀ L,xgy lp k=some L->xb0 C n m f (xaa C.P f k) L) (hr:∀ k∈rkeys,∀ L,xgy rg k=some L->xh7 C n m f (xcb C.P f k).code none 0 L) {s:LSig} (hlv:xAc C f b s=true) {G:List D->T (Ex×List D)} (μ:List D->Nat)
    (round:∀ ds r,(G ds).run=some r->μ ds<C.fuel/\∃ o,(xal C (xly sp lp sw rg) f b m s ds).run=some o/\((∃ ds',o=.again ds'/\(G ds').run=some r/\μ ds'<μ ds)\/o=.out r.1 r.2)):xb0 C n m f b (xde m s G):=
 xH5 hC (tab:=xly sp lp sw rg) (xxp hsp hsw) (xlc (lp:=lp) (rg:=rg) rfl rfl keys rkeys h1 h2 hl h3 h4 hr) (xB8 hlv) μ round
theorem xHj {lp rg:LpL} {Y:YS} (hY:YOK Y) (hsp:xht C n sp) (hsw:xf4 C n sw) (k m kk:Nat) (keys:List Nat) (h1:xco (xcb C.P f k).2.2.2=keys.map (xaa C.P f)) (h2:keys.map (fun k=>xbn (xaa C.P f k))=keys)
    (h3:xc3 (xcb C.P f k).2.2.2=[]) (h4:(xco (xcb C.P f k).2.2.1).isEmpty=true/\xc3 (xcb C.P f k).2.2.1=[]) (hl:∀ k∈keys,∀ L,xgy lp k=some L->xb0 C n kk f (xaa C.P f k) L)
    {live:List Nat} (hann:C.ann f (xbn (xcb C.P f k).2.2.2)=some live) (hgive:C.give f (xbn (xcb C.P f k).2.2.2)=Y.give) {it:ItL} (hIt:xBp C n Y it) {head:List Shp} {G:List (List D)->List D->T (Ex×List D)}
    (hG:∀ L ds rr,(G L ds).run=some rr->FoldR (fun ds el=>(xe3 C (xly sp lp sw rg) f (xcb C.P f k) m kk live head Y ds el).run) Y.give (fun a b=>xck head a=xck head b) ds L rr.1 rr.2):xh7 C n m f (xcb C.P f k).code none 0 (xov m live (xcb C.P f k).1 it head G):=
 xQ8 hC (tab:=xly sp lp sw rg) (xxp hsp hsw) hY (xlc (lp:=lp) (rg:=rg) rfl rfl [] [] (List.isEmpty_iff.1 h4.1) rfl (fun k hk=>by cases hk) h4.2 rfl (fun k hk=>by cases hk))
  (xlc (lp:=lp) (rg:=rg) rfl rfl keys [] h1 h2 hl h3 rfl (fun k hk=>by cases hk)) hann hgive hIt hG
end
end Go.Lite
