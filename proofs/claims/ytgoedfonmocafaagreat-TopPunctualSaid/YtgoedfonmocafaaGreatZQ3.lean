/-
 What the claim top_punctual rests on,part 3.
-/
import Derived.Test.YtgoedfonmocafaaGreatZQ2
import Derived.RecoverIn
noncomputable section
namespace Go.Lite
section
variable {w w':World} {G G' J U U' N N':Nat->Prop} {ν ν':Names} {h nh:xap} {P:Program}
variable {S:Type} {RS:xcl S} {B:Base} {sd:List (Nat×Obj)} {σ:St} {s:S} {a:Act}
theorem xNm {r:Nat} {ds:Option (List Deferred)} {o:Obj} (hl:w.heap[r]?=some (.deferred ds)):∀ b,xbq w b<=xbq (w.putObj r o) b:=fun b=>by
 by_cases e:b=r
 ·subst e;rw [xbq,hl];exact Nat.zero_le _
 ·rw [xbq,xbq,World.putObj_heap_other e];exact Nat.le_refl _
theorem xuk {F:Fence} {n:Nat} {fn:Func} {tm:Array Value} {R:Ending->World->Prop} {u:FrameMode} (hu:u≠.run) (hRM:xd5 RS) (hB:B.w.heap.size<=B.n0) :
    ∀ (ms:List Deferred) (a:Act) (w:World),a.defers=ms++B.ds->(∀ w':World,Inv1 RS { B with dp:=fun _=>True } J [] σ s { a with defers:=B.ds } w' ν G U N->LeavesInM F n P fn tm R B.ds u w') ->
      Inv1 RS { B with dp:=fun _=>True } J [] σ s a w ν G U N->LeavesInM F n P fn tm R (ms++B.ds) u w
 | [],a,w,hd,hr,I=>by
   have:({ a with defers:=B.ds }:Act)=a:=by cases a;simp only [List.nil_append] at hd;subst hd;rfl
   rw [<- this] at I;exact hr w I
 | d :: ms,a,w,hd,hr,I=>by
   have hnd:=I.nd;rw [hd] at hnd;obtain ⟨r,e,hs⟩:=(I.marks d (by rw [hd];exact List.mem_cons_self)).resolve_left fun h=>(List.pairwise_cons.1 hnd).1 d (List.mem_append_right _ h) rfl
   subst e;have I0:Inv1 RS { B with dp:=fun _=>True } J [] σ s { a with defers:=ms++B.ds } w ν G U N:=⟨I.sr,I.ts,I.rs,I.ext,I.first,I.y,I.len,I.side,fun d hd'=>I.marks d (by rw [hd];exact List.mem_cons_of_mem _ hd'),(List.pairwise_cons.1 hnd).2,trivial⟩;have I1:=I0.on (w':=w.putObj r (.deferred none)) (G':=G) hRM ⟨rfl,rfl⟩ (by rw [World.putObj_size];exact Nat.le_refl _) (xNm hs.at_) (fun _ h=>h) (fun b hb=>World.putObj_heap_other (fun e=>hs.g (e ▸ hb)))
    (fun b hb=>by rw [World.putObj_size];exact I.sr.glt b hb) (fun b hb _=>World.putObj_heap_other (by
     rcases hb with h | h | h | h | h | h | h <;> rintro rfl
     ·exact hs.u h
     ·exact hs.o h
     ·exact hs.n h
     ·exact hs.j h
     ·exact absurd h.1 (Nat.not_lt.2 (Nat.le_trans hB hs.new))
     ·obtain ⟨p,hp,e⟩:=h;cases hp
     ·obtain ⟨d,hd',e⟩:=h;exact (List.pairwise_cons.1 hnd).1 d hd' e.symm)) (fun b hb=>.inl hb)
   exact ⟨hu,.inl ⟨r,_,rfl,run_takeDeferred hs.at_,xuk hu hRM hB ms { a with defers:=ms++B.ds } _ rfl hr I1⟩⟩
theorem xUt {C:Cfg} (hC:∀ t T,C.ty t=some T->xcc C.P t=some T) (Sr:SR w G J U N ν h) {c:AV} {t:TypeId} {v:Value} (hv:Rel w G c ν J v) {d:AV} (hd:xAb h C c t=some d) :
    ∃ u,(do loadVar t (<- asAddr v):Sem Value).run C.P w=.ok u w/\Rel w G d ν J u:=by
 unfold xAb at hd;split at hd
 case h_2=>cases hd
 rename_i T i sz k j hT;have hrel:=hv;have hact:∃ r,act C (fun _ _ _ _ _ _=>none) (S:=Unit) none h.length (xag h) () (.load i sz k j T.agg T.size)=some r/\r.v=d:=by
  simp only [act];split at hd
  case h_2=>cases hd
  split at hd
  case isFalse=>cases hd
  rename_i hs;rw [if_pos hs];split at hd
  case h_2=>cases hd
  split at hd
  ·rename_i hag;rw [if_pos hag];split at hd
   ·rename_i hle;rw [if_pos hle];cases hd;exact ⟨_,rfl,rfl⟩
   ·cases hd
  ·rename_i hag;rw [if_neg hag];rw [hd];exact ⟨_,rfl,rfl⟩
 obtain ⟨r,hr,hrv⟩:=hact;obtain ⟨u,hrun,hleft⟩:=xui Sr (fun _ _ h=>h) (hC _ _ hT) hv hr;refine ⟨u,?_,?_⟩
 ·simp only [Rel] at hrel;obtain ⟨b,hb,rfl⟩:=hrel;simp only [Instr.loadAt,Instr.sureAddr] at hrun;simpa [asAddr] using hrun
 ·rw [<- hrv];exact hleft.rel
def xtz (tmps:Array Value):ResultVar->Sem Value
 | .tmp t=>pure (tmps.getD t undef)
 | .cell a t=>do loadVar t (<- asAddr (tmps.getD a undef))
theorem xr1 {C:Cfg} (hC:∀ t T,C.ty t=some T->xcc C.P t=some T) (Sr:SR w G J U N ν σ.h) {tmps:Array Value} (hts:xae w G σ.tmps ν J tmps.toList):∀ (rs:List ResultVar) (vs:List AV),xhj C σ rs=some vs ->
    ∃ us:List Value,(rs.mapM (xtz tmps)).run C.P w=.ok us w/\xae w G vs ν J us
 | [],vs,h=>by
   simp only [xhj,Option.some.injEq] at h;subst h;exact ⟨[],rfl,xbh⟩
 | .tmp t::rs,vs,h=>by
   simp only [xhj] at h;split at h
   case h_2=>cases h
   rename_i vs' h';cases h;obtain ⟨us,hu,hr⟩:=xr1 hC Sr hts rs vs' h';have he:=xiu (a:={ tmps:=tmps,defers:=[] }) hts (.tmp t);refine ⟨tmps.getD t undef::us,?_,xa6 he hr⟩;rw [List.mapM_cons];simp only [xtz,Sem.run_bind,Sem.run_pure,Result.andThen_ok,hu]
 | .cell a t::rs,vs,h=>by
   simp only [xhj] at h;split at h
   case h_2=>cases h
   rename_i v vs' hv h';cases h;obtain ⟨us,hu,hr⟩:=xr1 hC Sr hts rs vs' h';have he:=xiu (a:={ tmps:=tmps,defers:=[] }) hts (.tmp a);obtain ⟨u,hu1,hr1⟩:=xUt hC Sr he hv;refine ⟨u::us,?_,xa6 hr1 hr⟩;rw [List.mapM_cons];have hu2:(xtz tmps (.cell a t)).run C.P w=.ok u w:=hu1;simp only [Sem.run_bind,Sem.run_pure,Result.andThen_ok,hu,hu2]
theorem ybn {vs:List AV} {us:List Value} (h:xae w G vs ν J us):Rel w G (xha vs) ν J (if h:us.toArray.size=1 then us.toArray[0] else .tuple us.toArray):=by
 match vs,us,h with
 | [],us,h=>
   simp only [xae] at h;subst h;simp only [xha,Rel];exact ⟨[],by simp,xbh⟩
 | [v],us,h=>
   simp only [xae] at h;obtain ⟨u,us',rfl,h1,rfl⟩:=h;simpa [xha] using h1
 | v :: v'::vs,us,h=>
   have hh:=h;simp only [xae] at h;obtain ⟨u,us',rfl,h1,u2,us2,rfl,h2,h3⟩:=h;simp only [xha,Rel];exact ⟨u::u2::us2,by simp,hh⟩
theorem xw2 {fn:Func} {tmps:Array Value} {us:List Value} (h:(fn.results.toList.mapM (xtz tmps)).run P w=.ok us w):(results fn tmps).run P w=.ok (if h:us.toArray.size=1 then us.toArray[0] else .tuple us.toArray) w:=by
 have e:results fn tmps=(do let vs <- fn.results.mapM (xtz tmps);pure (if h:vs.size=1 then vs[0] else .tuple vs)):=rfl;rw [e,Array.mapM_eq_mapM_toList];simp [h]
theorem xNt {look:Nat->Option Blk} {f:Nat} {v:AV}:xds (fzg look (f+1) v)=none:=by
 cases v with
 | ptr i s k j=>simp only [fzg];(repeat' split) <;> rfl
 | sl i s lo n cap=>simp only [fzg];(repeat' split) <;> rfl
 | eptr kd cs=>cases kd <;> rfl
 | ro kd c0 s es=>cases kd <;> rfl
 | _=>rfl
theorem xDu {look:Nat->Option Blk} {v:AV}:xds (fzg look xak v)=none:=xNt (f:=11)
theorem xRf (hRM:xd5 RS) {t:TypeId} {w0:World} {G0 U0 N0:Nat->Prop} {ν0:Names} {h0:xap} {n0:Nat} {D:List Deferred} {dp:List Deferred->Prop} (h0l:h0.length=0)
    (I:Inv1 RS ⟨w0,G0,U0,N0,Own ν0 h0,ν0.φ,ν0.y,h0.length,n0,D,dp⟩ J [] σ s a w ν G U N):Ret RS w0 G0 J U0 N0 ν0 h0 (.pan t) [] s (.panicked (xmj t)) w:=by
 have _:=hRM;have hno:∀ b,¬ Own ⟨fun _=>none,ν.y⟩ ([]:xap) b:=by rintro b ⟨i,B,h1,_⟩;rw [xd9] at h1;cases h1
 refine ⟨⟨t,rfl,rfl⟩,⟨fun _=>none,ν.y⟩,G,U,N,?_,fun i hi=>absurd hi (by rw [h0l];exact Nat.not_lt_zero i),I.y,by simp only [Rel],I.ext.less (fun b hb=>(hno b hb).elim),I.rs⟩;exact ⟨fun i B e=>(by rw [xd9] at e;cases e),fun i j B B' b e=>(by rw [xd9] at e;cases e),fun i b e=>(by cases e),I.sr.glt,I.sr.jlt,I.sr.nlt,fun b _=>hno b,fun b _=>hno b,fun b _=>hno b,I.sr.gu,I.sr.ju,I.sr.un⟩
theorem xst {C:Cfg} (hC:∀ t T,C.ty t=some T->xcc C.P t=some T) (hRM:xd5 RS) {f:FuncId} {fn:Func} {v:AV} {h':xap} {w0:World} {G0 U0 N0:Nat->Prop} {ν0:Names} {h0:xap} {n0:Nat} {D:List Deferred} {dp:List Deferred->Prop} (hf:xdj C f h0.length fn σ=some (v,h'))
    (I:Inv1 RS ⟨w0,G0,U0,N0,Own ν0 h0,ν0.φ,ν0.y,h0.length,n0,D,dp⟩ J [] σ s a w ν G U N):∃ u,(results fn a.tmps).run C.P w=.ok u w/\Ret RS w0 G0 J U0 N0 ν0 h0 v h' s (.returned u) w:=by
 unfold xdj at hf;split at hf
 ·cases hf
 rename_i vs hvs;split at hf
 ·cases hf
 rename_i hpo;have hpo:xds (xha vs)=none:=by simpa using hpo
 obtain ⟨us,hus,hrel⟩:=xr1 hC I.sr I.ts _ _ hvs;have hone:=ybn hrel;split at hf
 ·split at hf
  case isFalse=>cases hf
  rename_i hk;simp only [Option.some.injEq,Prod.mk.injEq] at hf;obtain ⟨rfl,rfl⟩:=hf;have hno:∀ b,¬ Own ⟨fun _=>none,ν.y⟩ ([]:xap) b:=by rintro b ⟨i,B,h1,_⟩;rw [xd9] at h1;cases h1
  refine ⟨_,xw2 hus,xDu,⟨fun _=>none,ν.y⟩,fun b=>G b\/Own ν σ.h b,U,N,?_,fun i hi=>?_,I.y,?_,?_,?_⟩
  ·refine ⟨fun i B e=>(by rw [xd9] at e;cases e),fun i j B B' b e=>(by rw [xd9] at e;cases e),fun i b e=>(by cases e),fun b hb=>hb.elim (I.sr.glt b) I.sr.own_lt,I.sr.jlt,I.sr.nlt,fun b _=>hno b,fun b _=>hno b,fun b _=>hno b,fun b hb hu=>?_,I.sr.ju,I.sr.un⟩;exact hb.elim (fun h=>I.sr.gu b h hu) (I.sr.nown b (I.sr.un b hu))
  ·exact absurd hi (by rw [hk];exact Nat.not_lt_zero i)
  ·exact xdb (fun _ h=>h) (fun _ _=>rfl) (fun _=>Nat.le_refl _) _ (Names.none_le _) (fun _ h=>h.elim) (fun _ h=>h.elim) (xCz (fun _ h=>.inl h) (fun i B hB=>let ⟨b,h1,h2⟩:=I.sr.blk i B hB;⟨b,h1,.inr ⟨i,B,hB,h1⟩,h2⟩) xak _ _ ν J (.inl ⟨rfl,rfl⟩) hone)
  ·have E:=I.ext;exact ⟨E.size,E.keep,fun b hb=>(hno b hb).elim,E.u,E.n,fun b hb=>.inl (E.g b hb),fun b hb=>hb.elim (E.g' b) (fun h=>(E.own b h).elim (fun h=>.inr (.inl h)) (fun h=>.inr (.inr (.inr h)))),E.sz,E.env⟩
  ·exact hRM s w w G _ U N I.rs ⟨rfl,rfl⟩ (Nat.le_refl _) (fun _ _=>rfl) (fun _=>Nat.le_refl _) (fun _ h=>.inl h) (fun _ _=>rfl) (fun b hb=>hb.imp_right fun h hn=>I.sr.nown b hn h) (fun b hb=>hb.elim (I.sr.glt b) I.sr.own_lt)
 simp only [Option.some.injEq,Prod.mk.injEq] at hf;obtain ⟨rfl,rfl⟩:=hf;refine ⟨_,xw2 hus,by rw [xku];exact hpo,⟨((ν.over (xhd h0.length [xha vs] σ.h)).φ),ν.y⟩,G,U,N,?_,fun i hi=>?_,I.y,?_,?_,I.rs⟩
 ·exact xOy I.sr (xut _ _ _) (kb:=true) (ky:=true) (J':=J) (fun _ b hb=>.inl hb) (fun _ h=>h) (fun _ _ h=>h)
 ·refine Eq.trans ?_ (I.first i hi);simp only [Names.over,xuu _ _ _ hi,Option.bind_some]
 ·exact xh6 (ν':=⟨((ν.over (xhd h0.length [xha vs] σ.h)).φ),ν.y⟩) xif (fun _ _ h=>h) (fun _ b hb=>.inl hb) xak _ _ hone
 ·exact I.ext.less (fun b hb=>xod (kb:=true) (ky:=true) hb)
theorem xI2 {c:Code} {ops:Array Oper} {o:Oper} {x:Operand} (h:xoj c=some (ops,o,x)):∃ id cl,c=.region id ops false/\o.op=.defer cl/\o.guard=none/\cl.callee=.value x/\cl.args=#[]/\ops.toList=ops.toList.dropLast++[o]:=by
 cases c <;> simp only [xoj,reduceCtorEq] at h;rename_i id ops' draw;cases draw <;> simp only [reduceCtorEq,Option.map_eq_some_iff,Prod.mk.injEq] at h;obtain ⟨⟨o',x'⟩,h,rfl,rfl,rfl⟩:=h;unfold xLz at h;split at h
 case h_2=>cases h
 rename_i o1 hb;split at h
 case h_2=>cases h
 rename_i cl hop hg;split at h
 case h_2=>cases h
 rename_i x1 hcal hargs;cases h;refine ⟨id,cl,rfl,hop,hg,hcal,?_,?_⟩
 ·cases ha:cl.args;rw [ha] at hargs;simp at hargs;subst hargs;rfl
 ·rw [<- Array.getLast?_toList] at hb;rw [List.getLast?_eq_some_iff] at hb;obtain ⟨ys,hys⟩:=hb;rw [hys];simp
def xJx {S:Type} (RS:xcl S) (B:Base) (J:Nat->Prop) (g:FuncId) (dargs:List AV) (σ:St) (s:S) (a:Act) (w:World):Prop:=
 ∃ (as cs:List Value) (n0:Nat) (ν:Names) (G U N:Nat->Prop),B.w.heap.size<=n0/\xae w G dargs ν J (as++cs) /\
   Inv1 RS { B with n0:=n0,ds:=[{ target:=.fn (.func g) cs.toArray,args:=as.toArray }],dp:=fun ds=>∃ ms,ds=ms++[{ target:=.fn (.func g) cs.toArray,args:=as.toArray }] } J [] σ s a w ν G U N
theorem xU9 {C:Cfg} {call:xb6} {f:FuncId} {RS:xcl S} {H:Option (Hd S)} (hC:∀ t T,C.ty t=some T->xcc C.P t=some T) (hCall:xf3 C.P call) (hExt:xkr C) (hDraw:xBo C call) (hRM:xd5 RS) :
    ∀ (c:Code),xh0 c=true->xdq c=true->∀ (B:Base) (J:Nat->Prop) (σ:St) (s:S) (a:Act) (w:World) (g:FuncId) (dargs:List AV) (e:Ex) (σ':St) (s':S),B.ds=[]->B.dp=(fun ds=>ds=[])->HSO C.P RS H B.y->B.n0<=B.w.heap.size ->
      Inv RS B J [] σ s a w->xsv C call f B.k H c σ s=some ((g,dargs),e,σ',s')->c.wpIn Fence.wide 0 C.P (fun x a' w'=>x=xms e/\xJx RS B J g dargs σ' s' a' w') a w:=by
 intro c;induction c with
 | seq x y ihx ihy=>
   intro hd hrg B J σ s a w g dargs e σ' s' hbs hbp hH hn0 I h;simp only [xh0,Bool.or_eq_true,Bool.and_eq_true,Bool.not_eq_true'] at hd;simp only [xdq,Bool.and_eq_true] at hrg;simp only [xsv] at h;refine wpIn_seq ?_;split at h
   ·rename_i ops o xo hdh;split at h
    case h_2=>cases h
    rename_i σ1 s1 hr;split at h
    case h_2=>cases h
    rename_i g' as cs hev;simp only [Option.map_eq_some_iff,Prod.mk.injEq] at h;obtain ⟨⟨e1,σ2,s2⟩,hex,⟨rfl,rfl⟩,rfl,rfl,rfl⟩:=h;obtain ⟨id,cl,rfl,hop,hg,hcal,hargs,hops⟩:=xI2 hdh;refine wpIn_region ?_;have hlen:ops.toList.dropLast.length+1=ops.size:=by
     have:=congrArg List.length hops;simp only [List.length_append,List.length_cons,List.length_nil,Array.length_toList] at this;omega
    have key:=xwy hC hCall hExt xel.wide hRM hH (ops:=ops) (σ':=σ1) (s':=s1) (m:=ops.toList.dropLast.length) (tail:=[o]) (Q:=Exit.then (y.wpIn Fence.wide 0 C.P fun x a' w'=>x=xms e/\xJx RS B J g' (as++cs) σ' s' a' w') (fun x a' w'=>x=xms e/\xJx RS B J g' (as++cs) σ' s' a' w')) (B:=B) (J:=J) (sd:=[]) ?_
     ops.toList.dropLast 0 (by simpa using hops) (by simp) σ s a w I hr
    ·simpa using key
    rintro a1 w1 ⟨ν1,G1,U1,N1,I1⟩
    have hadef:a1.defers=[]:=by have:=I1.low;rw [hbp] at this;exact this
    have hrange:(List.range ops.size).drop ops.toList.dropLast.length=[ops.toList.dropLast.length]:=by
     rw [<- hlen,List.range_succ,List.drop_append_of_le_length (by simp),List.drop_eq_nil_of_le (by simp)];rfl
    rw [hrange];have ho:ops[ops.toList.dropLast.length]?=some o:=by
     rw [<- Array.getElem?_toList,hops,List.getElem?_append_right (by simp)];simp
    simp only [wpOpsIn,ho,Region.wanted,hg,if_true];have hxv:=xiu I1.ts xo;rw [hev] at hxv;simp only [Rel] at hxv;obtain ⟨vas,vcs,hv,has,hcs⟩:=hxv;have hrun:(execOp a1.eval o).run C.P w1=.ok (.defer { target:=.fn (.func g') vcs.toArray,args:=vas.toArray }) w1:=by
     unfold execOp;simp [hop,resolve,hcal,hv,Deferred.ofValue,hargs]
    refine ⟨fun f' _=>trivial,?_⟩;rw [show Fence.wide.round=none from rfl,Oper.semAt_none,hrun,Oper.uponIn_defer]
    -- the rest
    let d0:Deferred:={ target:=.fn (.func g') vcs.toArray,args:=vas.toArray }
    let B2:Base:=⟨w1,G1,U1,N1,Own ν1 σ1.h,ν1.φ,ν1.y,σ1.h.length,w1.heap.size,[d0],fun ds=>∃ ms,ds=ms++[d0]⟩
    have hpd:∀ u,((({ a1 with defers:=d0::a1.defers }:Act).put o.dst u).defers)=[d0]:=fun u=>by cases o.dst <;> simp [Act.put,hadef]
    have I2:Inv1 RS B2 J [] { σ1 with tmps:=put o.dst .und σ1.tmps } s1 (({ a1 with defers:=d0::a1.defers }:Act).put o.dst undef) w1 ν1 G1 U1 N1:=by
     refine ⟨I1.sr,xk9 (a:={ a1 with defers:=d0::a1.defers }) I1.ts o.dst (by simp only [Rel]),I1.rs,Ext.refl ..,fun _ _=>rfl,rfl,Nat.le_refl _,(fun p hp=>by cases hp),?_,?_,?_⟩
     ·intro d hd;rw [hpd] at hd;exact .inl hd
     ·rw [hpd];exact List.pairwise_singleton _ _
     ·show ∃ ms,_=ms++[d0];rw [hpd];exact ⟨[],rfl⟩
    have hex2:=xwg (f:=f) (RS:=RS) (H:=H) hC hCall hExt hDraw hRM y hrg.2 Fence.wide B2 J [] _ s1 _ w1 e σ' s' xel.wide (fun l hl=>by cases hl) (by show HSO C.P RS H ν1.y;rw [I1.y];exact hH) (Nat.le_refl _)
     ⟨fun d hd=>by
      rw [List.mem_singleton.1 hd];exact ⟨_,_,rfl⟩,fun _ r ds ⟨ms,e⟩=>⟨xeh r::ms,by rw [e];rfl⟩⟩ ⟨_,_,_,_,I2⟩ hex
    refine wpIn_mono hex2 ?_
    rintro x a' w' ⟨rfl,ν',G',U',N',I'⟩
    refine ⟨rfl,vas,vcs,w1.heap.size,ν',G',U',N',I1.ext.size,?_,I'.sr,I'.ts,I'.rs,I1.ext.trans I'.ext,fun i hi=>(I'.first i (Nat.lt_of_lt_of_le hi I1.len)).trans (I1.first i hi),I'.y.trans I1.y,Nat.le_trans I1.len I'.len,(fun p hp=>by cases hp),I'.marks,I'.nd,I'.low⟩;have hle:ν1.le ν':=⟨fun i b hb=>by rw [I'.first i (I1.sr.dom i b hb)];exact hb,fun l hl=>by rw [I'.y];exact hl⟩;exact xc1 I'.ext.g (fun b hb=>I'.ext.keep b (I1.sr.glt b hb) (I1.sr.gown b hb) (I1.sr.gu b hb)) I'.ext.sz _ hle (fun _ h=>.inl h) (fun b hb=>I'.ext.keep b (I1.sr.jlt b hb) (I1.sr.jown b hb) (I1.sr.ju b hb)) (xcd has hcs)
   ·rename_i hdh;split at h
    case h_2=>cases h
    rename_i σ1 s1 h1;rw [hdh] at hd;obtain ⟨hnr,hd⟩:=hd.resolve_left (by simp);refine wpIn_mono (xwg (f:=f) (RS:=RS) (H:=H) hC hCall hExt hDraw hRM x hrg.1 Fence.wide B J [] σ s a w _ _ _ xel.wide (fun l hl=>by cases hl) hH hn0 ⟨(fun d hd=>by rw [hbs] at hd;cases hd),fun h=>by rw [hnr] at h;cases h⟩ I h1) ?_
    rintro x a' w' ⟨rfl,I'⟩
    exact ihy hd hrg.2 B J _ _ a' w' _ _ _ _ _ hbs hbp hH hn0 I' h
 | _=>intro hd;simp [xh0] at hd
theorem xx7 {n:Nat} {ops:Array Oper} {Q:Exit->Act->List Frame->World->Prop} {stk:List Frame}:∀ (rest:List Oper) (k:Nat),ops.toList.drop k=rest->∀ (ts ts':List AV) (a:Act) (w:World),xae w G ts ν J a.tmps.toList->xlx rest ts=some ts' ->
    (∀ a',xae w G ts' ν J a'.tmps.toList->a'.defers=a.defers->Q .normal a' stk w)->wpOpsSIn Fence.wide n P ops Q ((List.range ops.size).drop k) a stk w
 | [],k,hd,ts,ts',a,w,hts,hm,hQ=>by
   have hk:ops.size<=k:=by simpa using hd
   rw [List.drop_eq_nil_of_le (by rw [List.length_range];exact hk)];simp only [xlx,Option.some.injEq] at hm;subst hm;exact hQ a hts rfl
 | o :: rest,k,hd,ts,ts',a,w,hts,hm,hQ=>by
   have hk:k<ops.size:=by
    apply Classical.byContradiction;intro hk;rw [List.drop_eq_nil_of_le (by simpa using hk)] at hd;cases hd
   have ho:ops[k]?=some o:=by
    have:=congrArg (·[0]?) hd;simpa using this
   have hd':ops.toList.drop (k+1)=rest:=by
    have:=congrArg List.tail hd;simpa using this
   have hrange:(List.range ops.size).drop k=k::(List.range ops.size).drop (k+1):=by
    rw [List.drop_eq_getElem_cons (by rw [List.length_range];exact hk),List.getElem_range]
   rw [hrange];simp only [wpOpsSIn,ho];refine ⟨fun f _=>trivial,?_⟩;have hdf:∀ u,(a.put o.dst u).defers=a.defers:=fun u=>by cases o.dst <;> rfl
   simp only [xlx] at hm;split at hm
   ·rename_i x hg hop;have hrun:(execOp a.eval o).run P w=.ok (.value (a.eval x)) w:=by unfold execOp;simp [hop]
    simp only [Region.wanted,hg,if_true,hrun];exact xx7 rest (k+1) hd' _ ts' _ w (xk9 hts o.dst (xiu hts x)) hm fun a' h1 h2=>hQ a' h1 (h2.trans (hdf _))
   ·rename_i x hg hop;have hrun:(execOp a.eval o).run P w=.ok (.value (a.eval x)) w:=by unfold execOp;simp [hop]
    simp only [Region.wanted,hg,if_true,hrun];exact xx7 rest (k+1) hd' _ ts' _ w (xk9 hts o.dst (xiu hts x)) hm fun a' h1 h2=>hQ a' h1 (h2.trans (hdf _))
   ·cases hm
theorem xKl {o:Oper} (h:xpz o=true) (ρ:Operand->Value):o.guard=none/\(execOp ρ o).run P w=.ok .recover w:=by
 unfold xpz at h;split at h
 case h_2=>cases h
 rename_i cl hg hop;split at h
 case h_2=>cases h
 rename_i hcal hargs;refine ⟨hg,?_⟩;unfold execOp;simp [hop,resolve,hcal,invoke];rfl
def xF8 (rv:AV) (u u':FrameMode):Prop:=∀ (c₀:Frame) (cs:List Frame),c₀.mode=u->(rv=.nili/\recoverD (c₀::cs)=none/\u'=u) \/
 ∃ v,(∀ w G ν J,Rel w G rv ν J v)/\recoverD (c₀::cs)=some (v,{ c₀ with mode:=u' }::cs)
theorem xzw (t:TypeId):xF8 (.ifc t (.agg [])) (.panicking (xmj t)) (.panicking [{ v:=.iface t (.agg #[]),recovered:=true }]):=fun c₀ cs h=>.inr ⟨.iface t (.agg #[]),fun w G ν J=>by
    simp only [Rel];exact ⟨_,rfl,[],rfl,xbh⟩,by simp [recoverD,h,xmj]⟩
theorem xzv:xF8 .nili .returning .returning:=fun c₀ cs h=>.inl ⟨rfl,by simp [recoverD,h],rfl⟩
theorem xVe {C : Cfg} {call : xb6} (hC : ∀ t T, C.ty t = some T -> xcc C.P t = some T) (hCall : xf3 C.P call) (hExt : xkr C) (hDraw : xBo C call) (hP : ∀ (f : FuncId) (fn : Func), C.P.funcs[f]? = some fn -> fn.body.isSome = true -> fn.name ≠ "runtime.NumGoroutine") (hR : ∀ (f : FuncId) (fn : Func) (c : Code), C.P.funcs[f]? = some fn -> fn.body = some c -> xdq c = true)
    {rv:AV} {u u':FrameMode} (hrv:xF8 rv u u') {S:Type} {H:Option (Hd S)} {f:FuncId} {args:List AV} {h:xap} {s:S} {v:AV} {h':xap} {s':S} (hc:xsy C call rv H f args h s=some (v,h',s')) :
    Ent C.P f/\∀ (RS:xcl S) (w:World) (G J U N:Nat->Prop) (ν:Names) (vs:List Value),xd5 RS->HSO C.P RS H ν.y->SR w G J U N ν h->xae w G args ν J vs->RS s w G U N ->
     CallsDIn Fence.wide 0 C.P f vs.toArray u w fun e u2 w'=>u2=u'/\Ret RS w G J U N ν h v h' s' e w':=by
 unfold xsy at hc;split at hc
 ·cases hc
 rename_i fn hfn;split at hc
 ·cases hc
 rename_i c hb;refine ⟨⟨fn,c,hfn,hP f fn hfn (by rw [hb];rfl),hb⟩,?_⟩;intro RS w G J U N ν vs hRM hH hsr hargs hrs;have hout:∃ e σ,xBg C call f rv h.length H c { tmps:=args++List.replicate (fn.ntmps - args.length) .und,h:=h } s=some (e,σ,s')/\xdj C f h.length fn σ=some (v,h')/\(e=.normal\/e=.ret):=by
  split at hc
  ·rename_i σ s1 he;simp only [Option.map_eq_some_iff,Prod.mk.injEq] at hc;obtain ⟨⟨v1,h1⟩,hf,rfl,rfl,rfl⟩:=hc;exact ⟨_,σ,he,hf,.inl rfl⟩
  ·rename_i σ s1 he;simp only [Option.map_eq_some_iff,Prod.mk.injEq] at hc;obtain ⟨⟨v1,h1⟩,hf,rfl,rfl,rfl⟩:=hc;exact ⟨_,σ,he,hf,.inr rfl⟩
  ·cases hc
 obtain ⟨e,σ,he,hf,hen⟩:=hout;have hlen:args.length=vs.length:=xb9 hargs;have hts0:xae w G (args++List.replicate (fn.ntmps - args.length) .und) ν J (vs.toArray++Array.replicate (fn.ntmps - vs.toArray.size) undef).toList:=by
  rw [Array.toList_append,Array.toList_replicate,List.size_toArray,<- hlen];refine xcd hargs ?_;generalize fn.ntmps - args.length=k;induction k with
  | zero=>exact xbh
  | succ k ih=>rw [List.replicate_succ,List.replicate_succ];exact xa6 (by simp only [Rel]) ih
 refine callsDIn_of_wpSIn hfn hb trivial fun c₀ cs hu=>?_
 have hrc:=hR f fn c hfn hb;unfold xBg at he;split at he
 case h_2=>cases he
 rename_i s _ _ _ id ops b;split at he
 ·cases he
 rename_i hnr;split at he
 case h_2=>cases he
 rename_i o r hops;split at he
 case isFalse=>cases he
 rename_i hrec;split at he
 case h_2=>cases he
 rename_i ts hmv;refine wpSIn_seq (wpSIn_region ?_);have ho:ops[0]?=some o:=by rw [<- Array.getElem?_toList,hops];rfl
 have hsz:0<ops.size:=(Array.getElem?_eq_some_iff.1 ho).1;have hrange:List.range ops.size=0::(List.range ops.size).drop 1:=by
  have:=List.drop_eq_getElem_cons (l:=List.range ops.size) (i:=0) (by rw [List.length_range];exact hsz);simpa using this
 rw [hrange];simp only [wpOpsSIn,ho];refine ⟨fun f _=>trivial,?_⟩;obtain ⟨hg,hrun⟩:=xKl (P:=C.P) (w:=w) hrec (({ tmps:=vs.toArray++Array.replicate (fn.ntmps - vs.toArray.size) undef,defers:=[] }:Act).eval);simp only [Region.wanted,hg,if_true,hrun];have hrest:∀ (v0:Value) (stk:List Frame),Rel w G rv ν J v0->stk={ c₀ with mode:=u' }::cs ->
     wpOpsSIn Fence.wide 0 C.P ops (Exit.thenS (b.wpSIn Fence.wide 0 C.P (bodyPostS C.P fn c₀ cs fun e u2 w'=>u2=u'/\Ret RS w G J U N ν h v h' s' e w')) (bodyPostS C.P fn c₀ cs fun e u2 w'=>u2=u'/\Ret RS w G J U N ν h v h' s' e w')) ((List.range ops.size).drop 1)
      (({ tmps:=vs.toArray++Array.replicate (fn.ntmps - vs.toArray.size) undef,defers:=[] }:Act).put o.dst v0) stk w:=by
  intro v0 stk hv0 hstk;have hdf:(({ tmps:=vs.toArray++Array.replicate (fn.ntmps - vs.toArray.size) undef,defers:=[] }:Act).put o.dst v0).defers=[]:=by cases o.dst <;> rfl
  refine xx7 (ν:=ν) (G:=G) (J:=J) r 1 (by rw [hops];rfl) _ ts _ w (xk9 hts0 o.dst hv0) hmv fun a' hts' had=>?_
  show b.wpSIn _ _ _ _ _ _ _;refine wpSIn_of_wpIn rfl ?_;have I0:Inv1 RS ⟨w,G,U,N,Own ν h,ν.φ,ν.y,h.length,w.heap.size,[],fun ds=>ds=[]⟩ J [] { tmps:=ts,h:=h } s a' w ν G U N:=
   ⟨hsr,hts',hrs,Ext.refl ..,fun _ _=>rfl,rfl,Nat.le_refl _,(fun p hp=>by cases hp),(fun d hd=>by rw [had,hdf] at hd;cases hd),(by rw [had,hdf];exact List.Pairwise.nil),had.trans hdf⟩
  have hex:=xwg (f:=f) hC hCall hExt hDraw hRM b (by simp only [xdq,Bool.and_eq_true] at hrc;exact hrc.2) Fence.wide ⟨w,G,U,N,Own ν h,ν.φ,ν.y,h.length,w.heap.size,[],fun ds=>ds=[]⟩ J [] _ s a' w e σ s' xel.wide (fun l hl=>by cases hl) hH (Nat.le_refl _)
   ⟨(fun d hd=>by cases hd),fun h=>by rw [h] at hnr;exact absurd rfl hnr⟩ ⟨_,_,_,_,I0⟩ he
  refine wpIn_mono hex ?_
  rintro x a2 w2 ⟨rfl,ν2,G2,U2,N2,I2⟩
  obtain ⟨uv,hres,hret⟩:=xst hC hRM hf I2;have hlow:a2.defers=[]:=I2.low;rcases hen with rfl | rfl <;> exact ⟨hlow,u',hstk,uv,hres,rfl,hret⟩
 rcases hrv c₀ cs hu with ⟨rfl,h1,rfl⟩ | ⟨v0,h1,h2⟩
 ·rw [h1];exact hrest .nilIface _ (by simp only [Rel]) (by rw [<- hu])
 ·rw [h2];exact hrest v0 _ (h1 _ _ _ _) rfl
theorem xn7 {C:Cfg} {f:FuncId} {k:Nat} {fn:Func} {v:AV} {h':xap} (h:xdj C f k fn σ=some (v,h')):xds v=none:=by
 unfold xdj at h;split at h
 ·cases h
 rename_i vs hvs;split at h
 ·cases h
 rename_i hpo;have hpo:xds (xha vs)=none:=by simpa using hpo
 split at h
 ·split at h
  case isFalse=>cases h
  simp only [Option.some.injEq,Prod.mk.injEq] at h;rw [<- h.1];exact xDu
 ·simp only [Option.some.injEq,Prod.mk.injEq] at h;rw [<- h.1,xku];exact hpo
theorem xSq {C:Cfg} {call:xb6} {rv:AV} {H:Option (Hd S)} {f:FuncId} {args:List AV} {s s':S} {v:AV} {h':xap} (hc:xsy C call rv H f args h s=some (v,h',s')):xds v=none:=by
 unfold xsy at hc;split at hc
 ·cases hc
 split at hc
 ·cases hc
 split at hc
 ·simp only [Option.map_eq_some_iff,Prod.mk.injEq] at hc;obtain ⟨⟨v1,h1⟩,hf,rfl,rfl,rfl⟩:=hc;exact xn7 hf
 ·simp only [Option.map_eq_some_iff,Prod.mk.injEq] at hc;obtain ⟨⟨v1,h1⟩,hf,rfl,rfl,rfl⟩:=hc;exact xn7 hf
 ·cases hc
theorem xY4 {C : Cfg} (hC : ∀ t T, C.ty t = some T -> xcc C.P t = some T) (hExt : xkr C) (hDraw : ∀ call, xf3 C.P call -> xBo C call) (hP : ∀ (f : FuncId) (fn : Func), C.P.funcs[f]? = some fn -> fn.body.isSome = true -> fn.name ≠ "runtime.NumGoroutine") (hR : ∀ (f : FuncId) (fn : Func) (c : Code), C.P.funcs[f]? = some fn -> fn.body = some c -> xdq c = true) : ∀ n, xf3 C.P (xbv C n) := by
 intro n;induction n with
 | zero=>intro S H f args h s v h' s' hc;simp [xbv] at hc
 | succ n ih=>
   intro S H f args h s v h' s' hc;simp only [xbv] at hc;split at hc
   ·cases hc
   rename_i fn hfn;split at hc
   ·cases hc
   rename_i c hb;refine ⟨⟨fn,c,hfn,hP f fn hfn (by rw [hb];rfl),hb⟩,?_⟩;intro RS w G J U N ν vs hRM hH hsr hargs hrs;have hlen:args.length=vs.length:=xb9 hargs;have hts0:xae w G (args++List.replicate (fn.ntmps - args.length) .und) ν J (vs.toArray++Array.replicate (fn.ntmps - vs.toArray.size) undef).toList:=by
    rw [Array.toList_append,Array.toList_replicate,List.size_toArray,<- hlen];refine xcd hargs ?_;generalize fn.ntmps - args.length=k;induction k with
    | zero=>exact xbh
    | succ k ih=>rw [List.replicate_succ,List.replicate_succ];exact xa6 (by simp only [Rel]) ih
   have I0:∀ dp:List Deferred->Prop,dp []->Inv1 RS ⟨w,G,U,N,Own ν h,ν.φ,ν.y,h.length,w.heap.size,[],dp⟩ J [] { tmps:=args++List.replicate (fn.ntmps - args.length) .und,h:=h } s { tmps:=vs.toArray++Array.replicate (fn.ntmps - vs.toArray.size) undef,defers:=[] } w ν G U N:=fun dp hdp=>
    ⟨hsr,hts0,hrs,Ext.refl ..,fun _ _=>rfl,rfl,Nat.le_refl _,(fun p hp=>by cases hp),(fun d hd=>by cases hd),List.Pairwise.nil,hdp⟩
   split at hc
   ·-- a call is deferred
    rename_i hdef;split at hc
    case h_2=>cases hc
    rename_i g dargs e σ s1 hex;have hout:∃ rv u u' σ2 s2,xo3 C (xbv C n) rv H g dargs σ s1=some (σ2,s2)/\xdj C f h.length fn σ2=some (v,h')/\s2=s'/\xF8 rv u u'/\settle u'=.returning/\u≠.run /\
        ((e=.normal/\u=.returning)\/(e=.ret/\u=.returning)\/∃ t,e=.pan t/\u=.panicking (xmj t)):=by
     split at hc
     ·cases hc
     ·rename_i t;split at hc
      case h_2=>cases hc
      rename_i σ2 s2 hl;simp only [Option.map_eq_some_iff,Prod.mk.injEq] at hc;obtain ⟨⟨v1,h1⟩,hf,rfl,rfl,rfl⟩:=hc;exact ⟨_,_,_,σ2,s2,hl,hf,rfl,xzw t,rfl,(fun h=>by cases h),.inr (.inr ⟨t,rfl,rfl⟩)⟩
     rename_i hne hnp;split at hc
     case h_2=>cases hc
     rename_i σ2 s2 hl;simp only [Option.map_eq_some_iff,Prod.mk.injEq] at hc;obtain ⟨⟨v1,h1⟩,hf,rfl,rfl,rfl⟩:=hc;refine ⟨_,_,_,σ2,s2,hl,hf,rfl,xzv,rfl,(fun h=>by cases h),?_⟩;cases e with
     | normal=>exact .inl ⟨rfl,rfl⟩
     | ret=>exact .inr (.inl ⟨rfl,rfl⟩)
     | exit id=>exact (hne id rfl).elim
     | pan t=>exact (hnp t rfl).elim
    obtain ⟨rv,u,u',σ2,s2,hl,hf,rfl,hrv,xb7,hur,hen⟩:=hout;have hbody:=xU9 (f:=f) (RS:=RS) (H:=H) hC ih hExt (hDraw _ ih) hRM c hdef (hR f fn c hfn hb) ⟨w,G,U,N,Own ν h,ν.φ,ν.y,h.length,w.heap.size,[],fun ds=>ds=[]⟩ J _ s _ w g dargs e σ s1 rfl rfl hH (Nat.le_refl _) ⟨_,_,_,_,I0 _ rfl⟩ hex;refine callsIn_of_wp_marks hfn hb trivial (wpIn_mono hbody ?_) rfl
    rintro x a' w' ⟨rfl,as,cs,n0,ν',G',U',N',hn0,hdr,I⟩
    obtain ⟨ms,hms⟩:=I.low;have hleave:LeavesInM Fence.wide 0 C.P fn a'.tmps (Ret RS w G J U N ν h v h' s2) a'.defers u w':=by
     rw [hms];refine xuk (B:=⟨w,G,U,N,Own ν h,ν.φ,ν.y,h.length,n0,[{ target:=.fn (.func g) cs.toArray,args:=as.toArray }],fun ds=>∃ ms,ds=ms++[{ target:=.fn (.func g) cs.toArray,args:=as.toArray }]⟩) (J:=J) (σ:={ tmps:=dargs++σ.tmps,h:=σ.h }) (s:=s1) (ν:=ν') (G:=G') (U:=U') (N:=N') hur hRM hn0 ms
      { tmps:=(as++cs).toArray++a'.tmps,defers:=a'.defers } w' hms ?_ ⟨I.sr,by rw [Array.toList_append];exact xcd hdr I.ts,I.rs,I.ext,I.first,I.y,I.len,I.side,I.marks,I.nd,trivial⟩
     intro w2 I2;have hts2:xae w2 G' (dargs++σ.tmps) ν' J ((as++cs)++a'.tmps.toList):=by have:=I2.ts;rwa [Array.toList_append] at this
     have hdl:dargs.length=(as++cs).length:=xb9 hdr;have hdr2:xae w2 G' dargs ν' J (as++cs):=by
      have:=xhf dargs.length hts2
      rwa [List.take_left,hdl,List.take_left] at this
     have htm2:xae w2 G' σ.tmps ν' J a'.tmps.toList:=by
      have:=xjt dargs.length hts2
      rwa [List.drop_left,hdl,List.drop_left] at this
     unfold xo3 at hl;generalize hhand:xen (xag σ.h) (dargs.map fun _=>true) dargs=q at hl;obtain ⟨hm,cargs,ch⟩:=q;dsimp only at hl;split at hl
     case h_2=>cases hl
     rename_i v0 nh s3 hcl;simp only [Option.some.injEq,Prod.mk.injEq] at hl;obtain ⟨rfl,rfl⟩:=hl;simp only [xen,Prod.mk.injEq] at hhand;obtain ⟨hms',hca,hch⟩:=hhand;have hn:hm.Nodup:=by rw [<- hms'];exact xgb _ _ _ _ List.nodup_nil
     rw [hms'] at hca hch;rw [xxg] at hca;subst hca;subst hch;have hgood:=xVe hC ih hExt (hDraw _ ih) hP hR hrv hcl;have hsr:=xv6 (look:=xag σ.h) I2.sr (fun _ _ h=>h) hn J U' N' (fun b hb=>hb) (fun b hb=>.inl hb) I2.sr.un (fun _ h=>h) I2.sr.un (fun _ h=>h);have hrel:xae w2 G' (dargs.map (mv true true (pos hm) xak)) (ν'.over hm) J (as++cs):=xc9 (xh6 xif (fun _ _ h=>h) (fun _ b hb=>.inl hb) xak) hdr2;have hcd:=hgood.2 RS w2 G' J U' N' (ν'.over hm) (as++cs) hRM (by show HSO C.P RS H ν'.y;rw [I2.y];exact hH) hsr hrel I2.rs;refine ⟨hur,.inr ⟨(fun h=>by cases h),.func g,cs.toArray,g,(as++cs).toArray,rfl,?_,fun _ _=>trivial,hcd.mono ?_⟩⟩
     ·have:=xpl (w:=w2) hgood.1 (as.toArray++cs.toArray);simpa [invoke] using this
     ·rintro e2 u2 w3 ⟨rfl,hret⟩
      cases e2 with
      | panicked _=>
        obtain ⟨⟨t,rfl,-⟩,-⟩:=hret;exact absurd (xSq hcl) (by simp [xds])
      | outgrown=>exact hret.elim
      | returned u=>
        obtain ⟨ν3,G3,U3,N3,k1,k2,k3,k4,k5,k6,k7⟩:=xs0 (at_:=σ.h.length) I2.sr (look:=xag σ.h) (fun _ _ h=>h) hn (fun j h1 h2=>I2.sr.fresh h1) (fun _ h=>h) hret.2;have I3:Inv1 RS ⟨w,G,U,N,Own ν h,ν.φ,ν.y,h.length,n0,[],fun _=>True⟩ J [] { σ with h:=xdn (xcn σ.h (xba hm σ.h.length nh).1) σ.h.length (xba hm σ.h.length nh).2 } s3 { tmps:=a'.tmps,defers:=[] } w3 ν3 G3 U3 N3:=by
         refine ⟨k1,I2.sr.relL k5 k2 htm2,k6,I2.ext.trans k5,fun i hi=>?_,k3.trans I2.y,?_,(fun p hp=>by cases hp),(fun d hd=>by cases hd),List.Pairwise.nil,trivial⟩
         ·refine Eq.trans ?_ (I2.first i hi);apply Classical.byContradiction;intro hne;have:=(k7 i hne).1;have h2:h.length<=σ.h.length:=I2.len;have h3:i<h.length:=hi;omega
         ·exact Nat.le_trans I2.len (Nat.le_trans (xdp _ _) (xgm _ _ _))
        obtain ⟨uv,hres,hret2⟩:=xst hC hRM hf I3;show LeavesInM _ _ _ _ _ _ _ (settle u2) _;rw [xb7];exact ⟨uv,hres,hret2⟩
    rcases hen with ⟨rfl,rfl⟩ | ⟨rfl,rfl⟩ | ⟨t,rfl,rfl⟩ <;> exact hleave
   ·rename_i hdef;have hout:∃ e σ,xbs C (xbv C n) f h.length H c { tmps:=args++List.replicate (fn.ntmps - args.length) .und,h:=h } s=some (e,σ,s')/\((xdj C f h.length fn σ=some (v,h')/\(e=.normal\/e=.ret))\/∃ t,e=.pan t/\v=.pan t/\h'=[]/\h.length=0):=by
     split at hc
     ·rename_i σ s1 he;simp only [Option.map_eq_some_iff,Prod.mk.injEq] at hc;obtain ⟨⟨v1,h1⟩,hf,rfl,rfl,rfl⟩:=hc;exact ⟨_,σ,he,.inl ⟨hf,.inl rfl⟩⟩
     ·rename_i σ s1 he;simp only [Option.map_eq_some_iff,Prod.mk.injEq] at hc;obtain ⟨⟨v1,h1⟩,hf,rfl,rfl,rfl⟩:=hc;exact ⟨_,σ,he,.inl ⟨hf,.inr rfl⟩⟩
     ·rename_i t σ s1 he;split at hc
      ·rename_i h0;cases hc;exact ⟨_,σ,he,.inr ⟨t,rfl,rfl,rfl,h0⟩⟩
      ·cases hc
     ·cases hc
    obtain ⟨e,σ,he,hend⟩:=hout;have hex:=xwg (f:=f) hC ih hExt (hDraw _ ih) hRM c (hR f fn c hfn hb) Fence.wide ⟨w,G,U,N,Own ν h,ν.φ,ν.y,h.length,w.heap.size,[],fun _=>True⟩ J [] _ s _ w e σ s' xel.wide (fun l hl=>by cases hl) hH (Nat.le_refl _) ⟨(fun d hd=>by cases hd),fun _ _ _ _=>trivial⟩ ⟨_,_,_,_,I0 _ trivial⟩ he;refine callsIn_of_wp_marks hfn hb trivial (wpIn_mono hex ?_) rfl
    rintro x a' w' ⟨rfl,ν',G',U',N',I⟩
    have leave:∀ u:FrameMode,u≠.run->(∀ w2,Inv1 RS ⟨w,G,U,N,Own ν h,ν.φ,ν.y,h.length,w.heap.size,[],fun _=>True⟩ J [] σ s' { a' with defers:=[] } w2 ν' G' U' N'->LeavesInM Fence.wide 0 C.P fn a'.tmps (Ret RS w G J U N ν h v h' s') [] u w2) ->
        LeavesInM Fence.wide 0 C.P fn a'.tmps (Ret RS w G J U N ν h v h' s') a'.defers u w':=fun u hu hfin=>by
     have:=xuk (u:=u) hu (B:=⟨w,G,U,N,Own ν h,ν.φ,ν.y,h.length,w.heap.size,[],fun _=>True⟩) (J:=J) (σ:=σ) (s:=s') (ν:=ν') (G:=G') (U:=U') (N:=N') (F:=Fence.wide) (n:=0) (P:=C.P) (fn:=fn) (tm:=a'.tmps) (R:=Ret RS w G J U N ν h v h' s') hRM (Nat.le_refl _) a'.defers a' w' (by simp)
      (fun w2 I2=>hfin w2 I2) I
     rwa [List.append_nil] at this
    rcases hend with ⟨hf,hen⟩ | ⟨t,rfl,rfl,rfl,h0⟩
    ·have hleave:=leave .returning (by simp) fun w2 I2=>xst (a:={ a' with defers:=[] }) hC hRM hf I2
     rcases hen with rfl | rfl <;> exact hleave
    ·exact leave (.panicking (xmj t)) (by simp) fun w2 I2=>xRf hRM h0 I2
end
theorem xG7 {size:Nat} {E E':Operand->AV} {x:AV} {lo hi mx:Option Operand} (hl:∀ y,lo=some y->E y=E' y) (hh:∀ y,hi=some y->E y=E' y) (hm:∀ y,mx=some y->E y=E' y):xf1 size E x lo hi mx=xf1 size E' x lo hi mx:=by
 have e:∀ (o:Option Operand) (d m:Nat),(∀ y,o=some y->E y=E' y)->evO E o d m=evO E' o d m:=fun o d m h=>by
  cases o with
  | none=>rfl
  | some y=>simp only [evO,h y rfl]
 unfold xf1;simp only [e _ _ _ hl,e _ _ _ hh,e _ _ _ hm]
theorem xKn {C:Cfg} {E E':Operand->AV} {b:Builtin} {args:List Operand} {ts:List TypeId} (h:∀ x∈args,E x=E' x):xaw C E b args ts=xaw C E' b args ts:=by
 unfold xaw;split
 case h_2=>
  have hm:=List.map_congr_left (fun x hx=>h x (List.mem_cons_of_mem _ hx));simp only [h _ List.mem_cons_self,hm]
 case h_3=>
  have hm:=List.map_congr_left (fun x hx=>h x (List.mem_cons_of_mem _ hx));simp only [h _ List.mem_cons_self,hm]
 all_goals simp_all
theorem xNo {C:Cfg} {E E':Operand->AV} {o:Oper} (h:∀ x∈o.op.operands,E x=E' x):xi2 C E o=xi2 C E' o:=by
 unfold xi2;cases hop:o.op <;> simp only [hop,Op.operands] at h <;> first | rfl | skip
 case slice t x lo hi mx=>
  simp only;have hs:∀ size z,xf1 size E z lo hi mx=xf1 size E' z lo hi mx:=fun size z=>xG7 (fun y hy=>h y (by simp [hy])) (fun y hy=>h y (by simp [hy])) (fun y hy=>h y (by simp [hy]))
  simp only [h x (by simp),hs]
 case build t ps=>
  have hm:(ps.toList.map fun p=>(p.1,E p.2))=ps.toList.map fun p=>(p.1,E' p.2):=List.map_congr_left fun p hp=>by rw [h p.2 (by simp;exact ⟨p.1,by simpa using hp⟩)]
  simp only [hm]
 case buildSlice t n ps=>
  have hm:(ps.toList.map fun p=>(p.1,E p.2))=ps.toList.map fun p=>(p.1,E' p.2):=List.map_congr_left fun p hp=>by rw [h p.2 (by simp;exact ⟨p.1,by simpa using hp⟩)]
  simp only [hm]
 case makeMap t q=>
  cases q with
  | none=>rfl
  | some x=>simp only [h x (by simp)]
 case makeFunc fn a c=>
  have h1:a.toList.map E=a.toList.map E':=List.map_congr_left fun x hx=>h x (by simp;exact .inl (by simpa using hx))
  have h2:c.toList.map E=c.toList.map E':=List.map_congr_left fun x hx=>h x (by simp;exact .inr (by simpa using hx))
  simp only [h1,h2]
 case call c=>
  simp only;have ha:∀ x∈c.args.toList,E x=E' x:=fun x hx=>h x (by simp [Call.operands];exact .inr (by simpa using hx))
  have hm:c.args.toList.map E=c.args.toList.map E':=List.map_congr_left ha;cases hc:c.callee with
  | builtin b=>simp only [xKn ha]
  | invoke r m=>
    have hf:E r=E' r:=h r (by simp [Call.operands,hc]);simp only [hf,hm]
  | value f=>
    have hf:E f=E' f:=h f (by simp [Call.operands,hc]);simp only [hf,hm]
 all_goals simp_all
def xo9 (g:Nat->Option Blk):List (Nat×Option Blk)->Nat->Option Blk
 | []=>g
 | (i,b)::r=>xo9 (fun j=>if i=j then b else g j) r
def xjo (g:Nat->Option Blk) (ups:List (Nat×Option Blk)) (at_:Nat) (news:xap):Nat->Option Blk:=fun j=>if at_<=j/\j<at_+news.length then xag news (j - at_) else xo9 g ups j
theorem xEf:∀ (ups:List (Nat×Option Blk)) (h:xap),xag (xcn h ups)=xo9 (xag h) ups
 | [],h=>rfl
 | (i,b)::r,h=>by
   rw [xcn,xo9,xEf r];congr 1;funext j;rw [xci]
theorem xp1 (h:xap) (ups:List (Nat×Option Blk)) (at_:Nat) (news:xap):xag (xdn (xcn h ups) at_ news)=xjo (xag h) ups at_ news:=by
 funext j;rw [xsm,xEf];rfl
theorem xfv:∀ (ups:List (Nat×Option Blk)) (g:Nat->Option Blk) (j:Nat),(∀ p∈ups,p.1≠j)->xo9 g ups j=g j
 | [],g,j,_=>rfl
 | (i,b)::r,g,j,h=>by
   rw [xo9,xfv r _ j (fun p hp=>h p (by simp [hp])),if_neg (h (i,b) (by simp))]
theorem xCh:∀ (ups:List (Nat×Option Blk)) (g g':Nat->Option Blk) (j:Nat),(∃ p∈ups,p.1=j)->xo9 g ups j=xo9 g' ups j
 | [],_,_,j,h=>by obtain ⟨p,hp,_⟩:=h;cases hp
 | (i, b)::r,g,g',j,h=>by
   rw [xo9,xo9];by_cases hr:∃ p∈r,p.1=j
   ·exact xCh r _ _ j hr
   ·have hr':∀ p∈r,p.1≠j:=fun p hp e=>hr ⟨p,hp,e⟩
    rw [xfv r _ j hr',xfv r _ j hr'];obtain ⟨p,hp,e⟩:=h;rcases List.mem_cons.1 hp with rfl | hp
    ·simp only at e;rw [if_pos e,if_pos e]
    ·exact absurd ⟨p,hp,e⟩ hr
theorem xR4 {g:Nat->Option Blk} {u1 u2:List (Nat×Option Blk)} {a1 a2:Nat} {n1 n2:xap} (hr:a1+n1.length<=a2\/a2+n2.length<=a1) (h12:∀ p∈u1,∀ q∈u2,p.1≠q.1)
    (h1:∀ p∈u1,¬ (a2<=p.1/\p.1<a2+n2.length)) (h2:∀ p∈u2,¬ (a1<=p.1/\p.1<a1+n1.length)):xjo (xjo g u1 a1 n1) u2 a2 n2=xjo (xjo g u2 a2 n2) u1 a1 n1:=by
 have P:∀ (g:Nat->Option Blk) u a n j,xjo g u a n j=if a<=j/\j<a+n.length then xag n (j - a) else xo9 g u j:=fun _ _ _ _ _=>rfl
 funext j;rw [P,P];by_cases c1:a1<=j/\j<a1+n1.length
 ·have c2:¬ (a2<=j/\j<a2+n2.length):=by omega
  rw [if_neg c2,if_pos c1,xfv u2 _ j (fun p hp e=>h2 p hp (e ▸ c1)),P,if_pos c1]
 ·by_cases c2:a2<=j/\j<a2+n2.length
  ·rw [if_pos c2,if_neg c1,xfv u1 _ j (fun p hp e=>h1 p hp (e ▸ c2)),P,if_pos c2]
  ·rw [if_neg c2,if_neg c1];by_cases k1:∃ p∈u1,p.1=j
   ·have k2:∀ q∈u2,q.1≠j:=fun q hq e=>by
     obtain ⟨p,hp,e'⟩:=k1;exact h12 p hp q hq (e'.trans e.symm)
    rw [xfv u2 _ j k2,P,if_neg c1];exact xCh u1 _ _ j k1
   ·have k1':∀ p∈u1,p.1≠j:=fun p hp e=>k1 ⟨p,hp,e⟩
    rw [xfv u1 _ j k1',P,if_neg c2];by_cases k2:∃ q∈u2,q.1=j
    ·exact xCh u2 _ _ j k2
    ·have k2':∀ q∈u2,q.1≠j:=fun p hp e=>k2 ⟨p,hp,e⟩
     rw [xfv u2 _ j k2',xfv u2 _ j k2',P,if_neg c1,xfv u1 _ j k1']
theorem xip {C:Cfg} {call:xb6} {S:Type} {H:Option (Hd S)} {at_:Nat} {look:Nat->Option Blk} {s:S} {ma:MA} {r:Res S} (h:act C call H at_ look s ma=some r) (ht:(xbp C ma).cls=0) :
    r.ups=[]/\r.s=s/\∀ look' s',act C call H at_ look' s' ma=some { r with s:=s' }:=by
 cases ma <;> simp only [xbp,reduceCtorEq] at ht
 case pure v=>simp only [act,Option.some.injEq] at h;subst h;exact ⟨rfl,rfl,fun _ _=>rfl⟩
 case newp sz e=>
  simp only [act] at h;split at h
  ·rename_i hok;cases h;exact ⟨rfl,rfl,fun _ _=>by simp only [act,hok,if_true]⟩
  ·cases h
 case news sz es n cap=>
  simp only [act] at h;split at h
  ·rename_i hok;cases h;exact ⟨rfl,rfl,fun _ _=>by simp only [act,hok,if_true]⟩
  ·cases h
 case newe sz=>simp only [act,Option.some.injEq] at h;subst h;exact ⟨rfl,rfl,fun _ _=>rfl⟩
 case newm=>simp only [act,Option.some.injEq] at h;subst h;exact ⟨rfl,rfl,fun _ _=>rfl⟩
 case call f args=>split at ht <;> simp at ht
 case callp f i sz k j agg n args=>split at ht <;> simp at ht
theorem xtd {C:Cfg} {call:xb6} {S:Type} {H:Option (Hd S)} {at_:Nat} {look:Nat->Option Blk} {s:S} {f:FuncId} {args:List AV} {r:Res S} (h:xg4 C call H at_ look s f args=some r) (ht:∀ b bs,C.ext f=none->C.wr f≠b::bs) :
    r.s=s/\r.ups=[]:=by
 unfold xg4 at h;split at h
 ·rw [Option.map_eq_some_iff] at h;obtain ⟨v,_,rfl⟩:=h;exact ⟨rfl,rfl⟩
 ·rename_i he;split at h
  ·split at h
   ·cases h;exact ⟨rfl,rfl⟩
   ·cases h
  ·rename_i hw;exfalso;cases hwf:C.wr f with
   | nil=>exact hw hwf
   | cons b bs=>exact ht b bs he hwf
theorem xh9 {C:Cfg} {call:xb6} {S:Type} {H:Option (Hd S)} {at_:Nat} {look:Nat->Option Blk} {s:S} {ma:MA} {r:Res S} (h:act C call H at_ look s ma=some r) (ht:(xbp C ma).cls≠4) :
    r.s=s/\∀ p∈r.ups,(xbp C ma).cls=2/\p.1∈(xbp C ma).is:=by
 cases ma <;> simp only [xbp,ne_eq,not_true_eq_false,reduceCtorEq] at ht
 case pure v=>simp only [act,Option.some.injEq] at h;subst h;exact ⟨rfl,fun p hp=>by cases hp⟩
 case newp sz e=>
  simp only [act] at h;split at h
  ·cases h;exact ⟨rfl,fun p hp=>by cases hp⟩
  ·cases h
 case news sz es n cap=>
  simp only [act] at h;split at h
  ·cases h;exact ⟨rfl,fun p hp=>by cases hp⟩
  ·cases h
 case newe sz=>simp only [act,Option.some.injEq] at h;subst h;exact ⟨rfl,fun p hp=>by cases hp⟩
 case newm=>simp only [act,Option.some.injEq] at h;subst h;exact ⟨rfl,fun p hp=>by cases hp⟩
 case mlen i=>
  simp only [act] at h
  repeat' (split at h)
  all_goals first
   | (cases h;done)
   | (cases h;exact ⟨rfl,fun p hp=>by cases hp⟩)
 case mget i T k z ok=>
  simp only [act] at h
  repeat' (split at h)
  all_goals first
   | (cases h;done)
   | (cases h;exact ⟨rfl,fun p hp=>by cases hp⟩)
 case mset i T k v=>
  simp only [act] at h
  repeat' (split at h)
  all_goals first
   | (cases h;done)
   | (cases h;exact ⟨rfl,fun p hp=>by simp only [List.mem_singleton] at hp;subst hp;exact ⟨rfl,by simp [xbp]⟩⟩)
 case mdel i T k=>
  simp only [act] at h
  repeat' (split at h)
  all_goals first
   | (cases h;done)
   | (cases h;exact ⟨rfl,fun p hp=>by simp only [List.mem_singleton] at hp;subst hp;exact ⟨rfl,by simp [xbp]⟩⟩)
 case load i sz k j agg n=>
  simp only [act] at h
  repeat' (split at h)
  all_goals first
   | (cases h;done)
   | (cases h;exact ⟨rfl,fun p hp=>by cases hp⟩)
 case store i sz k j cs=>
  simp only [act] at h
  repeat' (split at h)
  all_goals first
   | (cases h;done)
   | (cases h;exact ⟨rfl,fun p hp=>by simp only [List.mem_singleton] at hp;subst hp;exact ⟨rfl,by simp [xbp]⟩⟩)
 case append a x sz by_=>
  simp only [act] at h
  repeat' (split at h)
  all_goals first
   | (cases h;done)
   | (cases h
      refine ⟨rfl,fun p hp=>?_⟩
      first
       | exact absurd hp List.not_mem_nil
       | (simp only [List.mem_singleton] at hp;subst hp;exact ⟨rfl,by simp [xbp,sid]⟩))
 case copy d x ss=>
  simp only [act] at h
  repeat' (split at h)
  all_goals first
   | (cases h;done)
   | (cases h
      refine ⟨rfl,fun p hp=>?_⟩
      first
       | exact absurd hp List.not_mem_nil
       | (simp only [List.mem_singleton] at hp;subst hp;exact ⟨rfl,by simp [xbp,sid]⟩))
 case call f args=>
  simp only [act] at h;obtain ⟨h1,h2⟩:=xtd h fun b bs he hw=>ht (by rw [he,hw])
  exact ⟨h1,fun p hp=>by rw [h2] at hp;cases hp⟩
 case callp f i sz k j agg n args=>
  simp only [act] at h;split at h
  case h_2=>cases h
  obtain ⟨h1,h2⟩:=xtd h fun b bs he hw=>ht (by rw [he,hw])
  exact ⟨h1,fun p hp=>by rw [h2] at hp;cases hp⟩
theorem xVr (xs ys:List Nat):xs.any (ys.contains ·)=ys.any (xs.contains ·):=by
 rw [Bool.eq_iff_iff];simp only [List.any_eq_true,List.contains_iff_mem];exact ⟨fun ⟨x,h1,h2⟩=>⟨x,h2,h1⟩,fun ⟨x,h1,h2⟩=>⟨x,h2,h1⟩⟩
theorem xO7 (a b:Touch):xj5 a b=xj5 b a:=by
 obtain ⟨ca,ia⟩:=a;obtain ⟨cb,ib⟩:=b;rcases ca with _ | _ | _ | _ | _ | ca <;> rcases cb with _ | _ | _ | _ | _ | cb <;> first | rfl | exact xVr ia ib
structure It where
 o : Oper
 i : Nat
 a : Nat
 n : Nat
def xfe (m:Nat) (done:List Done) (dep:Nat) (t:Touch) (g:Nat->Option Blk):Nat->Option Blk:=
 fun id=>if xfl m done dep id && (decide (t.cls=3\/t.cls=4) || t.is.contains id) then g id else none
def yhg (C:Cfg) (pn:Option (Nat×TypeId)) (i:Nat) (ma:MA) (v:AV):Prop:=
 (exA ma v=.normal/\∀ q,pn=some q->i≠q.1/\(xbp C ma).cls≠2/\(xbp C ma).cls≠4)\/∃ t,pn=some (i,t)/\exA ma v=.pan t/\(xbp C ma).cls=3
def xh5 (C:Cfg) (call:xb6) {S:Type} (H:Option (Hd S)) (ops:Array Oper) (deps:Array Nat) (m:Nat) (pn:Option (Nat×TypeId)) (ts':List AV) (g':Nat->Option Blk) (s':S):List It->List Done->List AV->(Nat->Option Blk)->S->Prop
 | [],_,ts,g,s=>ts=ts'/\g=g'/\s=s'
 | x :: L,done,ts,g,s=>
   (xhu ops ts x.o=some false/\(x.n=0/\∀ q,pn=some q->x.i≠q.1)/\xh5 C call H ops deps m pn ts' g' s' L done (put x.o.dst .und ts) g s) \/
   (xhu ops ts x.o=some true/\∃ ma r,xi2 C (ev ts) x.o=some ma/\(∀ d∈done,(deps.getD x.i 0).testBit d.i=true\/xj5 d.t (xbp C ma)=false) /\
    act C call H x.a (xfe m done (deps.getD x.i 0) (xbp C ma) g) s ma=some r/\(r.news.length=x.n/\yhg C pn x.i ma r.v) /\
    xh5 C call H ops deps m pn ts' g' s' L (⟨x.i,xbp C ma,x.a,x.n⟩::done) (put x.o.dst r.v ts) (xjo g r.ups x.a r.news) r.s)
section
variable {C:Cfg} {call:xb6} {S:Type} {H:Option (Hd S)} {ops:Array Oper} {deps:Array Nat} {m:Nat} {pn:Option (Nat×TypeId)} {ts':List AV} {g':Nat->Option Blk} {s':S}
theorem xKj {done done':List Done} (h:∀ d,d∈done ↔ d∈done') (dep id:Nat):xfl m done dep id=xfl m done' dep id:=by
 unfold xfl;congr 1;rw [Bool.eq_iff_iff];simp only [List.any_eq_true];exact ⟨fun ⟨d,hd,e⟩=>⟨d,(h d).1 hd,e⟩,fun ⟨d,hd,e⟩=>⟨d,(h d).2 hd,e⟩⟩
theorem xh5.mem:∀ {L:List It} {done done':List Done} {ts:List AV} {g:Nat->Option Blk} {s:S},(∀ d,d∈done ↔ d∈done')->xh5 C call H ops deps m pn ts' g' s' L done ts g s->xh5 C call H ops deps m pn ts' g' s' L done' ts g s
 | [],_,_,_,_,_,_,h=>h
 | x :: L,done,done',ts,g,s,hd,h=>by
   rcases h with ⟨h1,h2,h3⟩ | ⟨h1,ma,r,h2,h3,h4,h5,h6⟩
   ·exact .inl ⟨h1,h2,h3.mem hd⟩
   ·refine .inr ⟨h1,ma,r,h2,fun d hd'=>h3 d ((hd d).2 hd'),?_,h5,h6.mem (fun d=>by simp only [List.mem_cons,hd d])⟩;have:xfe m done' (deps.getD x.i 0) (xbp C ma) g=xfe m done (deps.getD x.i 0) (xbp C ma) g:=by
     funext id;simp only [xfe,xKj hd]
    rw [this];exact h4
def ygp:Option (Nat×TypeId)->Ex
 | none=>.normal
 | some q=>.pan q.2
theorem yd4 (ma:MA) (v:AV):exA ma v=.normal\/∃ t,exA ma v=.pan t:=by
 have h:∀ v,exV v=.normal\/∃ t,exV v=.pan t:=fun v=>by
  unfold exV;cases xds v with
  | none=>exact .inl rfl
  | some t=>exact .inr ⟨t,rfl⟩
 cases ma <;> first | exact .inl rfl | exact h v
theorem xHc {e:Ex} {σ':St}:∀ (L:List (Oper×Nat)) (done:List Done) (σ:St) (s:S),(L.map (·.2)).Nodup->xrz C call H ops deps m L done σ s=some (e,σ',s') ->
    ∃ (pn:Option (Nat×TypeId)) (its:List It) (rest:List (Oper×Nat)),its.map (fun x=>(x.o,x.i))++rest=L/\e=ygp pn/\xh5 C call H ops deps m pn σ'.tmps (xag σ'.h) s' its done σ.tmps (xag σ.h) s/\σ.h.length<=σ'.h.length /\
      (∀ x∈its,σ.h.length<=x.a/\x.a+x.n<=σ'.h.length)/\its.Pairwise (fun x y=>x.a+x.n<=y.a)/\(pn=none->rest=[]) /\
      (∀ q,pn=some q->(∃ x∈its,x.i=q.1)/\(∀ p∈rest,(deps.getD p.2 0).testBit q.1=true)/\∀ d∈done,d.t.cls≠2/\d.t.cls≠4)
 | [],done,σ,s,_,h=>by
   simp only [xrz,Option.some.injEq,Prod.mk.injEq] at h;obtain ⟨rfl,rfl,rfl⟩:=h;exact ⟨none,[],[],rfl,rfl,⟨rfl,rfl,rfl⟩,Nat.le_refl _,(fun x hx=>by cases hx),List.Pairwise.nil,fun _=>rfl,(fun q h=>by cases h)⟩
 | (o, i)::L,done,σ,s,hnd,h=>by
   rw [List.map_cons,List.nodup_cons] at hnd;have hni:∀ {its:List It} {rest:List (Oper×Nat)},its.map (fun x=>(x.o,x.i))++rest=L->∀ x∈its,i≠x.i:=fun {its rest} h1 x hx e=>by
    refine hnd.1 ?_;rw [<- h1,List.map_append,List.map_map];exact List.mem_append_left _ (List.mem_map.2 ⟨x,hx,e.symm⟩)
   simp only [xrz] at h;split at h
   ·cases h
   ·rename_i hw;obtain ⟨pn,its,rest,h1,he,h2,h3,h4,h5,h6,h7⟩:=xHc L done _ s hnd.2 h;refine ⟨pn,⟨o,i,σ.h.length,0⟩::its,rest,by simp [h1],he,.inl ⟨hw,⟨rfl,fun q hq e=>?_⟩,h2⟩,h3,fun x hx=>?_,List.pairwise_cons.2 ⟨fun x hx=>(h4 x hx).1,h5⟩,h6,fun q hq=>?_⟩
    ·obtain ⟨x,hx,hxi⟩:=(h7 q hq).1;exact hni h1 x hx (e.trans hxi.symm)
    ·rcases List.mem_cons.1 hx with rfl | hx
     ·exact ⟨Nat.le_refl _,h3⟩
     ·exact h4 x hx
    ·obtain ⟨⟨x,hx,hxi⟩,k2,k3⟩:=h7 q hq;exact ⟨⟨x,List.mem_cons_of_mem _ hx,hxi⟩,k2,k3⟩
   ·rename_i hw;split at h
    ·cases h
    rename_i ma hp;split at h
    ·cases h
    rename_i hcl;split at h
    ·cases h
    rename_i r ha;have hlen:σ.h.length+r.news.length<=(xdn (xcn σ.h r.ups) σ.h.length r.news).length:=by
     by_cases hn:r.news=[]
     ·rw [hn];exact Nat.le_trans (xdp _ _) (xgm _ _ _)
     ·exact xl0 _ _ _ hn
    have hclash:∀ d∈done,(deps.getD i 0).testBit d.i=true\/xj5 d.t (xbp C ma)=false:=fun d hd=>by
     apply Classical.byContradiction;intro hne;rw [not_or] at hne;refine hcl (List.any_eq_true.2 ⟨d,hd,?_⟩);simp only [Bool.and_eq_true,Bool.not_eq_true'];exact ⟨by simpa using hne.1,by simpa using hne.2⟩
    split at h
    ·rename_i hex;obtain ⟨pn,its,rest,h1,he,h2,h3,h4,h5,h6,h7⟩:=xHc L _ _ _ hnd.2 h;simp only at h2 h3 h4;refine ⟨pn,⟨o,i,σ.h.length,r.news.length⟩::its,rest,by simp [h1],he,.inr ⟨hw,ma,r,hp,hclash,ha,⟨rfl,.inl ⟨hex,fun q hq=>?_⟩⟩,?_⟩,by omega,fun x hx=>?_,List.pairwise_cons.2 ⟨fun x hx=>by have:=(h4 x hx).1;simp only;omega,h5⟩,h6,fun q hq=>?_⟩
     ·obtain ⟨⟨x,hx,hxi⟩,_,k3⟩:=h7 q hq;exact ⟨fun e=>hni h1 x hx (e.trans hxi.symm),k3 _ List.mem_cons_self⟩
     ·rw [<- xp1];exact h2
     ·rcases List.mem_cons.1 hx with rfl | hx
      ·exact ⟨Nat.le_refl _,by simp only;omega⟩
      ·have:=h4 x hx;exact ⟨by omega,this.2⟩
     ·obtain ⟨⟨x,hx,hxi⟩,k2,k3⟩:=h7 q hq;exact ⟨⟨x,List.mem_cons_of_mem _ hx,hxi⟩,k2,fun d hd=>k3 d (List.mem_cons_of_mem _ hd)⟩
    ·rename_i hne;split at h
     case isFalse=>cases h
     rename_i hc;simp only [Bool.and_eq_true,List.all_eq_true,decide_eq_true_eq] at hc;simp only [Option.some.injEq,Prod.mk.injEq] at h;obtain ⟨rfl,rfl,rfl⟩:=h;obtain ⟨t,ht⟩:=(yd4 ma r.v).resolve_left hne;refine ⟨some (i,t),[⟨o,i,σ.h.length,r.news.length⟩],L,rfl,ht,.inr ⟨hw,ma,r,hp,hclash,ha,⟨rfl,.inr ⟨t,rfl,ht,hc.2.2⟩⟩,⟨rfl,(xp1 ..).symm,rfl⟩⟩,by simp only;omega,fun x hx=>?_,List.pairwise_singleton _ _,(fun h=>by cases h),fun q hq=>?_⟩
     ·rcases List.mem_singleton.1 hx with rfl
      exact ⟨Nat.le_refl _,hlen⟩
     ·cases hq;exact ⟨⟨_,List.mem_singleton_self _,rfl⟩,hc.1,hc.2.1⟩
theorem xn3 {look:Nat->Option Blk}:∀ (f:Nat) (q acc:List Nat) (i:Nat),i∈xfo look f q acc->i∈acc\/(look i).isSome=true
 | 0,q,acc,i,h=>by cases q <;> simp only [xfo,List.mem_reverse] at h <;> exact .inl h
 | f+1,[],acc,i,h=>by simp only [xfo,List.mem_reverse] at h;exact .inl h
 | f + 1, j::q,acc,i,h=>by
   unfold xfo at h;split at h
   ·exact xn3 f q acc i h
   ·split at h
    ·exact xn3 f q acc i h
    ·rename_i b hb;rcases xn3 f _ _ i h with h | h
     ·rcases List.mem_cons.1 h with rfl | h
      ·exact .inr (by rw [hb];rfl)
      ·exact .inl h
     ·exact .inr h
theorem xJm {at_:Nat} {look:Nat->Option Blk} {s:S} {ma:MA} {r:Res S} (h:act C call H at_ look s ma=some r):∀ p∈r.ups,(look p.1).isSome=true:=by
 have hb:∀ (flags:List Bool) (args:List AV) (nh:xap),∀ p∈(xba (xen look flags args).1 at_ nh).1,(look p.1).isSome=true:=by
  intro flags args nh p hp;have:p.1∈(xen look flags args).1:=by
   rw [<- xns (xen look flags args).1 at_ nh];exact List.mem_map_of_mem (f:=fun p:Nat×Option Blk=>p.1) hp
  exact (xn3 _ _ _ _ this).resolve_left (fun h=>by cases h)
 cases ma <;> simp only [act,xg4] at h
 all_goals
  repeat' (split at h)
  all_goals first
   | (cases h;done)
   | (rw [Option.map_eq_some_iff] at h;obtain ⟨v,_,rfl⟩:=h;exact fun p hp=>absurd hp List.not_mem_nil)
   | (cases h;exact fun p hp=>absurd hp List.not_mem_nil)
   | (cases h;exact hb _ _ _)
   | (cases h
      intro p hp;simp only [List.mem_singleton] at hp;subst hp;simp [*])
theorem xr2 {ts:List AV} {x y:Option Tmp} (u v:AV) (h:∀ d,x=some d->y≠some d):put y v (put x u ts)=put x u (put y v ts):=by
 cases x with
 | none=>rfl
 | some d=>
   cases y with
   | none=>rfl
   | some e=>
     simp only [put];exact List.set_comm _ _ (fun e'=>h d rfl (by rw [e']))
theorem yd5 {ts:List AV} {dst:Option Tmp} {v:AV} {x:Operand} (h:∀ d,dst=some d->x≠.tmp d):ev (put dst v ts) x=ev ts x:=by
 cases dst with
 | none=>rfl
 | some d=>
   cases x with
   | tmp t=>
     have hne:d≠t:=fun e=>h d rfl (by rw [e])
     simp only [ev,put];rw [List.getElem?_set_ne hne]
   | _=>rfl
theorem xr3 {ts:List AV} {o:Oper} {dst:Option Tmp} {v:AV} (h:∀ d,dst=some d->d ∉ o.looksAt ops):xi2 C (ev (put dst v ts)) o=xi2 C (ev ts) o:=
 xNo fun x hx=>yd5 fun d hd hxd=>h d hd (by
  subst hxd;exact List.mem_append_left _ (List.mem_filterMap.2 ⟨.tmp d,by simpa using hx,rfl⟩))
theorem xga {ts:List AV} {o:Oper} {dst:Option Tmp} {v:AV} (h:∀ d,dst=some d->d ∉ o.looksAt ops):xhu ops (put dst v ts) o=xhu ops ts o:=by
 unfold xhu;cases hg:o.guard with
 | none=>rfl
 | some p =>
   obtain ⟨j,want⟩:=p;simp only;cases hd:(ops[j]?).bind (·.dst) with
   | none=>rfl
   | some t=>
     simp only [Option.bind_some];cases dst with
     | none=>rfl
     | some d=>
       have hne:d≠t:=fun e=>h d rfl (by
        refine List.mem_append_right _ ?_;simp only [hg];rw [hd,e];simp)
       simp only [put];rw [List.getElem?_set_ne hne]
theorem xSy {at_:Nat} {l1 l2:Nat->Option Blk} {s1 s2:S} {ma:MA} {r:Res S} (h:act C call H at_ l1 s1 ma=some r) (hl:(xbp C ma).cls≠0->l2=l1/\s2=s1) :
    ∃ r',act C call H at_ l2 s2 ma=some r'/\r'.v=r.v/\r'.ups=r.ups/\r'.news=r.news/\(r'.s=if (xbp C ma).cls=0 then s2 else r.s):=by
 by_cases h0:(xbp C ma).cls=0
 ·obtain ⟨_,_,h3⟩:=xip h h0;exact ⟨_,h3 l2 s2,rfl,rfl,rfl,by rw [if_pos h0]⟩
 ·obtain ⟨rfl,rfl⟩:=hl h0;exact ⟨r,h,rfl,rfl,rfl,by rw [if_neg h0]⟩
theorem xO8 {a b:Touch} (h:xj5 a b=false):a.cls=0\/b.cls=0\/(a.cls≠4/\b.cls≠4):=by
 obtain ⟨ca,ia⟩:=a;obtain ⟨cb,ib⟩:=b;rcases ca with _ | _ | _ | _ | _ | ca <;> rcases cb with _ | _ | _ | _ | _ | cb <;> simp_all [xj5]
theorem xEp {a b:Touch} (h:xj5 a b=false) (ha:a.cls=2) (hb:b.cls≠0):b.cls≠3/\b.cls≠4/\∀ i,i∈a.is->i ∉ b.is:=by
 obtain ⟨ca,ia⟩:=a;obtain ⟨cb,ib⟩:=b;simp only at ha hb;subst ha;rcases cb with _ | _ | _ | _ | _ | cb <;> simp_all [xj5]
theorem xw6 {tx ty:Touch} (hc:xj5 tx ty=false) (hy:ty.cls≠0) {u:List (Nat×Option Blk)} (hu:∀ p∈u,tx.cls=2/\p.1∈tx.is) {done:List Done} {X:Done} {dep:Nat} (hb:dep.testBit X.i=false)
    {a:Nat} {news:xap} (hv:∀ id,xfl m done dep id=true->¬ (a<=id/\id<a+news.length)) (g:Nat->Option Blk):xfe m (X::done) dep ty (xjo g u a news)=xfe m done dep ty g:=by
 funext id;have hvis:xfl m (X::done) dep id=xfl m done dep id:=by simp [xfl,hb]
 simp only [xfe,hvis];split
 ·rename_i h;simp only [Bool.and_eq_true,Bool.or_eq_true,decide_eq_true_eq,List.contains_iff_mem] at h;simp only [xjo,if_neg (hv id h.1)];refine xfv u g id fun p hp e=>?_
  obtain ⟨h1,h2⟩:=hu p hp;obtain ⟨h3,h4,h5⟩:=xEp hc h1 hy;subst e;rcases h.2 with h' | h'
  ·exact h'.elim h3 h4
  ·exact h5 _ h2 h'
 ·rfl
theorem xwz {done:List Done} {dep a n:Nat} (hm:m<=a) (hd:∀ d∈done,d.a+d.n<=a\/a+n<=d.a):∀ id,xfl m done dep id=true->¬ (a<=id/\id<a+n):=by
 intro id h;simp only [xfl,Bool.or_eq_true,decide_eq_true_eq,List.any_eq_true,Bool.and_eq_true] at h;rcases h with h | ⟨d,hd',_,h1,h2⟩
 ·omega
 ·have:=hd d hd';omega
theorem xh5.swap {x y:It} {L:List It} {done:List Done} {ts:List AV} {g:Nat->Option Blk} {s:S} (hxy:(deps.getD y.i 0).testBit x.i=false) (hyx:(deps.getD x.i 0).testBit y.i=false) (hap:y.o.apart ops x.o=true)
    (hr:x.a+x.n<=y.a\/y.a+y.n<=x.a) (hmx:m<=x.a) (hmy:m<=y.a) (hdx:∀ d∈done,d.a+d.n<=x.a\/x.a+x.n<=d.a) (hdy:∀ d∈done,d.a+d.n<=y.a\/y.a+y.n<=d.a)
    (h:xh5 C call H ops deps m pn ts' g' s' (x::y::L) done ts g s):xh5 C call H ops deps m pn ts' g' s' (y::x::L) done ts g s:=by
 obtain ⟨a1,a2,a3⟩:=Oper.apart_spec hap;rcases h with ⟨x1,x2,h⟩ | ⟨x1,max,rx,x2,x3,x4,x5,h⟩
 ·rcases h with ⟨y1,y2,h⟩ | ⟨y1,may,ry,y2,y3,y4,y5,h⟩
  ·rw [xga a3] at y1;refine .inl ⟨y1,y2,.inl ⟨by rw [xga a1];exact x1,x2,?_⟩⟩;rw [xr2 _ _ a2];exact h
  ·rw [xga a3] at y1;rw [xr3 a3] at y2;refine .inr ⟨y1,may,ry,y2,y3,y4,y5,.inl ⟨by rw [xga a1];exact x1,x2,?_⟩⟩;rw [xr2 _ _ a2];exact h
 ·rcases h with ⟨y1,y2,h⟩ | ⟨y1,may,ry,y2,y3,y4,y5,h⟩
  ·rw [xga a3] at y1;refine .inl ⟨y1,y2,.inr ⟨by rw [xga a1];exact x1,max,rx,by rw [xr3 a1];exact x2,x3,x4,x5,?_⟩⟩;rw [xr2 _ _ a2];exact h
  ·rw [xga a3] at y1;rw [xr3 a3] at y2;have hclash:xj5 (xbp C max) (xbp C may)=false:=(y3 _ List.mem_cons_self).resolve_left (by simp only [hxy];exact Bool.false_ne_true);have hclash':xj5 (xbp C may) (xbp C max)=false:=by rw [xO7];exact hclash
   have h4:=xO8 hclash;have ux:(xbp C may).cls≠0->∀ p∈rx.ups,(xbp C max).cls=2/\p.1∈(xbp C max).is:=fun hne p hp=>by
    rcases h4 with h | h | h
    ·rw [(xip x4 h).1] at hp;cases hp
    ·exact absurd h hne
    ·exact (xh9 x4 h.1).2 p hp
   have uy:(xbp C max).cls≠0->∀ p∈ry.ups,(xbp C may).cls=2/\p.1∈(xbp C may).is:=fun hne p hp=>by
    rcases h4 with h | h | h
    ·exact absurd h hne
    ·rw [(xip y4 h).1] at hp;cases hp
    ·exact (xh9 y4 h.2).2 p hp
   have vx:=xwz (dep:=deps.getD y.i 0) hmx hdx;have vy:=xwz (dep:=deps.getD x.i 0) hmy hdy;have ly:(xbp C may).cls≠0->xfe m (⟨x.i,xbp C max,x.a,x.n⟩::done) (deps.getD y.i 0) (xbp C may) (xjo g rx.ups x.a rx.news)=xfe m done (deps.getD y.i 0) (xbp C may) g:=fun hne=>
    xw6 hclash hne (ux hne) hxy (by rw [x5.1];exact vx) g
   have hsx:(xbp C may).cls≠0->rx.s=s:=fun hne=>by
    rcases h4 with h | h | h
    ·exact (xip x4 h).2.1
    ·exact absurd h hne
    ·exact (xh9 x4 h.1).1
   have hsy:(xbp C max).cls≠0->ry.s=rx.s:=fun hne=>by
    rcases h4 with h | h | h
    ·exact absurd h hne
    ·exact (xip y4 h).2.1
    ·exact (xh9 y4 h.2).1
   obtain ⟨ry',y4',hyv,hyu,hyn,hys⟩:=xSy (l2:=xfe m done (deps.getD y.i 0) (xbp C may) g) (s2:=s) y4 (fun hne=>⟨(ly hne).symm,(hsx hne).symm⟩);have lx:(xbp C max).cls≠0->xfe m (⟨y.i,xbp C may,y.a,y.n⟩::done) (deps.getD x.i 0) (xbp C max) (xjo g ry'.ups y.a ry'.news)=xfe m done (deps.getD x.i 0) (xbp C max) g:=fun hne=>
    xw6 hclash' hne (by rw [hyu];exact uy hne) hyx (by rw [hyn,y5.1];exact vy) g
   have hs2:(xbp C max).cls≠0->ry'.s=s:=fun hne=>by
    rw [hys];split
    ·rfl
    ·rename_i hne';rw [hsy hne,hsx hne']
   obtain ⟨rx',x4',hxv,hxu,hxn,hxs⟩:=xSy (l2:=xfe m (⟨y.i,xbp C may,y.a,y.n⟩::done) (deps.getD x.i 0) (xbp C max) (xjo g ry'.ups y.a ry'.news)) (s2:=ry'.s) x4 (fun hne=>⟨lx hne,hs2 hne⟩);refine .inr ⟨y1,may,ry',y2,fun d hd=>y3 d (List.mem_cons_of_mem _ hd),y4',⟨by rw [hyn,y5.1],by rw [hyv];exact y5.2⟩,.inr ⟨by rw [xga a1];exact x1,max,rx',by rw [xr3 a1];exact x2,?_,x4',⟨by rw [hxn,x5.1],by rw [hxv];exact x5.2⟩,?_⟩⟩
   ·intro d hd;rcases List.mem_cons.1 hd with rfl | hd
    ·exact .inr hclash'
    ·exact x3 d hd
   ·have hseen:=xJm x4;have hseen':=xJm y4';rw [hxv,hxu,hxn,hyv,hyu,hyn,xr2 _ _ a2];rw [hyu] at hseen';have hg:xjo (xjo g ry.ups y.a ry.news) rx.ups x.a rx.news=xjo (xjo g rx.ups x.a rx.news) ry.ups y.a ry.news:=by
     refine xR4 (by rw [x5.1,y5.1];omega) (fun p hp q hq e=>?_) (fun p hp hh=>?_) (fun p hp hh=>?_)
     ·rcases h4 with h | h | h
      ·rw [(xip x4 h).1] at hq;cases hq
      ·rw [(xip y4 h).1] at hp;cases hp
      ·obtain ⟨k1,k2⟩:=(xh9 y4 h.2).2 p hp;obtain ⟨k3,k4⟩:=(xh9 x4 h.1).2 q hq;obtain ⟨_,_,k5⟩:=xEp hclash' k1 (by rw [k3];simp);exact k5 _ k2 (e ▸ k4)
     ·have:=hseen' p hp;simp only [xfe] at this;split at this
      ·rename_i hv;rw [x5.1] at hh;exact vx _ (by simp only [Bool.and_eq_true] at hv;exact hv.1) hh
      ·cases this
     ·have:=hseen p hp;simp only [xfe] at this;split at this
      ·rename_i hv;rw [y5.1] at hh;exact vy _ (by simp only [Bool.and_eq_true] at hv;exact hv.1) hh
      ·cases this
    rw [hg];have hs:rx'.s=ry.s:=by
     rw [hxs];by_cases h0:(xbp C max).cls=0
     ·rw [if_pos h0,hys];by_cases h0':(xbp C may).cls=0
      ·rw [if_pos h0',(xip y4 h0').2.1,(xip x4 h0).2.1]
      ·rw [if_neg h0']
     ·rw [if_neg h0,hsy h0]
    rw [hs];refine h.mem fun d=>?_
    simp only [List.mem_cons];constructor <;> rintro (h | h | h) <;> simp [h]
end
section
variable {ops:Array Oper}
theorem xx0 (h:xpr ops=true) {j:Nat} {o:Oper} (ho:ops[j]?=some o) :
    (∀ e∈o.after,Region.binds .any e=true->e.on<j) /\
    ((Region.before ops).getD j 0=o.after.toList.foldl (fun s e=>if Region.binds .any e then s ||| 2 ^ e.on ||| (Region.before ops).getD e.on 0 else s) 0) /\
    ∀ (i:Nat) (oi:Oper),ops[i]?=some oi->i<j->((Region.before ops).getD j 0).testBit i=false->o.apart ops oi=true:=by
 have mem:∀ {j o},ops[j]?=some o->(o,j)∈ops.toList.zipIdx:=fun {j o} ho=>by
  rw [List.mem_zipIdx_iff_getElem?];simpa using ho
 unfold xpr at h;simp only [List.all_eq_true] at h;have hj:=h _ (mem ho);simp only [Bool.and_eq_true,List.all_eq_true,decide_eq_true_eq,Bool.or_eq_true,Bool.not_eq_true',decide_eq_false_iff_not] at hj;refine ⟨fun e he hb=>?_,hj.2.1,fun i oi hi hlt hbit=>?_⟩
 ·have:=hj.1 e (by simpa using he);rcases this with h | h
  ·rw [hb] at h;cases h
  ·exact h
 ·have:=hj.2.2 _ (mem hi);rcases this with h | h | h
  ·exact absurd hlt h
  ·simp only at h;rw [hbit] at h;cases h
  ·exact h
theorem xIv (b:Nat->Nat) (c:Edge->Bool):∀ (l:List Edge) (s i:Nat),(l.foldl (fun s e=>if c e then s ||| 2 ^ e.on ||| b e.on else s) s).testBit i=true ->
    s.testBit i=true\/∃ e∈l,c e=true/\(e.on=i\/(b e.on).testBit i=true)
 | [],s,i,h=>.inl h
 | e :: l,s,i,h=>by
   rw [List.foldl_cons] at h;rcases xIv b c l _ i h with h | ⟨e',he,h1,h2⟩
   ·split at h
    ·rename_i hc;simp only [Nat.testBit_or,Bool.or_eq_true,Nat.testBit_two_pow,decide_eq_true_eq] at h;rcases h with (h | h) | h
     ·exact .inl h
     ·exact .inr ⟨e,List.mem_cons_self,hc,.inl h⟩
     ·exact .inr ⟨e,List.mem_cons_self,hc,.inr h⟩
    ·exact .inl h
   ·exact .inr ⟨e',List.mem_cons_of_mem _ he,h1,h2⟩
theorem xL6 (h:xpr ops=true) {j:Nat} {o:Oper} (ho:ops[j]?=some o) {i:Nat} (hb:((Region.before ops).getD j 0).testBit i=true) :
    ∃ e∈o.after,Region.binds .any e=true/\e.on<j/\(e.on=i\/((Region.before ops).getD e.on 0).testBit i=true):=by
 obtain ⟨h1,h2,_⟩:=xx0 h ho;rw [h2] at hb;rcases xIv (fun k=>(Region.before ops).getD k 0) (fun e=>Region.binds .any e) o.after.toList 0 i hb with h | ⟨e,he,h3,h4⟩
 ·rw [Nat.zero_testBit] at h;cases h
 ·exact ⟨e,by simpa using he,h3,h1 e (by simpa using he) h3,h4⟩
theorem xL5 (h:xpr ops=true):∀ (j:Nat) (o:Oper),ops[j]?=some o->∀ i,((Region.before ops).getD j 0).testBit i=true->i<j:=by
 intro j;induction j using Nat.strongRecOn with
 | _ j ih=>
   intro o ho i hb;obtain ⟨e,_,_,h3,h4⟩:=xL6 h ho hb;rcases h4 with h4 | h4
   ·omega
   ·have hj:j<ops.size:=(Array.getElem?_eq_some_iff.1 ho).1;have:=ih e.on h3 ops[e.on] (by rw [Array.getElem?_eq_getElem (by omega)]) i h4;omega
structure Side2 (m:Nat) (its:List It) (done:List Done):Prop where
 low:∀ x∈its,m<=x.a
 dn:∀ x∈its,∀ d∈done,d.a+d.n<=x.a\/x.a+x.n<=d.a
 pw:its.Pairwise (fun x y=>x.a+x.n<=y.a\/y.a+y.n<=x.a)
variable {C:Cfg} {call:xb6} {S:Type} {H:Option (Hd S)} {deps:Array Nat} {m:Nat} {pn:Option (Nat×TypeId)} {ts':List AV} {g':Nat->Option Blk} {s':S}
theorem xh5.same {q:Nat×TypeId} (hq:pn=some q):∀ {L:List It} {done:List Done} {ts:List AV} {g:Nat->Option Blk} {s:S},xh5 C call H ops deps m pn ts' g' s' L done ts g s->s'=s
 | [],_,_,_,_,h=>h.2.2.symm
 | x :: L,done,ts,g,s,h=>by
   rcases h with ⟨_,_,h⟩ | ⟨_,ma,r,_,_,h4,h5,h⟩
   ·exact h.same hq
   ·have hcls:(xbp C ma).cls≠4:=by
     rcases h5.2 with ⟨_,hc⟩ | ⟨t,_,_,hc⟩
     ·exact (hc q hq).2.2
     ·rw [hc];decide
    exact (h.same hq).trans (xh9 h4 hcls).1
theorem xh5.bubble {x:It} {post:List It}:∀ (pre:List It) (done:List Done) (ts:List AV) (g:Nat->Option Blk) (s:S),
    (∀ p∈pre,(deps.getD x.i 0).testBit p.i=false/\(deps.getD p.i 0).testBit x.i=false/\x.o.apart ops p.o=true)->Side2 m (pre++x::post) done ->
    xh5 C call H ops deps m pn ts' g' s' (pre++x::post) done ts g s->xh5 C call H ops deps m pn ts' g' s' (x::(pre++post)) done ts g s
 | [],_,_,_,_,_,_,h=>h
 | p :: pre,done,ts,g,s,hp,hs,h=>by
   have hs':=hs.pw;rw [List.cons_append,List.pairwise_cons] at hs';have hpd:=hs.dn p (by simp);have hsub:∀ done',(∀ y∈pre++x::post,∀ d∈done',d.a+d.n<=y.a\/y.a+y.n<=d.a)->Side2 m (pre++x::post) done':=fun done' hd=>
    ⟨fun y hy=>hs.low y (by rw [List.cons_append];exact List.mem_cons_of_mem _ hy),hd,hs'.2⟩
   have hd0:∀ y∈pre++x::post,∀ d∈done,d.a+d.n<=y.a\/y.a+y.n<=d.a:=fun y hy=>hs.dn y (by rw [List.cons_append];exact List.mem_cons_of_mem _ hy)
   have hx:=hp p List.mem_cons_self;have hrest:∀ q∈pre,_:=fun q hq=>hp q (List.mem_cons_of_mem _ hq)
   refine xh5.swap (x:=p) (y:=x) hx.1 hx.2.1 hx.2.2 (hs'.1 x (by simp)) (hs.low p (by simp)) (hs.low x (by simp)) hpd (hs.dn x (by simp)) ?_;rcases h with ⟨h1,h2,h3⟩ | ⟨h1,ma,r,h2,h3,h4,h5,h6⟩
   ·exact .inl ⟨h1,h2,xh5.bubble pre done _ _ _ hrest (hsub _ hd0) h3⟩
   ·refine .inr ⟨h1,ma,r,h2,h3,h4,h5,xh5.bubble pre _ _ _ _ hrest (hsub _ fun y hy d hd=>?_) h6⟩;rcases List.mem_cons.1 hd with rfl | hd
    ·exact hs'.1 y hy
    ·exact hd0 y hy d hd
end
section
variable {w w':World} {G G' J U U' N N':Nat->Prop} {ν ν':Names} {h nh:xap}
theorem xli {h h':xap} (e:xag h=xag h') {b:Nat} (ho:Own ν h b):Own ν h' b:=by
 obtain ⟨i,B,h1,h2⟩:=ho;exact ⟨i,B,by rw [<- e];exact h1,h2⟩
theorem SR.heap {h h':xap} (S:SR w G J U N ν h) (e:xag h=xag h') (hl:∀ i b,ν.φ i=some b->i<h'.length):SR w G J U N ν h':=
 ⟨fun i B hB=>S.blk i B (by rw [e];exact hB),fun i j B B' b h1 h2=>S.inj i j B B' b (by rw [e];exact h1) (by rw [e];exact h2),hl,S.glt,S.jlt,S.nlt,
  fun b hb ho=>S.gown b hb (xli e.symm ho),fun b hb ho=>S.jown b hb (xli e.symm ho),fun b hb ho=>S.nown b hb (xli e.symm ho),S.gu,S.ju,S.un⟩
theorem Inv1.heap {S:Type} {RS:xcl S} {B:Base} {sd:List (Nat×Obj)} {ts:List AV} {h h':xap} {s:S} {a:Act} (I:Inv1 RS B J sd ⟨ts,h⟩ s a w ν G U N) (e:xag h=xag h') (hl:∀ i b,ν.φ i=some b->i<h'.length) (hk:B.k<=h'.length) :
    Inv1 RS B J sd ⟨ts,h'⟩ s a w ν G U N:=
 ⟨I.sr.heap e hl,I.ts,I.rs,I.ext.less (fun _ hb=>xli e.symm hb),I.first,I.y,hk,fun p hp=>(I.side p hp).less (fun _ hb=>xli e.symm hb),
  fun d hd=>(I.marks d hd).imp_right fun ⟨r,e',hs⟩=>⟨r,e',hs.less (fun _ hb=>xli e.symm hb)⟩,I.nd,I.low⟩
def xwv (ops:Array Oper) (ts0 ts:List AV):Prop:=ts.length=ts0.length/\∀ i,(∀ o∈ops.toList,o.dst≠some i)->ts[i]?=ts0[i]?
theorem xLe (d:Option Tmp) (v:AV) (ts:List AV):(put d v ts).length=ts.length:=by cases d <;> simp [put]
theorem xEt {ops:Array Oper} {ts0 ts:List AV} {o:Oper} (ho:o∈ops.toList) (h:xwv ops ts0 ts) (v:AV):xwv ops ts0 (put o.dst v ts):=⟨(xLe _ _ _).trans h.1,fun i hi=>by
 rw [<- h.2 i hi];have:=hi o ho;cases hd:o.dst with
 | none=>rfl
 | some d=>
   rw [hd] at this;exact List.getElem?_set_ne fun e=>this (by rw [e])⟩
theorem xqt:∀ (l:List Oper) (ts:List AV),(xqu l ts).length=ts.length
 | [],_=>rfl
 | o::l,ts=>(xqt l _).trans (xLe o.dst .any ts)
theorem xw1:∀ (l:List Oper) (ts:List AV) (i:Nat) (c:AV),(xqu l ts)[i]?=some c->c=.any\/(ts[i]?=some c/\∀ o∈l,o.dst≠some i)
 | [],_,_,_,h=>.inr ⟨h,fun o ho=>by cases ho⟩
 | o :: l, ts,i,c,h=>by
   rcases xw1 l (put o.dst .any ts) i c h with h | ⟨h,h'⟩
   ·exact .inl h
   ·cases hd:o.dst with
    | none=>
      rw [hd] at h;refine .inr ⟨h,fun o' ho=>?_⟩;rcases List.mem_cons.1 ho with rfl | ho
      ·rw [hd];exact fun e=>by cases e
      ·exact h' o' ho
    | some d=>
      rw [hd] at h;simp only [put] at h;by_cases e:d=i
      ·subst e;rw [List.getElem?_set] at h;split at h
       ·split at h
        ·exact .inl (Option.some.inj h).symm
        ·cases h
       ·rename_i hne;exact absurd rfl hne
      ·rw [List.getElem?_set_ne e] at h;refine .inr ⟨h,fun o' ho=>?_⟩;rcases List.mem_cons.1 ho with rfl | ho
       ·rw [hd];exact fun e'=>e (Option.some.inj e')
       ·exact h' o' ho
theorem xxb {w:World} {G J:Nat->Prop} {ν:Names}:∀ {cs:List AV} {vs:List Value},cs.length=vs.length->(∀ (i:Nat) (c:AV) (v:Value),cs[i]?=some c->vs[i]?=some v->Rel w G c ν J v)->xae w G cs ν J vs
 | [],[],_,_=>xbh
 | [],_::_,h,_=>by cases h
 | _::_,[],h,_=>by cases h
 | c::cs,v::vs,h,hr=>xa6 (hr 0 c v rfl rfl) (xxb (by simpa using h) fun i c v h1 h2=>hr (i+1) c v (by simpa using h1) (by simpa using h2))
theorem yd7 {C:Cfg} (hC:∀ t T,C.ty t=some T->xcc C.P t=some T) {call:xb6} (hCall:xf3 C.P call) (hExt:xkr C) {F:Fence} (hF:xel F) {S:Type} {RS:xcl S} (hRM:xd5 RS) {H:Option (Hd S)}
    {B:Base} {sd:List (Nat×Obj)} (hH:HSO C.P RS H B.y) {ops:Array Oper} (hok:xpr ops=true) {m M:Nat} (hk:B.k<=m) {ts':List AV} {h':xap} {s':S} (hM:M<=h'.length) (hm:m<=M) {Q:Exit->Act->World->Prop}
    {pn:Option (Nat×TypeId)} {ts0:List AV} {g0:Nat->Option Blk} {s0:S} (hQ:pn=none->∀ a' w',Inv RS B J sd ⟨ts',h'⟩ s' a' w'->Q .normal a' w')
    (hQp:∀ q,pn=some q->∀ ts h a w ν G U N,Inv1 RS B J sd ⟨ts,h⟩ s0 a w ν G U N->xwv ops ts0 ts->(∀ j,j<m->xag h j=g0 j)->(∀ j b,ν.φ j=some b->j<M)->Q (.panic (xmj q.2)) a w) :
    ∀ (fuel:Nat) (its:List It) (listed:Array Bool) (done:List Done) (ts:List AV) (h:xap) (s:S) (a:Act) (w:World) (ν:Names) (G U N:Nat->Prop),
      its.length<=fuel->listed.size=ops.size->its.Pairwise (fun x y=>x.i<y.i)->(∀ x∈its,ops[x.i]?=some x.o/\listed.getD x.i true=false)->(∀ i,listed.getD i true=false->(∃ x∈its,x.i=i)\/∃ q,pn=some q/\((Region.before ops).getD i 0).testBit q.1=true)->(∀ q,pn=some q->(∃ x∈its,x.i=q.1)/\xwv ops ts0 ts/\(∀ j,j<m->xag h j=g0 j)/\s=s0) ->
      (∀ k,k<ops.size->listed.getD k true=true->∀ i,((Region.before ops).getD k 0).testBit i=true->listed.getD i true=true) ->
      Side2 m its done->(∀ x∈its,x.a+x.n<=M)->(∀ d∈done,d.a+d.n<=M)->(∀ j b,ν.φ j=some b->j<m\/∃ d∈done,d.a<=j/\j<d.a+d.n) ->
      xh5 C call H ops (Region.before ops) m pn ts' (xag h') s' its done ts (xag h) s->Inv1 RS B J sd ⟨ts,h⟩ s a w ν G U N ->
      wpAnyIn F 0 C.P .any ops Q fuel listed a w:=by
 intro fuel;have fin:∀ (listed:Array Bool) (its:List It) (done:List Done) (ts:List AV) (h:xap) (s:S) (a:Act) (w:World) (ν:Names) (G U N:Nat->Prop),its=[]->pn=none->(∀ d∈done,d.a+d.n<=M)->(∀ j b,ν.φ j=some b->j<m\/∃ d∈done,d.a<=j/\j<d.a+d.n) ->
     xh5 C call H ops (Region.before ops) m pn ts' (xag h') s' its done ts (xag h) s->Inv1 RS B J sd ⟨ts,h⟩ s a w ν G U N->Q .normal a w:=by
  intro listed its done ts h s a w ν G U N he hpn hdM hn hr I;subst he;obtain ⟨rfl,e,rfl⟩:=hr;refine hQ hpn a w ⟨ν,G,U,N,I.heap e (fun i b hi=>?_) (by omega)⟩;rcases hn i b hi with h1 | ⟨d,hd,h1,h2⟩
  ·omega
  ·have:=hdM d hd;omega
 have noReady:∀ (listed:Array Bool) (its:List It),listed.size=ops.size->(∀ x∈its,ops[x.i]?=some x.o/\listed.getD x.i true=false)->(∀ i,listed.getD i true=false->(∃ x∈its,x.i=i)\/∃ q,pn=some q/\((Region.before ops).getD i 0).testBit q.1=true)->(∀ q,pn=some q->∃ x∈its,x.i=q.1) ->
     Region.ready .any ops listed=[]->its=[]:=by
  intro listed its hsz hx hall hpi hr;cases its with
  | nil=>rfl
  | cons y ys=>
    exfalso;have key:∀ n,∀ i,i<=n->listed.getD i true=true:=by
     intro n;induction n using Nat.strongRecOn with
     | _ n ih=>
       intro i hi;apply Classical.byContradiction;intro hne;have hf:listed.getD i true=false:=by simpa using hne
       rcases hall i hf with ⟨x,hxm,rfl⟩ | ⟨q,hq,hqb⟩
       case inr=>
        obtain ⟨x,hxm,hxq⟩:=hpi q hq;have hisz:i<ops.size:=by
         rw [<- hsz];apply Classical.byContradiction;intro hge;simp [Array.getD,hge] at hf
        have hlt:=xL5 hok i ops[i] (Array.getElem?_eq_getElem hisz) q.1 hqb;have:=ih q.1 (by omega) q.1 (Nat.le_refl _);rw [<- hxq,(hx x hxm).2] at this;cases this
       have hmem:x.i∈Region.ready .any ops listed:=by
        refine mem_ready.2 ⟨hf,x.o,(hx x hxm).1,fun e he hb=>?_⟩;have hlt:=(xx0 hok (hx x hxm).1).1 e he hb;have:=ih e.on (by omega) e.on (Nat.le_refl _);have hsz':e.on<listed.size:=by
         rw [hsz];exact Nat.lt_trans hlt (Array.getElem?_eq_some_iff.1 (hx x hxm).1).1
        simp only [Array.getD,hsz',dif_pos] at this ⊢;exact this
       rw [hr] at hmem;cases hmem
    have:=key y.i y.i (Nat.le_refl _);rw [(hx y List.mem_cons_self).2] at this;cases this
 induction fuel with
 | zero =>
   intro its listed done ts h s a w ν G U N hlen hsz hpw hx hall hpi hcl hs2 hitM hdM hn hr I;have hnil:its=[]:=List.length_eq_zero_iff.1 (by omega);have hpn:pn=none:=by
    cases hq:pn with
    | none=>rfl
    | some q=>
      obtain ⟨⟨x,hx',_⟩,_⟩:=hpi q hq;rw [hnil] at hx';cases hx'
   refine ⟨?_,fin listed its done ts h s a w ν G U N hnil hpn hdM hn hr I⟩;cases hrd:Region.ready .any ops listed with
   | nil=>rfl
   | cons i r=>
     exfalso;have hmem:i∈Region.ready .any ops listed:=by rw [hrd];exact List.mem_cons_self
     rcases hall i (mem_ready.1 hmem).1 with ⟨x,hx',_⟩ | ⟨q,hq,_⟩
     ·rw [hnil] at hx';cases hx'
     ·rw [hpn] at hq;cases hq
 | succ fuel ih=>
   intro its listed done ts h s a w ν G U N hlen hsz hpw hx hall hpi hcl hs2 hitM hdM hn hr I;refine ⟨fun h0=>?_,fun i hi=>?_⟩
   ·have hnil:=noReady listed its hsz hx hall (fun q hq=>(hpi q hq).1) h0;have hpn:pn=none:=by
     cases hq:pn with
     | none=>rfl
     | some q=>
       obtain ⟨⟨x,hx',_⟩,_⟩:=hpi q hq;rw [hnil] at hx';cases hx'
    exact fin listed its done ts h s a w ν G U N hnil hpn hdM hn hr I
   obtain ⟨hun,o,ho,hedge⟩:=mem_ready.1 hi;have hiz:i<ops.size:=(Array.getElem?_eq_some_iff.1 ho).1;have hbits0:∀ k,((Region.before ops).getD i 0).testBit k=true->listed.getD k true=true:=fun k hb=>by
    obtain ⟨e,he,h1,h2,h3⟩:=xL6 hok ho hb;have hle:=hedge e he h1;have hsz':e.on<listed.size:=by omega
    have hle':listed.getD e.on true=true:=by
     simp only [Array.getD,hsz',dif_pos] at hle ⊢;exact hle
    rcases h3 with rfl | h3
    ·exact hle'
    ·exact hcl e.on (by omega) hle' k h3
   rcases hall i hun with ⟨x,hxm,rfl⟩ | ⟨q,hq,hqb⟩
   case inr=>
    exfalso;obtain ⟨⟨x,hxm,hxq⟩,_⟩:=hpi q hq;have:=hbits0 q.1 hqb;rw [<- hxq,(hx x hxm).2] at this;cases this
   have hxo:x.o=o:=by
    have:=(hx x hxm).1;rw [ho] at this;exact (Option.some.inj this).symm
   obtain ⟨pre,post,rfl⟩:=List.append_of_mem hxm;have hisz:x.i<ops.size:=(Array.getElem?_eq_some_iff.1 ho).1;have hbits:=hbits0;have hpre:∀ p∈pre,p.i<x.i:=fun p hp=>(List.pairwise_append.1 hpw).2.2 p hp x List.mem_cons_self
   have hr1:=xh5.bubble pre done ts (xag h) s (fun p hp=>by
    have hpx:=hx p (by simp [hp]);have h1:((Region.before ops).getD x.i 0).testBit p.i=false:=by
     cases hb:((Region.before ops).getD x.i 0).testBit p.i with
     | false=>rfl
     | true=>rw [hbits _ hb] at hpx;cases hpx.2
    refine ⟨h1,?_,?_⟩
    ·cases hb:((Region.before ops).getD p.i 0).testBit x.i with
     | false=>rfl
     | true=>have:=xL5 hok p.i p.o hpx.1 x.i hb;have:=hpre p hp;omega
    ·exact (xx0 hok (hx x (by simp)).1).2.2 p.i p.o hpx.1 (hpre p hp) h1) hs2 hr
   -- what holds of the others
   have hsub:(pre++post).Sublist (pre++x::post):=List.Sublist.append_left (List.sublist_cons_self x post) pre;have hne:∀ y∈pre++post,y.i≠x.i:=fun y hy e=>by
    rcases List.mem_append.1 hy with hy | hy
    ·have:=hpre y hy;omega
    ·have:=(List.pairwise_cons.1 (List.pairwise_append.1 hpw).2.1).1 y hy;omega
   have hget':∀ k,(listed.setIfInBounds x.i true).getD k true=if k=x.i then true else listed.getD k true:=fun k=>by
    by_cases e:k=x.i
    ·subst e;rw [if_pos rfl];simp only [Array.getD,Array.size_setIfInBounds];split
     ·simp
     ·rfl
    ·rw [if_neg e,getD_set_ne true (Ne.symm e)]
   have c1:(pre++post).length<=fuel:=by simp only [List.length_append,List.length_cons] at hlen ⊢;omega
   have c2:(listed.setIfInBounds x.i true).size=ops.size:=by rw [Array.size_setIfInBounds,hsz]
   have c3:=hpw.sublist hsub;have c4:∀ y∈pre++post,ops[y.i]?=some y.o/\(listed.setIfInBounds x.i true).getD y.i true=false:=fun y hy=>by
    have:=hx y (hsub.subset hy);rw [hget',if_neg (hne y hy)];exact this
   have c5:∀ i,(listed.setIfInBounds x.i true).getD i true=false->(∃ y∈pre++post,y.i=i)\/∃ q,pn=some q/\((Region.before ops).getD i 0).testBit q.1=true:=fun i hi'=>by
    rw [hget'] at hi';split at hi'
    ·cases hi'
    rename_i hne';rcases hall i hi' with ⟨y,hy,e⟩ | hq
    case inr=>exact .inr hq
    refine .inl ⟨y,?_,e⟩;rcases List.mem_append.1 hy with hy | hy
    ·exact List.mem_append_left _ hy
    ·rcases List.mem_cons.1 hy with rfl | hy
     ·exact absurd e.symm hne'
     ·exact List.mem_append_right _ hy
   have c6:∀ k,k<ops.size->(listed.setIfInBounds x.i true).getD k true=true->∀ i,((Region.before ops).getD k 0).testBit i=true->(listed.setIfInBounds x.i true).getD i true=true:=fun k hk' hl i hb=>by
    have hl':listed.getD i true=true:=by
     rw [hget'] at hl;split at hl
     ·rename_i e;subst e;exact hbits i hb
     ·exact hcl k hk' hl i hb
    rw [hget',hl'];split <;> rfl
   have hxin:x.o∈ops.toList:=by
    rw [hxo];exact List.mem_of_getElem? (by rw [Array.getElem?_toList];exact ho)
   have cpn:∀ ts2 (h2:xap) (s2:S),(∀ q,pn=some q->x.i≠q.1/\xwv ops ts0 ts2/\(∀ j,j<m->xag h2 j=g0 j)/\s2=s0)->∀ q,pn=some q->(∃ y∈pre++post,y.i=q.1)/\xwv ops ts0 ts2/\(∀ j,j<m->xag h2 j=g0 j)/\s2=s0:=fun ts2 h2 s2 hall2 q hq=>by
    obtain ⟨k1,k2⟩:=hall2 q hq;obtain ⟨⟨y,hy,hyq⟩,_⟩:=hpi q hq;refine ⟨⟨y,?_,hyq⟩,k2⟩;rcases List.mem_append.1 hy with hy | hy
    ·exact List.mem_append_left _ hy
    ·rcases List.mem_cons.1 hy with rfl | hy
     ·exact absurd hyq k1
     ·exact List.mem_append_right _ hy
   have hs':=hs2.pw;have c7:∀ done',(∀ y∈pre++post,∀ d∈done',d.a+d.n<=y.a\/y.a+y.n<=d.a)->Side2 m (pre++post) done':=fun done' hd=>⟨fun y hy=>hs2.low y (hsub.subset hy),hd,hs'.sublist hsub⟩
   have c8:∀ y∈pre++post,y.a+y.n<=M:=fun y hy=>hitM y (hsub.subset hy)
   have hdn0:∀ y∈pre++post,∀ d∈done,d.a+d.n<=y.a\/y.a+y.n<=d.a:=fun y hy=>hs2.dn y (hsub.subset hy)
   have hdf:∀ u,(a.put o.dst u).defers=a.defers:=fun u=>by cases o.dst <;> rfl
   unfold wpOpIn;rw [ho];simp only;rcases hr1 with ⟨h1,h2,h3⟩ | ⟨h1,ma,r,h2,h3,h4,h5,h6⟩
   ·rw [hxo] at h1 h3;rw [xmz I.ts h1];simp only [Bool.false_eq_true,if_false];refine ⟨fun f _=>hF.fn f,?_⟩;refine ih (pre++post) _ done _ h s _ w ν G U N c1 c2 c3 c4 c5 (cpn _ _ _ fun q hq=>⟨h2.2 q hq,xEt (by rw [<- hxo];exact hxin) (hpi q hq).2.1 _,(hpi q hq).2.2⟩) c6 (c7 _ hdn0) c8 hdM hn h3 ⟨I.sr,xk9 I.ts o.dst (by simp only [Rel]),I.rs,I.ext,I.first,I.y,I.len,I.side,?_,?_,?_⟩
    ·rw [hdf];exact I.marks
    ·rw [hdf];exact I.nd
    ·rw [hdf];exact I.low
   ·rw [hxo] at h1 h2 h6;rw [xmz I.ts h1];simp only [if_true];have hlo:=hs2.low x (by simp);have hfresh:∀ j,x.a<=j->j<x.a+r.news.length->ν.φ j=none:=fun j j1 j2=>by
     rw [h5.1] at j2;cases hj:ν.φ j with
     | none=>rfl
     | some b=>
       rcases hn j b hj with h0 | ⟨d,hd,d1,d2⟩
       ·omega
       ·have:=hs2.dn x (by simp) d hd;omega
    have hupd:∀ q,pn=some q->(∀ j,j<m->xag (xdn (xcn h r.ups) x.a r.news) j=g0 j)/\r.s=s0:=fun q hq=>by
     obtain ⟨_,_,k3,k4⟩:=hpi q hq;have hcls:(xbp C ma).cls≠2/\(xbp C ma).cls≠4:=by
      rcases h5.2 with ⟨_,hc⟩ | ⟨t,_,_,hc⟩
      ·exact (hc q hq).2
      ·rw [hc];exact ⟨by decide,by decide⟩
     obtain ⟨e1,e2⟩:=xh9 h4 hcls.2;refine ⟨fun j hj=>?_,e1.trans k4⟩;rw [xp1,<- k3 j hj];unfold xjo;rw [if_neg (by omega)];exact xfv _ _ _ fun p hp=>absurd (e2 p hp).1 hcls.1
    refine Oper.wpIn_mono (K:=fun a' w'=>exA ma r.v=.normal/\∃ u,a'=a.put o.dst u/\xir RS w G J U N ν h x.a r u w') ?_
     (xWp hC hCall hExt hF hRM (by rw [I.y];exact hH) I.sr I.ts I.rs (look:=xfe m done ((Region.before ops).getD x.i 0) (xbp C ma) (xag h)) (fun i B' hB=>by
      simp only [xfe] at hB;split at hB
      ·exact hB
      ·cases hB) h2 hfresh h4 fun t w' ht hA=>?_)
    case refine_2=>
     obtain ⟨q,hq,hqt⟩:∃ q,pn=some q/\q.2=t:=by
      rcases h5.2 with ⟨hn',_⟩ | ⟨t',hq,ht',_⟩
      ·rw [hn'] at ht;cases ht
      ·rw [ht'] at ht;cases ht;exact ⟨_,hq,rfl⟩
     obtain ⟨ν',G',U',N',k1,k2,k3,k4,k5,k6,k7⟩:=hA;obtain ⟨u1,u2⟩:=hupd q hq;rw [u2] at k6;rw [<- hqt];refine hQp q hq ts (xdn (xcn h r.ups) x.a r.news) a w' ν' G' U' N' ⟨k1,I.sr.relL k5 k2 I.ts,k6,I.ext.trans k5,fun i hi=>?_,k3.trans I.y,?_,fun p hp=>(I.side p hp).ext k5,?_,I.nd,I.low⟩ (hpi q hq).2.1 u1 fun j b hj=>?_
     ·rw [<- I.first i hi];apply Classical.byContradiction;intro hne';have:=(k7 i hne').1;omega
     ·exact Nat.le_trans I.len (Nat.le_trans (xdp _ _) (xgm _ _ _))
     ·exact fun d hd=>(I.marks d hd).imp_right fun ⟨r,e,h⟩=>⟨r,e,h.ext k5⟩
     ·by_cases hc:ν'.φ j=ν.φ j
      ·rw [hc] at hj;rcases hn j b hj with h0 | ⟨d,hd,_,h0⟩
       ·omega
       ·have:=hdM d hd;omega
      ·have:=(k7 j hc).2;rw [h5.1] at this;have:=hitM x (by simp);omega
    rintro a' w' ⟨hnorm,u,rfl,ν',G',U',N',k1,k2,k3,k4,k5,k6,k7⟩
    rw [<- xp1] at h6;refine ih (pre++post) _ _ _ (xdn (xcn h r.ups) x.a r.news) r.s _ w' ν' G' U' N' c1 c2 c3 c4 c5 (cpn _ _ _ fun q hq=>⟨?_,xEt (by rw [<- hxo];exact hxin) (hpi q hq).2.1 _,hupd q hq⟩) c6 (c7 _ fun y hy d hd=>?_) c8 (fun d hd=>?_) (fun j b hj=>?_) h6
     ⟨k1,xk9 (I.sr.relL k5 k2 I.ts) o.dst k4,k6,I.ext.trans k5,fun i hi=>?_,k3.trans I.y,?_,fun p hp=>(I.side p hp).ext k5,?_,?_,?_⟩
    ·rcases h5.2 with ⟨_,hc⟩ | ⟨t,_,ht,_⟩
     ·exact (hc q hq).1
     ·rw [ht] at hnorm;cases hnorm
    ·rcases List.mem_cons.1 hd with rfl | hd
     ·rcases List.mem_append.1 hy with hy | hy
      ·have:=(List.pairwise_append.1 hs').2.2 y hy x List.mem_cons_self;simp only;omega
      ·exact (List.pairwise_cons.1 (List.pairwise_append.1 hs').2.1).1 y hy
     ·exact hdn0 y hy d hd
    ·rcases List.mem_cons.1 hd with rfl | hd
     ·exact hitM x (by simp)
     ·exact hdM d hd
    ·by_cases hc:ν'.φ j=ν.φ j
     ·rw [hc] at hj;rcases hn j b hj with h0 | ⟨d,hd,h0⟩
      ·exact .inl h0
      ·exact .inr ⟨d,List.mem_cons_of_mem _ hd,h0⟩
     ·have:=k7 j hc;rw [h5.1] at this;exact .inr ⟨_,List.mem_cons_self,this⟩
    ·rw [<- I.first i hi];apply Classical.byContradiction;intro hne';have:=(k7 i hne').1;omega
    ·exact Nat.le_trans I.len (Nat.le_trans (xdp _ _) (xgm _ _ _))
    ·rw [hdf];exact fun d hd=>(I.marks d hd).imp_right fun ⟨r,e,h⟩=>⟨r,e,h.ext k5⟩
    ·rw [hdf];exact I.nd
    ·rw [hdf];exact I.low
theorem xY0 {C:Cfg} (hC:∀ t T,C.ty t=some T->xcc C.P t=some T) {call:xb6} (hCall:xf3 C.P call) (hExt:xkr C) (hMix:C.P.follows .mixedOrders=true) {F:Fence} (hF:xel F) {S:Type} {RS:xcl S} (hRM:xd5 RS) {H:Option (Hd S)}
    {B:Base} {sd:List (Nat×Obj)} (hH:HSO C.P RS H B.y) {ops:Array Oper} (hok:xpr ops=true) {e:Ex} {σ σ':St} {s s':S} {a:Act} {id:Nat} (I:Inv RS B J sd σ s a w)
    (hr:xwi C call H ops σ s=some (e,σ',s')) :
    (Code.region id ops true).wpIn F 0 C.P (fun x a' w'=>x=xms e/\Inv RS B J sd σ' s' a' w') a w:=by
 obtain ⟨ν,G,U,N,I⟩:=I;obtain ⟨e0,σ1,s1,hrun,hcase⟩:∃ e0 σ1 s1,xrz C call H ops (Region.before ops) σ.h.length (ops.toList.zip (List.range ops.size)) [] σ s=some (e0,σ1,s1) /\
     ((e0=.normal/\e=.normal/\σ'=σ1/\s'=s1)\/(e=e0/\σ'={ tmps:=xqu ops.toList σ.tmps,h:=σ.h++List.replicate (σ1.h.length - σ.h.length) none }/\s'=s1/\e0≠.normal)):=by
  unfold xwi at hr;split at hr
  ·rename_i σ1 s1 h;cases hr;exact ⟨_,_,_,h,.inl ⟨rfl,rfl,rfl,rfl⟩⟩
  ·rename_i e1 σ1 s1 hne h;cases hr;exact ⟨_,_,_,h,.inr ⟨rfl,rfl,rfl,fun h'=>hne h'⟩⟩
  ·cases hr
 have hnd:((ops.toList.zip (List.range ops.size)).map (·.2)).Nodup:=by
  rw [show (fun p:Oper×Nat=>p.2)=Prod.snd from rfl,List.map_snd_zip (by simp)];exact List.nodup_range
 obtain ⟨pn,its,rest,h1,he0,h2,h3,h4,h5,h6,h7⟩:=xHc _ _ _ _ hnd hrun;have I':Inv1 RS B J sd ⟨σ.tmps,σ.h⟩ s a { w with drawn:=w.drawn+1 } ν G U N:=
  I.on (w':={ w with drawn:=w.drawn+1 }) (G':=G) hRM ⟨rfl,rfl⟩ (Nat.le_refl _) (fun _=>Nat.le_refl _) (fun _ h=>h) (fun _ _=>rfl) I.sr.glt (fun _ _ _=>rfl) (fun _ h=>.inl h)
 have hlen:its.length+rest.length=ops.size:=by
  have:=congrArg List.length h1;simpa using this
 have hat0:∀ k,k<ops.size->(its.map (fun x=>(x.o,x.i))++rest)[k]?=some (ops.getD k default,k):=fun k hk=>by
  rw [h1,List.getElem?_eq_getElem (by simp;omega)];simp [Array.getD,hk]
 have hat:∀ k (hk:k<its.length),its[k].i=k/\ops[k]?=some its[k].o:=fun k hk=>by
  have:=hat0 k (by omega);rw [List.getElem?_append_left (by simpa using hk),List.getElem?_map,List.getElem?_eq_getElem hk] at this;simp only [Option.map_some,Option.some.injEq,Prod.mk.injEq] at this;exact ⟨this.2,by rw [Array.getElem?_eq_getElem (by omega),this.1];simp [Array.getD,show k<ops.size by omega]⟩
 have hrest:∀ k,its.length<=k->k<ops.size->∃ o,(o,k)∈rest:=fun k hk1 hk2=>by
  have:=hat0 k hk2;rw [List.getElem?_append_right (by simpa using hk1)] at this;exact ⟨_,List.mem_of_getElem? this⟩
 refine wpIn_region_any hMix ?_;refine yd7 hC hCall hExt hF hRM hH hok (m:=σ.h.length) (M:=σ1.h.length) I.len (h':=σ1.h) (ts':=σ1.tmps) (s':=s1) (pn:=pn) (ts0:=σ.tmps) (g0:=xag σ.h) (s0:=s) (Nat.le_refl _) h3 (Q:=fun x a' w'=>x=xms e/\Inv RS B J sd σ' s' a' w') (fun hpn a' w' I=>?_) (fun q hq ts h a w' ν G U N I hag hh hdom=>?_)
  ops.size its (Array.replicate ops.size false) [] σ.tmps σ.h s a _ ν G U N (by omega) (by simp) ?_ ?_ ?_ (fun q hq=>⟨(h7 q hq).1,⟨rfl,fun _ _=>rfl⟩,fun _ _=>rfl,rfl⟩) ?_ ⟨fun x hx=>(h4 x hx).1,fun x hx d hd=>by (cases hd),h5.imp (fun h=>.inl h)⟩ (fun x hx=>(h4 x hx).2) (fun d hd=>by cases hd) (fun j b hj=>.inl (I.sr.dom j b hj)) h2 I'
 ·rw [hpn] at he0;rcases hcase with ⟨_,rfl,rfl,rfl⟩ | ⟨_,_,_,hne⟩
  ·exact ⟨rfl,I⟩
  ·exact absurd he0 hne
 ·rw [hq] at he0;rcases hcase with ⟨hn,_⟩ | ⟨rfl,rfl,rfl,_⟩
  ·rw [hn] at he0;cases he0
  rw [he0,h2.same hq];refine ⟨rfl,ν,G,U,N,?_⟩;have hblk:∀ i B,xag (σ.h++List.replicate (σ1.h.length - σ.h.length) none) i=some B->xag h i=some B:=fun i B hi=>by
   unfold xag at hi;rw [List.getElem?_append] at hi;split at hi
   ·rename_i hlt;rw [hh i hlt];exact hi
   ·rw [List.getElem?_replicate] at hi;split at hi <;> cases hi
  have hown:∀ b,Own ν (σ.h++List.replicate (σ1.h.length - σ.h.length) none) b->Own ν h b:=fun b ⟨i,B,k1,k2⟩=>⟨i,B,hblk i B k1,k2⟩
  have hl:(σ.h++List.replicate (σ1.h.length - σ.h.length) (none:Option Blk)).length=σ1.h.length:=by simp;omega
  refine ⟨⟨fun i B hi=>I.sr.blk i B (hblk i B hi),fun i j B B' b k1 k2=>I.sr.inj i j B B' b (hblk _ _ k1) (hblk _ _ k2),fun i b hb=>by rw [hl];exact hdom i b hb,I.sr.glt,I.sr.jlt,I.sr.nlt,fun b hb ho=>I.sr.gown b hb (hown b ho),fun b hb ho=>I.sr.jown b hb (hown b ho),fun b hb ho=>I.sr.nown b hb (hown b ho),I.sr.gu,I.sr.ju,I.sr.un⟩,
   ?_,I.rs,I.ext.less hown,I.first,I.y,?_,fun p hp=>(I.side p hp).less hown,fun d hd=>(I.marks d hd).imp_right fun ⟨r,e',hs⟩=>⟨r,e',hs.less hown⟩,I.nd,I.low⟩
  ·have hts:=I.ts;have hlen2:=xb9 hts;refine xxb ((xqt _ _).trans (hag.1.symm.trans hlen2)) fun i c v hc hv=>?_
   rcases xw1 _ _ _ _ hc with rfl | ⟨hc,hno⟩
   ·simp only [Rel]
   ·rw [<- hag.2 i hno] at hc;obtain ⟨v',hv',hr'⟩:=xk5 hts hc;rw [hv] at hv';cases hv';exact hr'
  ·show B.k<=_;rw [hl];exact Nat.le_trans I'.len h3
 ·rw [List.pairwise_iff_getElem];intro i j hi hj hij;rw [(hat i hi).1,(hat j hj).1];exact hij
 ·intro x hx;obtain ⟨k,hk,rfl⟩:=List.getElem_of_mem hx;have:=hat k hk;rw [this.1];refine ⟨this.2,?_⟩;have hk':k<ops.size:=by omega
  simp [Array.getD,hk']
 ·intro i hi;have hi':i<ops.size:=by
   apply Classical.byContradiction;intro hn;simp [Array.getD,hn] at hi
  by_cases hlt:i<its.length
  ·exact .inl ⟨its[i],List.getElem_mem _,(hat i hlt).1⟩
  ·obtain ⟨o,ho⟩:=hrest i (by omega) hi';cases hq:pn with
   | none=>
     rw [h6 hq] at ho;cases ho
   | some q=>exact .inr ⟨q,rfl,(h7 q hq).2.1 _ ho⟩
 ·intro k hk hl;simp [Array.getD,hk] at hl
end
theorem xVd {C : Cfg} (hC : ∀ t T, C.ty t = some T -> xcc C.P t = some T) (hExt : xkr C) (hMix : C.P.follows .mixedOrders = true) (hP : ∀ (f : FuncId) (fn : Func), C.P.funcs[f]? = some fn -> fn.body.isSome = true -> fn.name ≠ "runtime.NumGoroutine")
    (hR:∀ (f:FuncId) (fn:Func) (c:Code),C.P.funcs[f]?=some fn->fn.body=some c->xdq c=true):∀ n,xf3 C.P (xbv C n):=
 xY4 hC hExt (fun _ hCall _ _ _ _ _ _ _ _ _ _ _ _ _ _ _ _ hRM hF hH hok I hr=>xY0 hC hCall hExt hMix hF hRM hH hok I hr) hP hR
end Go.Lite
