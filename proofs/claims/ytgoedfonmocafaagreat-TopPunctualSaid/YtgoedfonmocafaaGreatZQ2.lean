/-
 What the claim top_punctual rests on,part 2.
-/
import Derived.Test.YtgoedfonmocafaaGreatZQ1
import Derived.Laws.MakeOwn
import Derived.Great.BuildSlice
import Derived.RangeFuncNested
noncomputable section
namespace Go.Lite
section
variable {w w':World} {G J U N:Nat->Prop} {ν ν':Names} {h:xap} {P:Program}
theorem xDk (l:List Value):∀ (n:Nat),(List.range (n*l.length)).map (fun i=>l[i % l.length]!)=(List.replicate n l).flatten
 | 0=>by simp
 | n + 1=>by
   rw [Nat.succ_mul,List.range_add,List.map_append,xDk l n,List.replicate_succ',List.flatten_append];congr 1;rw [List.map_map];simp only [List.flatten_cons,List.flatten_nil,List.append_nil];apply List.ext_getElem
   ·simp
   ·intro i h1 h2;simp only [List.length_map,List.length_range] at h1;simp only [List.getElem_map,List.getElem_range,Function.comp_apply];rw [Nat.add_comm,Nat.add_mul_mod_self_right,Nat.mod_eq_of_lt h1];exact getElem!_pos l i h1
theorem xDl (z:Array Value) (n:Nat):((Array.range (n*z.size)).map (fun i=>z[i % z.size]!)).toList=(List.replicate n z.toList).flatten:=by
 rw [Array.toList_map,Array.toList_range,<- xDk,Array.length_toList];apply List.map_congr_left;intro i _;simp [getElem!_def]
theorem xyt {cs:List AV} {vs:List Value} (hr:xae w G cs ν J vs):∀ (n:Nat),xae w G (List.replicate n cs).flatten ν J (List.replicate n vs).flatten
 | 0=>by simpa using xbh
 | n + 1=>by
   rw [List.replicate_succ,List.replicate_succ,List.flatten_cons,List.flatten_cons];exact xcd hr (xyt hr n)
theorem xxa (s:Nat):∀ (n:Nat) (cs:List AV),cs.length=n*s->(xes s n cs).flatten=cs
 | 0,cs,h=>by simp at h;simp [xes,h]
 | n + 1,cs,h=>by
   rw [xes,List.flatten_cons,xxa s n _ (by rw [List.length_drop,h,Nat.succ_mul];omega),List.take_append_drop]
theorem xu0 {E:Operand->AV} {places:Nat->Option (Nat×Nat)}:∀ (ps:List (Nat×Operand)) (cells out:List AV),xfq places cells (ps.map fun p=>(p.1,E p.2))=some out->out.length=cells.length
 | [],cells,out,h=>by simp only [List.map_nil,xfq,Option.some.injEq] at h;rw [h]
 | (i, x)::ps,cells,out,h=>by
   simp only [List.map_cons] at h;have hne:E x≠.any:=by intro e;rw [e] at h;simp [xfq] at h
   have h':(match places i with
    | none=>none
    | some (off,size)=>if (E x).cells.length=size/\off+size<=cells.length then xfq places (cells.take off++(E x).cells++cells.drop (off+size)) (ps.map fun p=>(p.1,E p.2)) else none)=some out:=by
    revert h hne
    generalize E x=c;intro h hne;cases c <;> first | (exact absurd rfl hne) | exact h
   split at h'
   ·cases h'
   ·split at h'
    case isFalse=>cases h'
    rename_i hs;rw [xu0 ps _ out h'];simp;omega
theorem xpm (w:World) (t e:TypeId) (len:Nat) (parts:Array (Nat×Value)) (cells:Array Value) (ie:TypeInfo) (z:Value)
    (hu:P.underlying t=some (.slice e)) (hie:P.info? e=some ie) (hz:ie.zero=some z) (hsmall:¬ len*ie.size > 2 ^ 24)
    (h:Instr.fill (fun i=>some (i*ie.size,ie.size)) ((Array.range (len*ie.size)).map (z.cells[· % z.cells.size]!)) parts.toList=some cells) :
    (Instr.buildSlice t len parts).run P w=.ok (.slice (some ⟨w.heap.size,0,none⟩) len len) (w.alloc (.cells cells e)):=by
 by_cases hpos:len*ie.size=0
 ·have hr:(Array.range 0:Array Nat)=#[]:=rfl;rw [hpos,hr] at h;have h':Instr.fill (fun i=>some (i*ie.size,ie.size)) #[] parts.toList=some cells:=by simpa using h
  simp [Instr.buildSlice,run_underlying hu,sizeOf,typeInfo,hie,hpos,hr,h',newRow]
 ·exact run_buildSlice w t e len parts cells ie z hu hie hz hsmall hpos h
def xPj:Op->Bool
 | .alloc _=>true
 | .box _ _=>true
 | .buildSlice _ _ _=>true
 | .load _ _=>true
 | .store _ _ _=>true
 | .makeSlice _ _ _=>true
 | .call _=>true
 | .panic _=>true
 | .makeMap _ _=>true
 | .lookup _ _ _ _=>true
 | .mapUpdate _ _ _ _=>true
 | .insert _ _ _ _=>true
 | _=>false
theorem xDq {C:Cfg} {E:Operand->AV} {o:Oper} {ma:MA} (h:xi2 C E o=some ma):(∃ c,ma=.pure c)\/xPj o.op=true:=by
 unfold xi2 at h;cases hop:o.op <;> simp only [hop,xPj,Bool.false_eq_true,or_false,or_true,reduceCtorEq] at h ⊢
 all_goals
  repeat' (split at h)
  all_goals first
   | (cases h;done)
   | (simp only [Option.some.injEq] at h;exact ⟨_,h.symm⟩)
   | (simp only [Option.map_eq_some_iff] at h;obtain ⟨c,_,rfl⟩:=h;exact ⟨_,rfl⟩)
def xt2:MA->Bool
 | .call _ _=>false
 | .callp _ _ _ _ _ _ _ _=>false
 | .yld _=>false
 | .pan _=>false
 | _=>true
theorem xJd {C:Cfg} (hC:∀ t T,C.ty t=some T->xcc C.P t=some T) {ts:List AV} {a:Act} (Sr:SR w G J U N ν h) (hts:xae w G ts ν J a.tmps.toList) {S:Type} {s:S} {H:Option (Hd S)} {call:xb6}
    {look:Nat->Option Blk} (hl:∀ i B,look i=some B->xag h i=some B) {at_:Nat} {o:Oper} {b:Builtin} {args:List Operand} {ats:List TypeId} {ma:MA} (hp:xaw C (ev ts) b args ats=some ma)
    (hm:xt2 ma=true) (hnp:∀ c,ma≠.pure c) {r:Res S} (hf:r.news≠[]->ν.φ at_=none) (ha:act C call H at_ look s ma=some r) (consts:Array Bool) :
    ∃ v w' ν',(builtin b ats.toArray o.type consts (args.map a.eval).toArray).run C.P w=.ok (.value v) w'/\Left w G J U N ν h at_ s r v w' ν':=by
 have hE:∀ x,Rel w G (ev ts x) ν J (a.eval x):=xiu hts;unfold xaw at hp;split at hp
 ·rename_i x t;cases hT:C.ty t with
  | none=>simp [hT] at hp
  | some T=>
  obtain ⟨_,_,_,_,hk,-⟩:=xbj (hC _ _ hT);obtain ⟨kind,_,_,_,_,_⟩:=T;simp only [hT] at hp;cases kind <;> try (simp at hp;done)
  case slice e=>
   simp only [Option.map_eq_some_iff] at hp;obtain ⟨c,_,rfl⟩:=hp;exact absurd rfl (hnp _)
  case array n es ea=>
   simp only [Option.some.injEq] at hp;exact absurd hp.symm (hnp _)
  case map k e=>
   dsimp only at hp;split at hp
   ·simp only [Option.some.injEq] at hp;exact absurd hp.symm (hnp _)
   ·rename_i i hx;simp only [Option.some.injEq] at hp;subst hp;have hv:=hE x;rw [hx] at hv;obtain ⟨u,hrun,hleft⟩:=xRo (P:=C.P) Sr hl (xmn hk.symm) hv ha o.type;exact ⟨u,w,ν,by simp [builtin,hrun],hleft⟩
   ·cases hp
 ·repeat' (split at hp)
  all_goals first
   | (cases hp;done)
   | (simp only [Option.map_eq_some_iff] at hp;obtain ⟨c,_,rfl⟩:=hp;exact absurd rfl (hnp _))
 ·repeat' (split at hp)
  all_goals first
   | (cases hp;done)
   | (simp only [Option.map_eq_some_iff] at hp;obtain ⟨c,_,rfl⟩:=hp;exact absurd rfl (hnp _))
 ·-- append
  rename_i x y t u;cases hT:C.ty t with
  | none=>simp [hT] at hp
  | some T=>
  cases hU:C.ty u with
  | none=>simp [hT,hU] at hp
  | some U'=>
  obtain ⟨_,_,_,hTu,hTk,-⟩:=xbj (hC _ _ hT);obtain ⟨_,_,_,hUu,hUk,-⟩:=xbj (hC _ _ hU);obtain ⟨kT,_,_,_,_,_⟩:=T;obtain ⟨kU,_,_,_,_,_⟩:=U';simp only [hT,hU] at hp;cases kT <;> try (simp at hp;done)
  cases kU <;> try (simp at hp;done)
  rename_i e e';dsimp only at hp;cases hE':C.ty e with
  | none=>simp [hE'] at hp
  | some E=>
  obtain ⟨ie,_,hie,_,_,_,hsz,hby,hz,_⟩:=xbj (hC _ _ hE');obtain ⟨_,_,size,bytes,zero,_⟩:=E;simp only [hE'] at hp;cases zero with
  | none=>simp at hp
  | some z=>
  simp only at hp;split at hp
  case isFalse=>cases hp
  rename_i hzl;simp only [Option.some.injEq] at hp;subst hp;simp only at hsz hby hz;cases hz0:ie.zero with
  | none=>rw [hz0] at hz;cases hz
  | some z0=>
  rw [hz0] at hz;simp at hz;subst hsz;subst hby;obtain ⟨v,w',ν',hrun,hleft⟩:=append_left Sr hl (xda hTk.symm) (xda hUk.symm) hie hz0 (by rw [hz] at hzl;simpa using hzl) (hE x) (hE y) hf ha (ty:=o.type) (P:=C.P);exact ⟨v,w',ν',by simp [builtin,hrun],hleft⟩
 ·-- copy
  rename_i x y t u;cases hT:C.ty t with
  | none=>simp [hT] at hp
  | some T=>
  cases hU:C.ty u with
  | none=>simp [hT,hU] at hp
  | some U'=>
  obtain ⟨_,_,_,hTu,hTk,-⟩:=xbj (hC _ _ hT);obtain ⟨_,_,_,hUu,hUk,-⟩:=xbj (hC _ _ hU);obtain ⟨kT,_,_,_,_,_⟩:=T;obtain ⟨kU,_,_,_,_,_⟩:=U';simp only [hT,hU] at hp;cases kT <;> try (simp at hp;done)
  cases kU <;> try (simp at hp;done)
  rename_i e e';dsimp only at hp;cases hE':C.ty e with
  | none=>simp [hE'] at hp
  | some E=>
  obtain ⟨ie,_,hie,_,_,_,hsz,hby,hz,_⟩:=xbj (hC _ _ hE');simp only [hE',Option.some.injEq] at hp;subst hp;rw [hsz] at ha;obtain ⟨v,w',hrun,hleft⟩:=xSm Sr hl (xda hTk.symm) (xda hUk.symm) hie (hE x) (hE y) ha (ty:=o.type) (P:=C.P);exact ⟨v,w',ν,by simp [builtin,hrun],hleft⟩
 ·-- delete
  rename_i m k t ats';cases hT:C.ty t with
  | none=>simp [hT] at hp
  | some T=>
  obtain ⟨_,_,_,_,hTk,-⟩:=xbj (hC _ _ hT);obtain ⟨kT,_,_,_,_,_⟩:=T;simp only [hT] at hp;cases kT <;> try (simp at hp;done)
  rename_i kt e;cases hx:ev ts m <;> simp only [hx,reduceCtorEq,Option.some.injEq] at hp;subst hp;have hv:=hE m;rw [hx] at hv;obtain ⟨u,w',hrun,hleft⟩:=xRq (P:=C.P) Sr hl (xmn hTk.symm) (fun T' hT'=>hC _ _ hT') hv (hE k) ha ats' o.type;exact ⟨u,w',ν,by simp [builtin,hrun],hleft⟩
 ·cases hp
theorem xNr {C:Cfg} (hC:∀ t T,C.ty t=some T->xcc C.P t=some T) {ts:List AV} {a:Act} (Sr:SR w G J U N ν h) (hts:xae w G ts ν J a.tmps.toList) {S:Type} {s:S} {H:Option (Hd S)} {call:xb6}
    {look:Nat->Option Blk} (hl:∀ i B,look i=some B->xag h i=some B) {at_:Nat} {o:Oper} {ma:MA} (hp:xi2 C (ev ts) o=some ma) (hm:xt2 ma=true)
    {r:Res S} (hf:r.news≠[]->ν.φ at_=none) (ha:act C call H at_ look s ma=some r):∃ v w' ν',xyr C.P o a w v w'/\Left w G J U N ν h at_ s r v w' ν':=by
 have hE:∀ x,Rel w G (ev ts x) ν J (a.eval x):=xiu hts;by_cases hpure:∃ c,ma=.pure c
 ·obtain ⟨c,rfl⟩:=hpure;obtain ⟨v,hv,hr⟩:=xRe hC hts hp;simp only [act,Option.some.injEq] at ha;subst ha;exact ⟨v,w,ν,hv,xfg Sr hr⟩
 have hnp:∀ c,ma≠.pure c:=fun c e=>hpure ⟨c,e⟩
 have hk:=(xDq hp).resolve_left hpure;have fin:∀ {s':Sem Value} {v:Value} {w':World},(execOp a.eval o=do pure (.value (<- s')))->s'.run C.P w=.ok v w'->xyr C.P o a w v w':=by
  intro s' v w' e hs;exact .inl (by rw [e];simp [hs])
 unfold xi2 at hp;cases hop:o.op <;> simp only [hop,xPj,Bool.false_eq_true] at hk
 case alloc t=>
  simp only [hop] at hp;cases hT:C.ty t with
  | none=>simp [hT] at hp
  | some T=>
  obtain ⟨i,d,hi,hd,hk',hag,hsz,hby,hz,_⟩:=xbj (hC _ _ hT);obtain ⟨_,_,_,_,zero,_⟩:=T;simp only [hT] at hp;cases zero with
  | none=>simp at hp
  | some z=>
  simp only [Option.some.injEq] at hp;subst hp;cases hz0:i.zero with
  | none=>rw [hz0] at hz;cases hz
  | some z0=>
  rw [hz0] at hz;simp at hz;refine ⟨_,_,_,fin (s':=Instr.alloc t true (.tuple #[])) (by unfold execOp;simp only [hop]) ?_,xD0 Sr (v:=z0) (by rw [hz];exact xio w G ν J _) hf ha t⟩;simp [Instr.alloc,newVar,xtb hi hz0,xzp]
 case box t x=>
  simp only [hop] at hp;have hne:ev ts x≠.any:=by intro e;simp [e] at hp
  have hp':some (MA.newp (ev ts x).cells.length (ev ts x).cells)=some ma:=by
   revert hp hne
   generalize ev ts x=c;intro hp hne;cases c <;> first | exact absurd rfl hne | exact hp
  simp only [Option.some.injEq] at hp';subst hp';refine ⟨_,_,_,fin (s':=Instr.box t (a.eval x)) (by unfold execOp;simp only [hop]) ?_,xD0 Sr (v:=a.eval x) (xu9 hne (hE x)) hf ha t⟩;simp [Instr.box,newVar,xzp]
 case buildSlice t len ps=>
  simp only [hop] at hp;cases hT:C.ty t with
  | none=>simp [hT] at hp
  | some T=>
  obtain ⟨_,_,_,_,hTk,-⟩:=xbj (hC _ _ hT);obtain ⟨kT,_,_,_,_,_⟩:=T;simp only [hT] at hp;cases kT <;> try (simp at hp;done)
  rename_i e;dsimp only at hp;cases hE':C.ty e with
  | none=>simp [hE'] at hp
  | some E=>
  obtain ⟨ie,_,hie,_,_,_,hsz,hby,hz,_⟩:=xbj (hC _ _ hE');obtain ⟨_,_,size,bytes,zero,_⟩:=E;simp only [hE'] at hp;cases zero with
  | none=>simp at hp
  | some z=>
  simp only at hp;split at hp
  case isFalse=>cases hp
  rename_i hb;obtain ⟨cs,hfill,hma⟩:∃ cs,xfq (fun i=>some (i*size,size)) (List.replicate len z).flatten (ps.toList.map fun p=>(p.1,ev ts p.2))=some cs/\ma=if len=0 then .newe size else .news size (xes size len cs) len len:=by
   split at hp
   ·rename_i h0;simp only [Option.map_eq_some_iff] at hp;obtain ⟨cs,hf,rfl⟩:=hp;exact ⟨cs,hf,by rw [if_pos h0]⟩
   ·rename_i h0;simp only [Option.map_eq_some_iff] at hp;obtain ⟨cs,hf,rfl⟩:=hp;exact ⟨cs,hf,by rw [if_neg h0]⟩
  clear hp;simp only at hsz hby hz;cases hz0:ie.zero with
  | none=>rw [hz0] at hz;cases hz
  | some z0=>
  rw [hz0] at hz;simp at hz;subst hsz;have hzl:z0.cells.size=ie.size:=by rw [<- hb.2,hz];simp
  have hzr:xae w G z ν J z0.cells.toList:=by rw [hz];exact xio w G ν J _
  have hcells:xae w G (List.replicate len z).flatten ν J ((Array.range (len*ie.size)).map (z0.cells[· % z0.cells.size]!)).toList:=by
   rw [<- hzl,xDl];exact xyt hzr len
  obtain ⟨us,hus,hrel⟩:=xp8 hE ps.toList _ _ cs hcells hfill;have hcl:=xu0 _ _ _ hfill;have hcl':cs.length=len*ie.size:=by rw [hcl,List.length_flatten,List.map_replicate,List.sum_replicate_nat,hb.2]
  have hul:us.size=len*ie.size:=by rw [<- hcl'];simpa using (xb9 hrel).symm
  by_cases h0:len=0
  ·rw [if_pos h0] at hma;subst hma;subst h0;simp only [act,Option.some.injEq] at ha;subst ha;exact ⟨_,_,ν,fin (s':=Instr.buildSlice t 0 (ps.map fun (i,x)=>(i,a.eval x))) (by unfold execOp;simp only [hop])
    (xpm w t e 0 _ us ie z0 (xda hTk.symm) hie hz0 (by omega) (by simpa using hus)),xRn Sr us e⟩
  rw [if_neg h0] at hma;subst hma;refine ⟨_,_,ν.with at_ w.heap.size,fin (s':=Instr.buildSlice t len (ps.map fun (i,x)=>(i,a.eval x))) (by unfold execOp;simp only [hop])
   (xpm w t e len _ us ie z0 (xda hTk.symm) hie hz0 (by omega) (by simpa using hus)),?_⟩
  exact xDz Sr (cells:=us) (by rw [xxa _ _ _ hcl'];exact hrel) (Nat.le_refl _) (by omega) hf ha e
 case makeSlice t l c=>
  simp only [hop] at hp;cases hT:C.ty t with
  | none=>simp [hT] at hp
  | some T=>
  obtain ⟨_,_,_,_,hTk,-⟩:=xbj (hC _ _ hT);obtain ⟨kT,_,_,_,_,_⟩:=T;cases hxl:ev ts l <;> simp only [hT,hxl] at hp <;> (cases kT <;> try (simp at hp;done));rename_i kl n e;cases hxc:ev ts c <;> simp only [hxc] at hp <;> (try (simp at hp;done)) <;> (cases kl <;> try (simp at hp;done));rename_i kc m;cases kc <;> try (simp at hp;done)
  dsimp only at hp;cases hE':C.ty e with
  | none=>simp [hE'] at hp
  | some E=>
  obtain ⟨ie,_,hie,_,_,_,hsz,hby,hz,_⟩:=xbj (hC _ _ hE');obtain ⟨_,_,size,bytes,zero,_⟩:=E;simp only [hE'] at hp;cases zero with
  | none=>simp at hp
  | some z=>
  simp only at hp;split at hp
  case isFalse=>cases hp
  rename_i hb;obtain ⟨hb0,hbm,hb1,hb2,hb3,hb4⟩:=hb;simp only [Option.some.injEq] at hp;subst hp;simp only at hsz hby hz;cases hz0:ie.zero with
  | none=>rw [hz0] at hz;cases hz
  | some z0=>
  rw [hz0] at hz;simp at hz;subst hsz;subst hby;have hzl:z0.cells.size=ie.size:=by rw [<- hb3,hz];simp
  have hzr:xae w G z ν J z0.cells.toList:=by rw [hz];exact xio w G ν J _
  have hv1:=xcr hxl (hE l);have hv2:=xcr hxc (hE c);have hrun:=run_make (P:=C.P) w t e ie z0 (xda hTk.symm) hie hz0 .i64 .i64 n m hb0 hbm (by omega) (by omega);refine ⟨_,_,ν.with at_ w.heap.size,fin (s':=Instr.makeSlice t (a.eval l) (a.eval c)) (by unfold execOp;simp only [hop]) (by rw [hv1,hv2];exact hrun),?_⟩;refine xDz Sr (cells:=madeCells z0.cells (m.toNat*ie.size)) ?_ (by omega) (by rw [size_madeCells];exact Nat.le_refl _) hf ha e;unfold madeCells;rw [<- hzl,xDl];exact xyt hzr _
 case load t x=>
  simp only [hop] at hp;cases hT:C.ty t with
  | none=>simp [hT] at hp
  | some T=>
  simp only [hT] at hp;cases hx:ev ts x <;> simp only [hx,reduceCtorEq] at hp
  case ptr i sz k j=>
   simp only [Option.some.injEq] at hp;subst hp;have hv:=hE x;rw [hx] at hv;obtain ⟨u,hrun,hleft⟩:=xui Sr hl (hC _ _ hT) hv ha;exact ⟨u,w,ν,fin (s':=Instr.loadAt t (a.eval x)) (by unfold execOp;simp only [hop]) hrun,hleft⟩
  case eptr kd cs=>
   exfalso;split at hp
   ·split at hp
    ·simp only [Option.some.injEq] at hp;exact hnp _ hp.symm
    ·cases hp
   ·simp only [Option.map_eq_some_iff] at hp;obtain ⟨c,_,rfl⟩:=hp;exact hnp _ rfl
 case store t x y=>
  simp only [hop] at hp;cases hT:C.ty t with
  | none=>simp [hT] at hp
  | some T=>
  simp only [hT] at hp;cases hx:ev ts x <;> simp only [hx,reduceCtorEq] at hp
  case ptr i sz k j=>
   have hne:ev ts y≠.any:=by intro e;simp [e] at hp
   have hp':(if (ev ts y).cells.length=T.size then some (MA.store i sz k j (ev ts y).cells) else none)=some ma:=by
    revert hp hne
    generalize ev ts y=c;intro hp hne;cases c <;> first | exact absurd rfl hne | exact hp
   split at hp'
   case isFalse=>cases hp'
   rename_i hlen;simp only [Option.some.injEq] at hp';subst hp';have hv:=hE x;rw [hx] at hv;obtain ⟨w',hrun,hleft⟩:=xMw Sr hl (hC _ _ hT) hv (xu9 hne (hE y)) hlen ha;exact ⟨undef,w',ν,.inr ⟨by unfold execOp;simp only [hop];simp [hrun],rfl⟩,hleft⟩
 case makeMap t q=>
  simp only [hop] at hp;cases hT:C.ty t with
  | none=>simp [hT] at hp
  | some T=>
  obtain ⟨_,_,_,_,hTk,-⟩:=xbj (hC _ _ hT);obtain ⟨kT,_,_,_,_,_⟩:=T;simp only [hT] at hp;cases kT <;> try (simp at hp;done)
  rename_i kt e;dsimp only at hp;have hmk:ma=.newm/\(Instr.makeMap t (q.map a.eval)).run C.P w=.ok (.map (some w.heap.size)) (w.alloc (.map #[] 0)):=by
   cases q with
   | none=>
     simp only [Option.some.injEq] at hp;exact ⟨hp.symm,by simp only [Option.map_none,Instr.makeMap,Sem.run_bind,run_newObj_alloc,Result.andThen_ok,Sem.run_pure]⟩
   | some x=>
     have hx:=hE x;cases hxv:ev ts x <;> simp only [hxv,reduceCtorEq,Option.some.injEq] at hp;rw [hxv] at hx;exact ⟨hp.symm,by simp only [Option.map_some,Instr.makeMap,xcr rfl hx,run_underlying (xmn hTk.symm),asInt,asIntOf,Sem.run_bind,run_newObj_alloc,Result.andThen_ok,Sem.run_pure]⟩
  obtain ⟨rfl,hrun⟩:=hmk;simp only [act,Option.some.injEq] at ha;subst ha;exact ⟨_,_,_,fin (s':=Instr.makeMap t (q.map a.eval)) (by unfold execOp;simp only [hop]) hrun,xRm Sr (hf (by simp))⟩
 case lookup t x ix ok=>
  simp only [hop] at hp;cases hT:C.ty t with
  | none=>simp [hT] at hp
  | some T=>
  obtain ⟨_,_,_,_,hTk,-⟩:=xbj (hC _ _ hT);obtain ⟨kT,_,_,_,_,_⟩:=T;simp only [hT] at hp;cases kT <;> try (simp at hp;done)
  rename_i kt e;cases hx:ev ts x <;> simp only [hx,reduceCtorEq,Option.map_eq_some_iff] at hp;obtain ⟨z,hz,rfl⟩:=hp;have hv:=hE x;rw [hx] at hv;obtain ⟨u,hrun,hleft⟩:=xRp (P:=C.P) Sr hl (xmn hTk.symm) (fun T' hT'=>hC _ _ hT') hv hz (hE ix) ha;exact ⟨u,w,ν,fin (s':=Instr.lookup t (a.eval x) (a.eval ix) ok) (by unfold execOp;simp only [hop]) hrun,hleft⟩
 case mapUpdate t m k v=>
  simp only [hop] at hp;cases hT:C.ty t with
  | none=>simp [hT] at hp
  | some T=>
  obtain ⟨_,_,_,_,hTk,-⟩:=xbj (hC _ _ hT);obtain ⟨kT,_,_,_,_,_⟩:=T;simp only [hT] at hp;cases kT <;> try (simp at hp;done)
  rename_i kt e;cases hx:ev ts m <;> simp only [hx,reduceCtorEq,Option.some.injEq] at hp;subst hp;have hv:=hE m;rw [hx] at hv;obtain ⟨w',hrun,hleft⟩:=xD3 (P:=C.P) Sr hl (xmn hTk.symm) (fun T' hT'=>hC _ _ hT') hv (hE k) (hE v) ha;exact ⟨undef,w',ν,.inr ⟨by unfold execOp;simp only [hop];simp [hrun],rfl⟩,hleft⟩
 case insert t m k v=>
  simp only [hop] at hp;cases hT:C.ty t with
  | none=>simp [hT] at hp
  | some T=>
  obtain ⟨_,_,_,_,hTk,-⟩:=xbj (hC _ _ hT);obtain ⟨kT,_,_,_,_,_⟩:=T;simp only [hT] at hp;cases kT <;> try (simp at hp;done)
  rename_i kt e;cases hx:ev ts m <;> simp only [hx,reduceCtorEq,Option.some.injEq] at hp;subst hp;have hv:=hE m;rw [hx] at hv;obtain ⟨w',hrun,hleft⟩:=xD3 (P:=C.P) Sr hl (xmn hTk.symm) (fun T' hT'=>hC _ _ hT') hv (hE k) (hE v) ha;exact ⟨undef,w',ν,.inr ⟨by unfold execOp;simp only [hop];simp [hrun],rfl⟩,hleft⟩
 case call cl=>
  simp only [hop] at hp;cases hcal:cl.callee with
  | builtin b=>
    simp only [hcal] at hp;obtain ⟨consts,hexec⟩:=xw3 (P:=C.P) (w:=w) (a:=a) hop hcal;obtain ⟨v,w',ν',hrun,hleft⟩:=xJd hC Sr hts hl (o:=o) hp hm hnp hf ha consts;refine ⟨v,w',ν',.inl ?_,hleft⟩;rw [hexec,show cl.args.map a.eval=(cl.args.toList.map a.eval).toArray from Array.ext' (by rw [Array.toList_map])];simpa using hrun
  | _ =>
    simp only [hcal] at hp
    repeat' (split at hp)
    all_goals first
     | (cases hp;done)
     | (simp only [Option.some.injEq] at hp;subst hp;simp [xt2] at hm)
 case panic x=>
  simp only [hop] at hp;split at hp
  ·simp only [Option.some.injEq] at hp;subst hp;simp [xt2] at hm
  ·cases hp
end
theorem xDw {l:List Nat} (h:l.Nodup):l.reverse.Nodup:=List.pairwise_reverse.2 (List.Pairwise.imp (fun h=>Ne.symm h) h)
theorem xgb (look:Nat->Option Blk):∀ (f:Nat) (q acc:List Nat),acc.Nodup->(xfo look f q acc).Nodup
 | 0,q,acc,h=>by cases q <;> simpa [xfo] using xDw h
 | f+1,[],acc,h=>by simpa [xfo] using xDw h
 | f + 1,i::q,acc,h=>by
   unfold xfo;split
   ·exact xgb look f q acc h
   ·rename_i hc;have hn:(i::acc).Nodup:=List.nodup_cons.2 ⟨fun hm=>hc (by simpa using hm),h⟩;cases look i with
    | none=>exact xgb look f _ _ h
    | some b=>exact xgb look f _ _ hn
theorem xDx {l:List Nat} (h:l.Nodup) {i j m:Nat} (hi:l[i]?=some m) (hj:l[j]?=some m):i=j:=by
 obtain ⟨hi1,hi2⟩:=List.getElem?_eq_some_iff.1 hi;obtain ⟨hj1,hj2⟩:=List.getElem?_eq_some_iff.1 hj;rcases Nat.lt_trichotomy i j with hlt | he | hgt
 ·exact absurd (hi2.trans hj2.symm) (List.pairwise_iff_getElem.1 h i j hi1 hj1 hlt)
 ·exact he
 ·exact absurd (hj2.trans hi2.symm) (List.pairwise_iff_getElem.1 h j i hj1 hi1 hgt)
theorem xLi:∀ {ms:List Nat} {i j:Nat},pos ms i=some j->ms[j]?=some i
 | [],_,_,h=>by cases h
 | x :: xs,i,j,h=>by
   unfold pos at h;split at h
   ·rename_i e;subst e;cases h;rfl
   ·rw [Option.map_eq_some_iff] at h;obtain ⟨j',h',rfl⟩:=h;simpa using xLi h'
theorem xsm:∀ (news:xap) (h:xap) (k j:Nat),xag (xdn h k news) j=if k<=j/\j<k+news.length then xag news (j - k) else xag h j
 | [],h,k,j=>by
   rw [xdn,if_neg (by simp only [List.length_nil];omega)]
 | b :: bs,h,k,j=>by
   rw [xdn,xsm bs];by_cases e:j=k
   ·subst e;rw [if_neg (by omega),if_pos (by simp),xci,if_pos rfl,Nat.sub_self,xCg]
   ·by_cases e2:k<=j/\j<k+(b::bs).length
    ·simp only [List.length_cons] at e2;rw [if_pos (by omega),if_pos (by simp;omega),show j - k=(j - (k+1))+1 by omega,xj1]
    ·simp only [List.length_cons] at e2;rw [if_neg (by omega),if_neg (by simp only [List.length_cons];omega),xci,if_neg (by omega)]
theorem xgm:∀ (news:xap) (h:xap) (k:Nat),h.length<=(xdn h k news).length
 | [],h,k=>Nat.le_refl _
 | b :: bs,h,k=>by
   rw [xdn];exact Nat.le_trans (by rw [xeq];exact Nat.le_max_left _ _) (xgm bs _ _)
theorem xl0:∀ (news:xap) (h:xap) (k:Nat),news≠[]->k+news.length<=(xdn h k news).length
 | [],h,k,hn=>absurd rfl hn
 | [b],h,k,_=>by rw [xdn,xdn,xeq];simp;omega
 | b :: c::bs,h,k,_=>by
   rw [xdn];have:=xl0 (c::bs) (xb7 h k b) (k+1) (by simp);simp only [List.length_cons] at this ⊢;omega
theorem xdp:∀ (ups:List (Nat×Option Blk)) (h:xap),h.length<=(xcn h ups).length
 | [],h=>Nat.le_refl _
 | (i,b)::r,h=>by
   rw [xcn];exact Nat.le_trans (by rw [xeq];exact Nat.le_max_left _ _) (xdp r _)
theorem xnr:∀ (ups:List (Nat×Option Blk)) (h:xap) (j:Nat),(∀ p∈ups,p.1≠j)->xag (xcn h ups) j=xag h j
 | [],h,j,_=>rfl
 | (i,b)::r,h,j,hn=>by
   rw [xcn,xnr r _ j (fun p hp=>hn p (by simp [hp])),xci,if_neg (hn (i,b) (by simp))]
theorem xuq:∀ (ups:List (Nat×Option Blk)) (h:xap) (j:Nat) (b:Option Blk),(ups.map (·.1)).Nodup->(j,b)∈ups->xag (xcn h ups) j=b
 | [],h,j,b,_,hm=>by cases hm
 | (i, c)::r,h,j,b,hn,hm=>by
   rw [List.map_cons,List.nodup_cons] at hn;rw [xcn];rcases List.mem_cons.1 hm with e | hm
   ·obtain ⟨e1,e2⟩:=Prod.mk.inj e;subst e1;subst e2;rw [xnr r _ _ (fun p hp e=>hn.1 (List.mem_map.2 ⟨p,hp,e⟩)),xci,if_pos rfl]
   ·exact xuq r _ j b hn.2 hm
theorem xo5 (f:Blk->Blk):∀ (h:xap) (i:Nat),xag (h.map fun b=>b.map f) i=(xag h i).map f:=by
 intro h i;unfold xag;rw [List.getElem?_map];cases h[i]? with
 | none=>rfl
 | some b=>rfl
theorem xR2 (h:xap) (k i:Nat):xag (h.drop k) i=xag h (k+i):=by
 unfold xag;rw [List.getElem?_drop]
theorem xR1 (h:xap) (k i:Nat):xag (h.take k) i=if i<k then xag h i else none:=by
 unfold xag;rw [List.getElem?_take];split <;> rfl
theorem xge (g:Nat->Option Blk) (ms:List Nat) (i:Nat):xag (ms.map g) i=(ms[i]?).bind g:=by
 unfold xag;rw [List.getElem?_map];cases ms[i]? with
 | none=>rfl
 | some m=>cases hg:g m <;> simp [hg]
section
variable {w w':World} {G G' J J' U U' N N':Nat->Prop} {ν ν':Names} {h:xap}
theorem xlk {ρ:Nat->Option Nat} {kb ky:Bool} (hρ:∀ i i',ρ i=some i'->∀ b,ν.φ i=some b->ν'.φ i'=some b) (hy:ky=true->∀ l,ν.y=some l->ν'.y=some l) (hb:kb=true->∀ b,J b->J' b\/G b) {b:Nat} {B:Blk}
    (h:xev w G ν J b B):xev w G ν' J' b (mvB kb ky ρ B):=by
 cases B with
 | map kvs=>
   obtain ⟨es,clock,h1,h2⟩:=h;exact ⟨es,clock,h1,xEx (xh6 hρ hy hb xak) h2⟩
 | row s es flat=>
   obtain ⟨⟨cells,elem,h1,h2⟩,h3⟩:=h;cases flat with
   | true=>exact ⟨⟨cells,elem,h1,h2⟩,h3⟩
   | false=>
     simp only [mvB,Bool.false_eq_true,if_false];exact ⟨⟨cells,elem,h1,by rw [List.length_map];exact h2⟩,xqk (xh6 hρ hy hb xak) h3⟩
def Names.over (ν:Names) (ms:List Nat):Names:=⟨fun i=>(ms[i]?).bind ν.φ,ν.y⟩
theorem xif {ms:List Nat}:∀ i i',pos ms i=some i'->∀ b,ν.φ i=some b->(ν.over ms).φ i'=some b:=by
 intro i i' hp b hb;simp [Names.over,xLi hp,hb]
theorem xv6 (S:SR w G J U N ν h) {look:Nat->Option Blk} (hl:∀ i B,look i=some B->xag h i=some B) {ms:List Nat} (hn:ms.Nodup) (J' U' N':Nat->Prop) (hJ:∀ b,J b->J' b) (hJ':∀ b,J' b->J b\/(Own ν h b/\∀ i,ν.φ i=some b->i ∉ ms\/xag h i=none))
    (hU:∀ b,U' b->N b) (hN:∀ b,N' b->N b) (hUN:∀ b,U' b->N' b) (hGU:∀ b,U' b->U b):SR w G J' U' N' (ν.over ms) (ms.map fun i=>(look i).map (mvB true true (pos ms))) where
 blk i B hB:=by
  rw [xge] at hB;cases hm:ms[i]? with
  | none=>rw [hm] at hB;cases hB
  | some m=>
    rw [hm] at hB;simp only [Option.bind_some,Option.map_eq_some_iff] at hB;obtain ⟨B0,hB0,rfl⟩:=hB;obtain ⟨b,hb,hr⟩:=S.blk m B0 (hl _ _ hB0);exact ⟨b,by simp [Names.over,hm,hb],xlk xif (fun _ _ h=>h) (fun _ b hb=>.inl (hJ b hb)) hr⟩
 inj i j B B' b h1 h2 h3 h4:=by
  rw [xge] at h1 h2;cases hm:ms[i]? with
  | none=>rw [hm] at h1;cases h1
  | some m=>
  cases hm':ms[j]? with
  | none=>rw [hm'] at h2;cases h2
  | some m'=>
    rw [hm] at h1;rw [hm'] at h2;simp only [Option.bind_some,Option.map_eq_some_iff] at h1 h2;obtain ⟨B0,hB0,-⟩:=h1;obtain ⟨B1,hB1,-⟩:=h2;simp only [Names.over,hm,hm',Option.bind_some] at h3 h4;have e:=S.inj m m' _ _ b (hl _ _ hB0) (hl _ _ hB1) h3 h4;subst e;exact xDx hn hm hm'
 dom i b hi:=by
  rw [List.length_map];simp only [Names.over] at hi;cases hm:ms[i]? with
  | none=>rw [hm] at hi;cases hi
  | some m=>exact (List.getElem?_eq_some_iff.1 hm).1
 glt:=S.glt
 jlt b hb:=(hJ' b hb).elim (S.jlt b) (fun h=>S.own_lt h.1)
 nlt b hb:=S.nlt b (hN b hb)
 gown b hb:=by
  rintro ⟨i,B,h1,h2⟩
  rw [xge] at h1;cases hm:ms[i]? with
  | none=>rw [hm] at h1;cases h1
  | some m=>
    rw [hm] at h1;simp only [Option.bind_some,Option.map_eq_some_iff] at h1;obtain ⟨B0,hB0,-⟩:=h1;simp only [Names.over,hm,Option.bind_some] at h2;exact S.gown b hb ⟨m,B0,hl _ _ hB0,h2⟩
 jown b hb:=by
  rintro ⟨i,B,h1,h2⟩
  rw [xge] at h1;cases hm:ms[i]? with
  | none=>rw [hm] at h1;cases h1
  | some m=>
    rw [hm] at h1;simp only [Option.bind_some,Option.map_eq_some_iff] at h1;obtain ⟨B0,hB0,-⟩:=h1;simp only [Names.over,hm,Option.bind_some] at h2;rcases hJ' b hb with hj | ⟨_,hj⟩
    ·exact S.jown b hj ⟨m,B0,hl _ _ hB0,h2⟩
    ·rcases hj m h2 with hj | hj
     ·exact hj (List.mem_of_getElem? hm)
     ·rw [hl _ _ hB0] at hj;cases hj
 nown b hb:=by
  rintro ⟨i,B,h1,h2⟩
  rw [xge] at h1;cases hm:ms[i]? with
  | none=>rw [hm] at h1;cases h1
  | some m=>
    rw [hm] at h1;simp only [Option.bind_some,Option.map_eq_some_iff] at h1;obtain ⟨B0,hB0,-⟩:=h1;simp only [Names.over,hm,Option.bind_some] at h2;exact S.nown b (hN b hb) ⟨m,B0,hl _ _ hB0,h2⟩
 gu b hb hu:=S.gu b hb (hGU b hu)
 ju b hb hu:=(hJ' b hb).elim (fun h=>S.ju b h (hGU b hu)) (fun h=>S.nown b (hU b hu) h.1)
 un:=hUN
def xC0 (ν:Names) (h:xap) (ms:List Nat) (b:Nat):Prop:=∃ i B,xag h i=some B/\ν.φ i=some b/\i ∉ ms
theorem xEg (S:SR w G J U N ν h) {look:Nat->Option Blk} (hl:∀ i B,look i=some B->xag h i=some B) {ms:List Nat}:∀ (args:List AV) (fl:List Bool) (vs:List Value),xae w G args ν J vs->args.length<=fl.length ->
    xae w G ((args.zip fl).map (fun p=>if p.2 then mv true true (pos ms) xak p.1 else fz (fun i=>if ms.contains i then none else look i) xak p.1)) (ν.over ms) (fun b=>J b\/xC0 ν h ms b) vs
 | [],fl,vs,hr,_=>by simp only [xae] at hr;subst hr;simpa using xbh
 | c::cs,[],vs,hr,hlen=>by simp at hlen
 | c :: cs,f::fl,vs,hr,hlen=>by
   simp only [xae] at hr;obtain ⟨u,us,rfl,h1,h2⟩:=hr;simp only [List.zip_cons_cons,List.map_cons];refine xa6 ?_ (xEg S hl cs fl us h2 (by simpa using hlen));cases f with
   | true=>
     simp only [if_true];exact xh6 xif (fun _ _ h=>h) (fun _ b hb=>.inl (.inl hb)) xak c u h1
   | false=>
     simp only [Bool.false_eq_true,if_false];have:=xS0 (w:=w) (G:=G) (ν:=ν) (J:=J) (J':=fun b=>J b\/xC0 ν h ms b) (look:=fun i=>if ms.contains i then none else look i) (fun i B e=>by
      split at e
      ·cases e
      ·rename_i hc;obtain ⟨b,hb,hB⟩:=S.blk i B (hl _ _ e);exact ⟨b,hb,.inr ⟨i,B,hl _ _ e,hb,fun hm=>hc (by simpa using hm)⟩,hB⟩) (fun b hb=>.inl (.inl hb)) xak c u h1
     exact xdb (fun _ h=>h) (fun _ _=>rfl) (fun _=>Nat.le_refl _) _ (Names.none_le _) (fun _ h=>.inl h) (fun _ _=>rfl) this
end
section
variable {w w':World} {G G' J U U' N N':Nat->Prop} {ν ν':Names} {h nh:xap}
theorem xSu {ms:List Nat} {at_ i j:Nat} (e:back ms at_ i=some j):ms[i]?=some j\/(ms.length<=i/\j=at_+(i - ms.length)):=by
 unfold back at e;split at e
 ·rename_i m hm;cases e;exact .inl hm
 ·split at e
  ·rename_i hle;cases e;exact .inr ⟨hle,rfl⟩
  ·cases e
theorem xVk {ms:List Nat} {at_ i:Nat} (hle:ms.length<=i):back ms at_ i=some (at_+(i - ms.length)):=by
 unfold back;rw [List.getElem?_eq_none hle];simp [hle]
theorem xVj {ms:List Nat} {at_ i m:Nat} (hm:ms[i]?=some m):back ms at_ i=some m:=by
 unfold back;rw [hm]
def xk2 (ms:List Nat) (at_:Nat) (nh h:xap):xap:=xdn (xcn h (xba ms at_ nh).1) at_ (xba ms at_ nh).2
def Names.back (ν ν':Names) (ms:List Nat) (at_ n:Nat):Names:=⟨fun j=>if at_<=j/\j<at_+n then ν'.φ (ms.length+(j - at_)) else ν.φ j,ν.y⟩
theorem xns (ms:List Nat) (at_:Nat) (nh:xap):(xba ms at_ nh).1.map (·.1)=ms:=by
 simp only [xba,List.map_map];have:((fun x:Nat×Option Blk=>x.1) ∘ fun p:Nat×Nat=>(p.1,(xag nh p.2).map (mvB true true (Go.Lite.back ms at_))))=Prod.fst:=rfl;rw [this,List.map_fst_zip];simp
theorem xIn {ms:List Nat} {at_:Nat} {nh:xap} {i m:Nat} (hm:ms[i]?=some m):(m,(xag nh i).map (mvB true true (Go.Lite.back ms at_)))∈(xba ms at_ nh).1:=by
 simp only [xba];refine List.mem_map.2 ⟨(m,i),?_,rfl⟩;rw [List.mem_iff_getElem?];refine ⟨i,?_⟩;rw [List.getElem?_zip_eq_some];refine ⟨hm,?_⟩;rw [List.getElem?_range (List.getElem?_eq_some_iff.1 hm).1]
theorem xp2 {ms:List Nat} {at_:Nat} (hn:ms.Nodup) {j:Nat} {B:Blk} (e:xag (xk2 ms at_ nh h) j=some B) :
    (∃ i B0,xag nh i=some B0/\B=mvB true true (Go.Lite.back ms at_) B0/\Go.Lite.back ms at_ i=some j/\(at_<=j\/ms[i]?=some j))\/(xag h j=some B/\j ∉ ms):=by
 unfold xk2 at e;rw [xsm] at e;split at e
 ·rename_i hr;simp only [xba] at e;rw [xo5,xR2,Option.map_eq_some_iff] at e;obtain ⟨B0,h0,rfl⟩:=e;refine .inl ⟨_,B0,h0,rfl,?_,.inl hr.1⟩;rw [xVk (by omega)];congr 1;omega
 ·by_cases hm:j∈ms
  ·obtain ⟨i,hi⟩:=List.mem_iff_getElem?.1 hm;rw [xuq _ _ _ _ (by rw [xns];exact hn) (xIn hi),Option.map_eq_some_iff] at e;obtain ⟨B0,h0,rfl⟩:=e;exact .inl ⟨i,B0,h0,rfl,xVj hi,.inr hi⟩
  ·rw [xnr _ _ _ (fun p hp e=>hm (by rw [<- e,<- xns ms at_ nh];exact List.mem_map_of_mem (f:=fun p:Nat×Option Blk=>p.1) hp))] at e;exact .inr ⟨e,hm⟩
abbrev xim (look:Nat->Option Blk) (ms:List Nat):xap:=ms.map fun i=>(look i).map (mvB true true (pos ms))
theorem xHq {look:Nat->Option Blk} (hl:∀ i B,look i=some B->xag h i=some B) {ms:List Nat} {b:Nat} (ho:Own (ν.over ms) (xim look ms) b):∃ m B,m∈ms/\xag h m=some B/\ν.φ m=some b:=by
 obtain ⟨i,B,h1,h2⟩:=ho;rw [xge] at h1;cases hm:ms[i]? with
 | none=>rw [hm] at h1;cases h1
 | some m=>
   rw [hm] at h1;simp only [Option.bind_some,Option.map_eq_some_iff] at h1;obtain ⟨B0,hB0,-⟩:=h1;simp only [Names.over,hm,Option.bind_some] at h2;exact ⟨m,B0,List.mem_of_getElem? hm,hl _ _ hB0,h2⟩
theorem xCu (S:SR w G J U N ν h) {look:Nat->Option Blk} (hl:∀ i B,look i=some B->xag h i=some B) {ms:List Nat} (hn:ms.Nodup) {at_:Nat} (hat:∀ j,at_<=j->j<at_+(nh.length - ms.length)->ν.φ j=none) {J' Uc Uc' Nc Nc':Nat->Prop}
    (hJ':∀ b,J' b->J b\/G' b) (R:SR w' G' J' Uc' Nc' ν' nh) (hφ:∀ i,i<ms.length->ν'.φ i=(ν.over ms).φ i) (hy:∀ l,ν'.y=some l->ν.y=some l) (E:Ext w w' G G' Uc Uc' Nc Nc' (Own (ν.over ms) (xim look ms)) (Own ν' nh))
    (hUc:∀ b,Uc b->U b) (hU:∀ b,U' b->U b\/Own (ν.over ms) (xim look ms) b\/w.heap.size<=b) (hN:∀ b,N' b->N b\/Own (ν.over ms) (xim look ms) b\/w.heap.size<=b) (hnlt:∀ b,N' b->b<w'.heap.size) (hgu:∀ b,G' b->¬ U' b) (hun:∀ b,U' b->N' b)
    (hno:∀ b,N' b->¬ Own ν' nh b) :
    SR w' G' J U' N' (ν.back ν' ms at_ (nh.length - ms.length)) (xk2 ms at_ nh h)/\ν.le (ν.back ν' ms at_ (nh.length - ms.length))/\Ext w w' G G' U U' N N' (Own ν h) (Own (ν.back ν' ms at_ (nh.length - ms.length)) (xk2 ms at_ nh h)) /\
     (∀ i i',Go.Lite.back ms at_ i=some i'->∀ b,ν'.φ i=some b->(ν.back ν' ms at_ (nh.length - ms.length)).φ i'=some b):=by
 have hρ:∀ i i',Go.Lite.back ms at_ i=some i'->∀ b,ν'.φ i=some b->(ν.back ν' ms at_ (nh.length - ms.length)).φ i'=some b:=by
  intro i i' hb b hib;rcases xSu hb with hm | ⟨hle,rfl⟩
  ·have hi:=(List.getElem?_eq_some_iff.1 hm).1;rw [hφ i hi] at hib;simp only [Names.over,hm,Option.bind_some] at hib;simp only [Names.back];rw [if_neg (fun h=>by rw [hat _ h.1 h.2] at hib;cases hib)];exact hib
  ·have:=R.dom _ _ hib;simp only [Names.back];rw [if_pos (by omega),show ms.length+(at_+(i - ms.length) - at_)=i by omega];exact hib
 have hle:ν.le (ν.back ν' ms at_ (nh.length - ms.length)):=⟨fun i b hb=>by
  simp only [Names.back];rw [if_neg (fun h=>by rw [hat _ h.1 h.2] at hb;cases hb)];exact hb,fun _ h=>h⟩
 have hoc:∀ b,Own (ν.over ms) (xim look ms) b->Own ν h b:=fun b hb=>by
  obtain ⟨m,B,_,h1,h2⟩:=xHq hl hb;exact ⟨m,B,h1,h2⟩
 have hkept:∀ b,xC0 ν h ms b->Own ν h b/\¬ Own (ν.over ms) (xim look ms) b:=by
  rintro b ⟨i,B,h1,h2,h3⟩
  refine ⟨⟨i,B,h1,h2⟩,fun hb=>?_⟩;obtain ⟨m,B',hm,h4,h5⟩:=xHq hl hb;exact h3 (by rw [S.inj i m _ _ b h1 h4 h2 h5];exact hm)
 have hkn:∀ {j B},xag h j=some B->¬ (at_<=j/\j<at_+(nh.length - ms.length)):=fun {j B} hj hr=>by
  obtain ⟨b,hb,_⟩:=S.blk j B hj;rw [hat j hr.1 hr.2] at hb;cases hb
 have hown:∀ b,Own (ν.back ν' ms at_ (nh.length - ms.length)) (xk2 ms at_ nh h) b->Own ν' nh b\/xC0 ν h ms b:=by
  rintro b ⟨j,B,h1,h2⟩
  rcases xp2 hn h1 with ⟨i,B0,h3,_,h4,h5⟩ | ⟨h3,h4⟩
  ·obtain ⟨b',hb',_⟩:=R.blk i B0 h3;have:=hρ i j h4 b' hb';rw [h2] at this;cases this;exact .inl ⟨i,B0,h3,hb'⟩
  ·simp only [Names.back] at h2;rw [if_neg (hkn h3)] at h2;exact .inr ⟨j,B,h3,h2,h4⟩
 have hou:∀ b,U b->¬ Own ν h b:=fun b hb=>S.nown b (S.un b hb)
 have hkeep:∀ b,b<w.heap.size->¬ Own (ν.over ms) (xim look ms) b->¬ U b->w'.heap[b]?=w.heap[b]?:=fun b h1 h2 h3=>E.keep b h1 h2 (fun hu=>h3 (hUc b hu))
 have hkG:∀ b,G b->w'.heap[b]?=w.heap[b]?:=fun b hb=>hkeep b (S.glt b hb) (fun h=>S.gown b hb (hoc b h)) (S.gu b hb)
 have hkJ:∀ b,J b->w'.heap[b]?=w.heap[b]?:=fun b hb=>hkeep b (S.jlt b hb) (fun h=>S.jown b hb (hoc b h)) (S.ju b hb)
 have hownlt:∀ b,Own ν' nh b->Own ν h b\/w.heap.size<=b:=fun b hb=>(E.own b hb).imp_left (hoc b)
 refine ⟨?_,hle,?_,hρ⟩
 ·constructor
  ·intro j B hj;rcases xp2 hn hj with ⟨i,B0,h3,rfl,h4,h5⟩ | ⟨h3,h4⟩
   ·obtain ⟨b',hb',hB⟩:=R.blk i B0 h3;exact ⟨b',hρ i j h4 b' hb',xlk hρ (fun _ l hl=>hy l hl) (fun _ b hb=>hJ' b hb) hB⟩
   ·obtain ⟨b,hb,hB⟩:=S.blk j B h3;have hk:=hkept b ⟨j,B,h3,hb,h4⟩;exact ⟨b,hle.1 _ _ hb,xgg E.g hkG E.sz hkJ hle (hkeep b (S.own_lt hk.1) hk.2 (fun hu=>hou b hu hk.1)) hB⟩
  ·intro j k B1 B2 b h1 h2 h3 h4;rcases xp2 hn h1 with ⟨i,B0,h5,_,h6,_⟩ | ⟨h5,h6⟩ <;> rcases xp2 hn h2 with ⟨i',B0',h7,_,h8,_⟩ | ⟨h7,h8⟩
   ·obtain ⟨b1,hb1,_⟩:=R.blk i B0 h5;obtain ⟨b2,hb2,_⟩:=R.blk i' B0' h7;have e1:=hρ i j h6 b1 hb1;have e2:=hρ i' k h8 b2 hb2;rw [h3] at e1;rw [h4] at e2;cases e1;cases e2;have:=R.inj i i' _ _ b h5 h7 hb1 hb2;subst this;rw [h6] at h8;cases h8;rfl
   ·obtain ⟨b1,hb1,_⟩:=R.blk i B0 h5;have e1:=hρ i j h6 b1 hb1;rw [h3] at e1;cases e1;simp only [Names.back] at h4;rw [if_neg (hkn h7)] at h4;have hk:=hkept b ⟨k,B2,h7,h4,h8⟩;rcases E.own b ⟨i,B0,h5,hb1⟩ with h | h
    ·exact absurd h hk.2
    ·have:=S.own_lt hk.1;omega
   ·obtain ⟨b2,hb2,_⟩:=R.blk i' B0' h7;have e2:=hρ i' k h8 b2 hb2;rw [h4] at e2;cases e2;simp only [Names.back] at h3;rw [if_neg (hkn h5)] at h3;have hk:=hkept b ⟨j,B1,h5,h3,h6⟩;rcases E.own b ⟨i',B0',h7,hb2⟩ with h | h
    ·exact absurd h hk.2
    ·have:=S.own_lt hk.1;omega
   ·simp only [Names.back] at h3 h4;rw [if_neg (hkn h5)] at h3;rw [if_neg (hkn h7)] at h4;exact S.inj j k _ _ b h5 h7 h3 h4
  ·intro j b hj;have hlen1:h.length<=(xk2 ms at_ nh h).length:=Nat.le_trans (xdp _ _) (xgm _ _ _);simp only [Names.back] at hj;split at hj
   ·have hd:=R.dom _ _ hj;have hnl:(xba ms at_ nh).2.length=nh.length - ms.length:=by simp [xba]
    have:=xl0 (xba ms at_ nh).2 (xcn h (xba ms at_ nh).1) at_ (by
     intro e;rw [e] at hnl;simp at hnl;omega)
    rw [hnl] at this;show j<(xdn _ _ _).length;omega
   ·exact Nat.lt_of_lt_of_le (S.dom _ _ hj) hlen1
  ·exact R.glt
  ·exact fun b hb=>Nat.lt_of_lt_of_le (S.jlt b hb) E.size
  ·exact hnlt
  ·intro b hb ho;rcases hown b ho with ho | ho
   ·exact R.gown b hb ho
   ·have hk:=hkept b ho;rcases E.g' b hb with h | h | h | h
    ·exact S.gown b h hk.1
    ·exact hk.2 h
    ·exact hou b (hUc b h) hk.1
    ·have:=S.own_lt hk.1;omega
  ·intro b hb ho;rcases hown b ho with ho | ho
   ·rcases hownlt b ho with h | h
    ·exact S.jown b hb h
    ·have:=S.jlt b hb;omega
   ·exact S.jown b hb (hkept b ho).1
  ·intro b hb ho;rcases hown b ho with ho | ho
   ·exact hno b hb ho
   ·have hk:=hkept b ho;rcases hN b hb with h | h | h
    ·exact S.nown b h hk.1
    ·exact hk.2 h
    ·have:=S.own_lt hk.1;omega
  ·exact hgu
  ·intro b hb hu;rcases hU b hu with h | h | h
   ·exact S.ju b hb h
   ·exact S.jown b hb (hoc b h)
   ·have:=S.jlt b hb;omega
  ·exact hun
 ·exact ⟨E.size,fun b h1 h2 h3=>hkeep b h1 (fun h=>h2 (hoc b h)) h3,fun b hb=>(hown b hb).elim (hownlt b) (fun h=>.inl (hkept b h).1),fun b hb=>(hU b hb).imp_right (fun h=>h.imp_left (hoc b)),fun b hb=>(hN b hb).imp_right (fun h=>h.imp_left (hoc b)),E.g,
   fun b hb=>(E.g' b hb).imp_right (fun h=>h.imp (hoc b) (fun h=>h.imp_left (hUc b))),E.sz,E.env⟩
end
abbrev xcl (S:Type):=S->World->(Nat->Prop)->(Nat->Prop)->(Nat->Prop)->Prop
def xd5 {S:Type} (RS:xcl S):Prop:=∀ s w w' (G G' U N:Nat->Prop),RS s w G U N->(w'.os=w.os/\w'.output=w.output)->w.heap.size<=w'.heap.size->(∀ b,N b->w'.heap[b]?=w.heap[b]?)->(∀ b,xbq w b<=xbq w' b) ->
 (∀ b,G b->G' b)->(∀ b,G b->w'.heap[b]?=w.heap[b]?)->(∀ b,G' b->G b\/¬ N b)->(∀ b,G' b->b<w'.heap.size)->RS s w' G' U N
def xvf {S:Type} (RS:xcl S) (w:World) (G J U N:Nat->Prop) (ν:Names) (h:xap) (v:AV) (h':xap) (s':S) (u:Value) (w':World):Prop:=
 ∃ ν' G' U' N',SR w' G' J U' N' ν' h'/\(∀ i,i<h.length->ν'.φ i=ν.φ i)/\ν'.y=ν.y/\Rel w' G' v ν' J u /\
     Ext w w' G G' U U' N N' (Own ν h) (Own ν' h')/\RS s' w' G' U' N'
def xmj (t:TypeId):List PanicEntry:=[{ v:=.iface t (.agg #[]),recovered:=false }]
def Ret {S:Type} (RS:xcl S) (w:World) (G J U N:Nat->Prop) (ν:Names) (h:xap) (v:AV) (h':xap) (s':S):Ending->World->Prop
 | .returned u,w'=>xds v=none/\xvf RS w G J U N ν h v h' s' u w'
 | .panicked ch,w'=>(∃ t,v=.pan t/\ch=xmj t)/\xvf RS w G J U N ν h v h' s' undef w'
 | _,_=>False
def HS {S:Type} (P:Program) (RS:xcl S) (l:Nat) (Hf:Hd S):Prop:=∀ ya yh s b rb s',Hf ya yh s=some (.bool b,rb,s') ->
 ∀ w (G J U N:Nat->Prop) ν vs,xae w G ya ν J vs->SR w G J U N ν yh->RS s w G U N ->
   ∃ f tmps assign body,(Instr.yield l vs.toArray).run P w=.ok (.round l f tmps assign body) w/\RoundIn Fence.wide 0 P l f tmps assign body w fun e w'=>
     e = .returned (.bool b)/\∃ ν' G' U' N',SR w' G' J U' N' ν' rb/\rb.length=yh.length/\(∀ i,i<yh.length->ν'.φ i=ν.φ i)/\ν'.y=ν.y/\Ext w w' G G' U U' N N' (Own ν yh) (Own ν' rb)/\RS s' w' G' U' N'
def HSO {S:Type} (P:Program) (RS:xcl S) (H:Option (Hd S)) (y:Option Nat):Prop:=∀ Hf l,H=some Hf->y=some l->HS P RS l Hf
def Ent (P : Program) (f : FuncId) : Prop := ∃ fn c, P.funcs[f]? = some fn /\ fn.name ≠ "runtime.NumGoroutine" /\ fn.body = some c
def xVv {S:Type} (P:Program) (H:Option (Hd S)) (f:FuncId) (args:List AV) (h:xap) (s:S) (v:AV) (h':xap) (s':S):Prop:=
 Ent P f/\∀ (RS:xcl S) (w:World) (G J U N:Nat->Prop) (ν:Names) (vs:List Value),xd5 RS->HSO P RS H ν.y->SR w G J U N ν h->xae w G args ν J vs->RS s w G U N ->
  CallsIn Fence.wide 0 P f vs.toArray w (Ret RS w G J U N ν h v h' s')
def xf3 (P:Program) (call:xb6):Prop:=∀ S H f args h s v h' s',call S H f args h s=some (v,h',s')->xVv (S:=S) P H f args h s v h' s'
def xkr (C:Cfg):Prop:=∀ f E,C.ext f=some E->∀ args v,E args=some v->xVv (S:=Unit) C.P none f args [] () v [] ()
def xir {S:Type} (RS:xcl S) (w:World) (G J U N:Nat->Prop) (ν:Names) (h:xap) (at_:Nat) (r:Res S) (u:Value) (w':World):Prop:=
 ∃ ν' G' U' N',SR w' G' J U' N' ν' (xdn (xcn h r.ups) at_ r.news)/\ν.le ν'/\ν'.y=ν.y/\Rel w' G' r.v ν' J u/\Ext w w' G G' U U' N N' (Own ν h) (Own ν' (xdn (xcn h r.ups) at_ r.news)) /\
   RS r.s w' G' U' N'/\∀ j,ν'.φ j≠ν.φ j->at_<=j/\j<at_+r.news.length
section
variable {w w':World} {G G' J U U' N N':Nat->Prop} {ν ν':Names} {h nh:xap}
theorem SR.noU (S:SR w G J U N ν h):SR w G J (fun _=>False) N ν h:=
 ⟨S.blk,S.inj,S.dom,S.glt,S.jlt,S.nlt,S.gown,S.jown,S.nown,fun _ _ h=>h,fun _ _ h=>h,fun _ h=>h.elim⟩
theorem SR.withU (S:SR w' G J (fun _=>False) N ν h) (hg:∀ b,G b->¬ U b) (hj:∀ b,J b->¬ U b) (hu:∀ b,U b->N b):SR w' G J U N ν h:=
 ⟨S.blk,S.inj,S.dom,S.glt,S.jlt,S.nlt,S.gown,S.jown,S.nown,hg,hj,hu⟩
theorem xKw {S:Type} {RS:xcl S} (hRM:xd5 RS) (Sr:SR w G J U N ν h) {at_:Nat} {s:S} (hRS:RS s w G U N) {r:Res S} {u:Value} (L:Left w G J (fun _=>False) N ν h at_ s r u w' ν'):xir RS w G J U N ν h at_ r u w':=by
 refine ⟨ν',G,U,N,L.sr.withU Sr.gu Sr.ju Sr.un,L.le,L.y,L.rel,?_,?_,L.names⟩
 ·have E:=L.ext;exact ⟨E.size,fun b h1 h2 _=>E.keep b h1 h2 (fun h=>h),E.own,fun _ h=>.inl h,E.n,E.g,fun b hb=>(E.g' b hb).imp_right (fun h=>h.imp_right (fun h=>h.imp_left (fun h=>h.elim))),E.sz,E.env⟩
 ·rw [L.same];have E:=L.ext;exact hRM s w w' G G U N hRS E.env E.size (fun b hb=>E.keep b (Sr.nlt b hb) (Sr.nown b hb) (fun h=>h)) E.sz (fun _ h=>h) (fun b hb=>E.keep b (Sr.glt b hb) (Sr.gown b hb) (fun h=>h)) (fun _ h=>.inl h)
   (fun b hb=>Nat.lt_of_lt_of_le (Sr.glt b hb) E.size)
theorem xr6 {b:Nat} (ho:Own ν (xed h) b):Own ν h b:=by
 obtain ⟨i,B,h1,h2⟩:=ho;unfold xed at h1;rw [xo5,Option.map_eq_some_iff] at h1;obtain ⟨B0,h0,-⟩:=h1;exact ⟨i,B0,h0,h2⟩
theorem xza:∀ i i',(some:Nat->Option Nat) i=some i'->∀ b,ν.φ i=some b->ν.φ i'=some b:=by
 intro i i' e b hb;cases e;exact hb
theorem xvf.strike {S:Type} {RS:xcl S} {J':Nat->Prop} {v:AV} {s':S} {u:Value} (hJ:∀ b,J' b->False) (R:xvf RS w G J U N ν h v nh s' u w'):xvf RS w G J' U N ν h (strike v) (xed nh) s' u w':=by
 obtain ⟨ν',G',U',N',S,hφ,hy,hv,E,hRS⟩:=R;refine ⟨ν',G',U',N',⟨fun i B hi=>?_,fun i j B1 B2 b h1 h2 h3 h4=>?_,fun i b hb=>?_,S.glt,fun b hb=>(hJ b hb).elim,S.nlt,fun b hb ho=>S.gown b hb (xr6 ho),fun b hb=>(hJ b hb).elim,fun b hb ho=>S.nown b hb (xr6 ho),S.gu,fun b hb=>(hJ b hb).elim,S.un⟩,hφ,hy,?_,?_,hRS⟩
 ·unfold xed at hi;rw [xo5,Option.map_eq_some_iff] at hi;obtain ⟨B0,h0,rfl⟩:=hi;obtain ⟨b,hb,hB⟩:=S.blk i B0 h0;exact ⟨b,hb,xlk xza (fun _ _ h=>h) (fun h=>by cases h) hB⟩
 ·unfold xed at h1 h2;rw [xo5,Option.map_eq_some_iff] at h1 h2;obtain ⟨C1,c1,-⟩:=h1;obtain ⟨C2,c2,-⟩:=h2;exact S.inj i j _ _ b c1 c2 h3 h4
 ·unfold xed;rw [List.length_map];exact S.dom i b hb
 ·exact xh6 xza (fun _ _ h=>h) (fun h=>by cases h) xak v u hv
 ·exact ⟨E.size,E.keep,fun b hb=>E.own b (xr6 hb),E.u,E.n,E.g,E.g',E.sz,E.env⟩
theorem xs0 {S:Type} {RS:xcl S} (Sr:SR w G J U N ν h) {look:Nat->Option Blk} (hl:∀ i B,look i=some B->xag h i=some B) {ms:List Nat} (hn:ms.Nodup) {at_:Nat} (hat:∀ j,at_<=j->j<at_+(nh.length - ms.length)->ν.φ j=none) {v:AV} {s':S} {u:Value}
    {J':Nat->Prop} (hJ:∀ b,J' b->J b) (R:xvf RS w G J' U N (ν.over ms) (xim look ms) v nh s' u w') :
    xir RS w G J U N ν h at_ ⟨mv true true (back ms at_) xak v,(xba ms at_ nh).1,(xba ms at_ nh).2,s'⟩ u w':=by
 obtain ⟨ν',G',U',N',hsr,hφ,hy,hv,E,hRS⟩:=R;obtain ⟨h1,h2,h3,h4⟩:=xCu (U':=U') (N':=N') Sr hl hn hat (fun b h=>.inl (hJ b h)) hsr (fun i hi=>hφ i (by simpa using hi)) (by rw [hy];intro l hl;exact hl) E (fun _ h=>h) E.u E.n hsr.nlt hsr.gu hsr.un hsr.nown;refine ⟨_,G',U',N',h1,h2,rfl,xh6 h4 (by rw [hy];intro _ l hl;exact hl) (fun _ b h=>.inl (hJ b h)) xak v u hv,h3,hRS,fun j hj=>?_⟩;simp only [Names.back] at hj;split at hj
 ·rename_i hle;simpa only [xba,List.length_map,List.length_drop] using hle
 ·exact absurd rfl hj
theorem xPi {S:Type} {RS:xcl S} (hRM:xd5 RS) (Sr:SR w G J U N ν h) {at_:Nat} (hat:∀ j,at_<=j->j<at_+nh.length->ν.φ j=none) {s:S} (hRS:RS s w G U N) {v:AV} {u:Value} {ν0:Names} (h0:ν0.y=none)
    (R:xvf (S:=Unit) (fun _ _ _ _ _=>True) w G (fun _=>False) (fun _=>False) N ν0 [] v nh () u w') :
    xir RS w G J U N ν h at_ ⟨mv true true (back [] at_) xak v,[],(xba [] at_ nh).2,s⟩ u w':=by
 obtain ⟨ν',G',U',N',hsr,_,hy,hv,E,_⟩:=R;rw [h0] at hy;have hoc:∀ b,¬ Own ν0 [] b:=by
  rintro b ⟨i,B,h1,_⟩
  rw [xd9] at h1;cases h1
 have hown:∀ b,Own ν' nh b->w.heap.size<=b:=fun b hb=>(E.own b hb).resolve_left (hoc b)
 have hg:∀ b,G' b->G b\/w.heap.size<=b:=fun b hb=>(E.g' b hb).imp_right (fun h=>(h.resolve_left (hoc b)).resolve_left (fun h=>h))
 have hun:∀ b,U b->b<w.heap.size:=fun b hb=>Sr.nlt b (Sr.un b hb)
 have E':Ext w w' G G' (fun _=>False) U' N N' (Own (ν.over []) (xim (fun _=>none) [])) (Own ν' nh):=
  ⟨E.size,fun b h1 _ h3=>E.keep b h1 (hoc b) h3,fun b hb=>.inr (hown b hb),fun b hb=>(E.u b hb).imp_right (fun h=>.inr (h.resolve_left (hoc b))),fun b hb=>(E.n b hb).imp_right (fun h=>.inr (h.resolve_left (hoc b))),E.g,fun b hb=>(hg b hb).imp_right (fun h=>.inr (.inr h)),E.sz,E.env⟩
 obtain ⟨h1,h2,h3,h4⟩:=xCu (U':=U) (N':=N) (look:=fun _=>none) Sr (fun _ _ h=>by cases h) (ms:=[]) List.nodup_nil hat (fun _ h=>h.elim) hsr (fun i hi=>by cases hi) (by rw [hy];intro l hl;cases hl) E' (fun _ h=>h.elim)
  (fun _ h=>.inl h) (fun _ h=>.inl h) (fun b hb=>Nat.lt_of_lt_of_le (Sr.nlt b hb) E.size) (fun b hb hu=>(hg b hb).elim (fun h=>Sr.gu b h hu) (fun h=>by have:=hun b hu;omega)) Sr.un
  (fun b hb ho=>by have:=hown b ho;have:=Sr.nlt b hb;omega)
 refine ⟨_,G',U,N,h1,h2,rfl,xh6 h4 (by rw [hy];intro _ l hl;cases hl) (fun _ _ h=>h.elim) xak v u hv,h3,?_,fun j hj=>?_⟩
 ·exact hRM s w w' G G' U N hRS E.env E.size (fun b hb=>E.keep b (Sr.nlt b hb) (hoc b) (fun h=>h)) E.sz E.g (fun b hb=>E.keep b (Sr.glt b hb) (hoc b) (fun h=>h))
   (fun b hb=>(hg b hb).imp_right (fun h hn=>by have:=Sr.nlt b hn;omega)) hsr.glt
 ·simp only [Names.back] at hj;split at hj
  ·rename_i hle;simpa only [xba,List.length_map,List.length_drop] using hle
  ·exact absurd rfl hj
end
def xel (F:Fence):Prop:=F.plain=Fence.wide
theorem xel.wide:xel Fence.wide:=rfl
theorem xel.round (l:Nat):xel (Fence.wide.inRound l):=rfl
section
variable {F:Fence} {P:Program} {n:Nat}
theorem xel.fn (hF:xel F) (f:FuncId):F.fn f:=by
 have:=congrArg Fence.fn hF;rw [show F.fn=F.plain.fn from rfl,this];trivial
theorem xel.depth (hF:xel F):F.depth=none:=by
 have:=congrArg Fence.depth hF;exact this
theorem xel.calls (hF:xel F) {f:FuncId} {args:Array Value} {w:World} {R:Ending->World->Prop} (h:CallsIn Fence.wide n P f args w R):CallsIn F n P f args w R:=by
 have h':CallsIn F.plain n P f args w R:=by rw [hF];exact h
 exact h'
theorem xel.rounds (hF:xel F) {l:Nat} {f:FuncId} {tmps:Array Value} {assign body:Code} {w:World} {R:Ending->World->Prop} (h:RoundIn Fence.wide n P l f tmps assign body w R):RoundIn F n P l f tmps assign body w R:=by
 have h':RoundIn F.plain n P l f tmps assign body w R:=by rw [hF];exact h
 exact h'
end
section
variable {w w':World} {G G' J U U' N N':Nat->Prop} {ν ν':Names} {h nh:xap} {P:Program}
theorem xqy {o:Oper} {cl:Call} (hop:o.op=.call cl) {x:Operand} (hx:cl.callee=.value x) {a:Act} {fn:Fn} {as cs:Array Value} (hv:a.eval x=.func fn as cs) :
    (execOp a.eval o).run P w=(invoke (.fn fn cs) (as++cl.args.map a.eval)).run P w:=by
 unfold execOp;simp [hop,resolve,hx,hv,Deferred.ofValue]
theorem xpl {g:FuncId} (hg:Ent P g) (args:Array Value):(callFunc g args).run P w=.ok (.enter g args) w:=by
 obtain ⟨fn,c,h1,h2,h3⟩:=hg;simp [callFunc,h1,h2,h3]
theorem xyj {F:Fence} (hF:xel F) {o:Oper} {cl:Call} (hop:o.op=.call cl) {a:Act} {g:FuncId} {args:Array Value} (he:(execOp a.eval o).run P w=.ok (.enter g args) w) {next:Act->World->Prop} {Q:Exit->Act->World->Prop} {R:Ending->World->Prop}
    (hc:CallsIn Fence.wide 0 P g args w R) (hR:∀ e w',R e w'->(∃ u,e=.returned u/\next (a.put o.dst u) w')\/∃ ch,e=.panicked ch/\Q (.panic ch) a w'):o.wpIn F 0 P a w next Q:=by
 refine ⟨fun f _=>hF.fn f,?_⟩;rw [Oper.semAt_eq _ _ _ (by intro c;rw [hop];simp),he,Oper.uponIn_enter];refine ⟨by rw [hF.depth];simp,CallsIn.mono (hF.calls hc) fun e w' hr=>?_⟩;rcases hR e w' hr with ⟨u,rfl,hn⟩ | ⟨ch,rfl,hn⟩
 ·exact hn
 ·exact hn
theorem xT1 {F:Fence} (hF:xel F) {o:Oper} {cl:Call} (hop:o.op=.call cl) {a:Act} {l:Nat} {f:FuncId} {tmps:Array Value} {assign body:Code} (he:(execOp a.eval o).run P w=.ok (.round l f tmps assign body) w)
    {next:Act->World->Prop} {Q:Exit->Act->World->Prop} {R:Ending->World->Prop}
    (hc:RoundIn Fence.wide 0 P l f tmps assign body w R) (hR:∀ e w',R e w'->∃ u,e=.returned u/\next (a.put o.dst u) w'):o.wpIn F 0 P a w next Q:=by
 refine ⟨fun f _=>hF.fn f,?_⟩;rw [Oper.semAt_eq _ _ _ (by intro c;rw [hop];simp),he,Oper.uponIn_round];refine ⟨by rw [hF.depth];simp,RoundIn.mono (hF.rounds hc) fun e w' hr=>?_⟩;obtain ⟨u,rfl,hn⟩:=hR e w' hr;exact hn
theorem yan (S:SR w G J U N ν h) (J':Nat->Prop) (hJ:∀ b,J' b->b<w.heap.size):SR w G J' (fun _=>False) N Names.none [] where
 blk i B e:=by rw [xd9] at e;cases e
 inj i j B B' b e:=by rw [xd9] at e;cases e
 dom i b e:=by cases e
 glt:=S.glt
 jlt:=hJ
 nlt:=S.nlt
 gown b _:=by rintro ⟨i,B,e,_⟩;rw [xd9] at e;cases e
 jown b _:=by rintro ⟨i,B,e,_⟩;rw [xd9] at e;cases e
 nown b _:=by rintro ⟨i,B,e,_⟩;rw [xd9] at e;cases e
 gu _ _ h:=h
 ju _ _ h:=h
 un _ h:=h.elim
theorem xRg {kb ky:Bool} {ρ:Nat->Option Nat} {f:Nat} {v:AV}:xds (mv kb ky ρ (f+1) v)=xds v:=by
 cases v with
 | ptr i s k j=>simp only [mv];cases ρ i <;> rfl
 | sl i s lo n cap=>simp only [mv];cases ρ i <;> rfl
 | mp i=>simp only [mv];cases ρ i <;> rfl
 | eptr kd cs=>cases kd <;> simp only [mv] <;> first | rfl | (split <;> rfl)
 | ro kd c0 s es=>cases kd <;> simp only [mv] <;> first | rfl | (split <;> rfl)
 | yl=>simp only [mv];split <;> rfl
 | _=>rfl
theorem xku {kb ky:Bool} {ρ:Nat->Option Nat} {v:AV}:xds (mv kb ky ρ xak v)=xds v:=xRg (f:=11)
theorem xNs {v:AV} {t:TypeId} (h:xds v=some t):v=.pan t:=by
 cases v <;> simp only [xds,reduceCtorEq,Option.some.injEq] at h;rw [h]
theorem xVa {v:AV} (h:xds v=none):exV v=.normal:=by unfold exV;rw [h]
theorem xCi {S S':Type} {RS:xcl S} {RS':xcl S'} {w1:World} {G1 J1 U1 N1:Nat->Prop} {ν1:Names} {h1 h2:xap} {s2:S'} {o:Oper} {a:Act} {at_:Nat} {r:Res S} {v:AV} (hv:xds r.v=xds v) {Q:Exit->Act->World->Prop}
    (hQ:∀ t w',exV r.v=.pan t->xir RS w G J U N ν h at_ r undef w'->Q (.panic (xmj t)) a w') (hA:∀ u w',xvf RS' w1 G1 J1 U1 N1 ν1 h1 v h2 s2 u w'->xir RS w G J U N ν h at_ r u w') (e:Ending) (w':World) (hR:Ret RS' w1 G1 J1 U1 N1 ν1 h1 v h2 s2 e w') :
    (∃ u,e=.returned u/\exV r.v=.normal/\∃ u',a.put o.dst u=a.put o.dst u'/\xir RS w G J U N ν h at_ r u' w')\/∃ ch,e=.panicked ch/\Q (.panic ch) a w':=by
 cases e with
 | returned u=>exact .inl ⟨u,rfl,xVa (hv.trans hR.1),u,rfl,hA u w' hR.2⟩
 | panicked ch=>
   obtain ⟨⟨t,e1,rfl⟩,hb⟩:=hR;refine .inr ⟨_,rfl,hQ t w' ?_ (hA _ _ hb)⟩;rw [e1] at hv;rw [xNs (v:=r.v) (t:=t) hv];rfl
 | outgrown=>exact hR.elim
theorem xLg {F:Fence} (hF:xel F) {S:Type} {RS:xcl S} (hRM:xd5 RS) (Sr:SR w G J U N ν h) {s:S} (hRS:RS s w G U N) {look:Nat->Option Blk} (hl:∀ i B,look i=some B->xag h i=some B) {at_:Nat} (hat:∀ j,at_<=j->j<at_+nh.length->ν.φ j=none)
    {o:Oper} {cl:Call} (hop:o.op=.call cl) {a:Act} {g:FuncId} {vs:Array Value} (he:Ent P g->(execOp a.eval o).run P w=.ok (.enter g vs) w) {args:List AV}
    (hr:xae w G args ν J vs.toList) {v:AV} (hg:xVv (S:=Unit) P none g (args.map (fz look xak)) [] () v nh ()) {Q:Exit->Act->World->Prop}
    (hQ:∀ t w',exV (mv true true (back [] at_) xak (strike v))=.pan t->xir RS w G J U N ν h at_ ⟨mv true true (back [] at_) xak (strike v),[],(xba [] at_ (xed nh)).2,s⟩ undef w'->Q (.panic (xmj t)) a w') :
    o.wpIn F 0 P a w (fun a' w'=>exV (mv true true (back [] at_) xak (strike v))=.normal/\∃ u,a'=a.put o.dst u/\xir RS w G J U N ν h at_ ⟨mv true true (back [] at_) xak (strike v),[],(xba [] at_ (xed nh)).2,s⟩ u w') Q:=by
 have hrel:xae w G (args.map (fz look xak)) Names.none (fun b=>J b\/Own ν h b) vs.toList:=
  xc9 (xS0 (J':=fun b=>J b\/Own ν h b) (fun i B e=>by
   obtain ⟨b,hb,hB⟩:=Sr.blk i B (hl i B e);exact ⟨b,hb,.inr ⟨i,B,hl i B e,hb⟩,hB⟩) (fun b hb=>.inl (.inl hb)) xak) hr
 have hc:=hg.2 (fun _ _ _ _ _=>True) w G (fun b=>J b\/Own ν h b) (fun _=>False) N Names.none _ (fun _ _ _ _ _ _ _ _ _ _ _ _ _ _ _ _=>trivial) (fun Hf l e=>by cases e)
  (yan Sr _ (fun b hb=>hb.elim (Sr.jlt b) Sr.own_lt)) hrel trivial
 rw [Array.toArray_toList] at hc;refine xyj hF hop (he hg.1) hc fun e w' hR=>?_
 exact xCi (r:=⟨mv true true (back [] at_) xak (strike v),[],(xba [] at_ (xed nh)).2,s⟩) (v:=v) (by rw [xku];exact xku) hQ
  (fun u w' hR=>xPi hRM Sr (fun j h1 h2=>hat j h1 (by simpa [xed] using h2)) hRS (ν0:=Names.none) rfl (hR.strike fun _ h=>h)) e w' hR
theorem xKy {β:Type} {g k:AV->β}:∀ {args:List AV} {fl:List Bool},args.length<=fl.length->fl.all id=true->∀ {r:List Bool},(args.zip (fl++r)).map (fun p=>if p.2 then g p.1 else k p.1)=args.map g
 | [],_,_,_,_=>rfl
 | a::as,[],h,_,_=>absurd h (by simp)
 | a :: as,f::fl,h,ha,r=>by
   simp only [List.all_cons,Bool.and_eq_true,id] at ha;simp only [List.cons_append,List.zip_cons_cons,List.map_cons,ha.1,if_true];rw [xKy (by simpa using h) ha.2]
theorem xCq {C:Cfg} {call:xb6} (hCall:xf3 C.P call) (hExt:xkr C) {F:Fence} (hF:xel F) {S:Type} {RS:xcl S} (hRM:xd5 RS) {H:Option (Hd S)} (hH:HSO C.P RS H ν.y)
    {a:Act} (Sr:SR w G J U N ν h) {s:S} (hRS:RS s w G U N) {look:Nat->Option Blk} (hl:∀ i B,look i=some B->xag h i=some B) {at_:Nat} {o:Oper} {cl:Call} (hop:o.op=.call cl)
    {g:FuncId} {vs:Array Value} (he:Ent C.P g->(execOp a.eval o).run C.P w=.ok (.enter g vs) w) {args:List AV} (hrel:xae w G args ν J vs.toList)
    {r:Res S} (hat:∀ j,at_<=j->j<at_+r.news.length->ν.φ j=none) (ha:xg4 C call H at_ look s g args=some r) {Q:Exit->Act->World->Prop} (hQ:∀ t w',exV r.v=.pan t->xir RS w G J U N ν h at_ r undef w'->Q (.panic (xmj t)) a w') :
    o.wpIn F 0 C.P a w (fun a' w'=>exV r.v=.normal/\∃ u,a'=a.put o.dst u/\xir RS w G J U N ν h at_ r u w') Q:=by
 unfold xg4 at ha;split at ha
 ·rename_i E hE';rw [Option.map_eq_some_iff] at ha;obtain ⟨v,hv',rfl⟩:=ha;exact xLg (nh:=[]) hF hRM Sr hRS hl (fun j h1 h2=>by simp at h2;omega) hop he hrel (hExt g E hE' _ v hv') hQ
 ·split at ha
  ·split at ha
   ·rename_i v nh _ hcl;cases ha;exact xLg hF hRM Sr hRS hl (fun j h1 h2=>hat j h1 (by simpa [xba,xed] using h2)) hop he hrel (hCall Unit none g _ _ _ _ _ _ hcl) hQ
   ·cases ha
  ·rename_i hfl;generalize hhand:xen look (C.wr g) args=q at ha;obtain ⟨ms,cargs,ch⟩:=q;dsimp only at ha;split at ha
   case h_2=>cases ha
   rename_i v nh s' hcl;have hgood:=hCall _ _ _ _ _ _ _ _ _ hcl;simp only [xen,Prod.mk.injEq] at hhand;obtain ⟨hms,hca,hch⟩:=hhand;have hn:ms.Nodup:=by rw [<- hms];exact xgb _ _ _ _ List.nodup_nil
   rw [hms] at hca hch;cases hall:xpi (C.wr g) args with
   | true=>
     rw [hall] at ha;cases ha;unfold xpi at hall;rw [Bool.and_eq_true,decide_eq_true_eq] at hall;rw [xKy hall.1 hall.2] at hca;subst hca;subst hch;have hargs:xae w G (args.map (mv true true (pos ms) xak)) (ν.over ms) J vs.toList:=xc9 (xh6 xif (fun _ _ h=>h) (fun _ b hb=>.inl hb) xak) hrel;have hsr:=xv6 Sr hl hn J U N (fun b hb=>hb) (fun b hb=>.inl hb) Sr.un (fun _ h=>h) Sr.un (fun _ h=>h);have hc:=hgood.2 RS w G J U N (ν.over ms) _ hRM hH hsr hargs hRS;rw [Array.toArray_toList] at hc;refine xyj hF hop (he hgood.1) hc fun e w' hR=>?_
     exact xCi (v:=v) xku hQ (fun u w' hR=>xs0 Sr hl hn (fun j h1 h2=>hat j h1 (by simpa [xba] using h2)) (fun _ h=>h) hR) e w' hR
   | false=>
   rw [hall] at ha;cases ha;subst hca;subst hch;have hargs:=xEg (ms:=ms) Sr hl _ (C.wr g++List.replicate args.length false) _ hrel (Nat.le_trans (Nat.le_of_eq (List.length_replicate (n:=args.length) (a:=false)).symm) (by rw [List.length_append (as:=C.wr g)];exact Nat.le_add_left _ _));have hsr:=xv6 Sr hl hn (fun b=>J b\/xC0 ν h ms b) U N (fun b hb=>.inl hb) (by
    rintro b (hb | ⟨i,B,h1,h2,h3⟩)
    ·exact .inl hb
    ·refine .inr ⟨⟨i,B,h1,h2⟩,fun j hj=>?_⟩;cases hB:xag h j with
     | none=>exact .inr rfl
     | some B'=>exact .inl (by rw [Sr.inj j i _ _ b hB h1 hj h2];exact h3)) Sr.un (fun _ h=>h) Sr.un (fun _ h=>h)
   have hc:=hgood.2 RS w G (fun b=>J b\/xC0 ν h ms b) U N (ν.over ms) _ hRM hH hsr hargs hRS;rw [Array.toArray_toList] at hc;refine xyj hF hop (he hgood.1) hc fun e w' hR=>?_
   exact xCi (v:=v) (by rw [xku];exact xku) hQ (fun u w' hR=>xs0 Sr hl hn (fun j h1 h2=>hat j h1 (by simpa [xba,xed] using h2)) (J':=fun _=>False) (fun _ h=>h.elim) (hR.strike fun _ h=>h)) e w' hR
theorem xRv {C:Cfg} (Sr:SR w G J U N ν h) {look:Nat->Option Blk} (hl:∀ i B,look i=some B->xag h i=some B) {t:TypeId} {T:Ty} (hT:xcc C.P t=some T)
    {i sz k j:Nat} {v:Value} (hv:Rel w G (.ptr i sz k j) ν J v) {c:AV} (hc:xpt look i sz k j T.agg T.size=some c) :
    ∃ u,(∃ ad,v=.pointer (some ad)/\(loadVar t ad).run C.P w=.ok u w)/\Rel w G c ν J u:=by
 have ha:act C (fun _ _ _ _ _ _=>none) (none:Option (Hd Unit)) 0 look () (.load i sz k j T.agg T.size)=some ⟨c,[],[],()⟩:=by
  simp only [act,xpt] at hc ⊢
  repeat' (split at hc)
  all_goals first
   | (cases hc;done)
   | simp_all
 obtain ⟨u,hrun,hleft⟩:=xui Sr hl hT hv ha;simp only [Rel] at hv;obtain ⟨b,_,rfl⟩:=hv;exact ⟨u,⟨_,rfl,by simpa [Instr.loadAt,Instr.sureAddr] using hrun⟩,hleft.rel⟩
theorem xNi {P:Program} (ts:Array TypeId) (t:TypeId) (ad:Addr) (x y:String):(Builtin.ssaWrapNilChk_ ts t #[.pointer (some ad),strVal x,strVal y]).run P w=.ok (.pointer (some ad)) w:=rfl
def xVt (P:Program) (w:World) (v v':Value):Option TypeId->Prop
 | none=>v'=v
 | some e=>∃ ad,v=.pointer (some ad)/\(loadVar e ad).run P w=.ok v' w
theorem xzq {P:Program} {o:Oper} {cl:Call} (hop:o.op=.call cl) {recv:Operand} {name:String} (hx:cl.callee=.invoke recv name) {a:Act} {t:TypeId} {v:Value} (hv:a.eval recv=.iface t v) {g:FuncId} {md:Option TypeId}
    (hm:xz3 P t name=some (g,md)) {v':Value} (hr:xVt P w v v' md) (hg:Ent P g):(execOp a.eval o).run P w=.ok (.enter g (#[v']++cl.args.map a.eval)) w:=by
 unfold xz3 at hm;split at hm
 case h_2=>cases hm
 rename_i i d hi hd;split at hm
 case h_2=>cases hm
 rename_i m hfind;split at hm
 case isFalse=>cases hm
 rename_i hpath;have hpath':m.path=#[]:=by simpa using hpath
 have hfollow:∀ x:Place,(follow m.path.toList t x).run P w=.ok (t,x) w:=fun x=>by rw [hpath'];rfl
 obtain ⟨fuel,hfuel⟩:∃ n,P.types.size+Made.depth=n+1:=⟨_,(Nat.succ_pred_eq_of_pos (by simp [Made.depth])).symm⟩;have hcm:(callMethod (.iface t v) name (cl.args.map a.eval)).run P w=.ok (.enter g (#[v']++cl.args.map a.eval)) w:=by
  have hmeth:(method (P.types.size+Made.depth) t v name).run P w=.ok (g,v') w:=by
   rw [hfuel,method];simp [Sem.run_bind,typeInfo,hi,hfind,hfollow];split at hm
   ·rename_i hf;cases hm;simp only [xVt] at hr;subst hr;simp [hf,receiverAt,Sem.run_bind,run_underlying hd,Place.get]
   ·rename_i hf;cases hm;obtain ⟨ad,rfl,hload⟩:=hr;simp [hf,hpath',receiverAt,Sem.run_bind,run_underlying hd,Place.get,xNi,asAddr,hload]
   ·rename_i hf hnp;cases hm;simp only [xVt] at hr;subst hr;simp only [hf];rename_i u _ _ _;cases u <;> first
     | exact absurd rfl (hnp _)
     | simp [receiverAt,Sem.run_bind,run_underlying hd,Place.get]
   ·cases hm
  simp [callMethod,Sem.run_bind,hmeth,xpl hg]
 unfold execOp;have h0:(#[Value.iface t v]++cl.args.map a.eval)[0]?=some (.iface t v):=by rw [Array.getElem?_append_left (by simp)];rfl
 have h1:(#[Value.iface t v]++cl.args.map a.eval).extract 1 (#[Value.iface t v]++cl.args.map a.eval).size=cl.args.map a.eval:=by
  apply Array.ext';simp [List.take_of_length_le]
 simp only [hop,resolve,hx,hv,Sem.run_bind,Sem.run_pure,Result.andThen_ok,invoke,h0,h1];exact hcm
theorem xxg {β:Type} (m:AV->β) (m':AV->β) (r:List Bool):∀ (l:List AV),(l.zip (l.map (fun _=>true)++r)).map (fun p=>if p.2=true then m p.1 else m' p.1)=l.map m
 | []=>by simp
 | c :: cs=>by
   simp only [List.map_cons,List.cons_append,List.zip_cons_cons];rw [xxg m m' r cs];simp
theorem xWp {C:Cfg} (hC:∀ t T,C.ty t=some T->xcc C.P t=some T) {call:xb6} (hCall:xf3 C.P call) (hExt:xkr C) {F:Fence} (hF:xel F) {S:Type} {RS:xcl S} (hRM:xd5 RS) {H:Option (Hd S)} (hH:HSO C.P RS H ν.y)
    {ts:List AV} {a:Act} (Sr:SR w G J U N ν h) (hts:xae w G ts ν J a.tmps.toList) {s:S} (hRS:RS s w G U N) {look:Nat->Option Blk} (hl:∀ i B,look i=some B->xag h i=some B) {at_:Nat} {o:Oper} {ma:MA}
    (hp:xi2 C (ev ts) o=some ma) {r:Res S} (hat:∀ j,at_<=j->j<at_+r.news.length->ν.φ j=none) (ha:act C call H at_ look s ma=some r) {Q:Exit->Act->World->Prop} (hQ:∀ t w',exA ma r.v=.pan t->xir RS w G J U N ν h at_ r undef w'->Q (.panic (xmj t)) a w') :
    o.wpIn F 0 C.P a w (fun a' w'=>exA ma r.v=.normal/\∃ u,a'=a.put o.dst u/\xir RS w G J U N ν h at_ r u w') Q:=by
 by_cases hm:xt2 ma=true
 ·obtain ⟨v,w',ν',hrun,hleft⟩:=xNr hC Sr.noU hts hl hp hm (fun hne=>hat at_ (Nat.le_refl _) (by have:=List.length_pos_iff.2 hne;omega)) ha;exact hrun.wp hF.fn ⟨(by cases ma <;> first | rfl | exact absurd hm Bool.false_ne_true),v,rfl,xKw hRM Sr hRS hleft⟩
 have hk:=(xDq hp).resolve_left (by rintro ⟨c,rfl⟩;exact hm rfl);have hE:∀ x,Rel w G (ev ts x) ν J (a.eval x):=xiu hts;have hp0:=hp;unfold xi2 at hp;cases hop:o.op <;> simp only [hop,xPj,Bool.false_eq_true] at hk
 case alloc t=>
  simp only [hop] at hp;split at hp
  ·cases hp;exact absurd rfl hm
  ·cases hp
 case box t x=>
  simp only [hop] at hp;split at hp
  ·cases hp
  ·cases hp;exact absurd rfl hm
 case buildSlice t len ps=>
  simp only [hop] at hp
  repeat' (split at hp)
  all_goals first
   | (cases hp;done)
   | (simp only [Option.map_eq_some_iff] at hp;obtain ⟨c,_,rfl⟩:=hp;exact absurd rfl hm)
 case load t x=>
  simp only [hop] at hp
  repeat' (split at hp)
  all_goals first
   | (cases hp;done)
   | (simp only [Option.some.injEq] at hp;subst hp;exact absurd rfl hm)
   | (simp only [Option.map_eq_some_iff] at hp;obtain ⟨c,_,rfl⟩:=hp;exact absurd rfl hm)
 case store t x y=>
  simp only [hop] at hp
  repeat' (split at hp)
  all_goals first
   | (cases hp;done)
   | (simp only [Option.some.injEq] at hp;subst hp;exact absurd rfl hm)
 case makeSlice t l c=>
  simp only [hop] at hp
  repeat' (split at hp)
  all_goals first
   | (cases hp;done)
   | (simp only [Option.some.injEq] at hp;subst hp;exact absurd rfl hm)
 case makeMap t q=>
  simp only [hop] at hp
  repeat' (split at hp)
  all_goals first
   | (cases hp;done)
   | (simp only [Option.some.injEq] at hp;subst hp;exact absurd rfl hm)
 case lookup t x ix ok=>
  simp only [hop] at hp
  repeat' (split at hp)
  all_goals first
   | (cases hp;done)
   | (simp only [Option.map_eq_some_iff] at hp;obtain ⟨c,_,rfl⟩:=hp;exact absurd rfl hm)
 case mapUpdate t m k v=>
  simp only [hop] at hp
  repeat' (split at hp)
  all_goals first
   | (cases hp;done)
   | (simp only [Option.some.injEq] at hp;subst hp;exact absurd rfl hm)
 case insert t m k v=>
  simp only [hop] at hp
  repeat' (split at hp)
  all_goals first
   | (cases hp;done)
   | (simp only [Option.some.injEq] at hp;subst hp;exact absurd rfl hm)
 case call cl=>
  simp only [hop] at hp;cases hcal:cl.callee with
  | builtin b=>
    simp only [hcal] at hp;exfalso;unfold xaw at hp
    repeat' (split at hp)
    all_goals first
     | (cases hp;done)
     | (simp only [Option.some.injEq] at hp;subst hp;exact absurd rfl hm)
     | (simp only [Option.map_eq_some_iff] at hp;obtain ⟨c,_,rfl⟩:=hp;exact absurd rfl hm)
     | (simp only [Option.some.injEq] at hp;subst hp;simp [act] at ha)
  | invoke x name=>
    simp only [hcal] at hp;have hxv:=hE x;cases hx:ev ts x <;> simp only [hx,reduceCtorEq] at hp
    case ifc t c=>
     rw [hx] at hxv;simp only [Rel] at hxv;obtain ⟨v,hv,hc⟩:=hxv;split at hp
     ·rename_i g hmt;simp only [Option.some.injEq] at hp;subst hp;have hrel:xae w G (c::cl.args.toList.map (ev ts)) ν J (#[v]++cl.args.map a.eval).toList:=by
       rw [Array.toList_append,Array.toList_map];exact xa6 hc (xmt hts _)
      simp only [act] at ha;exact xCq hCall hExt hF hRM hH Sr hRS hl hop (xzq hop hcal hv hmt rfl) hrel hat ha hQ
     ·rename_i g e hmt;split at hp
      ·rename_i T i s' k j hT;simp only [Option.some.injEq] at hp;subst hp;simp only [act] at ha;split at ha
       case h_2=>cases ha
       rename_i c' hc';obtain ⟨u,hrun,hu⟩:=xRv Sr hl (hC _ _ hT) hc hc';obtain ⟨ad,rfl,hload⟩:=hrun;have hrel:xae w G (c'::cl.args.toList.map (ev ts)) ν J (#[u]++cl.args.map a.eval).toList:=by
        rw [Array.toList_append,Array.toList_map];exact xa6 hu (xmt hts _)
       exact xCq hCall hExt hF hRM hH Sr hRS hl hop (xzq hop hcal hv hmt ⟨ad,rfl,hload⟩) hrel hat ha hQ
      ·cases hp
     ·cases hp
  | value x=>
    simp only [hcal] at hp;have hxv:=hE x;cases hx:ev ts x <;> simp only [hx,reduceCtorEq] at hp
    case fn fn fs cp=>
     cases fn <;> simp only [reduceCtorEq,Option.some.injEq] at hp;rename_i g;subst hp;rw [hx] at hxv;simp only [Rel] at hxv;obtain ⟨as,cs,hv,has,hcs⟩:=hxv;have hrel:xae w G (fs++cl.args.toList.map (ev ts)++cp) ν J ((as.toArray++cl.args.map a.eval)++cs.toArray).toList:=by
      rw [Array.toList_append,Array.toList_append,Array.toList_map];exact xcd (xcd has (xmt hts _)) hcs
     simp only [act] at ha;exact xCq hCall hExt hF hRM hH Sr hRS hl hop (fun hg=>by rw [xqy hop hcal hv];exact xpl hg _) hrel hat ha hQ
    case yl=>
     simp only [Option.some.injEq] at hp;subst hp;rw [hx] at hxv;simp only [Rel] at hxv;obtain ⟨l,hy,hv⟩:=hxv;simp only [act] at ha;split at ha
     ·cases ha
     rename_i Hf;generalize hhand:xen look ((cl.args.toList.map (ev ts)).map fun _=>true) (cl.args.toList.map (ev ts))=q at ha;obtain ⟨ms,cargs,ch⟩:=q;dsimp only at ha;split at ha
     case h_2=>cases ha
     rename_i b nh s' hcl;cases ha;simp only [xen,Prod.mk.injEq] at hhand;obtain ⟨hms,hca,hch⟩:=hhand;have hn:ms.Nodup:=by rw [<- hms];exact xgb _ _ _ _ List.nodup_nil
     rw [hms] at hca hch;rw [xxg] at hca;subst hca;subst hch;have hrel:xae w G ((cl.args.toList.map (ev ts)).map (mv true true (pos ms) xak)) (ν.over ms) J (cl.args.map a.eval).toList:=by
      rw [Array.toList_map];exact xc9 (xh6 xif (fun _ _ h=>h) (fun _ b hb=>.inl hb) xak) (xmt hts _)
     have hsr:=xv6 Sr hl hn J U N (fun b hb=>hb) (fun b hb=>.inl hb) Sr.un (fun _ h=>h) Sr.un (fun _ h=>h);obtain ⟨f,tmps,assign,body,hyr,hround⟩:=hH Hf l rfl hy _ _ _ _ _ _ hcl w G J U N (ν.over ms) _ hrel hsr hRS;rw [Array.toArray_toList] at hyr;refine xT1 hF hop (by
      rw [xqy hop hcal hv];simpa [invoke] using hyr) hround fun e w' hR=>?_
     obtain ⟨rfl,ν',G',U',N',h1,h2,h3,h4,h5,h6⟩:=hR;rw [List.length_map] at h2 h3;have hnh:nh.take ms.length=nh:=by rw [<- h2];exact List.take_length
     have hnews:(xba ms at_ nh).2=[]:=by
      simp only [xba];rw [List.drop_eq_nil_of_le (by omega)];rfl
     obtain ⟨k1,k2,k3,k4⟩:=xCu (U':=U') (N':=N') Sr hl hn (fun j h1 h2=>by omega) (fun _ h=>.inl h) h1 h3 (by rw [h4];exact fun _ h=>h) h5 (fun _ h=>h) h5.u h5.n h1.nlt h1.gu h1.un h1.nown;refine ⟨.bool b,rfl,rfl,.bool b,rfl,ν.back ν' ms at_ (nh.length - ms.length),G',U',N',?_⟩;rw [hnh];unfold xk2 at k1 k3;rw [hnews] at k1 k3;refine ⟨k1,k2,rfl,(by simp only [Rel]),k3,h6,fun j hj=>?_⟩;exfalso;simp only [Names.back] at hj;split at hj
     ·omega
     ·exact absurd rfl hj
 case panic x=>
  simp only [hop] at hp;split at hp
  case h_2=>cases hp
  rename_i t hx;simp only [Option.some.injEq] at hp;subst hp;simp only [act,Option.some.injEq] at ha;subst ha;have hxv:=hE x;rw [hx] at hxv;simp only [Rel] at hxv;obtain ⟨u,hv,vs,rfl,hvs⟩:=hxv;simp only [xae] at hvs;subst hvs;refine ⟨fun f _=>hF.fn f,?_⟩;rw [Oper.semAt_eq _ _ _ (by intro c;rw [hop];simp)];have hrun:(execOp a.eval o).run C.P w=.halt (.panic (.iface t (.agg #[]))) w:=by
   unfold execOp;simp [hop,hv,Instr.panic,goPanic]
  rw [hrun,Oper.uponIn_panic];exact hQ t w rfl ⟨ν,G,U,N,Sr,Names.le_refl _,rfl,by simp only [Rel],Ext.refl ..,hRS,fun j hj=>absurd rfl hj⟩
end
section
variable {w w':World} {G G' J U U' N N':Nat->Prop} {ν ν':Names} {h nh:xap} {P:Program}
theorem xRh {kb:Bool} {R:List Nat} {y:Option Nat} {b:Nat} {ky:Bool} (ho:Own ⟨(ν.over R).φ,y⟩ (R.map fun i=>(xag h i).map (mvB kb ky (pos R))) b):∃ m B,m∈R/\xag h m=some B/\ν.φ m=some b:=by
 obtain ⟨i,B,h1,h2⟩:=ho;rw [xge] at h1;cases hm:R[i]? with
 | none=>rw [hm] at h1;cases h1
 | some m=>
   rw [hm] at h1;simp only [Option.bind_some,Option.map_eq_some_iff] at h1;obtain ⟨B0,hB0,-⟩:=h1;simp only [Names.over,hm,Option.bind_some] at h2;exact ⟨m,B0,List.mem_of_getElem? hm,hB0,h2⟩
theorem xod {kb:Bool} {R:List Nat} {y:Option Nat} {b:Nat} {ky:Bool} (ho:Own ⟨(ν.over R).φ,y⟩ (R.map fun i=>(xag h i).map (mvB kb ky (pos R))) b):Own ν h b:=
 let ⟨m,B,_,h1,h2⟩:=xRh ho;⟨m,B,h1,h2⟩
theorem xOy (S:SR w G J U N ν h) {R:List Nat} (hn:R.Nodup) {kb ky:Bool} {J':Nat->Prop} {y:Option Nat} (hJ:kb=true->∀ b,J b->J' b\/G b) (hJ':∀ b,J' b->J b) (hy:ky=true->∀ l,ν.y=some l->y=some l) :
    SR w G J' U N ⟨(ν.over R).φ,y⟩ (R.map fun i=>(xag h i).map (mvB kb ky (pos R))) where
 blk i B hB:=by
  rw [xge] at hB;cases hm:R[i]? with
  | none=>rw [hm] at hB;cases hB
  | some m=>
    rw [hm] at hB;simp only [Option.bind_some,Option.map_eq_some_iff] at hB;obtain ⟨B0,hB0,rfl⟩:=hB;obtain ⟨b,hb,hr⟩:=S.blk m B0 hB0;exact ⟨b,by simp [Names.over,hm,hb],xlk (ν':=⟨(ν.over R).φ,y⟩) xif hy hJ hr⟩
 inj i j B B' b h1 h2 h3 h4:=by
  rw [xge] at h1 h2;cases hm:R[i]? with
  | none=>rw [hm] at h1;cases h1
  | some m=>
  cases hm':R[j]? with
  | none=>rw [hm'] at h2;cases h2
  | some m'=>
    rw [hm] at h1;rw [hm'] at h2;simp only [Option.bind_some,Option.map_eq_some_iff] at h1 h2;obtain ⟨B0,hB0,-⟩:=h1;obtain ⟨B1,hB1,-⟩:=h2;simp only [Names.over,hm,hm',Option.bind_some] at h3 h4;have e:=S.inj m m' _ _ b hB0 hB1 h3 h4;subst e;exact xDx hn hm hm'
 dom i b hi:=by
  rw [List.length_map];simp only [Names.over] at hi;cases hm:R[i]? with
  | none=>rw [hm] at hi;cases hi
  | some m=>exact (List.getElem?_eq_some_iff.1 hm).1
 glt:=S.glt
 jlt b hb:=S.jlt b (hJ' b hb)
 nlt:=S.nlt
 gown b hb ho:=S.gown b hb (xod ho)
 jown b hb ho:=S.jown b (hJ' b hb) (xod ho)
 nown b hb ho:=S.nown b hb (xod ho)
 gu:=S.gu
 ju b hb:=S.ju b (hJ' b hb)
 un:=S.un
theorem xut (k:Nat) (vs:List AV) (h:xap):(xhd k vs h).Nodup:=by
 unfold xhd;rw [List.nodup_append];refine ⟨List.nodup_range,List.Nodup.sublist List.filter_sublist (xgb _ _ _ _ List.nodup_nil),fun a ha b hb=>?_⟩;rw [List.mem_range] at ha;have:=(List.mem_filter.1 hb).2;simp only [Bool.not_eq_true',decide_eq_false_iff_not] at this;omega
theorem xuu (k:Nat) (vs:List AV) (h:xap) {i:Nat} (hi:i<k):(xhd k vs h)[i]?=some i:=by
 unfold xhd;rw [List.getElem?_append_left (by rw [List.length_range];exact hi),List.getElem?_range hi]
theorem xE2 (k:Nat) (vs:List AV) (h:xap):k<=(xhd k vs h).length:=by
 unfold xhd;rw [List.length_append,List.length_range];exact Nat.le_add_right _ _
theorem xup (live:List Nat):∀ (i:Nat) (ts:List AV) (vs:List Value),xae w G ts ν J vs->xae w G (xii live i ts) ν J vs
 | _,[],_,h=>by simp only [xii];exact h
 | i, c::cs,_,h=>by
   simp only [xae] at h;obtain ⟨u,us,rfl,h1,h2⟩:=h;simp only [xii];refine xa6 ?_ (xup live (i+1) cs us h2);split
   ·exact h1
   ·simp only [Rel]
structure Side (w:World) (G J U N O:Nat->Prop) (n0 r:Nat) (o:Obj):Prop where
 new:n0<=r
 at_:w.heap[r]?=some o
 g : ¬ G r
 j : ¬ J r
 u : ¬ U r
 n : ¬ N r
 o : ¬ O r
theorem Side.ext {n0 r:Nat} {o:Obj} {G G' U U' N N' O O':Nat->Prop} (E:Ext w w' G G' U U' N N' O O') (h:Side w G J U N O n0 r o):Side w' G' J U' N' O' n0 r o:=by
 have hlt:r<w.heap.size:=(Array.getElem?_eq_some_iff.1 h.at_).1;exact ⟨h.new,(E.keep r hlt h.o h.u).trans h.at_,fun hg=>(E.g' r hg).elim h.g (fun h'=>h'.elim h.o (fun h'=>h'.elim h.u (by omega))),h.j,fun hu=>(E.u r hu).elim h.u (fun h'=>h'.elim h.o (by omega)),
  fun hn=>(E.n r hn).elim h.n (fun h'=>h'.elim h.o (by omega)),fun ho=>(E.own r ho).elim h.o (by omega)⟩
abbrev xeh (r:Nat):Deferred:={ target:=.collected r,args:=#[] }
structure Base where
 w : World
 G : Nat->Prop
 U : Nat->Prop
 N : Nat->Prop
 O : Nat->Prop
 φ : Nat->Option Nat
 y : Option Nat
 k : Nat
 /-- marks lie behind -/
 n0:Nat
 /-- calls that were deferred before -/
 ds:List Deferred
 /-- what is known of the deferred calls -/
 dp:List Deferred->Prop
structure Inv1 {S:Type} (RS:xcl S) (B:Base) (J:Nat->Prop) (sd:List (Nat×Obj)) (σ:St) (s:S) (a:Act) (w:World) (ν:Names) (G U N:Nat->Prop):Prop where
 sr:SR w G J U N ν σ.h
 ts:xae w G σ.tmps ν J a.tmps.toList
 rs:RS s w G U N
 ext:Ext B.w w B.G G B.U U B.N N B.O (Own ν σ.h)
 first:∀ i,i<B.k->ν.φ i=B.φ i
 y : ν.y=B.y
 len:B.k<=σ.h.length
 side:∀ p∈sd,Side w G J U N (Own ν σ.h) 0 p.1 p.2
 marks:∀ d∈a.defers,d∈B.ds\/∃ r,d=xeh r/\Side w G J U N (Own ν σ.h) B.n0 r (.deferred (some []))
 nd:a.defers.Pairwise (·≠·)
 low:B.dp a.defers
def Inv {S:Type} (RS:xcl S) (B:Base) (J:Nat->Prop) (sd:List (Nat×Obj)) (σ:St) (s:S) (a:Act) (w:World):Prop:=
 ∃ ν G U N,Inv1 RS B J sd σ s a w ν G U N
theorem Ext.less {w w':World} {G G' U U' N N' O O1 O2:Nat->Prop} (E:Ext w w' G G' U U' N N' O O1) (h:∀ b,O2 b->O1 b):Ext w w' G G' U U' N N' O O2:=
 ⟨E.size,E.keep,fun b hb=>E.own b (h b hb),E.u,E.n,E.g,E.g',E.sz,E.env⟩
theorem Side.less {n0 r:Nat} {o:Obj} {G U N O O':Nat->Prop} (h:Side w G J U N O n0 r o) (hO:∀ b,O' b->O b):Side w G J U N O' n0 r o:=
 ⟨h.new,h.at_,h.g,h.j,h.u,h.n,fun ho=>h.o (hO r ho)⟩
theorem xr7 {S:Type} {RS:xcl S} {B:Base} {sd:List (Nat×Obj)} {σ:St} {s:S} {a:Act} {live:List Nat} (I:Inv1 RS B J sd σ s a w ν G U N) :
    Inv1 RS B J sd (xig B.k live σ) s a w (ν.over (xhd B.k (xii live 0 σ.tmps) σ.h)) G U N:=by
 have hown:∀ b,Own (ν.over (xhd B.k (xii live 0 σ.tmps) σ.h)) (xig B.k live σ).h b->Own ν σ.h b:=fun b hb=>xod (kb:=true) (ky:=true) (y:=ν.y) hb
 constructor
 ·exact xOy I.sr (xut _ _ _) (fun _ b hb=>.inl hb) (fun _ h=>h) (fun _ _ h=>h)
 ·exact xc9 (xh6 xif (fun _ _ h=>h) (fun _ b hb=>.inl hb) xak) (xup live 0 _ _ I.ts)
 ·exact I.rs
 ·exact I.ext.less hown
 ·intro i hi;rw [<- I.first i hi];simp only [Names.over,xuu _ _ _ hi,Option.bind_some]
 ·exact I.y
 ·show _<=(xpb _ _ _ _).length;unfold xpb;rw [List.length_map];exact xE2 _ _ _
 ·exact fun p hp=>(I.side p hp).less hown
 ·exact fun d hd=>(I.marks d hd).imp_right fun ⟨r,e,h⟩=>⟨r,e,h.less hown⟩
 ·exact I.nd
 ·exact I.low
theorem xj0 {h:xap} {ms:List Nat} {i:Nat} {B:Blk} (e:xag (xcn h (ms.map fun i=>(i,none))) i=some B):xag h i=some B/\i ∉ ms:=by
 induction ms generalizing h with
 | nil=>exact ⟨e,fun h=>by cases h⟩
 | cons m ms ih=>
   simp only [List.map_cons,xcn] at e;obtain ⟨h1,h2⟩:=ih e;rw [xci] at h1;split at h1
   ·cases h1
   ·rename_i hne;exact ⟨h1,fun hm=>(List.mem_cons.1 hm).elim (fun e=>hne e.symm) h2⟩
theorem xCy {look:Nat->Option Blk} (hG:∀ b,G b->G' b) (hl:∀ i B,look i=some B->∃ b,ν.φ i=some b/\G' b/\xev w G ν J b B):∀ (f:Nat) (c:AV) (v:Value),Rel w G c ν J v->Rel w G' (fzk look f c) ν J v
 | 0,c,v,_=>by simp only [fzk,Rel]
 | f + 1,c,v,h=>by
   have up:∀ {c:AV} {v:Value},Rel w G' c Names.none (fun _=>False) v->Rel w G' c ν J v:=fun {c v} h=>xdb (fun _ h=>h) (fun _ _=>rfl) (fun _=>Nat.le_refl _) _ (Names.none_le _) (fun _ h=>h.elim) (fun _ h=>h.elim) h
   have keep:∀ {c:AV} {v:Value},Rel w G c ν J v->Rel w G' c ν J v:=fun {c v} h=>xdb hG (fun _ _=>rfl) (fun _=>Nat.le_refl _) _ (Names.le_refl _) (fun _ h=>.inl h) (fun _ _=>rfl) h
   have hmap:∀ {cs:List AV} {vs:List Value},xae w G cs ν J vs->xae w G' (cs.map (fzk look f)) ν J vs:=by
    intro cs;induction cs with
    | nil=>intro vs h;simp only [xae] at h;subst h;exact xbh
    | cons c cs ih=>
      intro vs h;simp only [xae] at h;obtain ⟨u,us,rfl,h1,h2⟩:=h;exact xa6 (xCy hG hl f c u h1) (ih h2)
   cases c with
   | ptr i s k j=>simp only [fzk];exact up (xCz hG hl (f+1) _ _ ν J (.inl ⟨rfl,rfl⟩) h)
   | sl i s lo n cap=>simp only [fzk];exact up (xCz hG hl (f+1) _ _ ν J (.inl ⟨rfl,rfl⟩) h)
   | agg cs=>
     simp only [fzk,Rel] at h ⊢;obtain ⟨vs,h1,h2⟩:=h;exact ⟨vs,h1,hmap h2⟩
   | _=>simp only [fzk];exact keep h
theorem xEu {c':AV}:∀ {cs:List AV} {vs:List Value} {i:Nat},xae w G cs ν J vs->(∀ c v,cs[i]?=some c->Rel w G c ν J v->Rel w G' c' ν J v)->(∀ c v,Rel w G c ν J v->Rel w G' c ν J v)->xae w G' (cs.set i c') ν J vs
 | [],_,_,h,_,_=>by simp only [xae] at h;subst h;simp [xae]
 | c :: cs,_,i,h,hs,hk=>by
   simp only [xae] at h;obtain ⟨u,us,rfl,h1,h2⟩:=h;have hmap:∀ {cs:List AV} {vs:List Value},xae w G cs ν J vs->xae w G' cs ν J vs:=by
    intro cs;induction cs with
    | nil=>intro vs h;simp only [xae] at h;subst h;exact xbh
    | cons c cs ih=>
      intro vs h;simp only [xae] at h;obtain ⟨u,us,rfl,h1,h2⟩:=h;exact xa6 (hk _ _ h1) (ih h2)
   cases i with
   | zero=>exact xa6 (hs c u rfl h1) (hmap h2)
   | succ i=>exact xa6 (hk _ _ h1) (xEu h2 (fun d v hd=>hs d v (by simpa using hd)) hk)
theorem xLv {S:Type} {RS:xcl S} (hRM:xd5 RS) {B:Base} {sd:List (Nat×Obj)} {σ:St} {s:S} {a:Act} {w:World} (I:Inv RS B J sd σ s a w) (t:Nat):Inv RS B J sd (fzT σ t) s a w:=by
 obtain ⟨ν,G,U,N,I⟩:=I
 let K:=fzM σ t
 let G':Nat->Prop:=fun b=>G b\/∃ i B,i∈K/\xag σ.h i=some B/\ν.φ i=some b
 have hG:∀ b,G b->G' b:=fun _ h=>.inl h
 have hO:∀ b,(∃ i B,i∈K/\xag σ.h i=some B/\ν.φ i=some b)->Own ν σ.h b:=fun b ⟨i,B,_,h1,h2⟩=>⟨i,B,h1,h2⟩
 have hown:∀ b,Own ν (fzT σ t).h b->Own ν σ.h b:=fun b ⟨i,B,h1,h2⟩=>⟨i,B,(xj0 h1).1,h2⟩
 have hnot:∀ b,(∃ i B,i∈K/\xag σ.h i=some B/\ν.φ i=some b)->¬ Own ν (fzT σ t).h b:=fun b ⟨i,B,hi,h1,h2⟩ ⟨j,B',h3,h4⟩=>by
  obtain ⟨h5,h6⟩:=xj0 h3;exact h6 (I.sr.inj i j B B' b h1 h5 h2 h4 ▸ hi)
 have keep:∀ {c:AV} {v:Value},Rel w G c ν J v->Rel w G' c ν J v:=fun {c v} h=>xdb hG (fun _ _=>rfl) (fun _=>Nat.le_refl _) _ (Names.le_refl _) (fun _ h=>.inl h) (fun _ _=>rfl) h
 have hlook:∀ i B,(fun i=>if K.contains i then xag σ.h i else none) i=some B->∃ b,ν.φ i=some b/\G' b/\xev w G ν J b B:=fun i B e=>by
  simp only at e;split at e
  ·rename_i hc;obtain ⟨b,h1,h2⟩:=I.sr.blk i B e;exact ⟨b,h1,.inr ⟨i,B,List.contains_iff_mem.1 hc,e,h1⟩,h2⟩
  ·cases e
 have hside:∀ {O:Nat->Prop} {n0 r:Nat} {o:Obj},(∀ b,Own ν σ.h b->O b)->Side w G J U N O n0 r o->Side w G' J U N (Own ν (fzT σ t).h) n0 r o:=fun hO' h=>
  ⟨h.new,h.at_,fun hg=>hg.elim h.g (fun hh=>h.o (hO' _ (hO _ hh))),h.j,h.u,h.n,fun ho=>h.o (hO' _ (hown _ ho))⟩
 refine ⟨ν,G',U,N,?_⟩;constructor
 ·exact ⟨fun i B hB=>by
      obtain ⟨h1,_⟩:=xj0 hB;obtain ⟨b,h2,h3⟩:=I.sr.blk i B h1;exact ⟨b,h2,xgg hG (fun _ _=>rfl) (fun _=>Nat.le_refl _) (fun _ _=>rfl) (Names.le_refl _) rfl h3⟩,
   fun i j B B' b h1 h2=>I.sr.inj i j B B' b (xj0 h1).1 (xj0 h2).1,
   fun i b h=>Nat.lt_of_lt_of_le (I.sr.dom i b h) (xdp _ _),
   fun b hb=>hb.elim (I.sr.glt b) (fun h=>I.sr.own_lt (hO b h)),I.sr.jlt,I.sr.nlt,
   fun b hb=>hb.elim (fun h ho=>I.sr.gown b h (hown b ho)) (hnot b),
   fun b hb ho=>I.sr.jown b hb (hown b ho),fun b hb ho=>I.sr.nown b hb (hown b ho),
   fun b hb hu=>hb.elim (fun h=>I.sr.gu b h hu) (fun h=>I.sr.nown b (I.sr.un b hu) (hO b h)),I.sr.ju,I.sr.un⟩
 ·refine xEu I.ts (fun c v hc hr=>?_) fun c v=>keep
  have:(σ.tmps[t]?).getD .und=c:=by rw [hc];rfl
  rw [this];exact xCy hG hlook xak c v hr
 ·exact hRM s w w G _ U N I.rs ⟨rfl,rfl⟩ (Nat.le_refl _) (fun _ _=>rfl) (fun _=>Nat.le_refl _) hG (fun _ _=>rfl) (fun b hb=>hb.imp_right fun h hn=>I.sr.nown b hn (hO b h)) (fun b hb=>hb.elim (I.sr.glt b) (fun h=>I.sr.own_lt (hO b h)))
 ·have E:=I.ext;exact ⟨E.size,E.keep,fun b hb=>E.own b (hown b hb),E.u,E.n,fun b hb=>.inl (E.g b hb),fun b hb=>hb.elim (E.g' b) (fun h=>(E.own b (hO b h)).elim (fun h=>.inr (.inl h)) (fun h=>.inr (.inr (.inr h)))),E.sz,E.env⟩
 ·exact I.first
 ·exact I.y
 ·exact Nat.le_trans I.len (xdp _ _)
 ·exact fun p hp=>hside (fun _ h=>h) (I.side p hp)
 ·exact fun d hd=>(I.marks d hd).imp_right fun ⟨r,e,h⟩=>⟨r,e,hside (fun _ h=>h) h⟩
 ·exact I.nd
 ·exact I.low
theorem xJu {look:Nat->Option Blk} {b':Nat} (hG:∀ b,G b->G' b) (hl:∀ i B,look i=some B->∃ b,ν.φ i=some b/\G' b/\xev w G ν J b B):∀ {cs:List AV} {o:Nat},xcf w G cs ν J b' o->xcf w G' (cs.map (fzk look xak)) ν J b' o
 | [],_,_=>by simp only [List.map_nil,xcf]
 | c :: cs,o,h=>by
   simp only [List.map_cons,xcf] at h ⊢;obtain ⟨h1,h2⟩:=h;refine ⟨?_,xJu hG hl h2⟩;obtain ⟨v,h3,h5,h4⟩:=h1;exact ⟨v,h3,h5,xCy hG hl xak c v h4⟩
theorem xJv {look:Nat->Option Blk} {b':Nat} (hG:∀ b,G b->G' b) (hl:∀ i B,look i=some B->∃ b,ν.φ i=some b/\G' b/\xev w G ν J b B):∀ {es:List (List AV)} {o s:Nat},xc2 w G es ν J b' o s->xc2 w G' (es.map fun e=>e.map (fzk look xak)) ν J b' o s
 | [],_,_,_=>by simp only [List.map_nil,xc2]
 | e :: es,o,s,h=>by
   simp only [List.map_cons,xc2] at h ⊢;exact ⟨by rw [List.length_map];exact h.1,xJu hG hl h.2.1,xJv hG hl h.2.2⟩
theorem xYx {S:Type} {RS:xcl S} (hRM:xd5 RS) {B:Base} {sd:List (Nat×Obj)} {σ:St} {s:S} {a:Act} {w:World} (I:Inv RS B J sd σ s a w) (t:Nat):Inv RS B J sd (fzI σ t) s a w:=by
 unfold fzI;split
 case h_2=>exact I
 rename_i i0 _ _ _ _ _;split
 case h_2=>exact I
 rename_i sz es hrow;split
 ·exact I
 rename_i hni;obtain ⟨ν,G,U,N,I⟩:=I
 let K:=xjq σ es
 have hni:i0 ∉ K:=fun h=>hni (List.contains_iff_mem.2 h)
 let σ':St:={ σ with h:=xcn (xb7 σ.h i0 (some (.row sz (xmq σ es) false))) (K.map fun i=>(i,none)) }
 let G':Nat->Prop:=fun b=>G b\/∃ i B,i∈K/\xag σ.h i=some B/\ν.φ i=some b
 have hG:∀ b,G b->G' b:=fun _ h=>.inl h
 have hO:∀ b,(∃ i B,i∈K/\xag σ.h i=some B/\ν.φ i=some b)->Own ν σ.h b:=fun b ⟨i,B,_,h1,h2⟩=>⟨i,B,h1,h2⟩
 -- a block of the new memory was one of the old
 have hold:∀ i B,xag σ'.h i=some B->i ∉ K/\((i=i0/\B=.row sz (xmq σ es) false)\/(i≠i0/\xag σ.h i=some B)):=fun i B h=>by
  obtain ⟨h1,h2⟩:=xj0 h;rw [xci] at h1;split at h1
  ·rename_i e;cases h1;exact ⟨h2,.inl ⟨e.symm,rfl⟩⟩
  ·rename_i e;exact ⟨h2,.inr ⟨fun h=>e h.symm,h1⟩⟩
 have hwas:∀ i B,xag σ'.h i=some B->∃ B',xag σ.h i=some B':=fun i B h=>by
  rcases (hold i B h).2 with ⟨rfl,-⟩ | ⟨-,h1⟩
  ·exact ⟨_,hrow⟩
  ·exact ⟨_,h1⟩
 have hown:∀ b,Own ν σ'.h b->Own ν σ.h b:=fun b ⟨i,B,h1,h2⟩=>by
  obtain ⟨B',h3⟩:=hwas i B h1;exact ⟨i,B',h3,h2⟩
 have hnot:∀ b,(∃ i B,i∈K/\xag σ.h i=some B/\ν.φ i=some b)->¬ Own ν σ'.h b:=fun b ⟨i,B,hi,h1,h2⟩ ⟨j,B',h3,h4⟩=>by
  obtain ⟨B'',h5⟩:=hwas j B' h3;exact (hold j B' h3).1 (I.sr.inj i j B B'' b h1 h5 h2 h4 ▸ hi)
 have keep:∀ {c:AV} {v:Value},Rel w G c ν J v->Rel w G' c ν J v:=fun {c v} h=>xdb hG (fun _ _=>rfl) (fun _=>Nat.le_refl _) _ (Names.le_refl _) (fun _ h=>.inl h) (fun _ _=>rfl) h
 have hlook:∀ i B,(fun i=>if K.contains i then xag σ.h i else none) i=some B->∃ b,ν.φ i=some b/\G' b/\xev w G ν J b B:=fun i B e=>by
  simp only at e;split at e
  ·rename_i hc;obtain ⟨b,h1,h2⟩:=I.sr.blk i B e;exact ⟨b,h1,.inr ⟨i,B,List.contains_iff_mem.1 hc,e,h1⟩,h2⟩
  ·cases e
 have hside:∀ {O:Nat->Prop} {n0 r:Nat} {o:Obj},(∀ b,Own ν σ.h b->O b)->Side w G J U N O n0 r o->Side w G' J U N (Own ν σ'.h) n0 r o:=fun hO' h=>
  ⟨h.new,h.at_,fun hg=>hg.elim h.g (fun hh=>h.o (hO' _ (hO _ hh))),h.j,h.u,h.n,fun ho=>h.o (hO' _ (hown _ ho))⟩
 have hlen:σ.h.length<=σ'.h.length:=Nat.le_trans (by rw [xeq];exact Nat.le_max_left _ _) (xdp _ _);have hmap:∀ {cs:List AV} {vs:List Value},xae w G cs ν J vs->xae w G' cs ν J vs:=by
  intro cs;induction cs with
  | nil=>intro vs h;simp only [xae] at h;subst h;exact xbh
  | cons c cs ih=>
    intro vs h;simp only [xae] at h;obtain ⟨u,us,rfl,h1,h2⟩:=h;exact xa6 (keep h1) (ih h2)
 refine ⟨ν,G',U,N,?_⟩;constructor
 ·exact ⟨fun i B hB=>by
      rcases (hold i B hB).2 with ⟨rfl,rfl⟩ | ⟨-,h1⟩
      ·obtain ⟨b,h2,h3⟩:=I.sr.blk i _ hrow;refine ⟨b,h2,?_⟩;obtain ⟨⟨cells,elem,h4,h5⟩,h6⟩:=h3;refine ⟨⟨cells,elem,h4,by unfold xmq;rw [List.length_map];exact h5⟩,?_⟩;exact xJv hG hlook h6
      ·obtain ⟨b,h2,h3⟩:=I.sr.blk i B h1;exact ⟨b,h2,xgg hG (fun _ _=>rfl) (fun _=>Nat.le_refl _) (fun _ _=>rfl) (Names.le_refl _) rfl h3⟩,
   fun i j B B' b h1 h2 h3 h4=>by
    obtain ⟨C1,k1⟩:=hwas i B h1;obtain ⟨C2,k2⟩:=hwas j B' h2;exact I.sr.inj i j C1 C2 b k1 k2 h3 h4,
   fun i b h=>Nat.lt_of_lt_of_le (I.sr.dom i b h) hlen,
   fun b hb=>hb.elim (I.sr.glt b) (fun h=>I.sr.own_lt (hO b h)),I.sr.jlt,I.sr.nlt,
   fun b hb=>hb.elim (fun h ho=>I.sr.gown b h (hown b ho)) (hnot b),
   fun b hb ho=>I.sr.jown b hb (hown b ho),fun b hb ho=>I.sr.nown b hb (hown b ho),
   fun b hb hu=>hb.elim (fun h=>I.sr.gu b h hu) (fun h=>I.sr.nown b (I.sr.un b hu) (hO b h)),I.sr.ju,I.sr.un⟩
 ·exact hmap I.ts
 ·exact hRM s w w G _ U N I.rs ⟨rfl,rfl⟩ (Nat.le_refl _) (fun _ _=>rfl) (fun _=>Nat.le_refl _) hG (fun _ _=>rfl) (fun b hb=>hb.imp_right fun h hn=>I.sr.nown b hn (hO b h)) (fun b hb=>hb.elim (I.sr.glt b) (fun h=>I.sr.own_lt (hO b h)))
 ·have E:=I.ext;exact ⟨E.size,E.keep,fun b hb=>E.own b (hown b hb),E.u,E.n,fun b hb=>.inl (E.g b hb),fun b hb=>hb.elim (E.g' b) (fun h=>(E.own b (hO b h)).elim (fun h=>.inr (.inl h)) (fun h=>.inr (.inr (.inr h)))),E.sz,E.env⟩
 ·exact I.first
 ·exact I.y
 ·exact Nat.le_trans I.len hlen
 ·exact fun p hp=>hside (fun _ h=>h) (I.side p hp)
 ·exact fun d hd=>(I.marks d hd).imp_right fun ⟨r,e,h⟩=>⟨r,e,hside (fun _ h=>h) h⟩
 ·exact I.nd
 ·exact I.low
theorem xoi {S:Type} {RS:xcl S} (hRM:xd5 RS) {B:Base} {sd:List (Nat×Obj)} {s:S} {a:Act} {w:World}:∀ (l:List Nat) {σ:St},Inv RS B J sd σ s a w->Inv RS B J sd (fzL l σ) s a w
 | [],_,I=>I
 | t :: l,_,I=>by
   unfold fzL;split
   ·exact xoi hRM l (xLv hRM I t)
   ·split
    ·exact xoi hRM l (xYx hRM I _)
    ·unfold fzC;split
     ·exact xoi hRM l I
     ·exact xoi hRM l (xLv hRM I _)
end
def xms:Ex->Exit
 | .normal=>.normal
 | .exit id=>.exit id
 | .ret=>.ret
 | .pan t=>.panic (xmj t)
section
variable {w w':World} {G G' J U U' N N':Nat->Prop} {ν ν':Names} {h nh:xap} {P:Program}
theorem xmz {ops:Array Oper} {ts:List AV} {a:Act} (hts:xae w G ts ν J a.tmps.toList) {o:Oper} {b:Bool} (hb:xhu ops ts o=some b):Region.wanted o (yielded ops a.tmps)=b:=by
 unfold xhu at hb;unfold Region.wanted;cases hg:o.guard with
 | none=>rw [hg] at hb;simpa using hb
 | some p =>
   obtain ⟨j,want⟩:=p;rw [hg] at hb;simp only at hb ⊢;unfold yielded;cases hd:(ops[j]?).bind (·.dst) with
   | none=>rw [hd] at hb;simp at hb
   | some d=>
     rw [hd] at hb;simp only [Option.bind_some] at hb ⊢;cases ht:ts[d]? with
     | none=>rw [ht] at hb;simp at hb
     | some c=>
       rw [ht] at hb;obtain ⟨v,hv,hr⟩:=xk5 hts ht;have hv':a.tmps[d]?=some v:=by simpa using hv
       rw [hv'];cases c <;> simp only [reduceCtorEq,Option.some.injEq] at hb
       case bool x=>
        simp only [Rel] at hr;subst hr;subst hb;simp only [Bool.beq_eq_decide_eq];cases x <;> cases want <;> decide
       case und=>
        simp only [Rel] at hr;subst hr;subst hb;simp [undef]
theorem xYb {ts:List AV} {vs:List Value} {d:Option Tmp} {v:AV} (hv:∀ u,Rel w G v ν J u) (h:xae w G ts ν J vs):xae w G (put d v ts) ν J vs:=by
 cases d with
 | none=>exact h
 | some i=>
   simp only [put];induction ts generalizing vs i with
   | nil=>exact h
   | cons c cs ih=>
     simp only [xae] at h;obtain ⟨u,us,rfl,h1,h2⟩:=h;cases i with
     | zero=>exact xa6 (hv u) h2
     | succ i=>exact xa6 h1 (ih h2 i)
theorem xxn {C:Cfg} (hC:∀ t T,C.ty t=some T->xcc C.P t=some T) {call:xb6} (hCall:xf3 C.P call) (hExt:xkr C) {F:Fence} (hF:xel F) {S:Type} {RS:xcl S} (hRM:xd5 RS) {H:Option (Hd S)}
    {B:Base} {sd:List (Nat×Obj)} (hH:HSO C.P RS H B.y) {σ:St} {s:S} {a:Act} (I:Inv RS B J sd σ s a w) {ops:Array Oper} {o:Oper} {e:Ex} {σ':St} {s':S} (hs:xzd C call H ops o σ s=some (e,σ',s'))
    {K:Act->World->Prop} (hK:e=.normal->∀ a' w',Inv RS B J sd σ' s' a' w'->K a' w') {Q:Exit->Act->World->Prop} (hQ:∀ t,e=.pan t->∀ a' w',Inv RS B J sd σ' s' a' w'->Q (.panic (xmj t)) a' w') :
    if Region.wanted o (yielded ops a.tmps)=true then o.wpIn F 0 C.P a w K Q else (∀ f,o.about C.P w a.eval=some f->F.fn f)/\K (a.put o.dst undef) w:=by
 obtain ⟨ν,G,U,N,I⟩:=I;have hdf:∀ u,(a.put o.dst u).defers=a.defers:=fun u=>by cases o.dst <;> rfl
 unfold xzd at hs;split at hs
 ·cases hs
 ·rename_i hw;cases hs;rw [xmz I.ts hw];simp only [Bool.false_eq_true,if_false];refine ⟨fun f _=>hF.fn f,hK rfl _ _ ⟨ν,G,U,N,I.sr,xk9 I.ts o.dst (by simp only [Rel]),I.rs,I.ext,I.first,I.y,I.len,I.side,?_,?_,?_⟩⟩
  ·rw [hdf];exact I.marks
  ·rw [hdf];exact I.nd
  ·rw [hdf];exact I.low
 ·rename_i hw;rw [xmz I.ts hw];simp only [if_true];split at hs
  ·cases hs
  rename_i ma hp;split at hs
  ·cases hs
  rename_i r ha;cases hs;have inv:∀ {u:Value} {w':World},xir RS w G J U N ν σ.h σ.h.length r u w'->∀ a':Act,a'.defers=a.defers->(∀ {ν':Names} {G':Nat->Prop},xae w' G' σ.tmps ν' J a.tmps.toList->Rel w' G' r.v ν' J u->xae w' G' (put o.dst (vA ma r.v) σ.tmps) ν' J a'.tmps.toList) ->
      Inv RS B J sd { tmps:=put o.dst (vA ma r.v) σ.tmps,h:=xdn (xcn σ.h r.ups) σ.h.length r.news } r.s a' w':=by
   rintro u w' ⟨ν',G',U',N',h1,h2,h3,h4,h5,h6,h7⟩ a' had hat
   refine ⟨ν',G',U',N',h1,hat (I.sr.relL h5 h2 I.ts) h4,h6,I.ext.trans h5,fun i hi=>?_,h3.trans I.y,?_,fun p hp=>(I.side p hp).ext h5,?_,?_,?_⟩
   ·rw [<- I.first i hi];apply Classical.byContradiction;intro hne;have:=(h7 i hne).1;have:=I.len;omega
   ·exact Nat.le_trans I.len (Nat.le_trans (xdp _ _) (xgm _ _ _))
   ·rw [had];exact fun d hd=>(I.marks d hd).imp_right fun ⟨r,e,h⟩=>⟨r,e,h.ext h5⟩
   ·rw [had];exact I.nd
   ·rw [had];exact I.low
  refine Oper.wpIn_mono (K:=fun a' w'=>exA ma r.v=.normal/\∃ u,a'=a.put o.dst u/\xir RS w G J U N ν σ.h σ.h.length r u w') ?_ (xWp hC hCall hExt hF hRM (by rw [I.y];exact hH) I.sr I.ts I.rs (fun _ _ h=>h) hp (fun j h1 h2=>I.sr.fresh h1) ha
   fun t w' ht hA=>hQ t ht _ _ (inv hA a rfl fun h1 _=>xYb (fun u=>by rw [show vA ma r.v=.any by unfold vA;rw [ht]];simp only [Rel]) h1))
  rintro a' w' ⟨hn,u,rfl,hA⟩
  exact hK hn _ _ (inv hA _ (hdf u) fun h1 h2=>xk9 h1 o.dst (by rw [show vA ma r.v=r.v by unfold vA;rw [hn]];exact h2))
theorem xwx {C:Cfg} (hC:∀ t T,C.ty t=some T->xcc C.P t=some T) {call:xb6} (hCall:xf3 C.P call) (hExt:xkr C) {F:Fence} (hF:xel F) {S:Type} {RS:xcl S} (hRM:xd5 RS) {H:Option (Hd S)}
    {B:Base} {sd:List (Nat×Obj)} (hH:HSO C.P RS H B.y) {ops:Array Oper} {e:Ex} {σ':St} {s':S} {Q:Exit->Act->World->Prop} (hQ:∀ a' w',Inv RS B J sd σ' s' a' w'->Q (xms e) a' w') :
    ∀ (rest:List Oper) (k:Nat),ops.toList.drop k=rest->∀ (σ:St) (s:S) (a:Act) (w:World),Inv RS B J sd σ s a w->xnq C call H ops rest σ s=some (e,σ',s') ->
      wpOpsIn F 0 C.P ops Q ((List.range ops.size).drop k) a w
 | [],k,hd,σ,s,a,w,I,hr=>by
   have hk:ops.size<=k:=by simpa using hd
   rw [List.drop_eq_nil_of_le (by rw [List.length_range];exact hk)];simp only [xnq,Option.some.injEq,Prod.mk.injEq] at hr;obtain ⟨rfl,rfl,rfl⟩:=hr;exact hQ a w I
 | o :: rest,k,hd,σ,s,a,w,I,hr=>by
   have hk:k<ops.size:=by
    apply Classical.byContradiction;intro hk;rw [List.drop_eq_nil_of_le (by simpa using hk)] at hd;cases hd
   have ho:ops[k]?=some o:=by
    have:=congrArg (·[0]?) hd;simpa using this
   have hd':ops.toList.drop (k+1)=rest:=by
    have:=congrArg List.tail hd;simpa using this
   have hrange:(List.range ops.size).drop k=k::(List.range ops.size).drop (k+1):=by
    rw [List.drop_eq_getElem_cons (by rw [List.length_range];exact hk),List.getElem_range]
   rw [hrange];simp only [wpOpsIn,ho];simp only [xnq] at hr;have I:=xoi hRM (C.fzo o) I;split at hr
   ·rename_i σ1 s1 hs;have:=xxn hC hCall hExt hF hRM hH I hs (K:=wpOpsIn F 0 C.P ops Q ((List.range ops.size).drop (k+1))) (fun _ a' w' I'=>xwx hC hCall hExt hF hRM hH hQ rest (k+1) hd' σ1 s1 a' w' I' hr) (Q:=Q) (fun t e=>by cases e);exact this
   ·rename_i hne;exact xxn hC hCall hExt hF hRM hH I hr (K:=wpOpsIn F 0 C.P ops Q ((List.range ops.size).drop (k+1))) (fun e=>by subst e;exact (hne _ _ hr).elim) (Q:=Q) (fun t e a' w' I'=>by subst e;exact hQ a' w' I')
theorem xwy {C:Cfg} (hC:∀ t T,C.ty t=some T->xcc C.P t=some T) {call:xb6} (hCall:xf3 C.P call) (hExt:xkr C) {F:Fence} (hF:xel F) {S:Type} {RS:xcl S} (hRM:xd5 RS) {H:Option (Hd S)}
    {B:Base} {sd:List (Nat×Obj)} (hH:HSO C.P RS H B.y) {ops:Array Oper} {σ':St} {s':S} {m:Nat} {tail:List Oper} {Q:Exit->Act->World->Prop} (hQ:∀ a' w',Inv RS B J sd σ' s' a' w'->wpOpsIn F 0 C.P ops Q ((List.range ops.size).drop m) a' w') :
    ∀ (rest:List Oper) (k:Nat),ops.toList.drop k=rest++tail->k+rest.length=m->∀ (σ:St) (s:S) (a:Act) (w:World),Inv RS B J sd σ s a w->xnq C call H ops rest σ s=some (.normal,σ',s') ->
      wpOpsIn F 0 C.P ops Q ((List.range ops.size).drop k) a w
 | [],k,hd,hm,σ,s,a,w,I,hr=>by
   simp only [xnq,Option.some.injEq,Prod.mk.injEq] at hr;obtain ⟨-,rfl,rfl⟩:=hr;have:k=m:=by simpa using hm
   rw [this];exact hQ a w I
 | o :: rest,k,hd,hm,σ,s,a,w,I,hr=>by
   have hk:k<ops.size:=by
    apply Classical.byContradiction;intro hk;rw [List.drop_eq_nil_of_le (by simpa using hk)] at hd;cases hd
   have ho:ops[k]?=some o:=by
    have:=congrArg (·[0]?) hd;simpa using this
   have hd':ops.toList.drop (k+1)=rest++tail:=by
    have:=congrArg List.tail hd;simpa using this
   have hrange:(List.range ops.size).drop k=k::(List.range ops.size).drop (k+1):=by
    rw [List.drop_eq_getElem_cons (by rw [List.length_range];exact hk),List.getElem_range]
   rw [hrange];simp only [wpOpsIn,ho];simp only [xnq] at hr;have I:=xoi hRM (C.fzo o) I;split at hr
   ·rename_i σ1 s1 hs;have:=xxn hC hCall hExt hF hRM hH I hs (K:=wpOpsIn F 0 C.P ops Q ((List.range ops.size).drop (k+1))) (fun _ a' w' I'=>xwy hC hCall hExt hF hRM hH hQ rest (k+1) hd' (by simp at hm;omega) σ1 s1 a' w' I' hr) (Q:=Q) (fun t e=>by cases e);exact this
   ·rename_i hne;exact (hne _ _ hr).elim
theorem xKk {b:Frame} {a:Act} {k:List Item} {cs:List Frame} {c:Code}:step P (lone (b.atR a (.code (.scope c)::k)) cs w)=.next (lone (b.atR a (.code c::.inScope c::k)) cs w):=
 step_lone_go (by simp [stepG,stepG.exec,Frame.atR])
theorem xE1 {b:Frame} {a:Act} {k:List Item} {cs:List Frame} {c:Code}:step P (lone (b.atR a (.inScope c::k)) cs w)=.next (lone (b.atR a k) cs w):=
 step_lone_go (by simp [stepG,stepG.exec,Frame.atR])
theorem xMi {F:Fence} {n:Nat} {Q:Exit->Act->World->Prop} {c:Code} {a:Act} (h:c.wpIn F n P (fun x a w=>(∀ l,x≠.goto l)/\Q x a w) a w):(Code.scope c).wpIn F n P Q a w:=by
 intro b k cs hro hb hr;obtain ⟨e,a₁,w₁,⟨hg,hq⟩,harr⟩:=h b (.inScope c::k) cs hro hb hr;have first:=fun {e:Exit} {a₁ w₁} (h:ArrivesIn (Machine.fenced P F) P (lone (b.atR a (.code c::.inScope c::k)) cs w) b k cs e a₁ w₁)=>ArrivesIn.of_steps (.one (fenced_calm (fr:=b.atR a (.code (.scope c)::k)) hb hr rfl) xKk) h
 cases e with
 | normal=>exact ⟨_,a₁,w₁,hq,first (StepsIn.trans harr (.one (fenced_calm hb hr rfl) xE1))⟩
 | exit id=>exact ⟨_,a₁,w₁,hq,first ⟨fun k' hk=>harr.1 k' (by simpa [exitTo] using hk),fun hr' hk=>harr.2 hr' (by simpa [exitTo] using hk)⟩⟩
 | goto l=>exact absurd rfl (hg l)
 | ret=>exact ⟨_,a₁,w₁,hq,first harr⟩
 | panic ch=>exact ⟨_,a₁,w₁,hq,first harr⟩
 | outgrown=>exact ⟨_,a₁,w₁,hq,first harr⟩
theorem xKi {F:Fence} {n:Nat} {Q:Exit->Act->World->Prop} {c:Code} (I:Nat->Act->World->Prop) (round:∀ j a w,I j a w->c.wpIn F n P (Exit.then (fun a' w'=>∃ j',j'<j/\I j' a' w') Q) a w) {j:Nat} {a:Act} {w:World} (h₀:I j a w) :
    (Code.loop c).wpIn F n P Q a w:=by
 intro b k cs hro hb hr;have key:∀ j a w,I j a w->∃ e a' w',Q e a' w'/\ArrivesIn (Machine.fenced P F) P (lone (b.atR a (.code c::.inLoop c::k)) cs w) b k cs e a' w':=by
  intro j;induction j using Nat.strongRecOn with
  | _ j ih=>
    intro a w hI;obtain ⟨e,a₁,w₁,hq,harr⟩:=round j a w hI b (.inLoop c::k) cs hro hb hr;cases e with
    | normal=>
      obtain ⟨j',hlt,hI₁⟩:=hq;obtain ⟨e₂,a₂,w₂,hq₂,harr₂⟩:=ih j' hlt a₁ w₁ hI₁;exact ⟨e₂,a₂,w₂,hq₂,.of_steps (StepsIn.trans harr (.one (fenced_calm hb hr rfl) stepR_inLoop)) harr₂⟩
    | exit id=>exact ⟨_,a₁,w₁,hq,.pass (x:=.inLoop c) rfl (fun _ _=>.inl (by simp)) harr⟩
    | goto l=>exact ⟨_,a₁,w₁,hq,.pass (x:=.inLoop c) rfl (fun _ _=>.inl (by simp)) harr⟩
    | ret=>exact ⟨_,a₁,w₁,hq,.pass (x:=.inLoop c) rfl (fun _ _=>.inl (by simp)) harr⟩
    | panic ch=>exact ⟨_,a₁,w₁,hq,.pass (x:=.inLoop c) rfl (fun _ _=>.inl (by simp)) harr⟩
    | outgrown=>exact ⟨_,a₁,w₁,hq,.pass (x:=.inLoop c) rfl (fun _ _=>.inl (by simp)) harr⟩
 obtain ⟨e,a',w',hq,harr⟩:=key _ a w h₀;exact ⟨e,a',w',hq,.of_steps (.one (fenced_calm hb hr rfl) stepR_loop) harr⟩
end
section
variable {w w':World} {G G' J U U' N N':Nat->Prop} {ν ν':Names} {h nh:xap} {P:Program}
variable {S:Type} {RS:xcl S} {B:Base} {sd:List (Nat×Obj)} {σ:St} {s:S} {a:Act}
def xvh (B:Base) (J U N:Nat->Prop) (O:Nat->Prop) (sd:List (Nat×Obj)) (ds:List Deferred) (b:Nat):Prop:=
 U b\/O b\/N b\/J b\/(b<B.w.heap.size/\¬ B.O b)\/(∃ p∈sd,p.1=b)\/∃ d∈ds,d=xeh b
theorem Inv1.on (I:Inv1 RS B J sd σ s a w ν G U N) (hRM:xd5 RS) (henv:w'.os=w.os/\w'.output=w.output) (hsize:w.heap.size<=w'.heap.size) (hs:∀ b,xbq w b<=xbq w' b) (hgg:∀ b,G b->G' b) (hG:∀ b,G b->w'.heap[b]?=w.heap[b]?)
    (hlt:∀ b,G' b->b<w'.heap.size) (hk:∀ b,xvh B J U N (Own ν σ.h) sd a.defers b->b<w.heap.size->w'.heap[b]?=w.heap[b]?) (hg:∀ b,G' b->G b\/¬ xvh B J U N (Own ν σ.h) sd a.defers b) :
    Inv1 RS B J sd σ s a w' ν G' U N:=by
 have hU:∀ b,U b->w'.heap[b]?=w.heap[b]?:=fun b hb=>hk b (.inl hb) (I.sr.nlt b (I.sr.un b hb))
 have hO:∀ b,Own ν σ.h b->w'.heap[b]?=w.heap[b]?:=fun b hb=>hk b (.inr (.inl hb)) (I.sr.own_lt hb)
 have hN:∀ b,N b->w'.heap[b]?=w.heap[b]?:=fun b hb=>hk b (.inr (.inr (.inl hb))) (I.sr.nlt b hb)
 have hJ:∀ b,J b->w'.heap[b]?=w.heap[b]?:=fun b hb=>hk b (.inr (.inr (.inr (.inl hb)))) (I.sr.jlt b hb)
 have side:∀ n0 r o,(∀ b,r=b->xvh B J U N (Own ν σ.h) sd a.defers b)->Side w G J U N (Own ν σ.h) n0 r o->Side w' G' J U N (Own ν σ.h) n0 r o:=fun n0 r o hn hsd=>
  ⟨hsd.new,(hk r (hn r rfl) (Array.getElem?_eq_some_iff.1 hsd.at_).1).trans hsd.at_,fun hg'=>(hg r hg').elim hsd.g (fun h=>h (hn r rfl)),hsd.j,hsd.u,hsd.n,hsd.o⟩
 constructor
 ·constructor
  ·intro i B' hB;obtain ⟨b,hb,hr⟩:=I.sr.blk i B' hB;exact ⟨b,hb,xgg hgg hG hs hJ (Names.le_refl _) (hO b (xJs hB hb)) hr⟩
  ·exact I.sr.inj
  ·exact I.sr.dom
  ·exact hlt
  ·exact fun b hb=>Nat.lt_of_lt_of_le (I.sr.jlt b hb) hsize
  ·exact fun b hb=>Nat.lt_of_lt_of_le (I.sr.nlt b hb) hsize
  ·exact fun b hb ho=>(hg b hb).elim (fun h=>I.sr.gown b h ho) (fun h=>h (.inr (.inl ho)))
  ·exact I.sr.jown
  ·exact I.sr.nown
  ·exact fun b hb hu=>(hg b hb).elim (fun h=>I.sr.gu b h hu) (fun h=>h (.inl hu))
  ·exact I.sr.ju
  ·exact I.sr.un
 ·exact xc1 hgg hG hs _ (Names.le_refl _) (fun _ h=>.inl h) hJ I.ts
 ·exact hRM s w w' G G' U N I.rs henv hsize hN hs hgg hG (fun b hb=>(hg b hb).imp_right (fun h hn=>h (.inr (.inr (.inl hn))))) hlt
 ·have E:=I.ext;refine ⟨Nat.le_trans E.size hsize,fun b h1 h2 h3=>?_,E.own,E.u,E.n,fun b hb=>hgg b (E.g b hb),fun b hb=>?_,fun b=>Nat.le_trans (E.sz b) (hs b),henv.1.trans E.env.1,henv.2.trans E.env.2⟩
  ·exact (hk b (.inr (.inr (.inr (.inr (.inl ⟨h1,h2⟩))))) (Nat.lt_of_lt_of_le h1 E.size)).trans (E.keep b h1 h2 h3)
  ·rcases hg b hb with h | h
   ·exact E.g' b h
   ·by_cases hlt:b<B.w.heap.size
    ·by_cases ho:B.O b
     ·exact .inr (.inl ho)
     ·exact absurd (.inr (.inr (.inr (.inr (.inl ⟨hlt,ho⟩))))) h
    ·exact .inr (.inr (.inr (by omega)))
 ·exact I.first
 ·exact I.y
 ·exact I.len
 ·exact fun p hp=>side _ _ _ (fun b e=>.inr (.inr (.inr (.inr (.inr (.inl ⟨p,hp,e⟩)))))) (I.side p hp)
 ·exact fun d hd=>(I.marks d hd).imp_right fun ⟨r,e,h⟩=>⟨r,e,side _ r _ (fun b e'=>.inr (.inr (.inr (.inr (.inr (.inr ⟨d,hd,e' ▸ e⟩)))))) h⟩
 ·exact I.nd
 ·exact I.low
end
section
variable {w w':World} {G G' J Jc U U' Uc N N' Nc:Nat->Prop} {ν ν' νc:Names} {h yh nh:xap} {P:Program}
variable {S:Type} {RS:xcl S} {B:Base} {sd:List (Nat×Obj)} {σ:St} {s:S} {a:Act}
def Names.join (ν νc:Names) (m n:Nat):Names:=⟨fun j=>if m<=j then (if j<m+n then νc.φ (j - m) else Option.none) else ν.φ j,ν.y⟩
theorem xjm {m n i:Nat} (hi:i<n):(ν.join νc m n).φ (m+i)=νc.φ i:=by
 simp only [Names.join];rw [if_pos (by omega),if_pos (by omega),show m+i - m=i by omega]
theorem xij {m n i:Nat} (hi:i<m):(ν.join νc m n).φ i=ν.φ i:=by
 simp only [Names.join];rw [if_neg (by omega)]
theorem xHf {n m i i':Nat} (h:xgh n m i=some i'):i<n/\i'=m+i:=by
 unfold xgh at h;split at h
 ·cases h;exact ⟨by assumption,rfl⟩
 ·cases h
abbrev xer (h yh:xap):xap:=h++yh.map fun b=>b.map (mvB false false (xgh yh.length h.length))
theorem xp0 {j:Nat} {B:Blk} (e:xag (xer h yh) j=some B):(j<h.length/\xag h j=some B)\/∃ i B0,i<yh.length/\j=h.length+i/\xag yh i=some B0/\B=mvB false false (xgh yh.length h.length) B0:=by
 unfold xer xag at e;rw [List.getElem?_append] at e;split at e
 ·rename_i hlt;exact .inl ⟨hlt,e⟩
 ·rename_i hge;have e':xag (yh.map fun b=>b.map (mvB false false (xgh yh.length h.length))) (j - h.length)=some B:=e;rw [xo5,Option.map_eq_some_iff] at e';obtain ⟨B0,h0,rfl⟩:=e';exact .inr ⟨j - h.length,B0,xU2 h0,by omega,h0,rfl⟩
theorem xox (Sr:SR w G J U N ν h) {b:Nat} (ho:Own (ν.join νc h.length yh.length) (xer h yh) b):Own ν h b\/Own νc yh b:=by
 have _:=Sr;obtain ⟨j,B,h1,h2⟩:=ho;rcases xp0 h1 with ⟨hlt,h3⟩ | ⟨i,B0,hi,rfl,h3,-⟩
 ·rw [xij hlt] at h2;exact .inl ⟨j,B,h3,h2⟩
 ·rw [xjm hi] at h2;exact .inr ⟨i,B0,h3,h2⟩
theorem xIj:∀ i i',xgh yh.length h.length i=some i'->∀ b,νc.φ i=some b->(ν.join νc h.length yh.length).φ i'=some b:=by
 intro i i' hr b hb;obtain ⟨hi,rfl⟩:=xHf hr;rw [xjm hi];exact hb
theorem xLp (Sr:SR w G J U N ν h):ν.le (ν.join νc h.length yh.length):=
 ⟨fun i b hb=>by rw [xij (Sr.dom i b hb)];exact hb,fun _ h=>h⟩
theorem xX5 (Sr:SR w G J U N ν h) (Sy:SR w G Jc Uc Nc νc yh) (hdis:∀ b,Own νc yh b->¬ Own ν h b) (hJ:∀ b,J b->¬ Own νc yh b) (hN:∀ b,N b->¬ Own νc yh b) :
    SR w G J U N (ν.join νc h.length yh.length) (xer h yh) where
 blk j B hj:=by
  rcases xp0 hj with ⟨hlt,h3⟩ | ⟨i,B0,hi,rfl,h3,rfl⟩
  ·obtain ⟨b,hb,hB⟩:=Sr.blk j B h3;exact ⟨b,by rw [xij hlt];exact hb,xgg (fun _ h=>h) (fun _ _=>rfl) (fun _=>Nat.le_refl _) (fun _ _=>rfl) (xLp Sr) rfl hB⟩
  ·obtain ⟨b,hb,hB⟩:=Sy.blk i B0 h3;exact ⟨b,by rw [xjm hi];exact hb,xlk xIj (fun h=>by cases h) (fun h=>by cases h) hB⟩
 inj j k B1 B2 b h1 h2 h3 h4:=by
  rcases xp0 h1 with ⟨hlt,h5⟩ | ⟨i,B0,hi,rfl,h5,-⟩ <;> rcases xp0 h2 with ⟨hlt',h6⟩ | ⟨i',B0',hi',rfl,h6,-⟩
  ·rw [xij hlt] at h3;rw [xij hlt'] at h4;exact Sr.inj j k _ _ b h5 h6 h3 h4
  ·rw [xij hlt] at h3;rw [xjm hi'] at h4;exact absurd ⟨j,B1,h5,h3⟩ (hdis b ⟨i',B0',h6,h4⟩)
  ·rw [xjm hi] at h3;rw [xij hlt'] at h4;exact absurd ⟨k,B2,h6,h4⟩ (hdis b ⟨i,B0,h5,h3⟩)
  ·rw [xjm hi] at h3;rw [xjm hi'] at h4;rw [Sy.inj i i' _ _ b h5 h6 h3 h4]
 dom j b hj:=by
  simp only [xer,List.length_append,List.length_map];simp only [Names.join] at hj;split at hj
  ·split at hj
   ·assumption
   ·cases hj
  ·have:=Sr.dom j b hj;omega
 glt:=Sr.glt
 jlt:=Sr.jlt
 nlt:=Sr.nlt
 gown b hb ho:=(xox Sr ho).elim (Sr.gown b hb) (Sy.gown b hb)
 jown b hb ho:=(xox Sr ho).elim (Sr.jown b hb) (hJ b hb)
 nown b hb ho:=(xox Sr ho).elim (Sr.nown b hb) (hN b hb)
 gu:=Sr.gu
 ju:=Sr.ju
 un:=Sr.un
theorem xta:∀ (ps:List Tmp) (vs:List AV) (us:List Value) (ts:List AV) (tmps:Array Value),xae w G vs ν J us->xae w G ts ν J tmps.toList ->
    xae w G (xfc ps vs ts) ν J ((ps.zip us).foldl (fun tmps p=>tmps.setIfInBounds p.1 p.2) tmps).toList
 | [],vs,us,ts,tmps,_,h=>by simpa [xfc] using h
 | p :: ps,[],us,ts,tmps,hv,h=>by
   simp only [xae] at hv;subst hv;simpa [xfc] using h
 | p :: ps,v::vs,us,ts,tmps,hv,h=>by
   simp only [xae] at hv;obtain ⟨u,us',rfl,h1,h2⟩:=hv;simp only [xfc,List.zip_cons_cons,List.foldl_cons];exact xta ps vs us' (ts.set p v) (tmps.setIfInBounds p u) h2 (by rw [Array.toList_setIfInBounds];exact xys p h h1)
def xla (ds:List Deferred):List (Nat×Obj):=ds.filterMap fun d=>match d.target with
 | .collected r=>some (r,.deferred (some []))
 | _=>none
theorem xNu {ds:List Deferred} {r:Nat} (h:xeh r∈ds):(r,Obj.deferred (some []))∈xla ds:=
 List.mem_filterMap.2 ⟨xeh r,h,rfl⟩
theorem xzz {ds:List Deferred} (hd:∀ d∈ds,(∃ fv cap,d.target=.fn fv cap)\/∃ r,d=xeh r) {p:Nat×Obj} (h:p∈xla ds):xeh p.1∈ds/\p.2=.deferred (some []):=by
 obtain ⟨d,hm,he⟩:=List.mem_filterMap.1 h;rcases hd d hm with ⟨fv,cap,e⟩ | ⟨r,rfl⟩
 ·rw [e] at he;cases he
 ·cases he;exact ⟨hm,rfl⟩
theorem xt0 {l:Nat} {r:Loop} {o:Obj} (hl:w.heap[l]?=some (.loop r)):∀ b,xbq w b<=xbq (w.putObj l o) b:=fun b=>by
 by_cases e:b=l
 ·subst e;rw [xbq,hl];exact Nat.zero_le _
 ·rw [xbq,xbq,World.putObj_heap_other e];exact Nat.le_refl _
theorem Inv1.change (I:Inv1 RS B J sd σ s a w ν G U N) (hRM:xd5 RS) {l:Nat} {r:Loop} (hl:w.heap[l]?=some (.loop r)) (h1:¬ G l) (h2:¬ J l) (h3:¬ U l) (h4:¬ N l) (h5:¬ Own ν σ.h l) {sd':List (Nat×Obj)} (hsd:∀ p∈sd',p∈sd/\p.1≠l)
    {o:Obj} {a':Act} (hat:a'.tmps=a.tmps) (had:∀ d∈a'.defers,d∈a.defers/\d≠xeh l) (hnd:a'.defers.Pairwise (·≠·)) {B':Base} (hB:B'=⟨w.putObj l o,G,U,N,Own ν σ.h,ν.φ,ν.y,B'.k,B'.n0,B'.ds,B'.dp⟩) (hk:B'.k<=σ.h.length) (hn0:a'.defers≠[]->B'.n0<=B.n0) (hds:∀ d∈B.ds,d∈B'.ds) (hdp:B'.dp a'.defers) :
    Inv1 RS B' J sd' σ s a' (w.putObj l o) ν G U N:=by
 have I0:Inv1 RS ⟨w,G,U,N,fun _=>True,ν.φ,ν.y,B'.k,B'.n0,B'.ds,B'.dp⟩ J sd' σ s a' w ν G U N:=
  ⟨I.sr,by rw [hat];exact I.ts,I.rs,⟨Nat.le_refl _,fun _ _ _ _=>rfl,fun _ _=>.inl trivial,fun _ h=>.inl h,fun _ h=>.inl h,fun _ h=>h,fun _ h=>.inl h,fun _=>Nat.le_refl _,rfl,rfl⟩,fun _ _=>rfl,rfl,hk,
   fun p hp=>I.side p (hsd p hp).1,fun d hd=>(I.marks d (had d hd).1).imp (hds d) fun ⟨r,e,h⟩=>⟨r,e,⟨Nat.le_trans (hn0 (List.ne_nil_of_mem hd)) h.new,h.at_,h.g,h.j,h.u,h.n,h.o⟩⟩,hnd,hdp⟩
 have hne:∀ b,xvh ⟨w,G,U,N,fun _=>True,ν.φ,ν.y,B'.k,B'.n0,B'.ds,B'.dp⟩ J U N (Own ν σ.h) sd' a'.defers b->b≠l:=by
  rintro b (h | h | h | h | h | h | h) rfl
  ·exact h3 h
  ·exact h5 h
  ·exact h4 h
  ·exact h2 h
  ·exact h.2 trivial
  ·obtain ⟨p,hp,e⟩:=h;exact (hsd p hp).2 e
  ·obtain ⟨d,hd,e⟩:=h;exact (had d hd).2 e
 have I1:=I0.on (w':=w.putObj l o) (G':=G) hRM ⟨rfl,rfl⟩ (by rw [World.putObj_size];exact Nat.le_refl _) (xt0 hl) (fun _ h=>h) (fun b hb=>World.putObj_heap_other (fun e=>h1 (e ▸ hb))) (fun b hb=>by rw [World.putObj_size];exact I.sr.glt b hb)
  (fun b hb _=>World.putObj_heap_other (hne b hb)) (fun b hb=>.inl hb)
 rw [hB];exact ⟨I1.sr,I1.ts,I1.rs,Ext.refl ..,fun _ _=>rfl,rfl,I1.len,I1.side,I1.marks,I1.nd,I1.low⟩
theorem Ext.put {l:Nat} {r:Loop} (hl:w.heap[l]?=some (.loop r)) (o:Obj) (G U N O:Nat->Prop):Ext w (w.putObj l o) G G (fun b=>U b\/b=l) (fun b=>U b\/b=l) N N O O:=
 ⟨by rw [World.putObj_size];exact Nat.le_refl _,fun b _ _ h3=>World.putObj_heap_other (fun e=>h3 (.inr e)),fun _ h=>.inl h,fun _ h=>.inl h,fun _ h=>.inl h,fun _ h=>h,fun _ h=>.inl h,xt0 hl,rfl,rfl⟩
theorem Ext.widen {w w':World} {G G' U U' N N' O O':Nat->Prop} (E:Ext w w' G G' U U' N N' O O') (l:Nat):Ext w w' G G' (fun b=>U b\/b=l) (fun b=>U' b\/b=l) N N' O O':=
 ⟨E.size,fun b h1 h2 h3=>E.keep b h1 h2 (fun h=>h3 (.inl h)),E.own,fun b hb=>hb.elim (fun h=>(E.u b h).imp_left .inl) (fun h=>.inl (.inr h)),E.n,E.g,fun b hb=>(E.g' b hb).imp_right (fun h=>h.imp_right (fun h=>h.imp_left .inl)),E.sz,E.env⟩
end
section
variable {w w':World} {G G' J Jc U U' Uc N N' Nc:Nat->Prop} {ν ν' νc:Names} {h yh nh:xap} {P:Program}
variable {S:Type} {RS:xcl S} {B:Base} {sd:List (Nat×Obj)} {σ:St} {s:S} {a:Act}
def xl9:Ex->Option Code
 | .normal=>none
 | .exit id=>some (.exit id)
 | .ret=>some .ret
 | .pan _=>none
def xkf:Ex->Bool
 | .pan _=>false
 | _=>true
def yhh (B:Base) (c:Code):Prop:=(∀ d∈B.ds,∃ fv cap,d.target=.fn fv cap)/\(xea c=true->∀ r ds,B.dp ds->B.dp (xeh r::ds))
def xrr (C:Cfg) (call:xb6) (f:FuncId) {S:Type} (RS:xcl S) (H:Option (Hd S)) (c:Code):Prop:=
 ∀ (F:Fence) (B:Base) (J:Nat->Prop) (sd:List (Nat×Obj)) (σ:St) (s:S) (a:Act) (w:World) (e:Ex) (σ':St) (s':S),xel F->(∀ l,F.round=some l->∃ rec,(l,Obj.loop rec)∈sd)->HSO C.P RS H B.y->B.n0<=B.w.heap.size->yhh B c ->
   Inv RS B J sd σ s a w->xbs C call f B.k H c σ s=some (e,σ',s')->c.wpIn F 0 C.P (fun x a' w'=>x=xms e/\Inv RS B J sd σ' s' a' w') a w
def xfn (fn:FuncId) (tmps:Array Value) (ps:Array Tmp) (assign body:Code) (d:Nat) (pend:Option Ex):Loop:=
 { state:=if pend.isNone then .ready else .done,pending:=pend.bind xl9,fn,tmps,params:=ps,assign,body,defers:=d }
def RSr {S:Type} (RS:xcl S) (B:Base) (J:Nat->Prop) (sd:List (Nat×Obj)) (a:Act) (l:Nat) (rc:Option Ex->Loop):xcl (St×Option Ex×S):=fun st w G U N=>
 ∃ ν Uo No,Inv1 RS B J sd st.1 st.2.2 a w ν G Uo No/\Side w G J Uo No (Own ν st.1.h) B.w.heap.size l (.loop (rc st.2.1))/\(∀ p∈sd,p.1≠l)/\(∀ d∈a.defers,d≠xeh l) /\
   (∀ b,U b ↔ Uo b\/Own ν st.1.h b\/b=l)/\∀ b,N b ↔ U b\/xvh B J Uo No (Own ν st.1.h) sd a.defers b
theorem xTz (hRM:xd5 RS) {J:Nat->Prop} {l:Nat} {rc:Option Ex->Loop}:xd5 (RSr RS B J sd a l rc):=by
 rintro st w w' G G' U N ⟨ν,Uo,No,I,hs,h1,h2,hU,hN⟩ henv hsize hk hsz hgg hG hg hlt
 refine ⟨ν,Uo,No,I.on hRM henv hsize hsz hgg hG hlt (fun b hb _=>hk b ((hN b).2 (.inr hb))) (fun b hb=>(hg b hb).imp_right (fun h hn=>h ((hN b).2 (.inr hn)))),?_,h1,h2,hU,hN⟩;have hl:N l:=(hN l).2 (.inl ((hU l).2 (.inr (.inr rfl))));exact ⟨hs.new,(hk l hl).trans hs.at_,fun h=>(hg l h).elim hs.g (fun h=>h hl),hs.j,hs.u,hs.n,hs.o⟩
theorem xNj {l:Nat} {R:Ending->World->Prop} {e:Ex} {x:Exit} {a:Act} {w:World} (hx:x=xms e) (hp:xkf e=true) (h:∃ v w',(Instr.endRound l (xl9 e)).run P w=.ok v w'/\R (.returned v) w'):roundPost P l R x a w:=by
 subst hx;cases e <;> first | exact h | cases hp
theorem xE3 (ps:Array Tmp) (us:List Value) (tmps:Array Value):(ps.zip us.toArray).foldl (fun tmps (x:Tmp×Value)=>match x with | (t,a)=>tmps.setIfInBounds t a) tmps=(ps.toList.zip us).foldl (fun tmps p=>tmps.setIfInBounds p.1 p.2) tmps:=by
 rw [<- Array.foldl_toList,Array.toList_zip]
theorem xl7 {h:xap} {ms:List Nat} {i:Nat} {B:Blk} (e:xag (xcn h (ms.map fun i=>(i,none))) i=some B):xag h i=some B/\i ∉ ms:=by
 induction ms generalizing h with
 | nil=>exact ⟨e,fun h=>by cases h⟩
 | cons m ms ih=>
   simp only [List.map_cons,xcn] at e;obtain ⟨h1,h2⟩:=ih e;rw [xci] at h1;split at h1
   ·cases h1
   ·rename_i hne;exact ⟨h1,fun hm=>(List.mem_cons.1 hm).elim (fun e=>hne e.symm) h2⟩
theorem xOx {at_:Nat} {yh h:xap} {i:Nat} {B':Blk} (e:xag (xnf at_ yh h) i=some B'):i<yh.length/\(∃ Y,xag yh i=some Y)/\∃ B0,xag h (at_+i)=some B0/\B'=mvB false false (xrg yh.length at_) B0:=by
 unfold xnf at e;rw [xge] at e;cases hr:(List.range yh.length)[i]? with
 | none=>rw [hr] at e;cases e
 | some m=>
   rw [hr] at e;have hi:i<yh.length:=by simpa using (List.getElem?_eq_some_iff.1 hr).1
   have:m=i:=by rw [List.getElem?_range hi] at hr;exact (Option.some.inj hr).symm
   subst this;simp only [Option.bind_some] at e;cases hy:xag yh m with
   | none=>rw [hy] at e;cases e
   | some Y=>
     rw [hy] at e;simp only [Option.bind_some,Option.map_eq_some_iff] at e;obtain ⟨B0,h0,rfl⟩:=e;exact ⟨hi,⟨Y,rfl⟩,B0,h0,rfl⟩
theorem xT2 {C:Cfg} {call:xb6} {f:FuncId} (hRM:xd5 RS) {H:Option (Hd S)} {ps:Array Tmp} {assign body:Code} (hA:xrr C call f RS H assign) (hB:xrr C call f RS H body) {J:Nat->Prop} {l:Nat} {fn:FuncId} {dblk:Nat} {gc:St->St} {giv:Bool}
    (hgc:∀ {σ s a w ν G U N},Inv1 RS B J sd σ s a w ν G U N->∃ ν',Inv1 RS B J sd (gc σ) s a w ν' G U N/\∀ b,Own ν' (gc σ).h b->Own ν σ.h b) (hH:HSO C.P RS H B.y) (hbd:∀ d∈B.ds,∃ fv cap,d.target=.fn fv cap) :
    HS C.P (RSr RS B J sd a l (xfn fn a.tmps ps assign body dblk)) l (xot ps gc giv (fun kk=>xbs C call f kk H assign) (fun kk=>xbs C call f kk H body)):=by
 rintro ya yh ⟨τ,pend,s⟩ b rb st' hrun w G Jc U N νc vs hya hyh ⟨ν,Uo,No,I,hside,hsdl,hdl,hU,hN⟩
 unfold xot at hrun;cases pend with
 | some e=>cases hrun
 | none=>
 simp only at hrun I hside hU hN;split at hrun
 case isFalse=>cases hrun
 rename_i hlen;split at hrun
 case h_2=>cases hrun
 rename_i σa sa hra;have hout:∃ e σ2 s2 h2 gv,xbs C call f (τ.h.length+yh.length) H body σa sa=some (e,σ2,s2)/\xkf e=true/\b=(xl9 e).isNone /\
     ((gv=false/\rb=List.replicate yh.length none/\h2=σ2.h)\/(gv=true/\rb=xnf τ.h.length yh σ2.h/\h2=xcn σ2.h (((List.range yh.length).map (τ.h.length+·)).map fun i=>(i,none)))) /\
     st'=(gc { tmps:=τ.tmps,h:=h2 },(if (xl9 e).isNone then none else some e),s2):=by
  split at hrun
  ·cases hrun
  ·rename_i σ2 s2 hrb;split at hrun
   ·cases hrun;exact ⟨.normal,σ2,s2,_,true,hrb,rfl,rfl,.inr ⟨rfl,rfl,rfl⟩,rfl⟩
   ·cases hrun;exact ⟨.normal,σ2,s2,_,false,hrb,rfl,rfl,.inl ⟨rfl,rfl,rfl⟩,rfl⟩
  ·rename_i e σ2 s2 hnp hne hrb;split at hrun
   ·cases hrun;cases e with
    | normal=>exact (hne rfl).elim
    | exit id=>exact ⟨.exit id,σ2,s2,_,true,hrb,rfl,rfl,.inr ⟨rfl,rfl,rfl⟩,rfl⟩
    | ret=>exact ⟨.ret,σ2,s2,_,true,hrb,rfl,rfl,.inr ⟨rfl,rfl,rfl⟩,rfl⟩
    | pan t=>exact (hnp t rfl).elim
   ·cases hrun;cases e with
    | normal=>exact (hne rfl).elim
    | exit id=>exact ⟨.exit id,σ2,s2,_,false,hrb,rfl,rfl,.inl ⟨rfl,rfl,rfl⟩,rfl⟩
    | ret=>exact ⟨.ret,σ2,s2,_,false,hrb,rfl,rfl,.inl ⟨rfl,rfl,rfl⟩,rfl⟩
    | pan t=>exact (hnp t rfl).elim
  ·cases hrun
 clear hrun;obtain ⟨e,σ2,s2,h2,gv,hrb,hnp,rfl,hgv,rfl⟩:=hout;have hneed:∀ b,xvh B J Uo No (Own ν τ.h) sd a.defers b->N b:=fun b hb=>(hN b).2 (.inr hb)
 have hUN:∀ b,U b->N b:=fun b hb=>(hN b).2 (.inl hb)
 have hlU:U l:=(hU l).2 (.inr (.inr rfl));have hcN:∀ b,Own νc yh b->¬ N b:=fun b ho hn=>hyh.nown b hn ho
 have hSR1:=xX5 I.sr hyh (fun b ho ht=>hcN b ho (hneed b (.inr (.inl ht)))) (fun b hj ho=>hcN b ho (hneed b (.inr (.inr (.inr (.inl hj)))))) (fun b hn ho=>hcN b ho (hneed b (.inr (.inr (.inl hn)))));have hdm:∀ d∈a.defers,(∃ fv cap,d.target=.fn fv cap)\/∃ r,d=xeh r:=fun d hd=>(I.marks d hd).imp (hbd d) fun ⟨r,e,_⟩=>⟨r,e⟩
 have hfm:∀ {r},xeh r∈a.defers->∀ {G U N O},(∀ d∈a.defers,d∈B.ds\/∃ r,d=xeh r/\Side w G J U N O B.n0 r (.deferred (some [])))->∃ r',xeh r=xeh r'/\Side w G J U N O B.n0 r' (.deferred (some [])):=fun {r} hr {G U N O} hm=>(hm _ hr).resolve_left fun h=>by
  obtain ⟨fv,cap,e⟩:=hbd _ h;cases e
 have sideOf:∀ {n0 r o},N r->Side w G J Uo No (Own ν τ.h) n0 r o->Side w G J Uo No (Own (ν.join νc τ.h.length yh.length) (xer τ.h yh)) 0 r o:=fun {n0 r o} hr hs=>
  ⟨Nat.zero_le _,hs.at_,hs.g,hs.j,hs.u,hs.n,fun ho=>(xox I.sr ho).elim hs.o (fun h=>hcN r h hr)⟩
 have hvl:vs.length=ps.size:=by rw [<- xb9 hya,hlen]
 refine ⟨_,_,_,_,run_yield hside.at_ (by simpa [xfn] using hvl),roundIn_of_wpIn trivial ?_⟩
 -- the left sides
 let σ1:St:={ tmps:=xfc ps.toList (ya.map (mv false false (xgh yh.length τ.h.length) xak)) τ.tmps,h:=xer τ.h yh }
 let rdy:Obj:=.loop (xfn fn a.tmps ps assign body dblk none)
 let B1:Base:=⟨w,G,Uo,No,Own (ν.join νc τ.h.length yh.length) (xer τ.h yh),(ν.join νc τ.h.length yh.length).φ,B.y,τ.h.length+yh.length,0,[],fun _=>True⟩
 have I1:Inv1 RS B1 J ((l,rdy)::(sd++xla a.defers)) σ1 s { tmps:=(ps.toList.zip vs).foldl (fun tmps p=>tmps.setIfInBounds p.1 p.2) a.tmps,defers:=[] } w (ν.join νc τ.h.length yh.length) G Uo No:=by
  refine ⟨hSR1,?_,I.rs,Ext.refl ..,fun _ _=>rfl,I.y,?_,?_,(fun d hd=>by cases hd),List.Pairwise.nil,trivial⟩
  ·refine xta _ _ _ _ _ (xc9 (xh6 xIj (fun h=>by cases h) (fun h=>by cases h) xak) hya) ?_;exact xc1 (fun _ h=>h) (fun _ _=>rfl) (fun _=>Nat.le_refl _) _ (xLp I.sr) (fun _ h=>.inl h) (fun _ _=>rfl) I.ts
  ·show _<=(xer _ _).length;simp [xer];exact Nat.le_refl _
  ·intro p hp;rcases List.mem_cons.1 hp with rfl | hp
   ·exact sideOf (hUN _ hlU) hside
   ·rcases List.mem_append.1 hp with hp | hp
    ·exact sideOf (hneed _ (.inr (.inr (.inr (.inr (.inr (.inl ⟨p,hp,rfl⟩))))))) (I.side p hp)
    ·obtain ⟨h1,h2⟩:=xzz hdm hp;obtain ⟨r,e,hs⟩:=hfm h1 I.marks;cases e;rw [h2];exact sideOf (hneed _ (.inr (.inr (.inr (.inr (.inr (.inr ⟨_,h1,rfl⟩))))))) hs
 have hro:∀ (rc:Loop) l',(Fence.wide.inRound l).round=some l'->∃ rec,(l',Obj.loop rec)∈(l,Obj.loop rc)::(sd++xla a.defers):=fun rc l' e=>by
  simp only [Fence.inRound_round,Option.some.injEq] at e;subst e;exact ⟨rc,List.mem_cons_self⟩
 have hw1:=hA (Fence.wide.inRound l) B1 J _ σ1 s _ w .normal σa sa (xel.round l) (hro _) hH (Nat.zero_le _) ⟨(fun d hd=>by cases hd),fun _ _ _ _=>trivial⟩ ⟨_,_,_,_,I1⟩ hra;rw [show (((xfn fn a.tmps ps assign body dblk none).params.zip vs.toArray).foldl (fun tmps (x:Tmp×Value)=>match x with | (t,a)=>tmps.setIfInBounds t a) (xfn fn a.tmps ps assign body dblk none).tmps) =
  (ps.toList.zip vs).foldl (fun tmps p=>tmps.setIfInBounds p.1 p.2) a.tmps from xE3 ps vs a.tmps]
 refine wpIn_mono hw1 ?_
 rintro x a1 w1 ⟨rfl,νa,Ga,Ua,Na,I2⟩
 have hs2:=I2.side (l,rdy) List.mem_cons_self;show ∃ w2,_;refine ⟨_,run_beginRound hs2.at_ rfl,?_⟩
 -- the body
 let bsy:Loop:={ xfn fn a.tmps ps assign body dblk none with state:=.busy }
 let B2:Base:=⟨w1.putObj l (.loop bsy),Ga,Ua,Na,Own νa σa.h,νa.φ,νa.y,τ.h.length+yh.length,0,[],fun _=>True⟩
 have hrest:∀ p∈sd++xla a.defers,p.1≠l:=fun p hp=>by
  rcases List.mem_append.1 hp with hp | hp
  ·exact hsdl p hp
  ·intro e;obtain ⟨h1,_⟩:=xzz hdm hp;exact hdl _ h1 (by rw [e])
 have hml:∀ {a':Act} {n0:Nat} {w:World} {r:Loop} {G U N O:Nat->Prop},w.heap[l]?=some (.loop r)->(∀ d∈a'.defers,d∈([]:List Deferred)\/∃ r,d=xeh r/\Side w G J U N O n0 r (.deferred (some [])))->∀ d∈a'.defers,d∈a'.defers/\d≠xeh l:=fun hl hm d hd=>by
  refine ⟨hd,fun e=>?_⟩;obtain ⟨r,e',hs⟩:=(hm d hd).resolve_left (fun h=>by cases h);rw [e] at e';cases e';rw [hs.at_] at hl;cases hl
 have I3:=I2.change hRM hs2.at_ hs2.g hs2.j hs2.u hs2.n hs2.o (sd':=sd++xla a.defers) (fun p hp=>⟨List.mem_cons_of_mem _ hp,hrest p hp⟩) (o:=.loop bsy) (a':=a1) rfl (hml hs2.at_ I2.marks) I2.nd (B':=B2) rfl I2.len (fun _=>Nat.le_refl _) (fun _ h=>h) trivial;have hlw1:l<w1.heap.size:=(Array.getElem?_eq_some_iff.1 hs2.at_).1;have I3':Inv1 RS B2 J ((l,.loop bsy)::(sd++xla a.defers)) σa sa a1 (w1.putObj l (.loop bsy)) νa Ga Ua Na:=
  ⟨I3.sr,I3.ts,I3.rs,I3.ext,I3.first,I3.y,I3.len,fun p hp=>by
   rcases List.mem_cons.1 hp with rfl | hp
   ·exact ⟨Nat.zero_le _,World.putObj_heap_same hlw1,hs2.g,hs2.j,hs2.u,hs2.n,hs2.o⟩
   ·exact I3.side p hp,I3.marks,I3.nd,trivial⟩
 have hy2:HSO C.P RS H B2.y:=by
  show HSO C.P RS H νa.y;rw [I2.y];exact hH
 refine wpIn_mono (hB (Fence.wide.inRound l) B2 J _ σa sa a1 _ e σ2 s2 (xel.round l) (hro _) hy2 (Nat.zero_le _) ⟨(fun d hd=>by cases hd),fun _ _ _ _=>trivial⟩ ⟨_,_,_,_,I3'⟩ hrb) ?_
 rintro x a2 w3 ⟨hx,ν2,G2,U2,N2,I4⟩
 have hs4:=I4.side (l,.loop bsy) List.mem_cons_self;refine xNj hx hnp ⟨_,_,run_endRound (xl9 e) hs4.at_,rfl,?_⟩;have hrec:({ bsy with state:=if (xl9 e).isNone then .ready else .done,pending:=xl9 e }:Loop)=xfn fn a.tmps ps assign body dblk (if (xl9 e).isNone then none else some e):=by
  cases e <;> rfl
 rw [hrec];generalize hpe:(if (xl9 e).isNone then none else some e)=pe;have hlw3:l<w3.heap.size:=(Array.getElem?_eq_some_iff.1 hs4.at_).1;have I5:=I4.change hRM hs4.at_ hs4.g hs4.j hs4.u hs4.n hs4.o (sd':=sd++xla a.defers) (fun p hp=>⟨List.mem_cons_of_mem _ hp,hrest p hp⟩) (o:=.loop (xfn fn a.tmps ps assign body dblk pe)) (a':=a2) rfl (hml hs4.at_ I4.marks) I4.nd
  (B':=⟨w3.putObj l (.loop (xfn fn a.tmps ps assign body dblk pe)),G2,U2,N2,Own ν2 σ2.h,ν2.φ,ν2.y,0,0,[],fun _=>True⟩) rfl (Nat.zero_le _) (fun _=>Nat.le_refl _) (fun _ h=>h) trivial
 generalize hw4:w3.putObj l (.loop (xfn fn a.tmps ps assign body dblk pe))=w4 at *;have E14:Ext w w4 G G2 (fun b=>Uo b\/b=l) (fun b=>U2 b\/b=l) No N2 (Own (ν.join νc τ.h.length yh.length) (xer τ.h yh)) (Own ν2 σ2.h):=by
  have e1:=(I2.ext.widen l).trans (Ext.put hs2.at_ (.loop bsy) Ga Ua Na (Own νa σa.h));have e2:=(e1.trans (I4.ext.widen l)).trans (Ext.put hs4.at_ (.loop (xfn fn a.tmps ps assign body dblk pe)) G2 U2 N2 (Own ν2 σ2.h));rw [hw4] at e2;exact e2
 have hφ2:∀ i,i<τ.h.length+yh.length->ν2.φ i=(ν.join νc τ.h.length yh.length).φ i:=fun i hi=>(I4.first i hi).trans (I2.first i hi)
 have hk':τ.h.length+yh.length<=σ2.h.length:=I4.len;have hkG:∀ b,G b->w4.heap[b]?=w.heap[b]?:=fun b hb=>E14.keep b (I.sr.glt b hb) (hSR1.gown b hb) (fun h=>h.elim (I.sr.gu b hb) (fun e=>hside.g (e ▸ hb)))
 have hkJ:∀ b,J b->w4.heap[b]?=w.heap[b]?:=fun b hb=>E14.keep b (I.sr.jlt b hb) (hSR1.jown b hb) (fun h=>h.elim (I.sr.ju b hb) (fun e=>hside.j (e ▸ hb)))
 have hy4:ν2.y=ν.y:=I4.y.trans I2.y |>.trans I.y.symm;have hle:ν.le ν2:=⟨fun i b hb=>by
  have hi:=I.sr.dom i b hb;rw [hφ2 i (by omega),xij hi];exact hb,fun l h=>by rw [hy4];exact h⟩
 have hown1:∀ b,Own (ν.join νc τ.h.length yh.length) (xer τ.h yh) b->Own ν τ.h b\/Own νc yh b:=fun b hb=>xox I.sr hb
 have I6 : Inv1 RS B J sd { tmps:=τ.tmps,h:=σ2.h } s2 a w4 ν2 G2 U2 N2:=by
  refine ⟨I5.sr,xc1 E14.g hkG E14.sz _ hle (fun _ h=>.inl h) hkJ I.ts,I5.rs,?_,fun i hi=>?_,hy4.trans I.y,Nat.le_trans I.len (Nat.le_trans (Nat.le_add_right _ _) hk'),fun p hp=>I5.side p (List.mem_append_left _ hp),fun d hd=>?_,I.nd,I.low⟩
  ·have hO1:∀ b,Own (ν.join νc τ.h.length yh.length) (xer τ.h yh) b->B.O b\/B.w.heap.size<=b:=fun b hb=>by
    rcases hown1 b hb with h | h
    ·exact I.ext.own b h
    ·by_cases h1:b<B.w.heap.size
     ·by_cases h2:B.O b
      ·exact .inl h2
      ·exact absurd (hneed b (.inr (.inr (.inr (.inr (.inl ⟨h1,h2⟩)))))) (hcN b h)
     ·exact .inr (by omega)
   have hnew:∀ b,w.heap.size<=b->B.w.heap.size<=b:=fun b hb=>Nat.le_trans I.ext.size hb
   refine ⟨Nat.le_trans I.ext.size E14.size,fun b h1 h2 h3=>?_,fun b hb=>(E14.own b hb).elim (hO1 b) (fun h=>.inr (hnew b h)),fun b hb=>?_,fun b hb=>?_,fun b hb=>E14.g b (I.ext.g b hb),fun b hb=>?_,fun b=>Nat.le_trans (I.ext.sz b) (E14.sz b),E14.env.1.trans I.ext.env.1,E14.env.2.trans I.ext.env.2⟩
   ·refine (E14.keep b (Nat.lt_of_lt_of_le h1 I.ext.size) (fun h=>(hO1 b h).elim h2 (by omega)) (fun h=>?_)).trans (I.ext.keep b h1 h2 h3);rcases h with h | h
    ·exact (I.ext.u b h).elim h3 (fun h=>h.elim h2 (by omega))
    ·have:=hside.new;omega
   ·rcases E14.u b (.inl hb) with h | h | h
    ·rcases h with h | h
     ·exact I.ext.u b h
     ·exact .inr (.inr (by rw [h];exact hside.new))
    ·exact .inr (hO1 b h)
    ·exact .inr (.inr (hnew b h))
   ·rcases E14.n b hb with h | h | h
    ·exact I.ext.n b h
    ·exact .inr (hO1 b h)
    ·exact .inr (.inr (hnew b h))
   ·rcases E14.g' b hb with h | h | h | h
    ·exact I.ext.g' b h
    ·exact (hO1 b h).elim (fun h=>.inr (.inl h)) (fun h=>.inr (.inr (.inr h)))
    ·rcases h with h | h
     ·exact (I.ext.u b h).elim (fun h=>.inr (.inr (.inl h))) (fun h=>h.elim (fun h=>.inr (.inl h)) (fun h=>.inr (.inr (.inr h))))
     ·exact .inr (.inr (.inr (by rw [h];exact hside.new)))
    ·exact .inr (.inr (.inr (hnew b h)))
  ·have:=I.len;rw [hφ2 i (by omega),xij (by omega)];exact I.first i hi
  ·rcases I.marks d hd with hb | ⟨r,rfl,hs⟩
   ·exact .inl hb
   have:=I5.side (r,_) (List.mem_append_right _ (xNu hd));exact .inr ⟨r,rfl,hs.new,this.at_,this.g,this.j,this.u,this.n,this.o⟩
 have hk2:∀ i B,xag h2 i=some B->xag σ2.h i=some B/\(gv=true->∀ k,k<yh.length->i≠τ.h.length+k):=by
  intro i B hi;rcases hgv with ⟨rfl,-,rfl⟩ | ⟨-,-,rfl⟩
  ·exact ⟨hi,fun h=>by cases h⟩
  ·obtain ⟨g1,g2⟩:=xl7 hi;exact ⟨g1,fun _ k hk e=>g2 (by subst e;exact List.mem_map_of_mem (List.mem_range.2 hk))⟩
 have hlen2:σ2.h.length<=h2.length:=by
  rcases hgv with ⟨-,-,rfl⟩ | ⟨-,-,rfl⟩
  ·exact Nat.le_refl _
  ·exact xdp _ _
 have hless2:∀ b,Own ν2 h2 b->Own ν2 σ2.h b:=fun b ⟨i,B,g1,g2⟩=>⟨i,B,(hk2 i B g1).1,g2⟩
 have I6':Inv1 RS B J sd { tmps:=τ.tmps,h:=h2 } s2 a w4 ν2 G2 U2 N2:=
  ⟨I6.sr.less (fun i B h=>(hk2 i B h).1) hlen2,I6.ts,I6.rs,I6.ext.less hless2,I6.first,I6.y,Nat.le_trans I6.len hlen2,fun p hp=>(I6.side p hp).less hless2,fun d hd=>(I6.marks d hd).imp_right fun ⟨r,e,hs⟩=>⟨r,e,hs.less hless2⟩,I6.nd,I6.low⟩
 obtain ⟨ν3,I7,hless3⟩:=hgc I6';have hless:∀ b,Own ν3 (gc { tmps:=τ.tmps,h:=h2 }).h b->Own ν2 σ2.h b:=fun b hb=>hless2 b (hless3 b hb)
 have hl5:¬ G2 l/\¬ J l/\¬ U2 l/\¬ N2 l/\¬ Own ν2 σ2.h l:=⟨hs4.g,hs4.j,hs4.u,hs4.n,hs4.o⟩;have hlw4:w4.heap[l]?=some (.loop (xfn fn a.tmps ps assign body dblk pe)):=by rw [<- hw4];exact World.putObj_heap_same hlw3
 let U':Nat->Prop:=fun b=>U2 b\/Own ν3 (gc { tmps:=τ.tmps,h:=h2 }).h b\/b=l
 let N':Nat->Prop:=fun b=>U' b\/xvh B J U2 N2 (Own ν3 (gc { tmps:=τ.tmps,h:=h2 }).h) sd a.defers b
 have hO1:∀ b,Own (ν.join νc τ.h.length yh.length) (xer τ.h yh) b->U b\/Own νc yh b:=fun b hb=>(hown1 b hb).imp_left (fun h=>(hU b).2 (.inr (.inl h)))
 have hUl:∀ b,(Uo b\/b=l)->U b:=fun b hb=>(hU b).2 (hb.elim .inl (fun h=>.inr (.inr h)))
 have hu:∀ b,U' b->U b\/Own νc yh b\/w.heap.size<=b:=by
  rintro b (h | h | h)
  ·rcases E14.u b (.inl h) with h | h | h
   ·exact .inl (hUl b h)
   ·exact (hO1 b h).imp_right .inl
   ·exact .inr (.inr h)
  ·rcases E14.own b (hless b h) with h | h
   ·exact (hO1 b h).imp_right .inl
   ·exact .inr (.inr h)
  ·subst h;exact .inl hlU
 have hn:∀ b,N' b->N b\/Own νc yh b\/w.heap.size<=b:=by
  rintro b (h | h | h | h | h | h | h | h)
  ·exact (hu b h).imp_left (hUN b)
  ·exact (hu b (.inl h)).imp_left (hUN b)
  ·exact (hu b (.inr (.inl h))).imp_left (hUN b)
  ·rcases E14.n b h with h | h | h
   ·exact .inl (hneed b (.inr (.inr (.inl h))))
   ·exact (hO1 b h).imp (hUN b) .inl
   ·exact .inr (.inr h)
  ·exact .inl (hneed b (.inr (.inr (.inr (.inl h)))))
  ·exact .inl (hneed b (.inr (.inr (.inr (.inr (.inl h))))))
  ·exact .inl (hneed b (.inr (.inr (.inr (.inr (.inr (.inl h)))))))
  ·exact .inl (hneed b (.inr (.inr (.inr (.inr (.inr (.inr h)))))))
 have hnlt:∀ b,N' b->b<w4.heap.size:=by
  have hU2:∀ b,U' b->b<w4.heap.size:=by
   rintro b (h | h | h)
   ·exact I7.sr.nlt b (I7.sr.un b h)
   ·exact I7.sr.own_lt h
   ·subst h;exact (Array.getElem?_eq_some_iff.1 hlw4).1
  rintro b (h | h | h | h | h | h | h | h)
  ·exact hU2 b h
  ·exact hU2 b (.inl h)
  ·exact hU2 b (.inr (.inl h))
  ·exact I7.sr.nlt b h
  ·exact I7.sr.jlt b h
  ·exact Nat.lt_of_lt_of_le h.1 I7.ext.size
  ·obtain ⟨p,hp,rfl⟩:=h;exact (Array.getElem?_eq_some_iff.1 (I7.side p hp).at_).1
  ·obtain ⟨d,hd,rfl⟩:=h;obtain ⟨r,e,hs⟩:=(I7.marks _ hd).resolve_left fun h=>by
    obtain ⟨fv,cap,e⟩:=hbd _ h;cases e
   cases e;exact (Array.getElem?_eq_some_iff.1 hs.at_).1
 have hrl:rb.length=yh.length:=by
  rcases hgv with ⟨-,rfl,-⟩ | ⟨-,rfl,-⟩
  ·exact List.length_replicate
  ·unfold xnf;rw [List.length_map,List.length_range]
 have hrb:∀ i B',xag rb i=some B'->gv=true/\i<yh.length/\(∃ Y,xag yh i=some Y)/\∃ B0,xag σ2.h (τ.h.length+i)=some B0/\B'=mvB false false (xrg yh.length τ.h.length) B0:=by
  intro i B' hi;rcases hgv with ⟨-,rfl,-⟩ | ⟨hg,rfl,-⟩
  ·exfalso;unfold xag at hi;rw [List.getElem?_replicate] at hi;split at hi <;> cases hi
  ·exact ⟨hg,xOx hi⟩
 have hφc:∀ i,i<yh.length->ν2.φ (τ.h.length+i)=νc.φ i:=fun i hi=>by rw [hφ2 _ (by omega),xjm hi]
 have hrown:∀ b,Own νc rb b->Own νc yh b/\∃ i B0,gv=true/\i<yh.length/\xag σ2.h (τ.h.length+i)=some B0/\ν2.φ (τ.h.length+i)=some b:=by
  rintro b ⟨i,B',h1,h2⟩
  obtain ⟨hg,hi,⟨Y,hY⟩,B0,hB0,-⟩:=hrb i B' h1;exact ⟨⟨i,Y,hY,h2⟩,i,B0,hg,hi,hB0,by rw [hφc i hi];exact h2⟩
 have hrown2:∀ b,Own νc rb b->Own ν2 σ2.h b:=fun b hb=>by
  obtain ⟨-,i,B0,-,-,h1,h2⟩:=hrown b hb;exact ⟨_,B0,h1,h2⟩
 have hrown3:∀ b,Own νc rb b->¬ Own ν3 (gc { tmps:=τ.tmps,h:=h2 }).h b:=fun b hb ho=>by
  obtain ⟨-,i,B0,hg,hi,h1,h2⟩:=hrown b hb;obtain ⟨j,Bj,h3,h4⟩:=hless3 b ho;obtain ⟨h5,h6⟩:=hk2 j Bj h3;exact h6 hg i hi (I6.sr.inj j _ _ _ b h5 h1 h4 h2)
 have hrU:∀ b,Own νc rb b->¬ U' b:=by
  rintro b hb (h | h | h)
  ·exact I6.sr.nown b (I6.sr.un b h) (hrown2 b hb)
  ·exact hrown3 b hb h
  ·subst h;exact hl5.2.2.2.2 (hrown2 b hb)
 refine ⟨νc,G2,U',N',?_,hrl,fun _ _=>rfl,rfl,?_,ν3,U2,N2,I7,?_,hsdl,hdl,fun b=>Iff.rfl,fun b=>Iff.rfl⟩
 ·refine ⟨fun i B' h=>?_,fun i j B B' b h h'=>?_,fun i b h=>by rw [hrl];exact hyh.dom i b h,I7.sr.glt,fun b hb=>Nat.lt_of_lt_of_le (hyh.jlt b hb) E14.size,hnlt,fun b hb ho=>I6.sr.gown b hb (hrown2 b ho),fun b hb ho=>hyh.jown b hb (hrown b ho).1,?_,?_,?_,fun b hb=>.inl hb⟩
  ·obtain ⟨-,hi,-,B0,hB0,rfl⟩:=hrb i B' h;obtain ⟨b,hb,hB⟩:=I6.sr.blk _ B0 hB0;refine ⟨b,by rw [<- hφc i hi];exact hb,xlk (fun j j' e b hb=>?_) (fun h=>by cases h) (fun h=>by cases h) hB⟩;unfold xrg at e;split at e
   ·cases e;rename_i hr;rw [<- hφc _ (by omega),show τ.h.length+(j - τ.h.length)=j by omega];exact hb
   ·cases e
  ·intro h3 h4;obtain ⟨-,-,⟨Y,hY⟩,-⟩:=hrb i B h;obtain ⟨-,-,⟨Y',hY'⟩,-⟩:=hrb j B' h';exact hyh.inj i j _ _ b hY hY' h3 h4
  ·rintro b hb ho
   have hob:=hrown2 b ho;rcases hb with h | h | h | h | h | h | h | h
   ·exact hrU b ho h
   ·exact hrU b ho (.inl h)
   ·exact hrown3 b ho h
   ·exact I6.sr.nown b h hob
   ·exact I6.sr.jown b h hob
   ·exact (I6.ext.own b hob).elim h.2 (fun h'=>by have:=h.1;omega)
   ·obtain ⟨p,hp,rfl⟩:=h;exact (I6.side p hp).o hob
   ·obtain ⟨d,hd,rfl⟩:=h;obtain ⟨r,e,hs⟩:=(I6.marks _ hd).resolve_left fun h=>by
     obtain ⟨fv,cap,e⟩:=hbd _ h;cases e
    cases e;exact hs.o hob
  ·rintro b hb (h | h | h)
   ·exact I7.sr.gu b hb h
   ·exact I7.sr.gown b hb h
   ·subst h;exact hl5.1 hb
  ·intro b hb hu';rcases hu b hu' with h | h | h
   ·exact hyh.ju b hb h
   ·exact hyh.jown b hb h
   ·have:=hyh.jlt b hb;omega
 ·refine ⟨E14.size,fun b h1 h2 h3=>E14.keep b h1 (fun h=>(hO1 b h).elim h3 h2) (fun h=>h3 (hUl b h)),fun b hb=>.inl (hrown b hb).1,hu,hn,E14.g,fun b hb=>?_,E14.sz,E14.env⟩;rcases E14.g' b hb with h | h | h | h
  ·exact .inl h
  ·exact (hO1 b h).elim (fun h=>.inr (.inr (.inl h))) (fun h=>.inr (.inl h))
  ·exact .inr (.inr (.inl (hUl b h)))
  ·exact .inr (.inr (.inr h))
 ·exact ⟨hside.new,hlw4,hl5.1,hl5.2.1,hl5.2.2.1,hl5.2.2.2.1,fun ho=>hl5.2.2.2.2 (hless l ho)⟩
end
def xpr (ops:Array Oper):Bool:=
 let b:=Region.before ops
 let L:=ops.toList.zipIdx
 L.all fun p=>
  (p.1.after.toList.all fun e=>!(Region.binds .any e) || decide (e.on<p.2)) &&
  (decide (b.getD p.2 0=p.1.after.toList.foldl (fun s e=>if Region.binds .any e then s ||| 2 ^ e.on ||| b.getD e.on 0 else s) 0) &&
  (L.all fun q=>!(decide (q.2<p.2)) || ((b.getD p.2 0).testBit q.2 || p.1.apart ops q.1)))
def xdq:Code->Bool
 | .region _ ops draw=>!draw || xpr ops
 | .seq a b=>xdq a && xdq b
 | .cond _ a b=>xdq a && xdq b
 | .block _ b=>xdq b
 | .loop b=>xdq b
 | .rangeFunc _ _ a b=>xdq a && xdq b
 | .scope b=>xdq b
 | _=>true
def xBo (C:Cfg) (call:xb6):Prop:=∀ (S:Type) (RS:xcl S) (H:Option (Hd S)) (F:Fence) (B:Base) (J:Nat->Prop) (sd:List (Nat×Obj)) (σ:St) (s:S) (a:Act) (w:World) (e:Ex) (σ':St) (s':S) (id:Nat) (ops:Array Oper),
 xd5 RS->xel F->HSO C.P RS H B.y->xpr ops=true->Inv RS B J sd σ s a w->xwi C call H ops σ s=some (e,σ',s') ->
  (Code.region id ops true).wpIn F 0 C.P (fun x a' w'=>x=xms e/\Inv RS B J sd σ' s' a' w') a w
section
variable {C:Cfg} {call:xb6} {f:FuncId} {S:Type} {RS:xcl S} {H:Option (Hd S)}
theorem xYp {nrm:St->St} {F:Fence} {B:Base} {J:Nat->Prop} {sd:List (Nat×Obj)} {c:Code} {body:St->S->Option (Ex×St×S)} (hn:∀ {σ s a w},Inv RS B J sd σ s a w->Inv RS B J sd (nrm σ) s a w)
    (hb:∀ σ s a w e σ' s',Inv RS B J sd σ s a w->body σ s=some (e,σ',s')->c.wpIn F 0 C.P (fun x a' w'=>x=xms e/\Inv RS B J sd σ' s' a' w') a w)
    {n:Nat} {σ:St} {s:S} {a:Act} {w:World} {e:Ex} {σ':St} {s':S} (I:Inv RS B J sd σ s a w) (hl:xm3 nrm body n σ s=some (e,σ',s')) :
    (Code.loop c).wpIn F 0 C.P (fun x a' w'=>x=xms e/\Inv RS B J sd σ' s' a' w') a w:=by
 refine xKi (fun j a w=>∃ σ s,Inv RS B J sd σ s a w/\xm3 nrm body j σ s=some (e,σ',s')) ?_ ⟨σ,s,I,hl⟩
 rintro j a w ⟨σ,s,I,hl⟩
 cases j with
 | zero=>cases hl
 | succ j=>
   unfold xm3 at hl;split at hl
   ·rename_i σ1 s1 h1;refine wpIn_mono (hb _ _ _ _ _ _ _ (hn I) h1) ?_
    rintro x a' w' ⟨rfl,I'⟩
    exact ⟨j,Nat.lt_succ_self j,σ1,s1,I',hl⟩
   ·rename_i hne;refine wpIn_mono (hb _ _ _ _ _ _ _ (hn I) hl) ?_
    rintro x a' w' ⟨rfl,I'⟩
    cases e with
    | normal=>exact (hne _ _ hl).elim
    | exit id=>exact ⟨rfl,I'⟩
    | ret=>exact ⟨rfl,I'⟩
    | pan t=>exact ⟨rfl,I'⟩
theorem xR5 {B:Base} {J:Nat->Prop} {sd:List (Nat×Obj)} {body:Code} {σ:St} {s:S} {a:Act} {w:World} {ν:Names} {G U N:Nat->Prop} (I:Inv1 RS B J sd σ s a w ν G U N) :
    ∃ ν',Inv1 RS B J sd (xkx C B.k f body σ) s a w ν' G U N/\∀ b,Own ν' (xkx C B.k f body σ).h b->Own ν σ.h b:=by
 unfold xkx;cases C.ann f (xbn body) with
 | none=>exact ⟨ν,I,fun _ h=>h⟩
 | some live=>exact ⟨_,xr7 I,fun b hb=>xod (kb:=true) (ky:=true) (y:=ν.y) hb⟩
theorem xYv {B:Base} {J:Nat->Prop} {sd:List (Nat×Obj)} {body:Code} {e:Ex} {σ:St} {s:S} {a:Act} {w:World} (I:Inv RS B J sd σ s a w):Inv RS B J sd (gcX C B.k f body e σ) s a w:=by
 obtain ⟨ν,G,U,N,I⟩:=I;unfold gcX;cases e with
 | normal=>exact ⟨ν,G,U,N,I⟩
 | pan t=>
   simp only;cases C.annX f (xbn body) (some xFi) with
   | none=>exact ⟨ν,G,U,N,I⟩
   | some live=>exact ⟨_,G,U,N,xr7 I⟩
 | exit id=>
   simp only;cases C.annX f (xbn body) (some id) with
   | none=>exact ⟨ν,G,U,N,I⟩
   | some live=>exact ⟨_,G,U,N,xr7 I⟩
 | ret=>
   simp only;cases C.annX f (xbn body) none with
   | none=>exact ⟨ν,G,U,N,I⟩
   | some live=>exact ⟨_,G,U,N,xr7 I⟩
theorem SR.other {w:World} {G J U U' N N':Nat->Prop} {ν:Names} {h:xap} (S:SR w G J U N ν h) (hlt:∀ b,N' b->b<w.heap.size) (hn:∀ b,N' b->¬ Own ν h b) (hg:∀ b,G b->¬ U' b) (hj:∀ b,J b->¬ U' b) (hu:∀ b,U' b->N' b):SR w G J U' N' ν h:=
 ⟨S.blk,S.inj,S.dom,S.glt,S.jlt,hlt,S.gown,S.jown,hn,hg,hj,hu⟩
theorem xO5 {P:Program} {w:World} (fn:FuncId) (tmps:Array Value) (ps:Array Tmp) (assign body:Code) {ro:Option Nat} (hro:∀ l,ro=some l->∃ rec,w.heap[l]?=some (.loop rec)) :
    ∃ l mark w1 d,(Instr.enterLoop fn tmps ps assign body ro).run P w=.ok (l,mark) w1/\w.heap.size<=l/\w1.heap[l]?=some (.loop (xfn fn tmps ps assign body d none))/\(∀ b,b<w.heap.size->w1.heap[b]?=w.heap[b]?)/\w.heap.size<=w1.heap.size/\(w1.os=w.os/\w1.output=w.output) /\
      (mark=[]\/∃ r,mark=[xeh r]/\w.heap.size<=r/\r≠l/\w1.heap[r]?=some (.deferred (some []))):=by
 cases ro with
 | none=>
   refine ⟨_,_,_,w.heap.size,run_enterLoop_outer fn tmps ps assign body,by omega,?_,fun b hb=>?_,?_,⟨rfl,rfl⟩,.inr ⟨w.heap.size,rfl,Nat.le_refl _,by omega,?_⟩⟩
   ·have:=xeo (w.alloc (.deferred (some []))) (.loop { state:=.ready,pending:=none,fn,tmps,params:=ps,assign,body,defers:=w.heap.size });rw [xfb] at this;exact this
   ·rw [xcg _ _ (by rw [xfb];omega),xcg _ _ hb]
   ·rw [xfb,xfb];omega
   ·rw [xcg _ _ (by rw [xfb];omega),xeo]
 | some l0=>
   obtain ⟨rec,hrec⟩:=hro l0 rfl;exact ⟨_,_,_,rec.defers,run_enterLoop_inner hrec fn tmps ps assign body,Nat.le_refl _,xeo _ _,fun b hb=>xcg _ _ hb,by rw [xfb];omega,⟨rfl,rfl⟩,.inl rfl⟩
def yd3:Option Ex->Ex
 | none=>.normal
 | some e=>e
theorem xT3 (hCall:xf3 C.P call) (hRM:xd5 RS) {g:Operand} {ps:Array Tmp} {assign body:Code} (iha:xrr C call f RS H assign) (ihb:xrr C call f RS H body):xrr C call f RS H (.rangeFunc g ps assign body):=by
 intro F B J sd σ0 s a w e σ' s' hF hro hH hn0 hds I h;simp only [xbs] at h;have hnm:∀ r,xeh r∈B.ds->False:=fun r h=>by
  obtain ⟨fv,cap,e⟩:=hds.1 _ h;cases e
 obtain ⟨ν0,G,U,N,I0⟩:=I;have hgc:∀ {σ s a w ν G U N},Inv1 RS B J sd σ s a w ν G U N->∃ ν',Inv1 RS B J sd (xkx C B.k f body σ) s a w ν' G U N/\∀ b,Own ν' (xkx C B.k f body σ).h b->Own ν σ.h b:=fun I=>xR5 I
 generalize xkx C B.k f body=gc at h hgc;generalize C.give f (xbn body)=giv at h;obtain ⟨ν,I1,_⟩:=hgc I0;generalize gc σ0=σ at h I1;split at h
 case h_2=>cases h
 rename_i gf fa cp hg;generalize hms:xfo (xag σ.h) wide ((fa++cp).flatMap (ids xak)) []=ms at h;have hnd:ms.Nodup:=by rw [<- hms];exact xgb _ _ _ _ List.nodup_nil
 split at h
 case h_2=>cases h
 rename_i rv rh τ pend s1 hcl;have hout:xds rv=none/\yd3 pend=e/\τ=σ'/\s1=s'/\∀ t,pend≠some (.pan t):=by
  cases hpv:xds rv with
  | some t=>rw [hpv] at h;cases pend <;> cases h
  | none=>
    rw [hpv] at h;cases pend with
    | none=>cases h;exact ⟨rfl,rfl,rfl,rfl,fun t e=>by cases e⟩
    | some e'=>
      cases e' with
      | pan t=>cases h
      | normal=>cases h;exact ⟨rfl,rfl,rfl,rfl,fun t e=>by cases e⟩
      | exit id=>cases h;exact ⟨rfl,rfl,rfl,rfl,fun t e=>by cases e⟩
      | ret=>cases h;exact ⟨rfl,rfl,rfl,rfl,fun t e=>by cases e⟩
 obtain ⟨hpn,he,rfl,rfl,hnpd⟩:=hout;have hgv:=xiu I1.ts g;rw [hg] at hgv;simp only [Rel] at hgv;obtain ⟨as,cs,hgv,has,hcs⟩:=hgv;have hgood:=hCall _ _ _ _ _ _ _ _ _ hcl;refine wpIn_rangeFunc fun fn _=>?_
 obtain ⟨l,mark,w1,dblk,hent,hl,hrec,hold,hsz1,henv1,hmark⟩:=xO5 (P:=C.P) (w:=w) fn a.tmps ps assign body (ro:=F.round) (fun l e=>let ⟨rec,hr⟩:=hro l e;⟨rec,(I1.side _ hr).at_⟩);have hszs:∀ b,xbq w b<=xbq w1 b:=fun b=>by
  by_cases hb:b<w.heap.size
  ·rw [xbq,xbq,hold b hb];exact Nat.le_refl _
  ·rw [xbq,Array.getElem?_eq_none (by omega)];exact Nat.zero_le _
 have I2:=I1.on (w':=w1) (G':=G) hRM henv1 hsz1 hszs (fun _ h=>h) (fun b hb=>hold b (I1.sr.glt b hb)) (fun b hb=>Nat.lt_of_lt_of_le (I1.sr.glt b hb) hsz1) (fun b _ hb=>hold b hb) (fun b hb=>.inl hb);have fresh:∀ {r},w.heap.size<=r->¬ G r/\¬ J r/\¬ U r/\¬ N r/\¬ Own ν σ.h r:=fun {r} hr=>by
  refine ⟨fun h=>?_,fun h=>?_,fun h=>?_,fun h=>?_,fun h=>?_⟩
  ·have:=I1.sr.glt r h;omega
  ·have:=I1.sr.jlt r h;omega
  ·have:=I1.sr.nlt r (I1.sr.un r h);omega
  ·have:=I1.sr.nlt r h;omega
  ·have:=I1.sr.own_lt h;omega
 have hbn:B.n0<=w.heap.size:=Nat.le_trans hn0 I1.ext.size;have hmlt:∀ {r},xeh r∈a.defers->r<w.heap.size:=fun {r} hr=>by
  obtain ⟨r',e,hs⟩:=(I1.marks _ hr).resolve_left (hnm _);cases e;exact (Array.getElem?_eq_some_iff.1 hs.at_).1
 let a':Act:={ a with defers:=mark++a.defers }
 let τ0:St:={ tmps:=σ.tmps,h:=xcn σ.h (ms.map fun i=>(i,none)) }
 have hless:∀ b,Own ν τ0.h b->Own ν σ.h b:=fun b ⟨i,B,h1,h2⟩=>⟨i,B,(xl7 h1).1,h2⟩
 have I3:Inv1 RS B J sd τ0 s a' w1 ν G U N:=by
  refine ⟨I2.sr.less (fun i B h=>(xl7 h).1) (xdp _ _),I2.ts,I2.rs,I2.ext.less hless,I2.first,I2.y,Nat.le_trans I2.len (xdp _ _),fun p hp=>(I2.side p hp).less hless,fun d hd=>?_,?_,?_⟩
  ·rcases List.mem_append.1 hd with hd | hd
   ·rcases hmark with hm | ⟨r,hm,hr,hrl,hr1⟩
    ·rw [hm] at hd;cases hd
    ·rw [hm] at hd;simp only [List.mem_singleton] at hd;obtain ⟨f1,f2,f3,f4,f5⟩:=fresh hr;exact .inr ⟨r,hd,by omega,hr1,f1,f2,f3,f4,fun h=>f5 (hless r h)⟩
   ·exact (I2.marks d hd).imp_right fun ⟨r,e,hs⟩=>⟨r,e,hs.less hless⟩
  ·show (mark++a.defers).Pairwise _;rcases hmark with hm | ⟨r,hm,hr,hrl,hr1⟩
   ·rw [hm];exact I2.nd
   ·rw [hm];refine List.pairwise_append.2 ⟨by simp,I2.nd,fun x hx y hy e=>?_⟩;simp only [List.mem_singleton] at hx;subst hx;subst e;have:=hmlt hy;omega
  ·show B.dp (mark++a.defers);rcases hmark with hm | ⟨r,hm,-⟩
   ·rw [hm];exact I2.low
   ·rw [hm];exact hds.2 rfl r _ I2.low
 obtain ⟨fl1,fl2,fl3,fl4,fl5⟩:=fresh hl;obtain ⟨ν1,I3,hless1⟩:=hgc I3;have hless:∀ b,Own ν1 (gc τ0).h b->Own ν σ.h b:=fun b hb=>hless b (hless1 b hb)
 have hB1:B.w.heap.size<=l:=Nat.le_trans I1.ext.size hl;have hside:Side w1 G J U N (Own ν1 (gc τ0).h) B.w.heap.size l (.loop (xfn fn a'.tmps ps assign body dblk none)):=⟨hB1,hrec,fl1,fl2,fl3,fl4,fun h=>fl5 (hless l h)⟩;have hsdl:∀ p∈sd,p.1≠l:=fun p hp e=>by
  have:=(Array.getElem?_eq_some_iff.1 (I1.side p hp).at_).1;omega
 have hdl:∀ d∈a'.defers,d≠xeh l:=fun d hd e=>by
  subst e;rcases List.mem_append.1 hd with hd | hd
  ·rcases hmark with hm | ⟨r,hm,hr,hrl,hr1⟩
   ·rw [hm] at hd;cases hd
   ·rw [hm] at hd;simp only [List.mem_singleton] at hd;cases hd;exact hrl rfl
  ·have:=hmlt hd;omega
 let Uc:Nat->Prop:=fun b=>U b\/Own ν1 (gc τ0).h b\/b=l
 let Nc:Nat->Prop:=fun b=>Uc b\/xvh B J U N (Own ν1 (gc τ0).h) sd a'.defers b
 have hrs:RSr RS B J sd a' l (xfn fn a'.tmps ps assign body dblk) (gc τ0,none,s) w1 G Uc Nc:=⟨ν1,U,N,I3,hside,hsdl,hdl,fun _=>Iff.rfl,fun _=>Iff.rfl⟩;have hll:l<w1.heap.size:=(Array.getElem?_eq_some_iff.1 hrec).1;have hUlt:∀ b,Uc b->b<w1.heap.size:=by
  rintro b (h | h | h)
  ·exact I3.sr.nlt b (I3.sr.un b h)
  ·exact I3.sr.own_lt h
  ·subst h;exact hll
 have hNlt:∀ b,Nc b->b<w1.heap.size:=by
  rintro b (h | h | h | h | h | h | h | h)
  ·exact hUlt b h
  ·exact hUlt b (.inl h)
  ·exact hUlt b (.inr (.inl h))
  ·exact I3.sr.nlt b h
  ·exact I3.sr.jlt b h
  ·exact Nat.lt_of_lt_of_le h.1 I3.ext.size
  ·obtain ⟨p,hp,rfl⟩:=h;exact (Array.getElem?_eq_some_iff.1 (I3.side p hp).at_).1
  ·obtain ⟨d,hd,rfl⟩:=h;obtain ⟨r,e,hs⟩:=(I3.marks _ hd).resolve_left (hnm _);cases e;exact (Array.getElem?_eq_some_iff.1 hs.at_).1
 have hsr:SR w1 G J Uc Nc ⟨(ν.over ms).φ,some l⟩ (ms.map fun i=>(xag σ.h i).map (mvB true false (pos ms))):=by
  refine (xOy I2.sr hnd (kb:=true) (ky:=false) (J':=J) (y:=some l) (fun _ b hb=>.inl hb) (fun _ h=>h) (fun h=>by cases h)).other hNlt ?_ ?_ ?_ (fun b hb=>.inl hb)
  ·intro b hb ho;obtain ⟨m,Bm,hm,h1,h2⟩:=xRh ho;have hob:Own ν σ.h b:=⟨m,Bm,h1,h2⟩;have hnt:¬ Own ν1 (gc τ0).h b:=fun ho=>by
    obtain ⟨i,Bi,h3,h4⟩:=hless1 b ho;exact (xl7 h3).2 (by rw [I2.sr.inj i m _ _ b (xl7 h3).1 h1 h4 h2];exact hm)
   have hU0:∀ b,Uc b->Own ν σ.h b->¬ Own ν1 (gc τ0).h b->False:=fun b hu ho' hn=>hu.elim (fun h=>I2.sr.nown b (I2.sr.un b h) ho') (fun h=>h.elim hn (fun e=>fl5 (e ▸ ho')))
   rcases hb with h | h | h | h | h | h | h | h
   ·exact hU0 b h hob hnt
   ·exact hU0 b (.inl h) hob hnt
   ·exact hnt h
   ·exact I2.sr.nown b h hob
   ·exact I2.sr.jown b h hob
   ·exact (I2.ext.own b hob).elim h.2 (by omega)
   ·obtain ⟨p,hp,rfl⟩:=h;exact (I2.side p hp).o hob
   ·obtain ⟨d,hd,rfl⟩:=h;rcases List.mem_append.1 hd with hd | hd
    ·rcases hmark with hm | ⟨r,hm,hr,hrl,hr1⟩
     ·rw [hm] at hd;cases hd
     ·rw [hm] at hd;simp only [List.mem_singleton] at hd;cases hd;have:=I1.sr.own_lt hob;omega
    ·obtain ⟨r,e,hs⟩:=(I2.marks _ hd).resolve_left (hnm _);cases e;exact hs.o hob
  ·rintro b hb (h | h | h)
   ·exact I2.sr.gu b hb h
   ·exact I2.sr.gown b hb (hless b h)
   ·subst h;exact fl1 hb
  ·rintro b hb (h | h | h)
   ·exact I2.sr.ju b hb h
   ·exact I2.sr.jown b hb (hless b h)
   ·subst h;exact fl2 hb
 have has1:xae w1 G fa ν J as:=xc1 (fun _ h=>h) (fun b hb=>hold b (I1.sr.glt b hb)) hszs _ (Names.le_refl _) (fun _ h=>.inl h) (fun b hb=>hold b (I1.sr.jlt b hb)) has;have hcs1:xae w1 G cp ν J cs:=xc1 (fun _ h=>h) (fun b hb=>hold b (I1.sr.glt b hb)) hszs _ (Names.le_refl _) (fun _ h=>.inl h) (fun b hb=>hold b (I1.sr.jlt b hb)) hcs;have hmv:∀ c v,Rel w1 G c ν J v->Rel w1 G (mv true false (pos ms) xak c) ⟨(ν.over ms).φ,some l⟩ J v:=xh6 (ν':=⟨(ν.over ms).φ,some l⟩) xif (fun h=>by cases h) (fun _ b hb=>.inl hb) xak;have hrel:xae w1 G (fa.map (mv true false (pos ms) xak)++[.yl]++cp.map (mv true false (pos ms) xak)) ⟨(ν.over ms).φ,some l⟩ J (as++[.func (.yield l) #[] #[]]++cs):=by
  refine xcd (xcd (xc9 hmv has1) (xa6 ?_ xbh)) (xc9 hmv hcs1);simp only [Rel];exact ⟨l,rfl,rfl⟩
 have hc:=hgood.2 (RSr RS B J sd a' l (xfn fn a'.tmps ps assign body dblk)) w1 G J Uc Nc ⟨(ν.over ms).φ,some l⟩ _ (xTz hRM) (fun Hf l' e1 e2=>by
  cases e1;cases e2;exact xT2 hRM iha ihb hgc hH hds.1) hsr hrel hrs
 refine ⟨l,mark,w1,{ target:=.fn (.func gf) cs.toArray,args:=as.toArray++#[.func (.yield l) #[] #[]] },w1,gf,(as++[Value.func (.yield l) #[] #[]]++cs).toArray,w1,hent,?_,fun f' _=>hF.fn f',?_,by rw [hF.depth];simp,?_⟩
 ·have hca:a.eval (.const (.func (.yield l) #[] #[]))=.func (.yield l) #[] #[]:=rfl;simp [resolve,hgv,Deferred.ofValue,hca]
 ·have:=xpl (w:=w1) hgood.1 ((as.toArray++#[Value.func (.yield l) #[] #[]])++cs.toArray);simp only [invoke];rw [this];simp
 ·refine CallsIn.mono (hF.calls hc) fun en w3 hR=>?_
  cases en with
  | panicked _=>
    obtain ⟨⟨t,rfl,-⟩,-⟩:=hR;cases hpn
  | outgrown=>exact hR.elim
  | returned u=>
    obtain ⟨-,_,G3,_,_,_,_,_,_,_,ν3,Uo,No,I5,hs5,hsd5,hd5,_,_⟩:=hR;have hnb:(xfn fn a'.tmps ps assign body dblk pend).state≠.busy:=by cases pend <;> simp [xfn]
    refine ⟨_,_,run_endLoop hs5.at_ hnb,?_⟩;have I6:=I5.on (w':=w3.putObj l (.loop { xfn fn a'.tmps ps assign body dblk pend with state:=.exhausted })) (G':=G3) hRM ⟨rfl,rfl⟩ (by rw [World.putObj_size];exact Nat.le_refl _) (xt0 hs5.at_) (fun _ h=>h)
     (fun b hb=>World.putObj_heap_other (fun e=>hs5.g (e ▸ hb))) (fun b hb=>by rw [World.putObj_size];exact I5.sr.glt b hb) (fun b hb _=>World.putObj_heap_other (by
      rcases hb with h | h | h | h | h | h | h <;> rintro rfl
      ·exact hs5.u h
      ·exact hs5.o h
      ·exact hs5.n h
      ·exact hs5.j h
      ·exact absurd h.1 (Nat.not_lt.2 hs5.new)
      ·obtain ⟨p,hp,e⟩:=h;exact hsd5 p hp e
      ·obtain ⟨d,hd,e⟩:=h;exact hd5 d hd e)) (fun b hb=>.inl hb)
    have hI6:Inv RS B J sd τ s1 a' (w3.putObj l (.loop { xfn fn a'.tmps ps assign body dblk pend with state:=.exhausted })):=⟨_,_,_,_,I6⟩;cases pend with
    | none=>
      subst he;exact ⟨rfl,hI6⟩
    | some e0=>
      subst he;cases e0 with
      | normal=>exact ⟨rfl,hI6⟩
      | exit id=>exact wpIn_exit ⟨rfl,hI6⟩
      | ret=>exact wpIn_ret ⟨rfl,hI6⟩
      | pan t=>exact (hnpd t rfl).elim
theorem xwg (hC:∀ t T,C.ty t=some T->xcc C.P t=some T) (hCall:xf3 C.P call) (hExt:xkr C) (hDraw:xBo C call) (hRM:xd5 RS):∀ (c:Code),xdq c=true->xrr C call f RS H c:=by
 intro c;induction c with
 | skip=>
   intro hrg F B J sd σ s a w e σ' s' hF hro hH hn0 hds I h;simp only [xbs,Option.some.injEq,Prod.mk.injEq] at h;obtain ⟨rfl,rfl,rfl⟩:=h;exact wpIn_skip ⟨rfl,I⟩
 | label l=>
   intro hrg F B J sd σ s a w e σ' s' hF hro hH hn0 hds I h;simp only [xbs,Option.some.injEq,Prod.mk.injEq] at h;obtain ⟨rfl,rfl,rfl⟩:=h;exact wpIn_label ⟨rfl,I⟩
 | region id ops draw=>
   intro hrg F B J sd σ s a w e σ' s' hF hro hH hn0 hds I h;simp only [xbs] at h;cases draw with
   | true=>
     simp only [if_true] at h;exact hDraw S RS H F B J sd σ s a w _ _ _ id ops hRM hF hH (by simpa [xdq] using hrg) I h
   | false=>
     simp only [Bool.false_eq_true,if_false] at h;refine wpIn_region ?_;have:=xwx hC hCall hExt hF hRM hH (ops:=ops) (e:=e) (σ':=σ') (s':=s') (Q:=fun x a' w'=>x=xms e/\Inv RS B J sd σ' s' a' w') (fun a' w' I'=>⟨rfl,I'⟩) ops.toList 0 (by simp) σ s a w I h;simpa using this
 | seq x y ihx ihy=>
   intro hrg F B J sd σ s a w e σ' s' hF hro hH hn0 hds I h;simp only [xdq,Bool.and_eq_true] at hrg;simp only [xbs] at h;refine wpIn_seq ?_;split at h
   ·rename_i σ1 s1 h1;refine wpIn_mono (ihx hrg.1 F B J sd σ s a w _ _ _ hF hro hH hn0 ⟨hds.1,fun h=>hds.2 (by simp [xea,h])⟩ I h1) ?_
    rintro x a' w' ⟨rfl,I'⟩
    exact ihy hrg.2 F B J sd _ _ a' w' _ _ _ hF hro hH hn0 ⟨hds.1,fun h=>hds.2 (by simp [xea,h])⟩ I' h
   ·rename_i hne;refine wpIn_mono (ihx hrg.1 F B J sd σ s a w _ _ _ hF hro hH hn0 ⟨hds.1,fun h=>hds.2 (by simp [xea,h])⟩ I h) ?_
    rintro x a' w' ⟨rfl,I'⟩
    cases e with
    | normal=>exact (hne _ _ h).elim
    | exit id=>exact ⟨rfl,I'⟩
    | ret=>exact ⟨rfl,I'⟩
    | pan t=>exact ⟨rfl,I'⟩
 | cond c x y ihx ihy=>
   intro hrg F B J sd σ s a w e σ' s' hF hro hH hn0 hds I h;simp only [xdq,Bool.and_eq_true] at hrg;simp only [xbs] at h;obtain ⟨ν,G,U,N,I1⟩:=I;have hc:=xiu I1.ts c;split at h
   ·rename_i t ht;rw [ht] at hc;simp only [Rel] at hc;refine wpIn_cond hc ?_;cases t with
    | true=>exact ihx hrg.1 F B J sd σ s a w _ _ _ hF hro hH hn0 ⟨hds.1,fun h=>hds.2 (by simp [xea,h])⟩ ⟨_,_,_,_,I1⟩ (by simpa using h)
    | false=>exact ihy hrg.2 F B J sd σ s a w _ _ _ hF hro hH hn0 ⟨hds.1,fun h=>hds.2 (by simp [xea,h])⟩ ⟨_,_,_,_,I1⟩ (by simpa using h)
   ·cases h
 | block id b ih=>
   intro hrg F B J sd σ s a w e σ' s' hF hro hH hn0 hds I h;simp only [xdq] at hrg;simp only [xbs] at h;refine wpIn_block ?_;split at h
   ·rename_i id' σ1 s1 h1;refine wpIn_mono (ih hrg F B J sd σ s a w _ _ _ hF hro hH hn0 hds I h1) ?_
    rintro x a' w' ⟨rfl,I'⟩
    show if id'=id then _ else _
    split at h
    ·rename_i e1;simp only [Option.some.injEq,Prod.mk.injEq] at h;obtain ⟨rfl,rfl,rfl⟩:=h;rw [if_pos e1];exact ⟨rfl,I'⟩
    ·rename_i e1;simp only [Option.some.injEq,Prod.mk.injEq] at h;obtain ⟨rfl,rfl,rfl⟩:=h;rw [if_neg e1];exact ⟨rfl,I'⟩
   ·rename_i hne;refine wpIn_mono (ih hrg F B J sd σ s a w _ _ _ hF hro hH hn0 hds I h) ?_
    rintro x a' w' ⟨rfl,I'⟩
    cases e with
    | normal=>exact ⟨rfl,I'⟩
    | exit id=>exact (hne _ _ _ h).elim
    | ret=>exact ⟨rfl,I'⟩
    | pan t=>exact ⟨rfl,I'⟩
 | loop b ih=>
   intro hrg F B J sd σ s a w e σ' s' hF hro hH hn0 hds I h;simp only [xdq] at hrg;simp only [xbs,Option.map_eq_some_iff,Prod.mk.injEq] at h;obtain ⟨⟨e1,σ1,s1⟩,h,rfl,rfl,rfl⟩:=h;refine wpIn_mono (xYp (nrm:=_) ?_ (fun σ s a w e σ' s' I h=>ih hrg F B J sd σ s a w e σ' s' hF hro hH hn0 hds I h) I h) (fun x a' w' hh=>⟨hh.1,xYv hh.2⟩)
   rintro σ s a w ⟨ν,G,U,N,I⟩
   obtain ⟨ν',I',_⟩:=xR5 (C:=C) (f:=f) (body:=b) I;exact ⟨ν',G,U,N,I'⟩
 | rangeFunc g ps assign body iha ihb=>intro hrg;simp only [xdq,Bool.and_eq_true] at hrg;exact xT3 hCall hRM (iha hrg.1) (ihb hrg.2)
 | exit id=>
   intro hrg F B J sd σ s a w e σ' s' hF hro hH hn0 hds I h;simp only [xbs,Option.some.injEq,Prod.mk.injEq] at h;obtain ⟨rfl,rfl,rfl⟩:=h;exact wpIn_exit ⟨rfl,I⟩
 | ret=>
   intro hrg F B J sd σ s a w e σ' s' hF hro hH hn0 hds I h;simp only [xbs,Option.some.injEq,Prod.mk.injEq] at h;obtain ⟨rfl,rfl,rfl⟩:=h;exact wpIn_ret ⟨rfl,I⟩
 | goto l=>
   intro hrg F B J sd σ s a w e σ' s' hF hro hH hn0 hds I h;simp only [xbs,reduceCtorEq] at h
 | refuse=>
   intro hrg F B J sd σ s a w e σ' s' hF hro hH hn0 hds I h;simp only [xbs,reduceCtorEq] at h
 | scope b ih=>
   intro hrg F B J sd σ s a w e σ' s' hF hro hH hn0 hds I h;simp only [xbs] at h;refine xMi (wpIn_mono (ih hrg F B J sd σ s a w _ _ _ hF hro hH hn0 hds I h) ?_)
   rintro x a' w' ⟨rfl,I'⟩
   exact ⟨fun l=>by cases e <;> simp [xms],rfl,I'⟩
end
end Go.Lite
