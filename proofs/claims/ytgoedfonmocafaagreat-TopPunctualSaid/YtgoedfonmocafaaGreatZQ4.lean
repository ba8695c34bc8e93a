/-
 What the claim top_punctual rests on,part 4.
-/
import Derived.Test.YtgoedfonmocafaaGreatZQ3
import Derived.ProofKit
import Derived.ReadAgain
noncomputable section
namespace Go.Lite
open Go.ChangeShapes Go.WideShapes Go.ChangeAt Go.RowKit
def xu7 (P:Program):List Field->Nat->Option Nat
 | [],o=>some o
 | f::fs,o=>if f.offset=o then xu7 P fs (o+P.cellsOf f.type) else none
def xhx (P:Program):Nat->TypeId->Bool
 | 0,_=>false
 | d + 1,t=>match P.underlying t with
   | some .bool=>true
   | some (.int _)=>true
   | some (.slice e)=>decide (0<P.cellsOf e) && xhx P d e
   | some (.struct fs)=>decide (xu7 P fs.toList 0=some (P.cellsOf t)) && fs.toList.all (fun f=>xhx P d f.type)
   | _=>false
def xBl (S:TypeId->List AV->Prop):List Field->List AV->Prop
 | [],as=>as=[]
 | f::fs,as=>∃ p q,as=p++q/\S f.type p/\xBl S fs q
def xhe (P:Program):Nat->TypeId->List AV->Prop
 | 0,_,_=>False
 | d + 1,t,as=>match P.underlying t with
   | some .bool=>∃ b,as=[.bool b]
   | some (.int k)=>∃ n,as=[.int k n]/\(Lit.int k n).wf=true
   | some (.slice e)=>∃ es:List (List AV),(as=[.ro .g false (P.cellsOf e) es]\/(es=[]/\as=[.nils]))/\es.length<=maxLen/\∀ x∈es,xhe P d e x
   | some (.struct fs)=>xBl (fun t as=>xhe P d t as) fs.toList as
   | _=>False
section
variable {H:Type} {enc:TypeId×Value->H} {P:Program} {W:World} {base n:Nat} {held:Bool} {J:Nat->Prop}
theorem xqo {α β:Type} {r:Nat->α->β->Prop}:∀ (l:List α),(∀ i x,l[i]?=some x->∃ y,r i x y)->∃ ys:List β,ys.length=l.length/\∀ i x y,l[i]?=some x->ys[i]?=some y->r i x y
 | [],_=>⟨[],rfl,fun i x y h=>by simp at h⟩
 | x :: l,h=>by
   obtain ⟨y,hy⟩:=h 0 x rfl;obtain ⟨ys,hl,hs⟩:=xqo (r:=fun i=>r (i+1)) l (fun i x hx=>h (i+1) x (by simpa using hx));refine ⟨y::ys,by simp [hl],fun i x' y' h1 h2=>?_⟩;cases i with
   | zero=>simp at h1 h2;subst h1;subst h2;exact hy
   | succ i=>simp at h1 h2;exact hs i x' y' h1 h2
theorem xqp:∀ (d:Nat) (J:Nat->Prop) (t:TypeId) (fuel:Nat) (cs:List Value) (x:DataW H×List MemPlace),xhx P d t=true->DataW.trod enc P W base (fun _=>true) held fuel t cs=some x ->
    ∃ as,xhe P d t as/\xae W (fun b=>b<W.heap.size) as Names.none J cs/\(∀ v∈cs,v.oneCell'=true)
 | 0,J,t,fuel,cs,x,hp,h=>by simp [xhx] at hp
 | d + 1, J,t,fuel,cs,x,hp,h=>by
   unfold xhx at hp;split at hp
   ·rename_i hu;obtain ⟨b,rfl,-⟩:=DataW.trod_bool hu h;exact ⟨[.bool b],by simp [xhe,hu],by simp [xae,Rel],by simp [Value.oneCell']⟩
   ·rename_i k hu;obtain ⟨n,rfl,-,hw⟩:=DataW.trod_int hu h;exact ⟨[.int k n],by simp [xhe,hu,hw],by simp [xae,Rel],by simp [Value.oneCell']⟩
   ·rename_i e hu;simp only [Bool.and_eq_true,decide_eq_true_eq] at hp;rcases DataW.trod_slice hu h with ⟨rfl,-⟩ | ⟨a,len,cap,elems,rest,n,-,rfl,-,-,hl,hm,hlen,hel,-⟩
    ·refine ⟨[.nils],by simp only [xhe,hu];exact ⟨[],.inr ⟨by trivial,by trivial⟩,Nat.zero_le _,fun x hx=>by cases hx⟩,?_,by simp [Value.oneCell']⟩;simp only [xae,Rel];exact ⟨_,_,rfl,rfl,rfl⟩
    ·have step:∀ i y,elems[i]?=some y->∃ as,xhe P d e as/\as.length=P.cellsOf e/\xcf W (fun b=>b<W.heap.size) as Names.none (fun _=>False) a.block (a.off+i*P.cellsOf e)/\a.spot=none/\a.block<W.heap.size:=by
      intro i y hy;have hi:i<len:=by rw [<- hlen];exact (List.getElem?_eq_some_iff.1 hy).1
      have hb:=hel i hi;rw [hy,Option.bind_eq_some_iff] at hb;obtain ⟨cs',hc1,hc2⟩:=hb;obtain ⟨-,hcl,hcc⟩:=World.cells?_some hc1;have hspot:a.spot=none/\a.block<W.heap.size:=by
       have h0:=hel 0 (by omega);have he0:0<elems.length:=by omega
       rw [List.getElem?_eq_getElem he0,Option.bind_eq_some_iff] at h0;obtain ⟨cs0,hd1,-⟩:=h0;obtain ⟨-,hdl,hdd⟩:=World.cells?_some hd1;have:=hdd 0 (by omega);rw [List.getElem?_eq_getElem (by omega)] at this;simp only [Nat.zero_mul,Addr.add,if_true] at this;unfold World.cell? at this;split at this
       ·rename_i hh;split at this
        ·cases this
        ·rename_i hs;exact ⟨by simpa using hs,(Array.getElem?_eq_some_iff.1 hh).1⟩
       ·cases this
      obtain ⟨as,hs1,hs2,hs3⟩:=xqp d (fun _=>False) e n cs' y hp.2 hc2;refine ⟨as,hs1,?_,?_,hspot⟩
      ·rw [xb9 hs2,hcl]
      ·refine xpj hs2 hs3 fun j v hj=>?_
       have hjl:j<P.cellsOf e:=by rw [<- hcl];exact (List.getElem?_eq_some_iff.1 hj).1
       have:=hcc j hjl;rw [hj] at this;rw [<- this];obtain ⟨ab,ao,asp⟩:=a;have hsp:=hspot.1;simp only at hsp;subst hsp;simp only [xfx]
     obtain ⟨es,hes,hall⟩:=xqo (r:=fun i _ as=>xhe P d e as/\as.length=P.cellsOf e/\xcf W (fun b=>b<W.heap.size) as Names.none (fun _=>False) a.block (a.off+i*P.cellsOf e)/\a.spot=none/\a.block<W.heap.size) elems step;have hall':∀ i as,es[i]?=some as->xhe P d e as/\as.length=P.cellsOf e/\xcf W (fun b=>b<W.heap.size) as Names.none (fun _=>False) a.block (a.off+i*P.cellsOf e)/\a.spot=none/\a.block<W.heap.size:=fun i as hi=>by
      have hlt:i<elems.length:=by rw [<- hes];exact (List.getElem?_eq_some_iff.1 hi).1
      exact hall i _ as (List.getElem?_eq_getElem hlt) hi
     refine ⟨[.ro .g false (P.cellsOf e) es],?_,?_,by simp [Value.oneCell']⟩
     ·simp only [xhe,hu];refine ⟨es,.inl rfl,by omega,fun as has=>?_⟩;obtain ⟨i,hi,rfl⟩:=List.getElem_of_mem has;exact (hall' i _ (List.getElem?_eq_getElem hi)).1
     ·simp only [xae,Rel];refine ⟨_,_,rfl,?_,rfl⟩;by_cases hz:es=[]
      ·exact .inl ⟨hz,a,cap,by rw [hz] at hes;simp at hes;rw [<- hlen,<- hes],fun h=>by cases h⟩
      ·right;have hpos:0<es.length:=List.length_pos_iff.2 hz;obtain ⟨-,-,-,hsp,hbl⟩:=hall' 0 _ (List.getElem?_eq_getElem hpos);obtain ⟨ab,ao,asp⟩:=a;simp only at hsp hbl;subst hsp;exact ⟨ab,ao,cap,by rw [hes,hlen],by omega,(fun h=>by cases h),fun _=>hbl,xwt fun k e' hk=>⟨(hall' k e' hk).2.1,(hall' k e' hk).2.2.1⟩⟩
   ·rename_i fs hu;simp only [Bool.and_eq_true,decide_eq_true_eq,List.all_eq_true] at hp;obtain ⟨xs,n,-,-,hcl,hxl,hx⟩:=DataW.trod_struct hu h;have key:∀ (l:List Field) (k off:Nat),fs.toList.drop k=l->xu7 P l off=some cs.length->∃ as,xBl (fun t as=>xhe P d t as) l as/\xae W (fun b=>b<W.heap.size) as Names.none J (cs.drop off)/\∀ v∈cs.drop off,v.oneCell'=true:=by
     intro l;induction l with
     | nil=>
       intro k off hk hc;simp only [xu7,Option.some.injEq] at hc;refine ⟨[],rfl,?_,?_⟩
       ·rw [List.drop_eq_nil_of_le (by omega)];simp [xae]
       ·rw [List.drop_eq_nil_of_le (by omega)];intro v hv;cases hv
     | cons f l ih=>
       intro k off hk hc;simp only [xu7] at hc;split at hc
       case isFalse=>cases hc
       rename_i hoff;have hfk:fs.toList[k]?=some f:=by
        have:=congrArg (·[0]?) hk;simpa using this
       have hfk':fs[k]?=some f:=by simpa using hfk
       have hklt:k<fs.size:=(Array.getElem?_eq_some_iff.1 hfk').1;obtain ⟨as2,hp2,hr2,ho2⟩:=ih (k+1) _ (by have:=congrArg List.tail hk;simpa using this) hc;have hy:=hx k f hfk';rw [List.getElem?_eq_getElem (by omega)] at hy;obtain ⟨as1,hp1,hr1,ho1⟩:=xqp d J f.type n _ _ (hp.2 f (List.mem_of_getElem? hfk)) hy;rw [hoff] at hr1 ho1;have hsplit:cs.drop off=(cs.drop off).take (P.cellsOf f.type)++cs.drop (off+P.cellsOf f.type):=by
        rw [<- List.drop_drop];exact (List.take_append_drop _ _).symm
       refine ⟨as1++as2,⟨as1,as2,rfl,hp1,hp2⟩,?_,?_⟩
       ·rw [hsplit];exact xcd hr1 hr2
       ·rw [hsplit];intro v hv;exact (List.mem_append.1 hv).elim (ho1 v) (ho2 v)
    obtain ⟨as,h1,h2,h3⟩:=key fs.toList 0 0 rfl (by rw [hcl];exact hp.1);exact ⟨as,by simp only [xhe,hu];exact h1,by simpa using h2,by simpa using h3⟩
   ·cases hp
def xBj (P:Program) (t:TypeId) (as:List AV):AV:=if xeb P t then .agg as else as.headD .und
def xjw (P:Program) (d:Nat):List TypeId->List AV->Prop
 | [],as=>as=[]
 | t::ts,as=>∃ cs rest,as=xBj P t cs::rest/\xhe P d t cs/\xjw P d ts rest
theorem xSv {d:Nat} {t:TypeId} {v:Value} {r:Reach} {D:DataW H} {ps:List MemPlace} (hp:xhx P d t=true) (hv:Value.okWide P W r base t v) (h:DataW.Trod enc P W 0 (fun _=>true) held t v D ps) :
    ∃ cs,xhe P d t cs/\Rel W (fun b=>b<W.heap.size) (xBj P t cs) Names.none J v:=by
 obtain ⟨fuel,hf⟩:=h;obtain ⟨as,h1,h2,h3⟩:=xqp d J t fuel _ _ hp hf;refine ⟨as,h1,?_⟩;unfold Value.okWide at hv;cases d with
 | zero=>simp [xhx] at hp
 | succ d=>
   unfold xhx at hp;unfold xhe at h1;unfold xBj xeb;split at hp
   ·rename_i hu;simp only [hu] at hv h1 ⊢;obtain ⟨b,rfl⟩:=h1;obtain ⟨b',rfl⟩:=okWide_bool hu (by unfold Value.okWide;simp only [hu];exact hv);simpa [xae,Value.cells] using h2
   ·rename_i k hu;simp only [hu] at hv h1 ⊢;obtain ⟨n,rfl,-⟩:=h1;obtain ⟨b',rfl⟩:=okWide_int hu (by unfold Value.okWide;simp only [hu];exact hv);simpa [xae,Value.cells] using h2
   ·rename_i e hu;simp only [hu] at hv h1 ⊢;obtain ⟨es,hes,-⟩:=h1;obtain ⟨a0,len,cap,rfl⟩:=okWide_slice hu (by unfold Value.okWide;simp only [hu];exact hv);rcases hes with rfl | ⟨-,rfl⟩ <;> simpa [xae,Value.cells] using h2
   ·rename_i fs hu;simp only [hu] at hv h1 ⊢;obtain ⟨cs,rfl,-⟩:=hv;simp only [if_true,Rel];exact ⟨cs.toList,by simp,by simpa [Value.cells] using h2⟩
   ·cases hp
theorem xBi {d:Nat} {r:Reach}:∀ {ts:List TypeId} {vs:List Value} {ds:List (DataW H)} {ps:List MemPlace},(∀ t∈ts,xhx P d t=true)->(∀ (j:Nat) t v,ts[j]?=some t->vs[j]?=some v->Value.okWide P W r base t v) ->
    DataW.TrodAll enc P W 0 (fun _=>true) held ts vs ds ps->∃ as,xjw P d ts as/\xae W (fun b=>b<W.heap.size) as Names.none J vs
 | [],[],[],_,_,_,_=>⟨[],rfl,by simp [xae]⟩
 | t :: ts,v::vs,D::ds,_,hp,hv,⟨p,q,h1,h2,_⟩=>by
   obtain ⟨cs,ha,hr⟩:=xSv (J:=J) (hp t List.mem_cons_self) (hv 0 t v rfl rfl) h1;obtain ⟨as,ha2,hr2⟩:=xBi (fun t ht=>hp t (List.mem_cons_of_mem _ ht)) (fun j t v hj hj'=>hv (j+1) t v (by simpa using hj) (by simpa using hj')) h2;exact ⟨_,⟨cs,as,rfl,ha,ha2⟩,xa6 hr hr2⟩
 | [],[],_::_,_,_,_,h=>h.elim
 | [],_::_,_,_,_,_,h=>h.elim
 | _::_,[],_,_,_,_,h=>h.elim
 | _::_,_::_,[],_,_,_,h=>h.elim
theorem xOt {w w':World} (h1:w'.os=w.os) (h2:w'.output=w.output) (hk:∀ b,b<w.heap.size->w'.heap[b]?=w.heap[b]?) (may:MemPlace->Prop):w.keptBut w' may:=by
 refine ⟨h1,h2,fun i hi=>?_⟩;rw [hk i hi];cases w.heap[i]? with
 | none=>rfl
 | some o=>cases o <;> first | rfl | exact ⟨rfl,rfl,rfl,fun _ _=>rfl⟩ | exact .inr ⟨rfl,rfl⟩
theorem xQ3 {w w':World} {p:MemPlace} (h:w'.heap[p.block]?=w.heap[p.block]?):w.sameAt w' p:=by
 cases p with
 | cell b off=>exact xva h off
 | map b=>exact h
theorem xs8 {w w':World} {spare:Nat->Bool}:∀ {ts:List TypeId} {vs:List Value} {ds:List (DataW H)} {ps:List MemPlace},DataW.TrodAll enc P w base spare held ts vs ds ps->(∀ p∈ps,w.sameAt w' p)->DataW.TrodAll enc P w' base spare held ts vs ds ps
 | [],[],[],_,h,_=>h
 | _::_,_::_,_::_,_,⟨p,q,⟨n,h1⟩,h2,e⟩,hs=>⟨p,q,⟨n,DataW.trod_carry n _ _ _ h1 (fun x hx=>hs x (by rw [e];exact List.mem_append_left _ hx))⟩,xs8 h2 (fun x hx=>hs x (by rw [e];exact List.mem_append_right _ hx)),e⟩
 | [],[],_::_,_,h,_=>h.elim
 | [],_::_,_,_,h,_=>h.elim
 | _::_,[],_,_,h,_=>h.elim
 | _::_,_::_,[],_,h,_=>h.elim
theorem xR6 {w w':World} {b off:Nat} (h:w'.heap[b]?=w.heap[b]?):w'.frozen? ⟨b,off,none⟩=w.frozen? ⟨b,off,none⟩:=by
 simp only [World.frozen?,h]
theorem xHl {f:Func} {s:ChangeSpec} {apart fresh handsOn again:Bool} {W W':World} {args:Array Value} {v:Value} {ds gs:List (DataW H)} {before pa pv:List MemPlace}
    (hW:DataW.Whole enc P f.params.toList s.vars apart W args.toList ds gs before)
    (hres:∀ (b:Nat) (sp:Nat->Bool) (hd:Bool),DataW.TrodAll enc P W' b sp hd f.resultTypes.toList (v.resultList f.resultTypes.size) (s.fn H (ds++gs)).results [])
    (hargs:∀ sp:Nat->Bool,(∀ p∈before,sp p.block=true)->DataW.TrodAll enc P W' 0 sp true f.params.toList args.toList (s.fn H (ds++gs)).args pa)
    (hvars:∀ sp:Nat->Bool,(∀ p∈before,sp p.block=true)->DataW.TrodVars enc P W' sp s.vars (s.fn H (ds++gs)).vars pv)
    (hps:before=pa++pv) (h1:W'.os=W.os) (h2:W'.output=W.output) (hk:∀ b,b<W.heap.size->W'.heap[b]?=W.heap[b]?)
    (hok:∀ (j:Nat) (t:TypeId) (r:Value),f.resultTypes[j]?=some t->(v.resultList f.resultTypes.size)[j]?=some r->Value.okWide P W' .any 0 t r) :
    s.post enc P f apart fresh handsOn again W args v W':=by
 have hlt:∀ p∈before,p.block<W.heap.size:=fun p hp=>hW.lt p hp
 have hold:∀ p∈before,(fun b=>decide (b<W.heap.size)) p.block=true:=fun p hp=>by simpa using hlt p hp
 refine ⟨ds,gs,before,[],pa,pv,hW,hres _ _ _,hargs _ hold,hvars _ hold,World.keptBut_mono (fun p hp=>⟨hp,?_⟩) (xOt h1 h2 hk (·∈before)),fun _=>?_⟩
 ·rw [hps,List.mem_append] at hp;exact Or.inr hp
 ·obtain ⟨_,_,_,_,_,hz,hn⟩:=hW;refine ⟨hok,_,_,([]++pa)++pv,⟨[]++pa,pv,trodAll_append (hargs _ (fun _ _=>rfl)) (hres _ _ _),hvars _ (fun _ _=>rfl),rfl,?_,?_⟩,?_⟩
  ·intro b off hp;have hin:MemPlace.cell b off∈before:=by rw [hps];simpa using hp
   rw [xR6 (hk b (hlt _ hin))];exact hz b off hin
  ·intro ha;have:=hn ha;rw [hps] at this;simpa using this
  ·intro p hp _;rw [hps];simpa using hp
theorem xRl {b:Nat}:¬ Own Names.none [] b:=by
 rintro ⟨i,B,e,_⟩
 rw [xd9] at e;cases e
theorem xX6:SR W (fun b=>b<W.heap.size) (fun _=>False) (fun _=>False) (fun _=>False) Names.none [] where
 blk i B e:=by rw [xd9] at e;cases e
 inj i j B B' b e:=by rw [xd9] at e;cases e
 dom i b e:=by cases e
 glt _ h:=h
 jlt _ h:=h.elim
 nlt _ h:=h.elim
 gown _ _:=xRl
 jown _ h:=h.elim
 nown _ h:=h.elim
 gu _ _ h:=h
 ju _ _ h:=h
 un _ h:=h.elim
theorem xR0 {C:Cfg} (hCall:xf3 C.P (xbv C n)) {f:FuncId} {as:List AV} {vs:List Value} {h':xap} (hr:xbv C n Unit none f as [] ()=some (.bool true,h',()))
    (hrel:xae W (fun b=>b<W.heap.size) as Names.none (fun _=>False) vs) :
    Calls C.P f vs.toArray W fun e W'=>e=.returned (.bool true)/\W'.os=W.os/\W'.output=W.output/\∀ b,b<W.heap.size->W'.heap[b]?=W.heap[b]?:=by
 have hg:=hCall _ _ _ _ _ _ _ _ _ hr;have hc:=hg.2 (fun _ _ _ _ _=>True) W (fun b=>b<W.heap.size) (fun _=>False) (fun _=>False) (fun _=>False) Names.none vs (fun _ _ _ _ _ _ _ _ _ _ _ _ _ _ _ _=>trivial) (fun Hf l e=>by cases e)
  xX6 hrel trivial
 refine (callsIn_wide.1 hc).mono fun e W' hR=>?_
 cases e with
 | panicked _=>
   obtain ⟨⟨t,e,-⟩,-⟩:=hR;cases e
 | outgrown=>exact hR.elim
 | returned u=>
   obtain ⟨-,ν',G',U',N',-,-,-,hv,E,-⟩:=hR;simp only [Rel] at hv;subst hv;exact ⟨rfl,E.env.1,E.env.2,fun b hb=>E.keep b hb xRl (fun h=>h)⟩
end
mutual
inductive K where
 | int (k:IntKind)
 | bool
 | ro (ks:List K)
 /-- a pointer that is nil, or one to what never changes -/
 | opt (ks:List K)
 /-- an interface value: a struct of one of these types -/
 | alt (a:KA)
inductive KA where
 | nil
 | cons (t:TypeId) (ks:List K) (r:KA)
end
inductive D where
 | i (n:Int)
 | b (x:Bool)
 | l (es:List (List D))
instance:Inhabited D:=⟨.i 0⟩
def D.I:D->Int
 | .i n=>n
 | _=>0
def D.B:D->Bool
 | .b x=>x
 | _=>false
def D.L:D->List (List D)
 | .l es=>es
 | _=>[]
inductive SV where
 | any
 | und
 | int (k:IntKind) (n:Int)
 | bool (b:Bool)
 | kb (b:Bool)
 | agg (cs:List SV)
 | tup (vs:List SV)
 | nilp
 | ptr (i s k j:Nat)
 | eptr (cs:List SV)
 | nils
 | ro (c0:Bool) (ks:List K) (l:List (List D))
 | sl (i s n:Nat)
 /-- a slice of own memory from an element on -/
 | sub (i s lo n:Nat)
 | nilf
 | fn (f:Fn) (a c:List SV)
 | nili
 | ifc (t:TypeId) (v:SV)
 /-- a slice that is nil or empty, without xlr; s: the size of an element -/
 | emp (s:Nat)
 /-- what a range over a function hands over as yield -/
 | yl
 /-- a call that panics -/
 | pan (t:TypeId)
 /-- nil (no row), or a pointer to a row's cells -/
 | opt (ks:List K) (l:List (List D))
 /-- one of several: the datum 0 tells which -/
 | alt (a:KA) (c:List D)
 /-- a map of one's own -/
 | mp (i:Nat)
 /-- a pointer to a cell of one's own numbers: where it is is not known -/
 | pix (i s p:Nat)
 /-- a nil map -/
 | nilm
inductive SB where
 | box (cs:List SV)
 | row (ks:List K) (l:List (List D))
 | junk
 /-- elements that are known, of s cells each -/
 | lst (s:Nat) (es:List (List SV))
 /-- a map: rows of a key (ka: a struct's cells) and a value -/
 | map (ka:Bool) (kk:List K) (vk:K) (l:List (List D))
 /-- a map whose keys are known -/
 | mlst (es:List (SV×SV))
 /-- so many numbers, as data, and further cells -/
 | arr (k:IntKind) (n:Nat) (l:List (List D)) (tl:List SV)
 /-- rows as data, but for one, which may have memory of its own (ok: the others are as the kinds say) -/
 | hole (ok:Bool) (ks:List K) (l:List (List D)) (q:Nat) (cs:List SV)
abbrev xav:=List (Option SB)
structure SSt where
 tmps:List SV
 h : xav
 /-- what was yielded until now -/
 log:List (List D):=[]
def SV.cells:SV->List SV
 | .agg cs=>cs
 | v=>[v]
inductive T (α:Type) where
 | leaf (a:α)
 | ite (c:Bool) (t e:T α)
 | need (c:Bool) (t:T α)
 | fail
def T.bind {α β:Type}:T α->(α->T β)->T β
 | .leaf a,f=>f a
 | .ite c t e,f=>.ite c (t.bind f) (e.bind f)
 | .need c t,f=>.need c (t.bind f)
 | .fail,_=>.fail
def T.run {α:Type}:T α->Option α
 | .leaf a=>some a
 | .ite c t e=>if c then t.run else e.run
 | .need c t=>if c then t.run else none
 | .fail=>none
def T.ofO {α:Type}:Option α->T α
 | some a=>.leaf a
 | none=>.fail
def T.map {α β:Type} (f:α->β) (t:T α):T β:=t.bind fun a=>.leaf (f a)
def xgt (k:IntKind) (n:Nat) (l:List (List D)):List SV:=(List.range n).map fun q=>.int k ((l.getD q []).getD 0 default).I
def xkb (k:IntKind):List SV->List (List D)
 | .int k' x::r=>if k'=k then [.i x]::xkb k r else []
 | _=>[]
def xFj (cs:List SV):SB:=match cs with
 | .int k x::r=>if 32<=(xkb k (.int k x::r)).length then .arr k (xkb k (.int k x::r)).length (xkb k (.int k x::r)) ((.int k x::r).drop (xkb k (.int k x::r)).length) else .box (.int k x::r)
 | cs=>.box cs
def unB:Option SB->Option SB
 | some (.arr k n l tl)=>some (.box (xgt k n l++tl))
 | o=>o
def xbz (h:xav) (i:Nat):Option SB:=(h[i]?).getD none
def xhw:xav->Nat->Option SB->xav
 | [],0,b=>[b]
 | [],i+1,b=>none::xhw [] i b
 | _::h,0,b=>b::h
 | x::h,i+1,b=>x::xhw h i b
def xrx (h:xav):Nat->xav->xav
 | _,[]=>h
 | i,b::bs=>xrx (xhw h i b) (i+1) bs
def xj9 (h:xav):List (Nat×Option SB)->xav
 | []=>h
 | (i,b)::r=>xj9 (xhw h i b) r
def xAm (k:TypeId->Option (List K)):List Field->Option (List K)
 | []=>some []
 | f :: fs=>match k f.type,xAm k fs with
   | some a,some b=>some (a++b)
   | _,_=>none
def xgn (P:Program):Nat->TypeId->Option (List K)
 | 0,_=>none
 | d + 1,t=>match P.underlying t with
   | some .bool=>some [.bool]
   | some (.int k)=>some [.int k]
   | some (.slice e)=>(xgn P d e).map fun ks=>[.ro ks]
   | some (.struct fs)=>xAm (xgn P d) fs.toList
   | _=>none
def yf7 (P:Program) (t:TypeId):Option (List K):=match P.underlying t with
 | some (.struct fs)=>xAm (fun u=>match P.underlying u with
   | some (.pointer e)=>(xgn P 12 e).map fun ks=>[.opt ks]
   | _=>xgn P 12 u) fs.toList
 | _=>none
def yd9 (P:Program):List TypeId->Option KA
 | []=>some .nil
 | t :: ts=>match yf7 P t,yd9 P ts with
   | some ks,some r=>some (.cons t ks r)
   | _,_=>none
def xO6 (C:Cfg) (e:TypeId):Option (List K):=match C.alts e with
 | [] => (match xgn C.P 12 e with
   | some ks=>some ks
   | none=>(match C.P.underlying e with
     | some (.array n t)=>(xgn C.P 12 t).map fun ks=>(List.replicate n ks).flatten
     | _=>none))
 | ts=>(yd9 C.P ts).map fun a=>[.alt a]
mutual
def keq:K->K->Bool
 | .int a,.int b=>a == b
 | .bool,.bool=>true
 | .ro a,.ro b=>xgz a b
 | .opt a,.opt b=>xgz a b
 | .alt a,.alt b=>xun a b
 | _,_=>false
def xgz:List K->List K->Bool
 | [],[]=>true
 | a::as,b::bs=>keq a b && xgz as bs
 | _,_=>false
def xun:KA->KA->Bool
 | .nil,.nil=>true
 | .cons t ks r,.cons t' ks' r'=>(t == t' && xgz ks ks') && xun r r'
 | _,_=>false
end
def xi7:List K->Bool
 | []=>true
 | .alt _::_=>false
 | _::ks=>xi7 ks
def dec:K->D->SV
 | .int k,d=>.int k d.I
 | .bool,d=>.bool d.B
 | .ro ks,d=>.ro false ks d.L
 | .opt ks,d=>.opt ks d.L
 | .alt a,d=>.alt a (d.L.getD 0 [])
def xe6:List K->List D->Nat->List SV
 | [],_,_=>[]
 | k::ks,c,j=>dec k (c.getD j default)::xe6 ks c (j+1)
def xBt:K->SV->Option D
 | .int k,.int k' n=>if k=k' then some (.i n) else none
 | .bool,.bool b=>some (.b b)
 | .bool,.kb b=>some (.b b)
 | .ro ks,.ro _ ks' l=>if xgz ks ks' then some (.l l) else none
 | .ro _,.nils=>some (.l [])
 | .ro ks,.emp s=>if s=ks.length then some (.l []) else none
 | .opt _,.nilp=>some (.l [])
 | .opt ks,.opt ks' l=>if xgz ks ks' then some (.l l) else none
 | .alt a,.alt a' c=>if xun a a' then some (.l [c]) else none
 | _,_=>none
def xr5 (p:K->SV->Option D):List K->List SV->Option (List D)
 | [],[]=>some []
 | k :: ks,v::vs=>match p k v,xr5 p ks vs with
   | some d,some ds=>some (d::ds)
   | _,_=>none
 | _,_=>none
def xBs:K->SV->Option D
 | .opt ks,.eptr cs=>(xr5 xBt ks cs).map fun c=>.l [c]
 | k,v=>xBt k v
def toA:KA->Nat->TypeId->List SV->Option (List D)
 | .nil,_,_,_=>none
 | .cons t ks r,q,t',cs=>if t=t' then (if xi7 ks then (xr5 xBs ks cs).map fun c=>.i (q:Int)::c else none) else toA r (q+1) t' cs
def toD:K->SV->Option D
 | .alt a,.ifc t (.agg cs)=>(toA a 0 t cs).map fun c=>.l [c]
 | k,v=>xBs k v
def xf5:List K->List SV->Option (List D)
 | [],[]=>some []
 | k :: ks,v::vs=>match toD k v,xf5 ks vs with
   | some d,some ds=>some (d::ds)
   | _,_=>none
 | _,_=>none
def xJl {α:Type} (n:Int) (f:TypeId->List K->T α):KA->Nat->T α
 | .nil,_=>.fail
 | .cons t ks .nil,q=>.need (decide (n=(q:Int))) (f t ks)
 | .cons t ks r,q=>.ite (decide (n=(q:Int))) (f t ks) (xJl n f r (q+1))
def xny (ks:List K):List (List SV)->Option (List (List D))
 | []=>some []
 | e :: es=>match xf5 ks e,xny ks es with
   | some d,some ds=>some (d::ds)
   | _,_=>none
def SV.asB:SV->Option Bool
 | .bool b=>some b
 | .kb b=>some b
 | _=>none
def xex (c ds:List D) (j:Nat):Nat->Nat->List D
 | _,0=>[]
 | q,n+1=>(if j<=q/\q<j+ds.length then ds.getD (q - j) default else c.getD q default)::xex c ds j (q+1) n
def xy9:Value->SV
 | .bool b=>.kb b
 | .int k n=>.int k n
 | .pointer none=>.nilp
 | .slice none 0 0=>.nils
 | .nilFunc=>.nilf
 | .nilIface=>.nili
 | _=>.any
def xTp:Value->SV
 | .agg cs=>.agg (cs.toList.map xy9)
 | v=>xy9 v
def a2s:AV->SV
 | .int k n=>.int k n
 | .bool b=>.kb b
 | .nilp=>.nilp
 | .nils=>.nils
 | .nilf=>.nilf
 | .nili=>.nili
 | .nilm=>.nilm
 | _=>.any
def evS (ts:List SV):Operand->SV
 | .tmp t=>(ts[t]?).getD .und
 | .const v=>xTp v
 | .global _=>.any
 | .func f=>.fn (.func f) [] []
def xd2:Nat->SV->List Nat
 | 0,_=>[]
 | f + 1,v=>match v with
   | .ptr i _ _ _=>[i]
   | .sl i _ _=>[i]
   | .sub i _ _ _=>[i]
   | .mp i=>[i]
   | .pix i _ _=>[i]
   | .agg cs=>cs.flatMap (xd2 f)
   | .tup vs=>vs.flatMap (xd2 f)
   | .fn _ a c=>a.flatMap (xd2 f)++c.flatMap (xd2 f)
   | .ifc _ x=>xd2 f x
   | .pan _=>[0]
   | _=>[]
def xl6:SB->List Nat
 | .box cs=>cs.flatMap (xd2 xak)
 | .row _ _=>[]
 | .junk=>[]
 | .lst _ es=>es.flatMap fun e=>e.flatMap (xd2 xak)
 | .map _ _ _ _=>[]
 | .mlst es=>es.flatMap fun p=>xd2 xak p.1++xd2 xak p.2
 | .arr _ _ _ tl=>tl.flatMap (xd2 xak)
 | .hole _ _ _ _ cs=>cs.flatMap (xd2 xak)
def xc5:List K->Bool
 | []=>true
 | .ro _::_=>false
 | .opt _::_=>false
 | .alt _::_=>false
 | _::ks=>xc5 ks
def xg9 (look:Nat->Option SB):Nat->List Nat->List Nat->List Nat
 | 0,_,acc=>acc.reverse
 | _+1,[],acc=>acc.reverse
 | f + 1,i::q,acc=>
   if acc.contains i then xg9 look f q acc
   else match look i with
    | none=>xg9 look f q acc
    | some b=>xg9 look f (q++xl6 b) (i::acc)
def mvS (kb ky:Bool) (ρ:Nat->Option Nat):Nat->SV->SV
 | 0,_=>.any
 | f + 1,v=>match v with
   | .ptr i s k j=>match ρ i with
     | some i'=>.ptr i' s k j
     | none=>.any
   | .sl i s n=>match ρ i with
     | some i'=>.sl i' s n
     | none=>.any
   | .sub i s lo n=>match ρ i with
     | some i'=>.sub i' s lo n
     | none=>.any
   | .mp i=>match ρ i with
     | some i'=>.mp i'
     | none=>.any
   | .pix i s p=>match ρ i with
     | some i'=>.pix i' s p
     | none=>.any
   | .agg cs=>.agg (cs.map (mvS kb ky ρ f))
   | .tup vs=>.tup (vs.map (mvS kb ky ρ f))
   | .fn g a c=>.fn g (a.map (mvS kb ky ρ f)) (c.map (mvS kb ky ρ f))
   | .ifc t x=>.ifc t (mvS kb ky ρ f x)
   | .eptr cs=>if kb then .eptr cs else .any
   | .ro c0 ks l=>if kb then .ro c0 ks l else .any
   | .opt ks l=>if kb then .opt ks l else .any
   | .alt a c=>if kb then (match f with
     | _+2=>.alt a c
     | _=>.any) else .any
   | .yl=>if ky then .yl else .any
   | v=>v
def xft (kb ky:Bool) (ρ:Nat->Option Nat):SB->SB
 | .box cs=>.box (cs.map (mvS kb ky ρ xak))
 | .row ks l=>if kb || xc5 ks then .row ks l else .junk
 | .junk=>.junk
 | .lst s es=>.lst s (es.map fun e=>e.map (mvS kb ky ρ xak))
 | .map ka kk vk l=>.map ka kk vk l
 | .mlst es=>.mlst (es.map fun p=>(mvS kb ky ρ xak p.1,mvS kb ky ρ xak p.2))
 | .arr k n l tl=>.arr k n l (tl.map (mvS kb ky ρ xak))
 | .hole ok ks l q cs=>.hole (ok && (kb || xc5 ks)) ks l q (cs.map (mvS kb ky ρ xak))
def fzS (look:Nat->Option SB):Nat->SV->SV
 | 0,_=>.any
 | f + 1, v=>match v with
   | .ptr i s k j=>match unB (look i) with
     | some (.box cs)=>if cs.length=s/\k=0 then .eptr ((cs.drop j).map (fzS look f)) else .any
     | _=>.any
   | .pix _ _ _=>.any
   | .sl i s n=>match look i with
     | some (.row ks l)=>if ks.length=s/\2<f then .ro false ks (l.take n) else .any
     | some (.hole true ks l q cs)=>if ks.length=s/\2<f then (match xf5 ks (cs.map (fzS look f)) with
       | some ds=>.ro false ks ((l.set q ds).take n)
       | none=>.any) else .any
     | _=>.any
   | .sub i s lo n=>match look i with
     | some (.row ks l)=>if ks.length=s/\2<f then .ro false ks ((l.drop lo).take n) else .any
     | _=>.any
   | .agg cs=>.agg (cs.map (fzS look f))
   | .fn g a c=>.fn g (a.map (fzS look f)) (c.map (fzS look f))
   | .ifc t x=>.ifc t (fzS look f x)
   | .alt a c=>(match f with
     | _+2=>.alt a c
     | _=>.any)
   | .pan _=>.any
   | .tup _=>.any
   | .mp _=>.any
   | .yl=>.any
   | v=>v
def fzN (look:Nat->Option SB):Nat->SV->List Bool
 | 0,_=>[]
 | f + 1,v=>match v with
   | .ptr i s k j=>match unB (look i) with
     | some (.box cs)=>if cs.length=s/\k=0 then (cs.drop j).flatMap (fzN look f) else []
     | _=>[]
   | .sl i s n=>match look i with
     | some (.row ks l)=>if ks.length=s then [decide (n<=l.length)] else []
     | some (.hole true ks l _ cs)=>if ks.length=s then decide (n<=l.length)::cs.flatMap (fzN look f) else []
     | _=>[]
   | .sub i s lo n=>match look i with
     | some (.row ks l)=>if ks.length=s then [decide (lo+n<=l.length)] else []
     | _=>[]
   | .agg cs=>cs.flatMap (fzN look f)
   | .fn _ a c=>a.flatMap (fzN look f)++c.flatMap (fzN look f)
   | .ifc _ x=>fzN look f x
   | _=>[]
def xey (look:Nat->Option SB):Nat->SV->SV
 | 0,_=>.any
 | f + 1,v=>match v with
   | .ptr i s k j=>match unB (look i) with
     | some (.box cs)=>if cs.length=s/\k=0 then .eptr ((cs.drop j).map (xey look f)) else .any
     | _=>.any
   | .sl i s n=>match look i with
     | some (.row ks l)=>if ks.length=s/\xc5 ks=true/\0<f then .ro false ks (l.take n) else .any
     | _=>.any
   | .agg cs=>.agg (cs.map (xey look f))
   | .tup cs=>.tup (cs.map (xey look f))
   | .fn g a c=>.fn g (a.map (xey look f)) (c.map (xey look f))
   | .ifc t x=>.ifc t (xey look f x)
   | .und=>.und
   | .int k n=>.int k n
   | .bool b=>.bool b
   | .kb b=>.kb b
   | .nilp=>.nilp
   | .nils=>.nils
   | .nilf=>.nilf
   | .nili=>.nili
   | .emp s=>.emp s
   | _=>.any
def xjp (look:Nat->Option SB):Nat->SV->List Bool
 | 0,_=>[]
 | f + 1,v=>match v with
   | .ptr i s k j=>match unB (look i) with
     | some (.box cs)=>if cs.length=s/\k=0 then (cs.drop j).flatMap (xjp look f) else []
     | _=>[]
   | .sl i s n=>match look i with
     | some (.row ks l)=>if ks.length=s then [decide (n<=l.length)] else []
     | _=>[]
   | .agg cs=>cs.flatMap (xjp look f)
   | .tup cs=>cs.flatMap (xjp look f)
   | .fn _ a c=>a.flatMap (xjp look f)++c.flatMap (xjp look f)
   | .ifc _ x=>xjp look f x
   | _=>[]
def xg0 (look:Nat->Option SB):Nat->SV->SV
 | 0,_=>.any
 | f + 1,v=>match v with
   | .ptr i s k j=>xey look (f+1) (.ptr i s k j)
   | .sl i s n=>xey look (f+1) (.sl i s n)
   | .sub _ _ _ _=>.any
   | .pix _ _ _=>.any
   | .agg cs=>.agg (cs.map (xg0 look f))
   | v=>v
def xsn (look:Nat->Option SB):Nat->SV->List Bool
 | 0,_=>[]
 | f + 1,v=>match v with
   | .ptr i s k j=>xjp look (f+1) (.ptr i s k j)
   | .sl i s n=>xjp look (f+1) (.sl i s n)
   | .agg cs=>cs.flatMap (xsn look f)
   | _=>[]
def T.needs {α:Type}:List Bool->T α->T α
 | [],t=>t
 | c::cs,t=>.need c (T.needs cs t)
def xr4 {α:Type} (n:Int) (f:Nat->T α):Nat->Nat->T α
 | _,0=>.fail
 | q,1=>.need (decide (n=(q:Int))) (f q)
 | q,k+2=>.ite (decide (n=(q:Int))) (f q) (xr4 n f (q+1) (k+1))
inductive MS where
 | pure (v:SV)
 | newbox (cs:List SV)
 | newrow (ks:List K) (l:List (List D)) (n:Nat)
 | newe (s:Nat)
 | newlst (s:Nat) (es:List (List SV))
 | load (i s k j:Nat) (agg:Bool) (n:Nat)
 | store (i s k j:Nat) (cs:List SV)
 | loadx (i s p:Nat)
 | storex (i s p:Nat) (v:SV)
 | append (a x:SV) (s bytes:Nat) (ks:List K)
 | copy (d x:SV) (s:Nat)
 | call (f:FuncId) (args:List SV)
 | callp (f:FuncId) (i s k j:Nat) (agg:Bool) (n:Nat) (args:List SV)
 | yld (args:List SV)
 | pan (t:TypeId)
 | newm (b:SB)
 | mlen (i:Nat)
 | mget (i:Nat) (T:Option Ty) (k z:SV) (ok:Bool)
 | mset (i:Nat) (T:Option Ty) (k v:SV)
 | mdel (i:Nat) (T:Option Ty) (k:SV)
def eqD:K->D->D->Bool
 | .int _,a,b=>a.I == b.I
 | .bool,a,b=>a.B == b.B
 | _,_,_=>false
def xmw:List K->List D->List D->Nat->Bool
 | [],_,_,_=>true
 | k::ks,c,d,j=>eqD k (c.getD j default) (d.getD j default) && xmw ks c d (j+1)
def xi8 (kk:List K) (key:List D):List (List D)->Nat->Option Nat
 | [],_=>none
 | c::r,i=>if xmw kk key c 0 then some i else xi8 kk key r (i+1)
def xjk (kk:List K) (key:List D) (l:List (List D)):Bool:=(xi8 kk key l 0).isSome
def xjh (kk:List K) (key:List D) (l:List (List D)):D:=(l.getD ((xi8 kk key l 0).getD 0) []).getD kk.length default
def xf9 (kk:List K) (key:List D) (d:D) (l:List (List D)):List (List D):=match xi8 kk key l 0 with
 | some i=>l.set i (key++[d])
 | none=>l++[key++[d]]
def xFk (kk:List K) (key:List D) (l:List (List D)):List (List D):=match xi8 kk key l 0 with
 | some i=>l.eraseIdx i
 | none=>l
def xIg (ka:Bool) (kk:List K) (v:SV):Option (List D):=match ka,v with
 | true,.agg cs=>xf5 kk cs
 | true,_=>none
 | false,v=>xf5 kk [v]
def xOq:K->Option Bool
 | .int _=>some true
 | .bool=>some false
 | _=>none
def xl4 (Y:Option Ty) (ka:Bool) (kk:List K):Bool:=match Y,ka,kk with
 | some { kind:=.int _,.. },false,[.int _]=>true
 | some { kind:=.bool,.. },false,[.bool]=>true
 | some { kind:=.struct _,eqOk:=some bs,.. },true,kk=>kk.map xOq == bs.map some
 | _,_,_=>false
def xOb (P:Program) (kt e:TypeId):SB:=match xgn P 12 kt,xgn P 12 e with
 | some kk,some [vk]=>if xc5 (vk::kk) then .map (xeb P kt) kk vk [] else .mlst []
 | _,_=>.mlst []
def xFm {α:Type} (k:IntKind) (m:Int) (f:Option SV->T α):List (SV×SV)->T α
 | []=>f none
 | (.int k' n,v)::r=>if k=k' then .ite (decide (m=n)) (f (some v)) (xFm k m f r) else .fail
 | _=>.fail
def xN8 (k:IntKind) (m:Int):List (SV×SV)->Bool
 | []=>true
 | (.int k' n,_)::r=>(decide (k=k') && !(decide (m=n))) && xN8 k m r
 | _=>false
def xwm (op:BinOp) (k:IntKind) (a b:Int):T SV:=match op with
 | .add=>.leaf (.int k (k.wrap (a+b)))
 | .sub=>.leaf (.int k (k.wrap (a - b)))
 | .mul=>.leaf (.int k (k.wrap (a*b)))
 | .quo=>.need (!(b == 0)) (.leaf (.int k (k.wrap (a.tdiv b))))
 | .rem=>.need (!(b == 0)) (.leaf (.int k (a.tmod b)))
 | .and=>.leaf (.int k (k.wrap (BitVec.ofInt k.bits a &&& BitVec.ofInt k.bits b).toNat))
 | .or=>.leaf (.int k (k.wrap (BitVec.ofInt k.bits a ||| BitVec.ofInt k.bits b).toNat))
 | .xor=>.leaf (.int k (k.wrap (BitVec.ofInt k.bits a ^^^ BitVec.ofInt k.bits b).toNat))
 | .eql=>.leaf (.bool (a == b))
 | .neq=>.leaf (.bool (a != b))
 | .lss=>.leaf (.bool (decide (a<b)))
 | .leq=>.leaf (.bool (decide (a<=b)))
 | .gtr=>.leaf (.bool (decide (a > b)))
 | .geq=>.leaf (.bool (decide (a>=b)))
 | _=>.fail
def xe5:List Bool->List SV->List SV->Option Bool
 | [],[],[]=>some true
 | true::ks,.int k a::xs,.int k' b::ys=>if k=k' then (xe5 ks xs ys).map ((a == b) && ·) else none
 | false::ks,x::xs,y::ys=>match x.asB,y.asB with
   | some a,some b=>(xe5 ks xs ys).map ((a == b) && ·)
   | _,_=>none
 | _,_,_=>none
def eqS (Ty:Option Ty) (x y:SV):Option Bool:=match x.asB,y.asB with
 | some a,some b=>(match Ty with
   | some { kind:=.bool,.. }=>some (a == b)
   | _=>none)
 | _,_=>match x,y with
 | .agg xs,.agg ys=>(match Ty with
   | some { eqOk:=some ks,.. }=>xe5 ks xs ys
   | _=>none)
 | x, y=>(match Ty,x,y with
   | some { kind:=.ptr _,.. },.nilp,.nilp=>some true
   | some { kind:=.ptr _,.. },.nilp,.ptr _ _ _ _=>some false
   | some { kind:=.ptr _,.. },.nilp,.eptr _=>some false
   | some { kind:=.ptr _,.. },.ptr _ _ _ _,.nilp=>some false
   | some { kind:=.ptr _,.. },.eptr _,.nilp=>some false
   | some { kind:=.slice _,.. },.nils,.nils=>some true
   | some { kind:=.slice _,.. },.nils,.sl _ _ _=>some false
   | some { kind:=.slice _,.. },.sl _ _ _,.nils=>some false
   | some { kind:=.slice _,.. },.nils,.sub _ _ _ _=>some false
   | some { kind:=.slice _,.. },.sub _ _ _ _,.nils=>some false
   | some { kind:=.iface,.. },.nili,.ifc _ _=>some false
   | some { kind:=.iface,.. },.ifc _ _,.nili=>some false
   | _,_,_=>none)
def xFe (Ty:Option Ty) (r:Bool) (l:List (List D)):T SV:=match Ty with
 | some { kind:=.slice _,.. }=>.need (!l.isEmpty) (.leaf (.kb r))
 | _=>.fail
def xz1 (Ty:Option Ty) (r:Bool):T SV:=match Ty with
 | some { kind:=.ptr _,.. }=>.leaf (.bool r)
 | _=>.fail
def xVh (Ty:Option Ty) (op:BinOp) (x y:SV):T SV:=match op,x,y with
 | .shl,.int k a,.int _ b=>.need (!(decide (b<0))) (.leaf (.int k (k.wrap (a*2 ^ (min b.toNat k.bits)))))
 | .shr,.int k a,.int _ b=>.need (!(decide (b<0))) (.leaf (.int k (a.fdiv (2 ^ (min b.toNat k.bits)))))
 | op,.int k a,.int k' b=>if k=k' then xwm op k a b else .fail
 | .eql,.ro _ _ l,.nils=>xFe Ty false l
 | .neq,.ro _ _ l,.nils=>xFe Ty true l
 | .eql,.opt _ l,.nilp=>xz1 Ty l.isEmpty
 | .neq,.opt _ l,.nilp=>xz1 Ty (!l.isEmpty)
 | .eql,x,y=>T.ofO ((eqS Ty x y).map .bool)
 | .neq,x,y=>T.ofO ((eqS Ty x y).map fun r=>.bool !r)
 | _,_,_=>.fail
def unS (op:UnOp) (x:SV):Option SV:=match op,x with
 | .neg,.int k n=>some (.int k (k.wrap (0 - n)))
 | .not,.bool b=>some (.bool !b)
 | .not,.kb b=>some (.kb !b)
 | _,_=>none
def xmv (ev:Operand->SV) (x:Option Operand) (dflt most:Nat):T Nat:=match x with
 | none=>.leaf dflt
 | some x=>match ev x with
   | .int _ n=>.need (decide (0<=n/\n<=(most:Int))) (.leaf n.toNat)
   | _=>.fail
def ybj:Operand->Operand->Bool
 | .tmp a,.tmp b=>a == b
 | _,_=>false
def xG6 (size:Nat) (ev:Operand->SV) (x:SV) (lo hi mx:Option Operand):T SV:=match x with
 | .nils=>if mx.isSome && hi.isNone then .fail else
   (xmv ev mx 0 0).bind fun _=>(xmv ev hi 0 0).bind fun _=>(xmv ev lo 0 0).bind fun _=>.leaf .nils
 | .ro c0 ks l=>if mx.isSome && hi.isNone then .fail else if ks.length=size then
   (xmv ev mx l.length l.length).bind fun m=>(xmv ev hi l.length m).bind fun h=>(xmv ev lo 0 h).bind fun a=>
    .leaf (.ro (if mx.isSome then decide (m=h) else c0 && decide (h=l.length)) ks ((l.drop a).take (h - a))) else .fail
 | .sl i s n=>if mx.isSome then (if s=size/\hi.isSome=true then (xmv ev mx n n).bind fun m=>(xmv ev hi n m).bind fun h=>(match lo with
   | none=>.leaf (.sl i s h)
   | some x=>(xmv ev (some x) 0 h).bind fun a=>.leaf (.sub i s a (h - a))) else .fail) else if s=size then (xmv ev hi n n).bind fun h=>(match lo with
   | none=>.leaf (.sl i s h)
   | some x=>(xmv ev (some x) 0 h).bind fun a=>.leaf (.sub i s a (h - a))) else .fail
 | _=>.fail
def xUx:SV->Option Nat
 | .nils=>some 0
 | .emp _=>some 0
 | .ro _ _ l=>some l.length
 | .sl _ _ n=>some n
 | .sub _ _ _ n=>some n
 | _=>none
def xHx (a b:Int):Int:=if b<a then b else a
def yg5 (a b:Int):Int:=if b > a then b else a
def xso (f:Int->Int->Int) (k:IntKind):List SV->Int->Option SV
 | [],a=>some (.int k a)
 | .int k' b::r,a=>if k=k' then xso f k r (f a b) else none
 | _,_=>none
def xko (places:Nat->Option (Nat×Nat)) (cells:List SV):List (Nat×SV)->Option (List SV)
 | []=>some cells
 | (_,.any)::_=>none
 | (i, v)::rest=>match places i with
   | none=>none
   | some (off,size)=>if v.cells.length=size/\off+size<=cells.length
     then xko places (cells.take off++v.cells++cells.drop (off+size)) rest else none
def xg3 (s:Nat):Nat->List SV->List (List SV)
 | 0,_=>[]
 | n+1,cs=>cs.take s::xg3 s n (cs.drop s)
def xHm (C:Cfg) (ev:Operand->SV) (b:Builtin) (args:List Operand) (ts:List TypeId):T MS:=match b,args,ts with
 | .len,[x],[t]=>(match C.ty t with
   | some { kind:=.slice _,.. }=>T.ofO ((xUx (ev x)).map fun (n:Nat)=>MS.pure (.int .i64 (n:Int)))
   | some { kind:=.array n _ _,.. }=>.leaf (.pure (.int .i64 n))
   | some { kind:=.map _ _,.. }=>(match ev x with
     | .mp i=>.leaf (.mlen i)
     | _=>.fail)
   | _=>.fail)
 | .min,x::r,_=>(match ev x with
   | .int k a=>T.ofO ((xso xHx k (r.map ev) a).map .pure)
   | _=>.fail)
 | .max,x::r,_=>(match ev x with
   | .int k a=>T.ofO ((xso yg5 k (r.map ev) a).map .pure)
   | _=>.fail)
 | .append,[a,x],[t,u]=>(match C.ty t,C.ty u with
   | some { kind:=.slice e,.. },some { kind:=.slice _,.. }=>(match C.ty e,xO6 C e with
     | some { size:=s,bytes:=by_,zero:=some z,.. },some ks=>if z.length=s/\ks.length=s then .leaf (.append (ev a) (ev x) s by_ ks) else .fail
     | _,_=>.fail)
   | _,_=>.fail)
 | .copy,[d,x],[t,u]=>(match C.ty t,C.ty u with
   | some { kind:=.slice e,.. },some { kind:=.slice _,.. }=>(match C.ty e with
     | some te=>.leaf (.copy (ev d) (ev x) te.size)
     | none=>.fail)
   | _,_=>.fail)
 | .delete,[m,k],t::_=>(match C.ty t,ev m with
   | some { kind:=.map kt _,.. },.mp i=>.leaf (.mdel i (C.ty kt) (ev k))
   | _,_=>.fail)
 | _,_,_=>.fail
def xB4 (T:Option Ty) (x yv:SV) (y:Operand):Bool:=match T,x,yv,y with
 | some { kind:=.iface,.. },.nili,.nili,.const .nilIface=>true
 | _,_,_,_=>false
def xec (C : Cfg) (ev:Operand->SV) (o:Oper):T MS:=match o.op with
 | .move x=>.leaf (.pure (ev x))
 | .assign x=>.leaf (.pure (ev x))
 | .pick c a b=>(match ev c with
   | .bool t=>(match (ev a).asB,(ev b).asB with
     | some x,some y=>.leaf (.pure (.bool (if t then x else y)))
     | _,_=>.ite t (.leaf (.pure (ev a))) (.leaf (.pure (ev b))))
   | .kb t=>.leaf (.pure (if t then ev a else ev b))
   | _=>.fail)
 | .alloc t=>(match C.ty t with
   | some { zero:=some z,.. }=>.leaf (.newbox (z.map a2s))
   | _=>.fail)
 | .box _ x=>(match ev x with
   | .any=>.fail
   | v=>.leaf (.newbox v.cells))
 | .build t parts=>(match C.ty t with
   | some { kind:=.struct fs,zero:=some z,.. }=>
     T.ofO ((xko (fun i=>(fs[i]?).map fun f=>(f.1,f.2.1)) (z.map a2s) (parts.toList.map fun p=>(p.1,ev p.2))).map fun cs=>.pure (.agg cs))
   | some { kind:=.array _ es _,zero:=some z,.. }=>
     T.ofO ((xko (fun i=>some (i*es,es)) (z.map a2s) (parts.toList.map fun p=>(p.1,ev p.2))).map fun cs=>.pure (.agg cs))
   | _=>.fail)
 | .buildSlice t len parts=>(match C.ty t with
   | some { kind:=.slice e,.. }=>(match C.ty e,xO6 C e with
     | some { size:=s,zero:=some z,.. },some ks=>if len*s<=2 ^ 20/\z.length=s/\ks.length=s then
         (match xko (fun i=>some (i*s,s)) (List.replicate len (z.map a2s)).flatten (parts.toList.map fun p=>(p.1,ev p.2)) with
         | some cs=>if len=0 then .leaf (.newe s) else (match xny ks (xg3 s len cs) with
           | some l=>.leaf (.newrow ks l l.length)
           | none=>.leaf (.newlst s (xg3 s len cs)))
         | none=>.fail)
       else .fail
     | some { size:=s,zero:=some z,.. },none=>if len*s<=2 ^ 20/\z.length=s/\len≠0 then
         (match xko (fun i=>some (i*s,s)) (List.replicate len (z.map a2s)).flatten (parts.toList.map fun p=>(p.1,ev p.2)) with
         | some cs=>.leaf (.newlst s (xg3 s len cs))
         | none=>.fail)
       else .fail
     | _,_=>.fail)
   | _=>.fail)
 | .load t a=>(match C.ty t with
   | some ty=>(match ev a with
     | .ptr i s k j=>.leaf (.load i s k j ty.agg ty.size)
     | .eptr cs=>if ty.agg then (if ty.size<=cs.length then .leaf (.pure (.agg (cs.take ty.size))) else .fail) else T.ofO ((cs.head?).map .pure)
     | .opt ks l=>.need (!l.isEmpty) (if ty.agg then (if ty.size<=ks.length then .leaf (.pure (.agg ((xe6 ks (l.getD 0 []) 0).take ty.size))) else .fail) else T.ofO (((xe6 ks (l.getD 0 []) 0).head?).map .pure))
     | .pix i s p=>if ty.agg then .fail else .leaf (.loadx i s p)
     | _=>.fail)
   | none=>.fail)
 | .store t a x=>(match C.ty t with
   | some ty=>(match ev a,ev x with
     | .ptr _ _ _ _,.any=>.fail
     | .ptr i s k j,v=>if v.cells.length=ty.size then .leaf (.store i s k j v.cells) else .fail
     | .pix i s p,.int k n=>if ty.size=1 then .leaf (.storex i s p (.int k n)) else .fail
     | _,_=>.fail)
   | none=>.fail)
 | .nilCheck x=>(match ev x with
   | .ptr i s k j=>.leaf (.pure (.ptr i s k j))
   | .pix i s p=>.leaf (.pure (.pix i s p))
   | .eptr cs=>.leaf (.pure (.eptr cs))
   | .opt ks l=>.need (!l.isEmpty) (.leaf (.pure (.eptr (xe6 ks (l.getD 0 []) 0))))
   | .fn (.func f) a c=>.leaf (.pure (.fn (.func f) a c))
   | _=>.fail)
 | .binOp op t x y _=>if xB4 (C.ty t) (ev x) (ev y) y then (match op with
   | .eql=>.leaf (.pure (.kb true))
   | .neq=>.leaf (.pure (.kb false))
   | _=>.fail) else (xVh (C.ty t) op (ev x) (ev y)).map .pure
 | .unOp op _ x=>T.ofO ((unS op (ev x)).map .pure)
 | .convert s d x=>(match C.ty s,C.ty d,ev x with
   | some { kind:=.int _,.. },some { kind:=.int k,.. },.int _ n=>.leaf (.pure (.int k (k.wrap n)))
   | _,_,_=>.fail)
 | .makeInterface t x=>(match C.ty t with
   | some { kind:=.iface,.. }=>.fail
   | some _=>.leaf (.pure (.ifc t (ev x)))
   | none=>.fail)
 | .makeFunc f a c=>.leaf (.pure (.fn f (a.toList.map ev) (c.toList.map ev)))
 | .makeSlice t l c=>(match C.ty t,ev l,ev c with
   | some { kind:=.slice e,.. },.int .i64 n,.int .i64 m=>(match C.ty e,xO6 C e with
     | some { size:=s,bytes:=by_,zero:=some z,.. },some ks=>(match xf5 ks (z.map a2s) with
       | some d=>if z.length=s/\0<s/\ks.length=s then (match ybj l c with
         | true=>.need (decide (0<=n/\n=m/\n<=2 ^ 40/\by_*n<=2 ^ 46)) (.leaf (.newrow ks (List.replicate n.toNat d) (List.replicate n.toNat d).length))
         | false=>.need (decide (0<=n/\n<=m/\m<=2 ^ 40/\by_*m<=2 ^ 46)) (.leaf (.newrow ks (List.replicate m.toNat d) n.toNat))) else .fail
       | none=>.fail)
     | _,_=>.fail)
   | _,_,_=>.fail)
 | .slice t x lo hi mx=>(match C.ty t with
   | some { kind:=.slice e,.. }=>(match C.ty e with
     | some te=>(xG6 te.size ev (ev x) lo hi mx).map .pure
     | none=>.fail)
   | some { kind:=.array m es _,.. }=>(match lo,hi,mx,ev x with
     | none,none,none,.eptr cs=>if 0<m/\m*es<=cs.length/\es=1 then (match cs with
         | .int k x::r=>if m<=(xkb k (.int k x::r)).length then .leaf (.pure (.ro true [.int k] ((xkb k (.int k x::r)).take m))) else .fail
         | _=>.fail) else .fail
     | _,_,_,_=>.fail)
   | _=>.fail)
 | .fieldAddr t x f=>(match C.ty t with
   | some { kind:=.struct fs,.. }=>(match fs[f]? with
     | some (off,sz,_)=>if sz=0 then .fail else (match ev x with
       | .ptr i s k j=>.leaf (.pure (.ptr i s k (j+off)))
       | .eptr cs=>.leaf (.pure (.eptr (cs.drop off)))
       | .opt ks l=>.need (!l.isEmpty) (.leaf (.pure (.eptr ((xe6 ks (l.getD 0 []) 0).drop off))))
       | _=>.fail)
     | none=>.fail)
   | _=>.fail)
 | .field t x f=>(match C.ty t,ev x with
   | some { kind:=.struct fs,.. },.agg cs=>(match fs[f]? with
     | some (off,sz,true)=>if off+sz<=cs.length then .leaf (.pure (.agg ((cs.drop off).take sz))) else .fail
     | some (off,_,false)=>T.ofO ((cs[off]?).map .pure)
     | none=>.fail)
   | _,_=>.fail)
 | .indexAddr t x ix=>(match C.ty t,ev ix with
   | some { kind:=.slice e,.. },.int _ n=>(match C.ty e,ev x with
     | some te,.ro _ ks l=>if ks.length=te.size then .need (decide (0<=n/\n<(l.length:Int))) (.leaf (.pure (.eptr (xe6 ks (l.getD n.toNat []) 0)))) else .fail
     | some te,.sl i s m=>if s=te.size then .need (decide (0<=n/\n<(m:Int))) (.leaf (.pure (.ptr i s n.toNat 0))) else .fail
     | some te,.sub i s lo m=>if s=te.size then .need (decide (0<=n/\n<(m:Int))) (.leaf (.pure (.ptr i s (lo+n.toNat) 0))) else .fail
     | _,_=>.fail)
   | some { kind:=.array m es _,.. },.int _ n=>(match ix with
     | .tmp _=>if 32<=m then (match ev x with
         | .ptr i s 0 j=>.need (decide (0<=n/\n<(m:Int))) (.leaf (.pure (.pix i s (j+n.toNat*es))))
         | _=>.fail) else xr4 n (fun q=>match ev x with
       | .ptr i s k j=>.leaf (.pure (.ptr i s k (j+q*es)))
       | .eptr cs=>.leaf (.pure (.eptr (cs.drop (q*es))))
       | _=>.fail) 0 m
     | _ => .need (decide (0<=n/\n<(m:Int))) (match ev x with
       | .ptr i s k j=>.leaf (.pure (.ptr i s k (j+n.toNat*es)))
       | .eptr cs=>.leaf (.pure (.eptr (cs.drop (n.toNat*es))))
       | _=>.fail))
   | _,_=>.fail)
 | .index t x ix=>(match xMv C.P t x with
  | some s=>(match ev ix with
   | .int _ n=>.need (decide (0<=n/\n<(s.size:Int))) (.leaf (.pure (.int .u8 (((s[n.toNat]?).getD 0).toNat:Nat))))
   | _=>.fail)
  | none => match C.ty t,ev x,ev ix with
   | some { kind:=.array m es ea,.. },.agg cs,.int _ n=>(match ix with
     | .tmp _=>xr4 n (fun q=>if ea then (if q*es+es<=cs.length then .leaf (.pure (.agg ((cs.drop (q*es)).take es))) else .fail) else T.ofO ((cs[q*es]?).map .pure)) 0 m
     | _ => .need (decide (0<=n/\n<(m:Int)))
       (if ea then (if n.toNat*es+es<=cs.length then .leaf (.pure (.agg ((cs.drop (n.toNat*es)).take es))) else .fail) else T.ofO ((cs[n.toNat*es]?).map .pure)))
   | _,_,_=>.fail)
 | .typeAssert x _ t ok=>(match C.ty t,ev x with
   | some { kind:=.iface,.. },_=>.fail
   | some _,.ifc t' v=>if t'=t then .leaf (.pure (if ok then .tup [v,.kb true] else v)) else .fail
   | _,_=>.fail)
 | .extract x i=>(match ev x with
   | .tup vs=>T.ofO ((vs[i]?).map .pure)
   | _=>.fail)
 | .call c => (match c.callee with
   | .builtin b=>xHm C ev b c.args.toList c.argTypes.toList
   | .value f=>(match ev f with
     | .fn (.func g) a cp=>.leaf (.call g (a++c.args.toList.map ev++cp))
     | .yl=>.leaf (.yld (c.args.toList.map ev))
     | _=>.fail)
   | .invoke recv name=>(match ev recv with
     | .ifc t v=>(match xz3 C.P t name with
       | some (g,none)=>.leaf (.call g (v::c.args.toList.map ev))
       | some (g,some e)=>(match C.ty e,v with
         | some ty,.ptr i s k j=>.leaf (.callp g i s k j ty.agg ty.size (c.args.toList.map ev))
         | _,_=>.fail)
       | none=>.fail)
     | .alt a d=>xJl (d.getD 0 default).I (fun t ks=>match xz3 C.P t name with
       | some (g,none)=>.leaf (.call g (.agg (xe6 ks d 1)::c.args.toList.map ev))
       | _=>.fail) a 0
     | _=>.fail))
 | .panic x=>(match ev x with
   | .ifc t (.agg [])=>.leaf (.pan t)
   | _=>.fail)
 | .makeMap t r=>(match C.ty t with
   | some { kind:=.map kt e,.. }=>(match r with
     | none=>.leaf (.newm (xOb C.P kt e))
     | some x=>(match ev x with
       | .int _ _=>.leaf (.newm (xOb C.P kt e))
       | _=>.fail))
   | _=>.fail)
 | .lookup t x ix ok=>(match C.ty t,ev x with
   | some { kind:=.map kt e,.. },.mp i=>T.ofO ((xvj C.P e).map fun z=>.mget i (C.ty kt) (ev ix) (a2s z) ok)
   | _,_=>.fail)
 | .mapUpdate t m k v=>(match C.ty t,ev m with
   | some { kind:=.map kt _,.. },.mp i=>.leaf (.mset i (C.ty kt) (ev k) (ev v))
   | _,_=>.fail)
 | .insert t m k v=>(match C.ty t,ev m with
   | some { kind:=.map kt _,.. },.mp i=>.leaf (.mset i (C.ty kt) (ev k) (ev v))
   | _,_=>.fail)
 | _=>.fail
def xnl (look:Nat->Option SB) (ks:List K):SV->T (List (List D))
 | .nils=>.leaf []
 | .emp s=>if s=ks.length then .leaf [] else .fail
 | .ro _ ks' l=>if xgz ks ks' then .leaf l else .fail
 | .sl i s n=>match look i with
   | some (.row ks' l)=>if xgz ks ks'/\s=ks.length then .need (decide (n<=l.length)) (.leaf (l.take n)) else .fail
   | _=>.fail
 | .sub i s lo n=>match look i with
   | some (.row ks' l)=>if xgz ks ks'/\s=ks.length then .need (decide (lo+n<=l.length)) (.leaf ((l.drop lo).take n)) else .fail
   | _=>.fail
 | _=>.fail
def okS:SV->Bool
 | .any=>false
 | .und=>false
 | .agg _=>false
 | .tup _=>false
 | .pan _=>false
 | _=>true
def xt6:List SV->Bool
 | []=>true
 | c::cs=>okS c && xt6 cs
structure RS where
 v : SV
 ups:List (Nat×Option SB)
 news:xav
def xR3 (at_:Nat) (nh:xav):xav:=nh.map fun b=>b.map (xft true true (back [] at_))
structure YS where
 fit:List SV->xav->Option (List D)
 head:List D->List SV×xav
 give:Bool
structure Tab where
 sp:FuncId->Option (List SV->T (SV×xav))
 lp:FuncId->Nat->Option (SSt->T (Ex×SSt))
 /-- functions that may write to what they are handed -/
 spw:FuncId->Option (List SV->xav->T (SV×xav))
 /-- what is yielded, and which yield is the first one that is answered with false -/
 y : Option YS:=none
 q : Nat:=0
 /-- ranges over functions -/
 rg:FuncId->Nat->Option (SSt->T (Ex×SSt)):=fun _ _=>none
 /-- functions that yield what their caller is to yield: by what was yielded until now; what they yield further -/
 spy:FuncId->Option (List SV->xav->List (List D)->T ((SV×xav)×List (List D))):=fun _=>none
def xd3 (look:Nat->Option SB) (flags:List Bool) (args:List SV):List Nat×List SV×xav:=
 let ms:=xg9 look wide ((args.zip (flags++List.replicate args.length false)).flatMap fun p=>if p.2 then xd2 xak p.1 else []) []
 let look':Nat->Option SB:=fun i=>if ms.contains i then none else look i
 (ms,(args.zip (flags++List.replicate args.length false)).map (fun p=>if p.2 then mvS true true (pos ms) xak p.1 else fzS look' xak p.1),
  ms.map fun i=>(look i).map (xft true true (pos ms)))
def xoh (look:Nat->Option SB) (flags:List Bool) (args:List SV):List Bool:=
 let ms:=xg9 look wide ((args.zip (flags++List.replicate args.length false)).flatMap fun p=>if p.2 then xd2 xak p.1 else []) []
 let look':Nat->Option SB:=fun i=>if ms.contains i then none else look i
 (args.zip (flags++List.replicate args.length false)).flatMap fun p=>if p.2 then [] else fzN look' xak p.1
def xc8 (ms:List Nat) (at_:Nat) (nh:xav):List (Nat×Option SB)×xav:=
 ((ms.zip (List.range ms.length)).map fun p=>(p.1,(xbz nh p.2).map (xft true true (back ms at_))),
   (nh.drop ms.length).map fun b=>b.map (xft true true (back ms at_)))
def xvn (v:SV):SV:=mvS false true some xak v
def xks (h:xav):xav:=h.map fun b=>b.map (xft false true some)
def xBf (C:Cfg) (tab:Tab) (at_:Nat) (look:Nat->Option SB) (f:FuncId) (args:List SV):T RS:=match C.ext f,C.wr f,tab.sp f with
 | some E,_,_=>(match args,E [] with
   | [],some (.bool b)=>.leaf ⟨.kb b,[],[]⟩
   | _,_=>.fail)
 | none,[],some F=>T.needs (args.flatMap (fzN look xak)) ((F (args.map (fzS look xak))).map fun r=>⟨mvS true true (back [] at_) xak (if C.frz f then r.1 else xvn r.1),[],xR3 at_ (xks r.2)⟩)
 | none, b::bs,_=>(match tab.spw f with
   | some F=>T.needs (xoh look (b::bs) args) (match xd3 look (b::bs) args with
     | (ms,cargs,ch)=>(F cargs ch).map fun r=>match decide (args.length<=(b::bs).length) && (b::bs).all id with
       | true=>⟨mvS true true (back ms at_) xak r.1,(xc8 ms at_ r.2).1,(xc8 ms at_ r.2).2⟩
       | false=>⟨mvS true true (back ms at_) xak (xvn r.1),(xc8 ms at_ (xks r.2)).1,(xc8 ms at_ (xks r.2)).2⟩)
   | none=>.fail)
 | _,_,_=>.fail
def xAa (look:Nat->Option SB) (i s k j:Nat) (agg:Bool) (n:Nat):T SV:=match unB (look i) with
 | some (.box cs)=>if cs.length=s/\k=0 then
     (if agg then (if j+n<=cs.length then .leaf (.agg ((cs.drop j).take n)) else .fail)
     else (match cs[j]? with
      | some v=>.leaf v
      | none=>.fail)) else .fail
 | some (.row ks l)=>if ks.length=s then .need (decide (k<l.length))
     (if agg then (if j+n<=ks.length then .leaf (.agg (((xe6 ks (l.getD k []) 0).drop j).take n)) else .fail)
     else (match (xe6 ks (l.getD k []) 0)[j]? with
      | some v=>.leaf v
      | none=>.fail)) else .fail
 | some (.hole true ks l q cs)=>if ks.length=s then .need (decide (k<l.length)) (.ite (decide (k=q))
     (if agg then (if j+n<=cs.length then .leaf (.agg ((cs.drop j).take n)) else .fail)
     else (match cs[j]? with
      | some v=>.leaf v
      | none=>.fail))
     (if agg then (if j+n<=ks.length then .leaf (.agg (((xe6 ks (l.getD k []) 0).drop j).take n)) else .fail)
     else (match (xe6 ks (l.getD k []) 0)[j]? with
      | some v=>.leaf v
      | none=>.fail))) else .fail
 | some (.lst s' es)=>if s'=s then xr4 (k:Int) (fun q=>match es[q]? with
     | some cs=>if agg then (if j+n<=cs.length then .leaf (.agg ((cs.drop j).take n)) else .fail) else (match cs[j]? with
       | some v=>.leaf v
       | none=>.fail)
     | none=>.fail) 0 es.length else .fail
 | _=>.fail
def cpy {α:Type} (l:List α):List α->Nat->Nat->List α
 | [],_,_=>l
 | x::xs,lo,n=>l.take lo++(x::xs).take (min (x::xs).length n)++l.drop (lo+min (x::xs).length n)
def xT4 (look:Nat->Option SB) (s:Nat):SV->Option (List SV)
 | .sl i s' n=>match look i with
   | some (.lst s'' [cs])=>if s'=s/\s''=s/\n=1 then some cs else none
   | _=>none
 | _=>none
def xVq (at_:Nat) (look:Nat->Option SB) (a:SV) (cs:List SV) (s by_:Nat) (ks:List K):T RS:=if 0<s/\ks.length=s then (match a with
    | .nils=>.need (decide (1<=2 ^ 62/\1*by_<=2 ^ 47)) (.leaf ⟨.sl at_ s 1,[],[some (.hole true ks [[]] 0 cs)]⟩)
    | .sl i s' n=>(match look i with
      | some (.row ks' l)=>if xgz ks ks'/\s'=s then
          .need (decide (n<=l.length/\n+1<=2 ^ 62/\(n+1)*by_<=2 ^ 47)) (.leaf ⟨.sl at_ s (n+1),[(i,none)],[some (.hole true ks (l.take n++[[]]) n cs)]⟩) else .fail
      | _=>.fail)
    | _=>.fail) else .fail
def xjr (C : Cfg) (tab:Tab) (at_:Nat) (look:Nat->Option SB):MS->T RS
 | .pure v=>.leaf ⟨v,[],[]⟩
 | .pan t=>.leaf ⟨.pan t,[],[]⟩
 | .newbox cs=>if xt6 cs then .leaf ⟨.ptr at_ cs.length 0 0,[],[some (xFj cs)]⟩ else .fail
 | .loadx i s p=>match look i with
   | some (.arr k n l tl)=>if n+tl.length=s then .need (decide (p<n)) (.leaf ⟨.int k ((l.getD p []).getD 0 default).I,[],[]⟩) else .fail
   | _=>.fail
 | .storex i s p v=>match look i,v with
   | some (.arr k n l tl),.int k' x=>if n+tl.length=s/\k=k' then .need (decide (p<n)) (.leaf ⟨.und,[(i,some (.arr k n (l.set p [.i x]) tl))],[]⟩) else .fail
   | _,_=>.fail
 | .newrow ks l n=>.leaf ⟨.sl at_ ks.length n,[],[some (.row ks l)]⟩
 | .newe s=>.leaf ⟨.emp s,[],[]⟩
 | .newlst s es=>if es.all (fun e=>xt6 e && decide (e.length=s)) then .leaf ⟨.sl at_ s es.length,[],[some (.lst s es)]⟩ else .fail
 | .load i s k j agg n=>(xAa look i s k j agg n).bind fun v=>.leaf ⟨v,[],[]⟩
 | .store i s k j vs=>match look i with
   | some (.box cs)=>if cs.length=s/\k=0 then
       (if j+vs.length<=cs.length/\xt6 vs=true then .leaf ⟨.und,[(i,some (xFj (cs.take j++vs++cs.drop (j+vs.length))))],[]⟩ else .fail) else .fail
   | some (.row ks l)=>if ks.length=s then
       (match xf5 ((ks.drop j).take vs.length) vs with
       | some ds=>if j+vs.length<=ks.length then .need (decide (k<l.length)) (.leaf ⟨.und,[(i,some (.row ks (l.set k (xex (l.getD k []) ds j 0 ks.length))))],[]⟩) else .fail
       | none=>.fail) else .fail
   | _=>.fail
 | .append a x s by_ ks=>match xT4 look s x with
  | some cs=>xVq at_ look a cs s by_ ks
  | none => (xnl look ks x).bind fun xs=>match a with
     | .nils=>.ite xs.isEmpty (.leaf ⟨.nils,[],[]⟩)
         (if 0<s then .need (decide (xs.length<=2 ^ 62/\xs.length*by_<=2 ^ 47)) (.leaf ⟨.sl at_ s xs.length,[],[some (.row ks xs)]⟩) else .fail)
     | .emp s'=>if s'=s then .ite xs.isEmpty (.leaf ⟨.emp s',[],[]⟩)
         (if 0<s then .need (decide (xs.length<=2 ^ 62/\xs.length*by_<=2 ^ 47)) (.leaf ⟨.sl at_ s xs.length,[],[some (.row ks xs)]⟩) else .fail) else .fail
     | .ro c0 ks' es=>if xgz ks ks' then .ite xs.isEmpty (.leaf ⟨.ro c0 ks' es,[],[]⟩)
         (if 0<s then .need (c0 && decide (es.length+xs.length<=2 ^ 62/\(es.length+xs.length)*by_<=2 ^ 47)) (.leaf ⟨.sl at_ s (es.length+xs.length),[],[some (.row ks (es++xs))]⟩) else .fail) else .fail
     | .sl i s' n=>(match look i with
         | some (.row ks' l)=>if xgz ks ks'/\s'=s/\0<s then .ite xs.isEmpty (.leaf ⟨.sl i s' n,[],[]⟩)
             (.need (decide (n<=l.length/\n+xs.length<=2 ^ 62/\(n+xs.length)*by_<=2 ^ 47)) (.leaf ⟨.sl at_ s (n+xs.length),[(i,none)],[some (.row ks (l.take n++xs))]⟩)) else .fail
         | some (.hole true ks' l q cs)=>if xgz ks ks'/\s'=s/\0<s then .ite xs.isEmpty (.leaf ⟨.sl i s' n,[],[]⟩)
             (.need (decide (q<n/\n<=l.length/\n+xs.length<=2 ^ 62/\(n+xs.length)*by_<=2 ^ 47)) (.leaf ⟨.sl at_ s (n+xs.length),[(i,none)],[some (.hole true ks (l.take n++xs) q cs)]⟩)) else .fail
         | _=>.fail)
     | _=>.fail
 | .copy d x s=>match d with
   | .sl i s' n=>(match look i with
     | some (.row ks l)=>if ks.length=s'/\s'=s then (xnl look ks x).bind fun xs=>.need (decide (n<=l.length)) (.leaf ⟨.int .i64 (min xs.length n:Nat),[(i,some (.row ks (cpy l xs 0 n)))],[]⟩) else .fail
     | _=>.fail)
   | .sub i s' lo n=>(match look i with
     | some (.row ks l)=>if ks.length=s'/\s'=s then (xnl look ks x).bind fun xs=>.need (decide (lo+n<=l.length)) (.leaf ⟨.int .i64 (min xs.length n:Nat),[(i,some (.row ks (cpy l xs lo n)))],[]⟩) else .fail
     | _=>.fail)
   | _=>.fail
 | .call f args=>xBf C tab at_ look f args
 | .callp f i s k j agg n args=>(xAa look i s k j agg n).bind fun v=>xBf C tab at_ look f (v::args)
 | .yld _=>.fail
 | .newm b=>.leaf ⟨.mp at_,[],[some b]⟩
 | .mlen i=>match look i with
   | some (.map _ _ _ l)=>.leaf ⟨.int .i64 (l.length:Nat),[],[]⟩
   | _=>.fail
 | .mget i Y k z ok=>match look i with
   | some (.map ka kk vk l)=>(match xl4 Y ka kk,xIg ka kk k with
     | true,some key=>.ite (xjk kk key l) (.leaf ⟨if ok then .tup [dec vk (xjh kk key l),.kb true] else dec vk (xjh kk key l),[],[]⟩) (.leaf ⟨if ok then .tup [z,.kb false] else z,[],[]⟩)
     | _,_=>.fail)
   | some (.mlst es)=>(match xl4 Y false [.int .i64],k with
     | true,.int q m=>xFm q m (fun r=>match r with
       | some v=>.leaf ⟨if ok then .tup [v,.kb true] else v,[],[]⟩
       | none=>.leaf ⟨if ok then .tup [z,.kb false] else z,[],[]⟩) es
     | _,_=>.fail)
   | _=>.fail
 | .mset i Y k v=>match look i with
   | some (.map ka kk vk l)=>(match xl4 Y ka kk,xIg ka kk k,xf5 [vk] [v] with
     | true,some key,some (d::_)=>.leaf ⟨.und,[(i,some (.map ka kk vk (xf9 kk key d l)))],[]⟩
     | _,_,_=>.fail)
   | some (.mlst es)=>(match xl4 Y false [.int .i64],k with
     | true,.int q m=>.need (xN8 q m es) (.leaf ⟨.und,[(i,some (.mlst (es++[(.int q m,v)])))],[]⟩)
     | _,_=>.fail)
   | _=>.fail
 | .mdel i Y k=>match look i with
   | some (.map ka kk vk l)=>(match xl4 Y ka kk,xIg ka kk k with
     | true,some key=>.leaf ⟨.tup [],[(i,some (.map ka kk vk (xFk kk key l)))],[]⟩
     | _,_=>.fail)
   | _=>.fail
def xCw (C:Cfg) (tab:Tab) (log:List (List D)) (at_:Nat) (look:Nat->Option SB):MS->T (RS×List (List D))
 | .yld args=>match tab.y with
   | none=>.fail
   | some Y=>T.needs (xoh look (args.map fun _=>true) args) (match xd3 look (args.map fun _=>true) args with
     | (ms,cargs,ch)=>match Y.fit cargs ch with
       | some d=>.leaf (⟨.bool (!(log.length == tab.q)),(xc8 ms at_ (if Y.give then (Y.head d).2.take ms.length else [])).1,[]⟩,log++[d])
       | none=>.fail)
 | .call f args=>match C.ext f,C.wr f,tab.spy f with
   | none,b::bs,some F=>T.needs (xoh look (b::bs) args) (match xd3 look (b::bs) args with
     | (ms,cargs,ch)=>(F cargs ch log).bind fun r=>.leaf (match decide (args.length<=(b::bs).length) && (b::bs).all id with
       | true=>⟨mvS true true (back ms at_) xak r.1.1,(xc8 ms at_ r.1.2).1,(xc8 ms at_ r.1.2).2⟩
       | false=>⟨mvS true true (back ms at_) xak (xvn r.1.1),(xc8 ms at_ (xks r.1.2)).1,(xc8 ms at_ (xks r.1.2)).2⟩,log++r.2))
   | _,_,_=>(xjr C tab at_ look (.call f args)).bind fun r=>.leaf (r,log)
 | ma=>(xjr C tab at_ look ma).bind fun r=>.leaf (r,log)
def xkt (dst:Option Tmp) (v:SV) (ts:List SV):List SV:=match dst with
 | none=>ts
 | some d=>ts.set d v
def xvk (ops:Array Oper) (ts:List SV) (o:Oper):T (Bool×List SV):=match o.guard with
 | none=>.leaf (true,ts)
 | some (j,want)=>match (ops[j]?).bind (·.dst) with
   | none=>.fail
   | some d=>match ts[d]? with
     | some (.bool b)=>.ite b (.leaf (want,ts.set d (.kb true))) (.leaf (!want,ts.set d (.kb false)))
     | some (.kb b)=>.leaf (b == want,ts)
     | some .und=>.leaf (false,ts)
     | _=>.fail
def xHp:SV->Option TypeId
 | .pan t=>some t
 | _=>none
def xIx (v:SV):Ex:=match xHp v with
 | some t=>.pan t
 | none=>.normal
def exS (ms:MS) (v:SV):Ex:=match ms with
 | .call _ _=>xIx v
 | .callp _ _ _ _ _ _ _ _=>xIx v
 | .pan _=>xIx v
 | _=>.normal
def vS (ms:MS) (v:SV):SV:=match exS ms v with
 | .normal=>v
 | _=>.any
def xzc (C:Cfg) (tab:Tab) (ops:Array Oper) (o:Oper) (σ:SSt):T (Ex×SSt):=
 (xvk ops σ.tmps o).bind fun w=>match w.1 with
  | false=>.leaf (.normal,{ σ with tmps:=xkt o.dst .und w.2 })
  | true=>(xec C (evS w.2) o).bind fun ma=>(xCw C tab σ.log σ.h.length (xbz σ.h) ma).bind fun r=>
    .leaf (exS ma r.1.v,{ tmps:=xkt o.dst (vS ma r.1.v) w.2,h:=xrx (xj9 σ.h r.1.ups) σ.h.length r.1.news,log:=r.2 })
def xCl (σ:SSt) (t:Nat):List Nat:=xg9 (xbz σ.h) wide (xd2 xak ((σ.tmps[t]?).getD .und)) []
def xCk (σ:SSt) (t:Nat):T SSt:=
 T.needs (xsn (fun i=>if (xCl σ t).contains i then xbz σ.h i else none) xak ((σ.tmps[t]?).getD .und))
  (.leaf { σ with tmps:=σ.tmps.set t (xg0 (fun i=>if (xCl σ t).contains i then xbz σ.h i else none) xak ((σ.tmps[t]?).getD .und)),h:=xj9 σ.h ((xCl σ t).map fun i=>(i,none)) })
def kOf:SV->Option K
 | .ro _ ks _=>some (.ro ks)
 | .int k _=>some (.int k)
 | .bool _=>some .bool
 | .kb _=>some .bool
 | _=>none
def xIf:List SV->Option (List K)
 | []=>some []
 | v :: vs=>match kOf v,xIf vs with
   | some k,some ks=>some (k::ks)
   | _,_=>none
def xhs (σ:SSt) (es:List (List SV)):List Nat:=xg9 (xbz σ.h) wide (es.flatMap fun e=>e.flatMap (xd2 xak)) []
def xwc (σ:SSt) (es:List (List SV)):List (List SV):=es.map fun e=>e.map (xg0 (fun i=>if (xhs σ es).contains i then xbz σ.h i else none) xak)
def xIu (σ:SSt) (t:Nat):T SSt:=match (σ.tmps[t]?).getD .und with
 | .sl i _ _=>(match xbz σ.h i with
   | some (.lst _ es)=>if (xhs σ es).contains i || es.all (fun e=>e.all fun v=>(xd2 xak v).isEmpty) then .fail else
       T.needs (es.flatMap fun e=>e.flatMap (xsn (fun i=>if (xhs σ es).contains i then xbz σ.h i else none) xak)) (match (xIf ((xwc σ es).headD [])).bind fun ks=>(xny ks (xwc σ es)).map fun l=>(ks,l) with
        | some p=>.leaf { σ with h:=xj9 (xhw σ.h i (some (.row p.1 p.2))) ((xhs σ es).map fun i=>(i,none)) }
        | none=>.fail)
   | some (.row _ _)=>.leaf σ
   | some (.hole true ks l q cs)=>if (xhs σ [cs]).contains i || cs.all (fun v=>(xd2 xak v).isEmpty) then .fail else
       T.needs (cs.flatMap (xsn (fun i=>if (xhs σ [cs]).contains i then xbz σ.h i else none) xak)) (match xf5 ks (cs.map (xg0 (fun i=>if (xhs σ [cs]).contains i then xbz σ.h i else none) xak)) with
        | some d=>.leaf { σ with h:=xj9 (xhw σ.h i (some (.row ks (l.set q d)))) ((xhs σ [cs]).map fun i=>(i,none)) }
        | none=>.fail)
   | _=>.fail)
 | _=>.fail
def xOz (σ:SSt) (c:Nat):T SSt:=match (σ.tmps[c / 1000 % 1000]?).getD .und,(σ.tmps[c / 1000000]?).getD .und with
 | .int _ a,.int _ b=>.ite (decide (a=b)) (.leaf σ) (xCk σ (c % 1000))
 | _,_=>.fail
def xuv:List Nat->SSt->T SSt
 | [],σ=>.leaf σ
 | t::r,σ=>(if t<xng then xCk σ t else if t<2*xng then xIu σ (t - xng) else xOz σ (t - 2*xng)).bind (xuv r)
def xry (C:Cfg) (tab:Tab) (ops:Array Oper):List Oper->SSt->T (Ex×SSt)
 | [],σ=>.leaf (.normal,σ)
 | o :: r,σ=>(xuv (C.fzo o) σ).bind fun σ=>(xzc C tab ops o σ).bind fun x=>match x.1 with
   | .normal=>xry C tab ops r x.2
   | _=>.leaf x
def xG9:SV->List Nat
 | .sl i _ _=>[i]
 | .sub i _ _ _=>[i]
 | _=>[]
def xgi (C:Cfg):MS->Touch
 | .pure _=>⟨0,[]⟩
 | .newbox _=>⟨0,[]⟩
 | .newrow _ _ _=>⟨0,[]⟩
 | .newe _=>⟨0,[]⟩
 | .newlst _ _=>⟨0,[]⟩
 | .load i _ _ _ _ _=>⟨1,[i]⟩
 | .store i _ _ _ _=>⟨2,[i]⟩
 | .loadx i _ _=>⟨1,[i]⟩
 | .storex i _ _ _=>⟨2,[i]⟩
 | .append a x _ _ _=>⟨2,xG9 a++xG9 x⟩
 | .copy a x _=>⟨2,xG9 a++xG9 x⟩
 | .call f _=>match C.ext f,C.wr f with
   | none,_::_=>⟨4,[]⟩
   | _,_=>⟨3,[]⟩
 | .callp f _ _ _ _ _ _ _=>match C.ext f,C.wr f with
   | none,_::_=>⟨4,[]⟩
   | _,_=>⟨3,[]⟩
 | .yld _=>⟨4,[]⟩
 | .pan _=>⟨4,[]⟩
 | .newm _=>⟨0,[]⟩
 | .mlen i=>⟨1,[i]⟩
 | .mget i _ _ _ _=>⟨1,[i]⟩
 | .mset i _ _ _=>⟨2,[i]⟩
 | .mdel i _ _=>⟨2,[i]⟩
def xn2 (C:Cfg) (tab:Tab) (ops:Array Oper) (deps:Array Nat) (m:Nat):List (Oper×Nat)->List Done->SSt->T (Ex×SSt)
 | [],_,σ=>.leaf (.normal,σ)
 | (o, i)::r,done,σ=>(xvk ops σ.tmps o).bind fun w=>match w.1 with
   | false=>xn2 C tab ops deps m r done { σ with tmps:=xkt o.dst .und w.2 }
   | true=>(xec C (evS w.2) o).bind fun ma=>
     if done.any (fun d=>!((deps.getD i 0).testBit d.i) && xj5 d.t (xgi C ma)) then .fail else
     (xCw C tab σ.log σ.h.length (fun id=>if xfl m done (deps.getD i 0) id && (decide ((xgi C ma).cls=3\/(xgi C ma).cls=4) || (xgi C ma).is.contains id) then xbz σ.h id else none) ma).bind fun res=>
      match exS ma res.1.v with
      | .normal=>xn2 C tab ops deps m r (⟨i,xgi C ma,σ.h.length,res.1.news.length⟩::done) { tmps:=xkt o.dst res.1.v w.2,h:=xrx (xj9 σ.h res.1.ups) σ.h.length res.1.news,log:=res.2 }
      | e=>if (r.all fun p=>(deps.getD p.2 0).testBit i) && ((done.all fun d=>decide (d.t.cls≠2/\d.t.cls≠4)) && decide ((xgi C ma).cls=3)) then .leaf (e,{ tmps:=xkt o.dst res.1.v w.2,h:=xrx (xj9 σ.h res.1.ups) σ.h.length res.1.news,log:=res.2 }) else .fail
def xGw (ops:List Oper) (ts:List SV):List SV:=ops.foldl (fun ts o=>xkt o.dst .any ts) ts
def xA9 (C:Cfg) (tab:Tab) (ops:Array Oper) (σ:SSt):T (Ex×SSt):=
 (xn2 C tab ops (Region.before ops) σ.h.length (ops.toList.zip (List.range ops.size)) [] σ).bind fun x=>match x.1 with
  | .normal=>.leaf x
  | e=>.leaf (e,{ tmps:=xGw ops.toList σ.tmps,h:=σ.h++List.replicate (x.2.h.length - σ.h.length) none,log:=x.2.log })
def xpy (live:List Nat) (i:Nat):List SV->List SV
 | []=>[]
 | v::vs=>(if live.contains i then v else .any)::xpy live (i+1) vs
def xwa (k:Nat) (vs:List SV) (h:xav):List Nat:=
 let R:=xg9 (xbz h) wide (List.range k++vs.flatMap (xd2 xak)) []
 List.range k++R.filter (fun i=>!(decide (i<k)))
def xrh (kb ky:Bool) (R:List Nat) (h:xav):xav:=R.map fun i=>(xbz h i).map (xft kb ky (pos R))
def xf8 (k:Nat) (live:List Nat) (σ:SSt):SSt:=
 let ts:=xpy live 0 σ.tmps
 let R:=xwa k ts σ.h
 { tmps:=ts.map (mvS true true (pos R) xak),h:=xrh true true R σ.h,log:=σ.log }
def xF6 (C:Cfg) (k:Nat) (f:FuncId) (body:Code):SSt->SSt:=match C.ann f (xbn body) with
 | some live=>xf8 k live
 | none=>id
def xca (C:Cfg) (tab:Tab) (f:FuncId):Code->SSt->T (Ex×SSt)
 | .skip,σ=>.leaf (.normal,σ)
 | .label _,σ=>.leaf (.normal,σ)
 | .region _ ops draw,σ=>
   (match draw with
   | true=>xA9 C tab ops σ
   | false=>xry C tab ops ops.toList σ)
 | .seq a b,σ=>(xca C tab f a σ).bind fun r=>match r.1 with
   | .normal=>xca C tab f b r.2
   | _=>.leaf r
 | .cond c a b,σ=>match evS σ.tmps c with
   | .bool t=>.ite t (xca C tab f a σ) (xca C tab f b σ)
   | .kb t=>(match t with
     | true=>xca C tab f a σ
     | false=>xca C tab f b σ)
   | _=>.fail
 | .block id b,σ=>(xca C tab f b σ).bind fun r=>match r.1 with
   | .exit id'=>.leaf (if id'=id then .normal else .exit id',r.2)
   | _=>.leaf r
 | .loop b,σ=>match tab.lp f (xbn b) with
   | some L=>L σ
   | none=>.fail
 | .rangeFunc _ _ _ b,σ=>match tab.rg f (xbn b) with
   | some L=>L σ
   | none=>.fail
 | .scope b,σ=>xca C tab f b σ
 | .exit id,σ=>.leaf (.exit id,σ)
 | .ret,σ=>.leaf (.ret,σ)
 | _,_=>.fail
def xH8 (h:xav) (C:Cfg) (v:SV) (t:TypeId):Option SV:=match C.ty t,v with
 | some ty,.ptr i s q j=>(match xbz h i with
   | some (.box cs)=>if cs.length=s/\q=0 then (if ty.agg then (if j+ty.size<=cs.length then some (.agg ((cs.drop j).take ty.size)) else none) else cs[j]?) else none
   | _=>none)
 | _,_=>none
def xje (C:Cfg) (σ:SSt):List ResultVar->Option (List SV)
 | []=>some []
 | .tmp t::r=>match xje C σ r with
   | some vs=>some (((σ.tmps[t]?).getD .und)::vs)
   | none=>none
 | .cell a t::r=>match xH8 σ.h C ((σ.tmps[a]?).getD .und) t,xje C σ r with
   | some v,some vs=>some (v::vs)
   | _,_=>none
def xlw:List SV->SV
 | [v]=>v
 | vs=>.tup vs
def xky (C:Cfg) (f:FuncId) (k:Nat) (fn:Func) (σ:SSt):Option (SV×xav):=
 match xje C σ fn.results.toList with
 | none=>none
 | some vs=>if C.frz f || (xHp (xlw vs)).isSome then none else
   let v:=xlw vs
   let R:=xwa k [v] σ.h
   some (mvS true true (pos R) xak v,xrh true true R σ.h)
abbrev xwf (C:Cfg) (f:FuncId) (fn:Func) (σ:SSt):Option (SV×xav):=xky C f 0 fn σ
def xwe (C:Cfg) (fn:Func) (σ:SSt):T (SV×xav):=
 match xje C σ fn.results.toList with
 | none=>.fail
 | some vs=>if (xHp (xlw vs)).isSome then .fail else T.needs (xjp (xbz σ.h) xak (xlw vs)) (.leaf (xey (xbz σ.h) xak (xlw vs),[]))
def xhz:Code->Bool
 | .loop _=>true
 | .rangeFunc _ _ _ _=>true
 | .seq a b=>xhz a || xhz b
 | .cond _ a b=>xhz a || xhz b
 | .block _ b=>xhz b
 | .scope b=>xhz b
 | _=>false
def xrl (C:Cfg) (tab:Tab) (k:Nat) (f:FuncId):Code->SSt->T ((FuncId×List SV)×Ex×SSt)
 | .seq a b,σ=>match xoj a with
   | some (ops,o,x)=>(xry C tab ops ops.toList.dropLast σ).bind fun y=>match y.1 with
     | .normal=>if y.2.h.length≠k then .fail else (match evS y.2.tmps x with
       | .fn (.func g) as cs=>(xca C tab f b { y.2 with tmps:=xkt o.dst .und y.2.tmps }).bind fun r=>.leaf ((g,as++cs),r)
       | _=>.fail)
     | _=>.fail
   | none=>if xhz a then .fail else (xca C tab f a σ).bind fun y=>match y.1 with
     | .normal=>xrl C tab k f b y.2
     | _=>.fail
 | _,_=>.fail
def xpp:Code->Code
 | .seq a b=>match xoj a with
   | some _=>b
   | none=>xpp b
 | c=>c
def xq4:List Oper->List SV->Option (List SV)
 | [],ts=>some ts
 | o :: r,ts=>match o.guard,o.op with
   | none,.move x=>xq4 r (xkt o.dst (evS ts x) ts)
   | none,.assign x=>xq4 r (xkt o.dst (evS ts x) ts)
   | _,_=>none
def xSs (C:Cfg) (tab:Tab) (f:FuncId) (rv:SV):Code->SSt->T (Ex×SSt)
 | .seq (.region _ ops false) b,σ=>if xea b || xhz b then .fail else (match ops.toList with
   | o :: r=>if xpz o then (match xq4 r (xkt o.dst rv σ.tmps) with
     | some ts=>xca C tab f b { σ with tmps:=ts }
     | none=>.fail) else .fail
   | []=>.fail)
 | _,_=>.fail
def xI8 (C:Cfg) (tab:Tab) (rv:SV) (f:FuncId) (args:List SV) (h:xav):T (SV×xav):=match C.P.funcs[f]? with
 | none=>.fail
 | some fn=>match fn.body with
   | none=>.fail
   | some c=>(xSs C tab f rv c { tmps:=args++List.replicate (fn.ntmps - args.length) .und,h:=h }).bind fun r=>match r.1,r.2.log with
     | .exit _,_=>.fail
     | .pan _,_=>.fail
     | _,[]=>T.ofO (xky C f h.length fn r.2)
     | _,_=>.fail
def xAh (C:Cfg) (tab:Tab) (rv:SV) (g:FuncId) (args:List SV) (σ:SSt):T SSt:=
 T.needs (xoh (xbz σ.h) (args.map fun _=>true) args) (match xd3 (xbz σ.h) (args.map fun _=>true) args with
  | (ms,cargs,ch)=>(xI8 C tab rv g cargs ch).bind fun r=>.leaf { σ with h:=xrx (xj9 σ.h (xc8 ms σ.h.length r.2).1) σ.h.length (xc8 ms σ.h.length r.2).2 })
def xNh:Ex->SV
 | .pan t=>.ifc t (.agg [])
 | _=>.nili
def xI7 (C:Cfg) (tab:Tab) (k:Nat) (f:FuncId) (args:List SV):T (SV×xav):=match C.P.funcs[f]? with
 | none=>.fail
 | some fn=>match fn.body with
   | none=>.fail
   | some c=>if !xh0 c then .fail else (xrl C tab k f c { tmps:=args++List.replicate (fn.ntmps - args.length) .und,h:=[] }).bind fun r=>match r.2.1,r.2.2.log with
     | .exit _,_=>.fail
     | e,[]=>(xAh C tab (xNh e) r.1.1 r.1.2 r.2.2).bind fun σ'=>T.ofO (xwf C f fn σ')
     | _,_=>.fail
def xPd (C:Cfg) (tab:Tab) (f:FuncId) (args:List SV):T (SV×xav):=match C.P.funcs[f]? with
 | none=>.fail
 | some fn=>match fn.body with
   | none=>.fail
   | some c=>if xh0 c then .fail else (xca C tab f c { tmps:=args++List.replicate (fn.ntmps - args.length) .und,h:=[] }).bind fun r=>match r.1,r.2.log with
     | .exit _,_=>.fail
     | .pan t,[]=>.leaf (.pan t,[])
     | _,[]=>if C.frz f then xwe C fn r.2 else T.ofO (xwf C f fn r.2)
     | _,_=>.fail
def xI6 (C:Cfg) (tab:Tab) (f:FuncId) (args:List SV) (h:xav):T (SV×xav):=match C.P.funcs[f]? with
 | none=>.fail
 | some fn=>match fn.body with
   | none=>.fail
   | some c=>if xh0 c then .fail else (xca C tab f c { tmps:=args++List.replicate (fn.ntmps - args.length) .und,h:=h }).bind fun r=>match r.1,r.2.log with
     | .exit _,_=>.fail
     | .pan _,_=>.fail
     | _,[]=>T.ofO (xky C f h.length fn r.2)
     | _,_=>.fail
def xI5 (C:Cfg) (tab:Tab) (f:FuncId) (args:List SV) (h:xav):T (List (List D)):=match C.P.funcs[f]? with
 | none=>.fail
 | some fn=>match fn.body with
   | none=>.fail
   | some c=>if xh0 c then .fail else (xca C tab f c { tmps:=args++List.replicate (fn.ntmps - args.length) .und,h:=h }).bind fun r=>match r.1 with
     | .exit _=>.fail
     | .pan _=>.fail
     | _ => (match xky C f h.length fn r.2 with
       | some _=>.leaf r.2.log
       | none=>.fail)
theorem T.run_bind {α β:Type} (t:T α) (f:α->T β):(t.bind f).run=t.run.bind fun a=>(f a).run:=by
 induction t with
 | leaf a=>rfl
 | ite c t e ih1 ih2=>simp only [T.bind,T.run,ih1,ih2];split <;> rfl
 | need c t ih=>simp only [T.bind,T.run,ih];split <;> rfl
 | fail=>rfl
theorem T.run_ofO {α:Type} (o:Option α):(T.ofO o).run=o:=by cases o <;> rfl
theorem T.run_map {α β:Type} (f:α->β) (t:T α):(t.map f).run=t.run.map f:=by
 unfold T.map;rw [T.run_bind];cases t.run <;> rfl
theorem T.run_needs {α:Type}:∀ (l:List Bool) (t:T α) (a:α),(T.needs l t).run=some a->(∀ c∈l,c=true)/\t.run=some a
 | [],t,a,h=>⟨fun c hc=>by simp at hc,h⟩
 | c :: cs,t,a,h=>by
   simp only [T.needs,T.run] at h;split at h
   ·rename_i hc;obtain ⟨h1,h2⟩:=T.run_needs cs t a h;exact ⟨fun d hd=>(List.mem_cons.1 hd).elim (fun e=>e ▸ hc) (h1 d),h2⟩
   ·cases h
theorem xps {α:Type} {n:Int} {f:Nat->T α} {r:α}:∀ (k q:Nat),(xr4 n f q k).run=some r->∃ p:Nat,q<=p/\p<q+k/\n=(p:Int)/\(f p).run=some r
 | 0,_,h=>by cases h
 | 1, q,h=>by
   simp only [xr4,T.run] at h;split at h
   ·rename_i hc;exact ⟨q,Nat.le_refl _,by omega,of_decide_eq_true hc,h⟩
   ·cases h
 | k + 2,q,h=>by
   simp only [xr4,T.run] at h;split at h
   ·rename_i hc;exact ⟨q,Nat.le_refl _,by omega,of_decide_eq_true hc,h⟩
   ·obtain ⟨p,h1,h2,h3,h4⟩:=xps (k+1) (q+1) h;exact ⟨p,by omega,by omega,h3,h4⟩
def xby (v:AV):Prop:=∀ f,ids f v=[]
mutual
def xb3:K->D->AV->Prop
 | .int k,d,v=>v=.int k d.I
 | .bool,d,v=>v=.bool d.B
 | .ro ks,d,v=>(v=.nils/\d.L=[])\/∃ kd c0 es,v=.ro kd c0 ks.length es/\es.length=d.L.length/\∀ (i:Nat) (e:List AV) (c:List D),es[i]?=some e->d.L[i]?=some c->xaz ks c 0 e
 | .opt ks,d,v=>(d.L=[]/\v=.nilp)\/∃ kd vs c r,d.L=c::r/\v=.eptr kd vs/\xaz ks c 0 vs
 | .alt a,d,v=>xfz a 0 (d.L.getD 0 []) v
def xaz:List K->List D->Nat->List AV->Prop
 | [],_,_,vs=>vs=[]
 | k::ks,c,j,vs=>∃ v vs',vs=v::vs'/\xb3 k (c.getD j default) v/\xaz ks c (j+1) vs'
def xfz:KA->Nat->List D->AV->Prop
 | .nil,_,_,_=>False
 | .cons t ks r,q,c,v=>((c.getD 0 default).I=(q:Int)/\xi7 ks=true/\∃ vs,v=.ifc t (.agg vs)/\xaz ks c 1 vs)\/((c.getD 0 default).I≠(q:Int)/\xfz r (q+1) c v)
end
def xej (ks:List K) (l:List (List D)) (es:List (List AV)):Prop:=es.length=l.length/\∀ (i:Nat) (e:List AV) (c:List D),es[i]?=some e->l[i]?=some c->xaz ks c 0 e
mutual
def VR:SV->AV->Prop
 | .any,v=>xby v
 | .und,v=>v=.und
 | .int k n,v=>v=.int k n
 | .bool b,v=>v=.bool b
 | .kb b,v=>v=.bool b
 | .agg cs,v=>∃ vs,v=.agg vs/\VRL cs vs
 | .tup cs,v=>∃ vs,v=.tup vs/\VRL cs vs
 | .nilp,v=>v=.nilp
 | .ptr i s k j,v=>v=.ptr i s k j
 | .eptr cs,v=>∃ kd vs,v=.eptr kd vs/\VRL cs vs
 | .nils,v=>v=.nils
 | .ro c0 ks l,v=>(v=.nils/\l=[])\/∃ kd c0' es,v=.ro kd c0' ks.length es/\(c0=true->c0'=true)/\xej ks l es
 | .sl i s n,v=>∃ cap,v=.sl i s 0 n cap
 | .sub i s lo n,v=>∃ cap,v=.sl i s lo n cap
 | .nilf,v=>v=.nilf
 | .fn f a c,v=>∃ a' c',v=.fn f a' c'/\VRL a a'/\VRL c c'
 | .nili,v=>v=.nili
 | .ifc t x,v=>∃ u,v=.ifc t u/\VR x u
 | .emp s,v=>v=.nils\/v=.ro .g true s []
 | .yl,v=>v=.yl
 | .pan t,v=>v=.pan t
 | .opt ks l,v=>(l=[]/\v=.nilp)\/∃ kd vs c r,l=c::r/\v=.eptr kd vs/\xaz ks c 0 vs
 | .alt a c,v=>xfz a 0 c v
 | .mp i,v=>v=.mp i
 | .pix i s p,v=>v=.ptr i s 0 p
 | .nilm,v=>v=.nilm
def VRL:List SV->List AV->Prop
 | [],vs=>vs=[]
 | c::cs,vs=>∃ v vs',vs=v::vs'/\VR c v/\VRL cs vs'
end
theorem xa4:∀ {cs:List SV} {vs:List AV},VRL cs vs->cs.length=vs.length
 | [],_,h=>by simp only [VRL] at h;subst h;rfl
 | c :: cs,_,h=>by
   simp only [VRL] at h;obtain ⟨v,vs',rfl,_,h2⟩:=h;simp [xa4 h2]
theorem xd4:∀ {cs:List SV} {vs:List AV} {i:Nat} {c:SV},VRL cs vs->cs[i]?=some c->∃ v,vs[i]?=some v/\VR c v
 | [],_,_,_,_,e=>by simp at e
 | c :: cs,_,i,c',h,e=>by
   simp only [VRL] at h;obtain ⟨v,vs',rfl,h1,h2⟩:=h;cases i with
   | zero=>simp at e;subst e;exact ⟨v,rfl,h1⟩
   | succ i=>simp at e;obtain ⟨v',h3,h4⟩:=xd4 h2 e;exact ⟨v',by simpa using h3,h4⟩
theorem xs2 {cs:List SV} {vs:List AV} {i:Nat} (h:VRL cs vs) (e:cs[i]?=none):vs[i]?=none:=by
 rw [List.getElem?_eq_none_iff] at e ⊢;rw [<- xa4 h];exact e
theorem xa1 {c:SV} {v:AV} {cs:List SV} {vs:List AV} (h1:VR c v) (h2:VRL cs vs):VRL (c::cs) (v::vs):=by
 simp only [VRL];exact ⟨v,vs,rfl,h1,h2⟩
theorem xbt:VRL [] []:=by simp only [VRL]
theorem xch:∀ {cs ds:List SV} {vs us:List AV},VRL cs vs->VRL ds us->VRL (cs++ds) (vs++us)
 | [],_,_,_,h,h'=>by simp only [VRL] at h;subst h;exact h'
 | c :: cs,_,_,_,h,h'=>by
   simp only [VRL] at h;obtain ⟨v,vs',rfl,h1,h2⟩:=h;exact xa1 h1 (xch h2 h')
theorem xdy:∀ {cs:List SV} {vs:List AV} (n:Nat),VRL cs vs->VRL (cs.take n) (vs.take n)
 | [],_,n,h=>by simp only [VRL] at h;subst h;simp [VRL]
 | c :: cs,_,n,h=>by
   simp only [VRL] at h;obtain ⟨v,vs',rfl,h1,h2⟩:=h;cases n with
   | zero=>exact xbt
   | succ n=>exact xa1 h1 (xdy n h2)
theorem xcw:∀ {cs:List SV} {vs:List AV} (n:Nat),VRL cs vs->VRL (cs.drop n) (vs.drop n)
 | [],_,n,h=>by simp only [VRL] at h;subst h;simp [VRL]
 | c :: cs,_,n,h=>by
   have h':=h;simp only [VRL] at h;obtain ⟨v,vs',rfl,h1,h2⟩:=h;cases n with
   | zero=>exact h'
   | succ n=>simpa using xcw n h2
theorem xwq:∀ {cs:List SV} {vs:List AV} (n:Nat) {c:SV} {v:AV},VRL cs vs->VR c v->VRL (cs.set n c) (vs.set n v)
 | [],_,n,_,_,h,_=>by simp only [VRL] at h;subst h;simp [VRL]
 | c :: cs,_,n,_,_,h,hv=>by
   simp only [VRL] at h;obtain ⟨v,vs',rfl,h1,h2⟩:=h;cases n with
   | zero=>exact xa1 hv h2
   | succ n=>exact xa1 h1 (xwq n h2 hv)
theorem xyo:∀ {cs:List SV} {vs:List AV} (n:Nat) {c:SV} {v:AV},VRL cs vs->vs[n]?=some v->VR c v->VRL (cs.set n c) vs
 | [],_,n,_,_,h,_,_=>by simp only [VRL] at h;subst h;simp [VRL]
 | c :: cs,_,n,_,_,h,e,hv=>by
   simp only [VRL] at h;obtain ⟨v,vs',rfl,h1,h2⟩:=h;cases n with
   | zero=>simp at e;subst e;exact xa1 hv h2
   | succ n=>exact xa1 h1 (xyo n h2 (by simpa using e) hv)
theorem xg5 {g:SV->SV} {g':AV->AV} (hg:∀ c v,VR c v->VR (g c) (g' v)):∀ {cs:List SV} {vs:List AV},VRL cs vs->VRL (cs.map g) (vs.map g')
 | [],_,h=>by simp only [VRL] at h;subst h;exact xbt
 | c :: cs,_,h=>by
   simp only [VRL] at h;obtain ⟨v,vs',rfl,h1,h2⟩:=h;exact xa1 (hg _ _ h1) (xg5 hg h2)
theorem xiw (n:Nat):VRL (List.replicate n .und) (List.replicate n .und):=by
 induction n with
 | zero=>exact xbt
 | succ n ih=>rw [List.replicate_succ,List.replicate_succ];exact xa1 (by simp only [VR]) ih
theorem xjv:∀ {a:KA} {q:Nat} {c:List D} {v:AV},xfz a q c v->∃ t vs,v=.ifc t (.agg vs)
 | .nil,_,_,_,h=>by simp only [xfz] at h
 | .cons t ks r,_,_,_,h=>by
   simp only [xfz] at h;rcases h with ⟨_,_,vs,rfl,_⟩ | ⟨_,h⟩
   ·exact ⟨t,vs,rfl⟩
   ·exact xjv h
theorem xyn {x:SV} {v:AV} (h:VR x v) (hx:∀ cs,v≠.agg cs\/x≠.any):VRL x.cells v.cells:=by
 cases x with
 | any=>
   cases v with
   | agg cs=>exact ((hx cs).elim (fun h=>h rfl) (fun h=>h rfl)).elim
   | _=>exact xa1 h xbt
 | agg cs=>
   simp only [VR] at h;obtain ⟨vs,rfl,h⟩:=h;exact h
 | emp s=>
   simp only [SV.cells];have hh:=h;simp only [VR] at h;rcases h with rfl | rfl <;> exact xa1 hh xbt
 | opt ks l=>
   simp only [SV.cells];have hh:=h;simp only [VR] at h;rcases h with ⟨_,rfl⟩ | ⟨_,_,_,_,_,rfl,_⟩ <;> exact xa1 hh xbt
 | alt a c=>
   simp only [SV.cells];have hh:=h;simp only [VR] at h;obtain ⟨t,vs,rfl⟩:=xjv h;exact xa1 hh xbt
 | _ =>
   simp only [SV.cells];have hh:=h;simp only [VR] at h
   first
    | (subst h;exact xa1 hh xbt)
    | (obtain ⟨_,rfl,_⟩:=h;exact xa1 hh xbt)
    | (obtain ⟨_,rfl⟩:=h;exact xa1 hh xbt)
    | (obtain ⟨_,_,rfl,_⟩:=h;exact xa1 hh xbt)
    | (rcases h with ⟨rfl,_⟩ | ⟨_,_,_,rfl,_⟩ <;> exact xa1 hh xbt)
mutual
theorem ydu:∀ (a b:K),keq a b=true->a=b
 | .int a,b,h=>by cases b <;> simp_all [keq]
 | .bool,b,h=>by cases b <;> simp_all [keq]
 | .ro a,b,h=>by
   cases b with
   | ro b=>simp only [keq] at h;rw [xee a b h]
   | _=>simp [keq] at h
 | .opt a,b,h=>by
   cases b with
   | opt b=>simp only [keq] at h;rw [xee a b h]
   | _=>simp [keq] at h
 | .alt a,b,h=>by
   cases b with
   | alt b=>simp only [keq] at h;rw [xv5 a b h]
   | _=>simp [keq] at h
theorem xee:∀ (a b:List K),xgz a b=true->a=b
 | [],b,h=>by cases b <;> simp_all [xgz]
 | a :: as,b,h=>by
   cases b with
   | nil=>simp [xgz] at h
   | cons b bs=>
     simp only [xgz,Bool.and_eq_true] at h;rw [ydu a b h.1,xee as bs h.2]
theorem xv5:∀ (a b:KA),xun a b=true->a=b
 | .nil,b,h=>by cases b <;> simp_all [xun]
 | .cons t ks r,b,h=>by
   cases b with
   | nil=>simp [xun] at h
   | cons t' ks' r'=>
     simp only [xun,Bool.and_eq_true,beq_iff_eq] at h;rw [h.1.1,xee ks ks' h.1.2,xv5 r r' h.2]
end
theorem xhp:∀ {ks:List K} {c:List D} {j:Nat} {vs:List AV},xaz ks c j vs->vs.length=ks.length
 | [],_,_,_,h=>by simp only [xaz] at h;subst h;rfl
 | k :: ks,_,_,_,h=>by
   simp only [xaz] at h;obtain ⟨v,vs',rfl,_,h⟩:=h;simp [xhp h]
theorem xyw {k:K} {d:D} {v:AV} (h:xb3 k d v):VR (dec k d) v:=by
 cases k with
 | int k=>simpa only [xb3,dec,VR] using h
 | bool=>simpa only [xb3,dec,VR] using h
 | ro ks=>
   simp only [xb3] at h;simp only [dec,VR];rcases h with h | ⟨kd,c0,es,rfl,h1,h2⟩
   ·exact .inl h
   ·exact .inr ⟨kd,c0,es,rfl,fun h=>(by cases h),h1,h2⟩
 | opt ks=>simpa only [xb3,dec,VR] using h
 | alt a=>simpa only [xb3,dec,VR] using h
theorem xiq:∀ {ks:List K} {c:List D} {j:Nat} {vs:List AV},xaz ks c j vs->VRL (xe6 ks c j) vs
 | [],_,_,_,h=>by simp only [xaz] at h;subst h;exact xbt
 | k :: ks,_,_,_,h=>by
   simp only [xaz] at h;obtain ⟨v,vs',rfl,h1,h2⟩:=h;exact xa1 (xyw h1) (xiq h2)
theorem xGm {k:K} {v:SV} {d:D} {a:AV} (h:xBt k v=some d) (hv:VR v a):xb3 k d a:=by
 unfold xBt at h;split at h
 ·rename_i k k' n;split at h
  ·rename_i e;subst e;cases h;simpa only [xb3,VR,D.I] using hv
  ·cases h
 ·cases h;simpa only [xb3,VR,D.B] using hv
 ·cases h;simpa only [xb3,VR,D.B] using hv
 ·rename_i ks c0 ks' l;split at h
  ·rename_i e;cases h;have:=xee _ _ e;subst this;simp only [VR] at hv;simp only [xb3,D.L];rcases hv with ⟨rfl,rfl⟩ | ⟨kd,c0',es,rfl,_,h1,h2⟩
   ·exact .inl ⟨rfl,rfl⟩
   ·exact .inr ⟨kd,c0',es,rfl,h1,h2⟩
  ·cases h
 ·cases h;simp only [VR] at hv;subst hv;simp only [xb3,D.L];exact .inl ⟨by trivial,by trivial⟩
 ·rename_i ks s;split at h
  ·rename_i e;subst e;cases h;simp only [VR] at hv;simp only [xb3,D.L];rcases hv with rfl | rfl
   ·exact .inl ⟨by trivial,by trivial⟩
   ·exact .inr ⟨_,_,[],rfl,rfl,fun i e c h=>by cases h⟩
  ·cases h
 ·cases h;simp only [VR] at hv;subst hv;simp only [xb3,D.L];exact .inl ⟨by trivial,by trivial⟩
 ·rename_i ks ks' l;split at h
  ·rename_i e;cases h;have:=xee _ _ e;subst this;simpa only [xb3,D.L,VR] using hv
  ·cases h
 ·rename_i a' a'' c;split at h
  ·rename_i e;cases h;have:=xv5 _ _ e;subst this;simpa only [xb3,D.L,VR,List.getD_cons_zero] using hv
  ·cases h
 ·cases h
theorem xt4 {p:K->SV->Option D} (hp:∀ {k v d a},p k v=some d->VR v a->xb3 k d a):∀ {ks:List K} {vs:List SV} {ds:List D} {as:List AV} {c:List D} {j:Nat},xr5 p ks vs=some ds->VRL vs as->(∀ i d,ds[i]?=some d->c[j+i]?=some d)->xaz ks c j as
 | [],[],ds,as,c,j,h,hv,hc=>by
   simp only [VRL] at hv;subst hv;simp only [xaz]
 | k :: ks,v::vs,ds,as,c,j,h,hv,hc=>by
   simp only [xr5] at h;split at h
   ·rename_i d ds' h1 h2;cases h;simp only [VRL] at hv;obtain ⟨a,as',rfl,hv1,hv2⟩:=hv;simp only [xaz];have:=hc 0 d rfl;refine ⟨a,as',rfl,?_,xt4 hp h2 hv2 fun i d' hd=>?_⟩
    ·rw [List.getD_eq_getElem?_getD,show c[j]?=some d from this];exact hp h1 hv1
    ·have:=hc (i+1) d' (by simpa using hd);rw [show j+1+i=j+(i+1) by omega];exact this
   ·cases h
 | [],_::_,_,_,_,_,h,_,_=>by simp [xr5] at h
 | _::_,[],_,_,_,_,h,_,_=>by simp [xr5] at h
theorem xGl {k:K} {v:SV} {d:D} {a:AV} (h:xBs k v=some d) (hv:VR v a):xb3 k d a:=by
 unfold xBs at h;split at h
 ·rename_i ks cs;rw [Option.map_eq_some_iff] at h;obtain ⟨c,h1,rfl⟩:=h;simp only [VR] at hv;obtain ⟨kd,vs,rfl,hv⟩:=hv;simp only [xb3,D.L];exact .inr ⟨kd,vs,c,[],rfl,rfl,xt4 xGm h1 hv fun i d hd=>by simpa using hd⟩
 ·exact xGm h hv
theorem xK5 {t:TypeId} {cs:List SV} {vs:List AV} (hv:VRL cs vs):∀ {a:KA} {q:Nat} {c:List D},toA a q t cs=some c->xfz a q c (.ifc t (.agg vs))/\(q:Int)<=(c.getD 0 default).I
 | .nil,_,_,h=>by cases h
 | .cons t' ks r,q,c,h=>by
   simp only [toA] at h;split at h
   ·rename_i e;subst e;split at h
    ·rename_i hn;rw [Option.map_eq_some_iff] at h;obtain ⟨c,h1,rfl⟩:=h;refine ⟨?_,Int.le_refl _⟩;simp only [xfz];exact .inl ⟨rfl,hn,vs,rfl,xt4 xGl h1 hv fun i d hd=>by rw [Nat.add_comm];simpa using hd⟩
    ·cases h
   ·obtain ⟨h1,h2⟩:=xK5 hv h;refine ⟨?_,by omega⟩;simp only [xfz];exact .inr ⟨by omega,h1⟩
theorem xW3 {k:K} {v:SV} {d:D} {a:AV} (h:toD k v=some d) (hv:VR v a):xb3 k d a:=by
 unfold toD at h;split at h
 ·rename_i a' t cs;rw [Option.map_eq_some_iff] at h;obtain ⟨c,h1,rfl⟩:=h;simp only [VR] at hv;obtain ⟨u,rfl,vs,rfl,hv⟩:=hv;simp only [xb3,D.L,List.getD_cons_zero];exact (xK5 hv h1).1
 ·exact xGl h hv
theorem xgj:∀ {ks:List K} {vs:List SV} {ds:List D} {as:List AV} {c:List D} {j:Nat},xf5 ks vs=some ds->VRL vs as->(∀ i d,ds[i]?=some d->c[j+i]?=some d)->xaz ks c j as
 | [],[],ds,as,c,j,h,hv,hc=>by
   simp only [VRL] at hv;subst hv;simp only [xaz]
 | k :: ks,v::vs,ds,as,c,j,h,hv,hc=>by
   simp only [xf5] at h;split at h
   ·rename_i d ds' h1 h2;cases h;simp only [VRL] at hv;obtain ⟨a,as',rfl,hv1,hv2⟩:=hv;simp only [xaz];have:=hc 0 d rfl;refine ⟨a,as',rfl,?_,xgj h2 hv2 fun i d' hd=>?_⟩
    ·rw [List.getD_eq_getElem?_getD,show c[j]?=some d from this];exact xW3 h1 hv1
    ·have:=hc (i+1) d' (by simpa using hd);rw [show j+1+i=j+(i+1) by omega];exact this
   ·cases h
 | [],_::_,_,_,_,_,h,_,_=>by simp [xf5] at h
 | _::_,[],_,_,_,_,h,_,_=>by simp [xf5] at h
theorem xm0:∀ {ks:List K} {vs:List SV} {ds:List D},xf5 ks vs=some ds->ds.length=ks.length/\vs.length=ks.length
 | [],[],ds,h=>by simp only [xf5,Option.some.injEq] at h;subst h;exact ⟨rfl,rfl⟩
 | k :: ks,v::vs,ds,h=>by
   simp only [xf5] at h;split at h
   ·rename_i d ds' h1 h2;cases h;obtain ⟨e1,e2⟩:=xm0 h2;simp [e1,e2]
   ·cases h
 | [],_::_,_,h=>by simp [xf5] at h
 | _::_,[],_,h=>by simp [xf5] at h
theorem xtm {ks:List K}:∀ {vss:List (List SV)} {l:List (List D)} {ess:List (List AV)},xny ks vss=some l->vss.length=ess.length->(∀ (i:Nat) v e,vss[i]?=some v->ess[i]?=some e->VRL v e)->xej ks l ess
 | [],l,ess,h,hl,_=>by
   simp only [xny,Option.some.injEq] at h;subst h;have:ess=[]:=List.length_eq_zero_iff.1 hl.symm;subst this;exact ⟨rfl,fun i e c h=>by simp at h⟩
 | v :: vss,l,ess,h,hl,hh=>by
   simp only [xny] at h;split at h
   ·rename_i d ds h1 h2;cases h;cases ess with
    | nil=>simp at hl
    | cons e ess=>
      obtain ⟨i1,i2⟩:=xtm h2 (by simpa using hl) (fun i v e h1 h2=>hh (i+1) v e (by simpa using h1) (by simpa using h2));refine ⟨by simp [i1],fun i e' c he hc=>?_⟩;cases i with
      | zero=>
        simp at he hc;subst he;subst hc;exact xgj h1 (hh 0 v e rfl rfl) (fun i d h=>by simpa using h)
      | succ i=>exact i2 i e' c (by simpa using he) (by simpa using hc)
   ·cases h
theorem xlj {g:AV->AV} (h1:∀ k n,g (.int k n)=.int k n) (h2:∀ b,g (.bool b)=.bool b) (h3:g .nils=.nils) (h4:g .nilp=.nilp) (h5:∀ kd c0 s es,g (.ro kd c0 s es)=.ro kd c0 s es) (h6:∀ kd vs,g (.eptr kd vs)=.eptr kd vs) :
    ∀ {ks:List K} {c:List D} {j:Nat} {vs:List AV},xi7 ks=true->xaz ks c j vs->vs.map g=vs
 | [],_,_,_,_,h=>by simp only [xaz] at h;subst h;rfl
 | k :: ks,c,j,_,hn,h=>by
   simp only [xaz] at h;obtain ⟨u,us,rfl,e1,e2⟩:=h;rw [List.map_cons];cases k with
   | int k=>simp only [xi7] at hn;simp only [xb3] at e1;rw [e1,h1,xlj h1 h2 h3 h4 h5 h6 hn e2]
   | bool=>simp only [xi7] at hn;simp only [xb3] at e1;rw [e1,h2,xlj h1 h2 h3 h4 h5 h6 hn e2]
   | ro ks'=>
     simp only [xi7] at hn;simp only [xb3] at e1;rw [xlj h1 h2 h3 h4 h5 h6 hn e2];rcases e1 with ⟨rfl,_⟩ | ⟨_,_,_,rfl,_⟩
     ·rw [h3]
     ·rw [h5]
   | opt ks'=>
     simp only [xi7] at hn;simp only [xb3] at e1;rw [xlj h1 h2 h3 h4 h5 h6 hn e2];rcases e1 with ⟨_,rfl⟩ | ⟨_,_,_,_,_,rfl,_⟩
     ·rw [h4]
     ·rw [h6]
   | alt a=>simp [xi7] at hn
theorem xxf:∀ {ks:List K} {c:List D} {j:Nat} {vs:List AV},xi7 ks=true->xaz ks c j vs->∀ v∈vs,xby v
 | [],_,_,_,_,h,v,hv=>by simp only [xaz] at h;subst h;cases hv
 | k :: ks,_,_,_,hn,h,v,hv=>by
   simp only [xaz] at h;obtain ⟨u,us,rfl,e1,e2⟩:=h;have hn2:xi7 ks=true:=by cases k <;> simp [xi7] at hn <;> exact hn
   rcases List.mem_cons.1 hv with rfl | hv
   ·intro f;cases k <;> simp only [xb3] at e1
    ·subst e1;cases f <;> rfl
    ·subst e1;cases f <;> rfl
    ·rcases e1 with ⟨rfl,_⟩ | ⟨_,_,_,rfl,_⟩ <;> cases f <;> rfl
    ·rcases e1 with ⟨_,rfl⟩ | ⟨_,_,_,_,_,rfl,_⟩ <;> cases f <;> rfl
    ·simp [xi7] at hn
   ·exact xxf hn2 e2 v hv
theorem xob:∀ {a:KA} {q:Nat} {c:List D} {v:AV},xfz a q c v->∃ t ks vs,v=.ifc t (.agg vs)/\xi7 ks=true/\xaz ks c 1 vs
 | .nil,_,_,_,h=>by simp only [xfz] at h
 | .cons t ks r,_,_,_,h=>by
   simp only [xfz] at h;rcases h with ⟨_,hn,vs,rfl,h⟩ | ⟨_,h⟩
   ·exact ⟨t,ks,vs,rfl,hn,h⟩
   ·exact xob h
theorem xs7 {a:KA} {q:Nat} {c:List D} {v:AV} (h:xfz a q c v):xby v:=by
 obtain ⟨t,ks,vs,rfl,hn,h⟩:=xob h;intro f
 match f with
 | 0=>rfl
 | 1=>rfl
 | f + 2=>
   simp only [ids];exact List.flatMap_eq_nil_iff.2 fun v hv=>xxf hn h v hv f
theorem xMg {ky:Bool} {ρ:Nat->Option Nat} {f:Nat} {a:KA} {q:Nat} {c:List D} {v:AV} (h:xfz a q c v):mv true ky ρ (f+3) v=v:=by
 obtain ⟨t,ks,vs,rfl,hn,h⟩:=xob h;show AV.ifc t (.agg (vs.map (mv true ky ρ (f+1))))=_;rw [xlj (g:=mv true ky ρ (f+1)) (fun _ _=>rfl) (fun _=>rfl) rfl rfl (fun kd _ _ _=>by cases kd <;> rfl) (fun kd _=>by cases kd <;> rfl) hn h]
theorem xMh {look:Nat->Option Blk} {f:Nat} {a:KA} {q:Nat} {c:List D} {v:AV} (h:xfz a q c v):fz look (f+3) v=v:=by
 obtain ⟨t,ks,vs,rfl,hn,h⟩:=xob h;show AV.ifc t (.agg (vs.map (fz look (f+1))))=_;rw [xlj (g:=fz look (f+1)) (fun _ _=>rfl) (fun _=>rfl) rfl rfl (fun _ _ _ _=>rfl) (fun _ _=>rfl) hn h]
theorem xBn {k:K} {d:D} {v:AV} (h:xb3 k d v):xby v:=by
 intro f;cases k <;> simp only [xb3] at h
 ·subst h;cases f <;> rfl
 ·subst h;cases f <;> rfl
 ·rcases h with ⟨rfl,_⟩ | ⟨_,_,_,rfl,_⟩ <;> cases f <;> rfl
 ·rcases h with ⟨_,rfl⟩ | ⟨_,_,_,_,_,rfl,_⟩ <;> cases f <;> rfl
 ·exact xs7 h f
theorem xme:∀ {ks:List K} {c:List D} {j:Nat} {vs:List AV},xaz ks c j vs->∀ v∈vs,xby v
 | [],_,_,_,h,v,hv=>by simp only [xaz] at h;subst h;cases hv
 | k :: ks,_,_,_,h,v,hv=>by
   simp only [xaz] at h;obtain ⟨u,us,rfl,h1,h2⟩:=h;rcases List.mem_cons.1 hv with rfl | hv
   ·exact xBn h1
   ·exact xme h2 v hv
theorem xog {f:Nat} (ih:∀ v a,VR v a->ids f a=xd2 f v):∀ {cs:List SV} {vs:List AV},VRL cs vs->vs.flatMap (ids f)=cs.flatMap (xd2 f)
 | [],_,h=>by simp only [VRL] at h;subst h;rfl
 | c :: cs,_,h=>by
   simp only [VRL] at h;obtain ⟨v,vs',rfl,h1,h2⟩:=h;simp only [List.flatMap_cons,ih _ _ h1,xog ih h2]
theorem xne:∀ (f:Nat) (v:SV) (a:AV),VR v a->ids f a=xd2 f v
 | 0,v,a,_=>by simp only [ids,xd2]
 | f + 1,v,a,h=>by
   have ih:=xne f;cases v <;> simp only [VR] at h
   case any=>rw [h];rfl
   case agg cs=>obtain ⟨vs,rfl,h⟩:=h;simp only [ids,xd2,xog ih h]
   case tup cs=>obtain ⟨vs,rfl,h⟩:=h;simp only [ids,xd2,xog ih h]
   case fn g x y=>obtain ⟨vs,us,rfl,h1,h2⟩:=h;simp only [ids,xd2,xog ih h1,xog ih h2]
   case ifc t x=>obtain ⟨u,rfl,h⟩:=h;simp only [ids,xd2,ih _ _ h]
   case eptr cs=>obtain ⟨_,_,rfl,_⟩:=h;rfl
   case ro c0 ks l=>rcases h with ⟨rfl,_⟩ | ⟨_,_,_,rfl,_⟩ <;> rfl
   case emp s=>rcases h with rfl | rfl <;> rfl
   case opt ks l=>rcases h with ⟨_,rfl⟩ | ⟨_,_,_,_,_,rfl,_⟩ <;> rfl
   case alt x c=>exact xs7 h (f+1)
   case sl i s n=>obtain ⟨_,rfl⟩:=h;rfl
   case sub i s lo n=>obtain ⟨_,rfl⟩:=h;rfl
   all_goals (subst h;rfl)
theorem xle {f:Nat} {cs:List SV} {vs:List AV} (h:VRL cs vs):vs.flatMap (ids f)=cs.flatMap (xd2 f):=xog (xne f) h
def xmb (cs:List (List SV)) (vs:List (List AV)):Prop:=cs.length=vs.length/\∀ (i:Nat) c v,cs[i]?=some c->vs[i]?=some v->VRL c v
theorem xmb.tail {c:List SV} {v:List AV} {cs:List (List SV)} {vs:List (List AV)} (h:xmb (c::cs) (v::vs)):VRL c v/\xmb cs vs:=
 ⟨h.2 0 c v rfl rfl,by simpa using h.1,fun i c v h1 h2=>h.2 (i+1) c v (by simpa using h1) (by simpa using h2)⟩
theorem xmb.ids {f:Nat}:∀ {cs:List (List SV)} {vs:List (List AV)},xmb cs vs->(vs.flatMap fun e=>e.flatMap (ids f))=cs.flatMap fun e=>e.flatMap (xd2 f)
 | [],[],_=>rfl
 | c :: cs,v::vs,h=>by
   simp only [List.flatMap_cons];rw [xle h.tail.1,xmb.ids h.tail.2]
 | [],_::_,h=>by have:=h.1;simp at this
 | _::_,[],h=>by have:=h.1;simp at this
theorem xmb.map {cs:List (List SV)} {vs:List (List AV)} {g:List SV->List SV} {g':List AV->List AV} (h:xmb cs vs) (hg:∀ c v,VRL c v->v∈vs->VRL (g c) (g' v)):xmb (cs.map g) (vs.map g'):=by
 refine ⟨by simpa using h.1,fun i c v h1 h2=>?_⟩;rw [List.getElem?_map,Option.map_eq_some_iff] at h1 h2;obtain ⟨c0,e1,rfl⟩:=h1;obtain ⟨v0,e2,rfl⟩:=h2;exact hg _ _ (h.2 i c0 v0 e1 e2) (List.mem_of_getElem? e2)
def xmd (ka:Bool) (kk:List K) (c:List D) (v:AV):Prop:=match ka with
 | true=>∃ vs,v=.agg vs/\xaz kk c 0 vs
 | false=>xaz kk c 0 [v]
def ybm:SB->Bool
 | .map _ _ _ _=>false
 | .mlst _=>false
 | _=>true
structure HoleR (ok:Bool) (ks:List K) (l:List (List D)) (q:Nat) (cs:List SV) (s:Nat) (es:List (List AV)) (fl:Bool):Prop where
 len:es.length=l.length
 lt:q<l.length
 enc:ok=true->s=ks.length/\∀ (i:Nat) e c,i≠q->es[i]?=some e->l[i]?=some c->xaz ks c 0 e
 no:∀ (i:Nat) e,i≠q->es[i]?=some e->∀ v∈e,xby v
 own:∀ e,es[q]?=some e->VRL cs e
 flat:fl=true->∀ e∈es,∀ v∈e,xby v
def xa3:SB->Blk->Prop
 | .box cs,.row s es fl=>∃ vs,es=[vs]/\s=cs.length/\VRL cs vs/\(fl=true->∀ v∈vs,xby v)
 | .row ks l,.row s es _=>s=ks.length/\xej ks l es
 | .junk,.row _ es fl=>fl=true\/∀ e∈es,∀ v∈e,xby v
 | .lst s' cs,.row s es fl=>s=s'/\xmb cs es/\(∀ e∈es,e.length=s)/\(fl=true->∀ e∈es,∀ v∈e,xby v)
 | .map ka kk vk l,.map kvs=>xc5 (vk::kk)=true/\kvs.length=l.length/\∀ (i:Nat) p c,kvs[i]?=some p->l[i]?=some c->xmd ka kk c p.1/\xb3 vk (c.getD kk.length default) p.2
 | .mlst es,.map kvs=>es.length=kvs.length/\∀ (i:Nat) e p,es[i]?=some e->kvs[i]?=some p->VR e.1 p.1/\VR e.2 p.2
 | .arr k n l tl,.row s es fl=>l.length=n/\∃ vs,es=[vs]/\s=(xgt k n l++tl).length/\VRL (xgt k n l++tl) vs/\(fl=true->∀ v∈vs,xby v)
 | .hole ok ks l q cs,.row s es fl=>HoleR ok ks l q cs s es fl
 | _,_=>False
def OR:Option SB->Option Blk->Prop
 | none,none=>True
 | some b,some B=>xa3 b B
 | _,_=>False
def HR (sh:xav) (h:xap):Prop:=sh.length=h.length/\∀ i,OR (xbz sh i) (xag h i)
theorem xws {o:Option Blk} (h:OR none o):o=none:=by cases o <;> first | rfl | exact h.elim
theorem xbm {b:SB} {o:Option Blk} (h:OR (some b) o):∃ B,o=some B/\xa3 b B:=by cases o <;> first | exact h.elim | exact ⟨_,rfl,h⟩
theorem xce {b:SB} {B:Blk} (h:xa3 b B) (hb:ybm b=true:=by rfl):∃ s es fl,B=.row s es fl:=by
 cases b <;> cases B <;> first | exact ⟨_,_,_,rfl⟩ | exact h.elim | (simp [ybm] at hb;done)
theorem xmy {ka:Bool} {kk:List K} {vk:K} {l:List (List D)} {B:Blk} (h:xa3 (.map ka kk vk l) B):∃ kvs,B=.map kvs:=by
 cases B <;> first | exact ⟨_,rfl⟩ | exact h.elim
theorem xnp {es:List (SV×SV)} {B:Blk} (h:xa3 (.mlst es) B):∃ kvs,B=.map kvs:=by
 cases B <;> first | exact ⟨_,rfl⟩ | exact h.elim
theorem xN7 {vs:List AV} (h:∀ v∈vs,xby v):xby (.agg vs):=fun g=>by
 cases g with
 | zero=>rfl
 | succ g=>simp only [ids];exact List.flatMap_eq_nil_iff.2 fun v hv=>h v hv g
theorem xPm {ka:Bool} {kk:List K} {c:List D} {v:AV} (h:xmd ka kk c v):xby v:=by
 cases ka with
 | true=>
   obtain ⟨vs,rfl,h⟩:=h;exact xN7 fun v hv=>xme h v hv
 | false=>exact xme h v List.mem_cons_self
theorem xHw {f:Nat}:∀ {es:List (SV×SV)} {kvs:List (AV×AV)},es.length=kvs.length->(∀ (i:Nat) e p,es[i]?=some e->kvs[i]?=some p->VR e.1 p.1/\VR e.2 p.2)->(kvs.flatMap fun p=>ids f p.1++ids f p.2)=es.flatMap fun p=>xd2 f p.1++xd2 f p.2
 | [],[],_,_=>rfl
 | e :: es,p::kvs,hl,h=>by
   simp only [List.flatMap_cons];obtain ⟨h1,h2⟩:=h 0 e p rfl rfl;rw [xne f _ _ h1,xne f _ _ h2,xHw (by simpa using hl) fun i e p h3 h4=>h (i+1) e p (by simpa using h3) (by simpa using h4)]
 | [],_::_,hl,_=>by simp at hl
 | _::_,[],hl,_=>by simp at hl
theorem xQz (h:xav):∀ (i j:Nat) (b:Option SB),xbz (xhw h i b) j=if i=j then b else xbz h j:=by
 induction h with
 | nil =>
   intro i;induction i with
   | zero=>intro j b;cases j <;> simp [xhw,xbz]
   | succ i ih=>intro j b;cases j with
     | zero=>simp [xhw,xbz]
     | succ j=>have:=ih j b;simp only [xhw,xbz] at this ⊢;simpa using this
 | cons x h ih=>
   intro i j b;cases i with
   | zero=>cases j <;> simp [xhw,xbz]
   | succ i=>cases j with
     | zero=>simp [xhw,xbz]
     | succ j=>have:=ih i j b;simp only [xhw,xbz] at this ⊢;simpa using this
theorem xB9 {h:xav} {g:xap} (e:h.length=g.length) (i:Nat) (b:Option SB) (B:Option Blk):(xhw h i b).length=(xb7 g i B).length:=by
 induction h generalizing g i with
 | nil=>
   have:g=[]:=List.length_eq_zero_iff.1 e.symm;subst this;induction i with
   | zero=>rfl
   | succ i ih=>simp only [xhw,xb7,List.length_cons,ih]
 | cons x h ih=>
   cases g with
   | nil=>simp at e
   | cons y g=>
     cases i with
     | zero=>simpa [xhw,xb7] using e
     | succ i=>simp only [xhw,xb7,List.length_cons];rw [ih (by simpa using e)]
theorem HR.set {sh:xav} {h:xap} (H:HR sh h) (i:Nat) {b:Option SB} {B:Option Blk} (hb:OR b B):HR (xhw sh i b) (xb7 h i B):=by
 refine ⟨xB9 H.1 i b B,fun j=>?_⟩;rw [xQz,xci];split
 ·exact hb
 ·exact H.2 j
theorem HR.puts:∀ {news:xav} {nh:xap} {sh:xav} {h:xap} (at_:Nat),HR sh h->news.length=nh.length->(∀ (i:Nat) b B,news[i]?=some b->nh[i]?=some B->OR b B)->HR (xrx sh at_ news) (xdn h at_ nh)
 | [],[],_,_,_,H,_,_=>H
 | b :: bs,B::Bs,_,_,at_,H,hl,hh=>by
   simp only [xrx,xdn];exact HR.puts (at_+1) (H.set at_ (hh 0 b B rfl rfl)) (by simpa using hl) fun i b B h1 h2=>hh (i+1) b B (by simpa using h1) (by simpa using h2)
 | [],_::_,_,_,_,_,hl,_=>by simp at hl
 | _::_,[],_,_,_,_,hl,_=>by simp at hl
def UR:List (Nat×Option SB)->List (Nat×Option Blk)->Prop
 | [],us=>us=[]
 | p::ps,us=>∃ q qs,us=q::qs/\p.1=q.1/\OR p.2 q.2/\UR ps qs
theorem HR.ups:∀ {us:List (Nat×Option SB)} {us':List (Nat×Option Blk)} {sh:xav} {h:xap},HR sh h->UR us us'->HR (xj9 sh us) (xcn h us')
 | [],_,_,_,H,hu=>by simp only [UR] at hu;subst hu;exact H
 | p :: ps,_,_,_,H,hu=>by
   simp only [UR] at hu;obtain ⟨q,qs,rfl,h1,h2,h3⟩:=hu;obtain ⟨i,b⟩:=p;obtain ⟨j,B⟩:=q;simp only at h1 h2;subst h1;simp only [xj9,xcn];exact HR.ups (H.set i h2) h3
theorem xol {k:IntKind} {n:Nat} {l:List (List D)} {tl:List SV} {B:Blk} (h:xa3 (.arr k n l tl) B):l.length=n/\xa3 (.box (xgt k n l++tl)) B:=by
 cases B with
 | map kvs=>exact h.elim
 | row s es fl=>exact h
theorem xJh {k:IntKind} {n:Nat} {l:List (List D)} {tl:List SV} {B:Blk} (hl:l.length=n) (h:xa3 (.box (xgt k n l++tl)) B):xa3 (.arr k n l tl) B:=by
 cases B with
 | map kvs=>exact h.elim
 | row s es fl=>exact ⟨hl,h⟩
theorem xJt {o:Option SB} {O:Option Blk} (h:OR o O):OR (unB o) O:=by
 unfold unB;split
 ·obtain ⟨B,rfl,hr⟩:=xbm h;exact (xol hr).2
 ·exact h
theorem xe8 {k:IntKind} {n:Nat} {l:List (List D)}:(xgt k n l).length=n:=by simp [xgt]
theorem xHz {k:IntKind} {n:Nat} {l:List (List D)} {v:SV} (h:v∈xgt k n l):∃ x,v=.int k x:=by
 obtain ⟨q,_,rfl⟩:=List.mem_map.1 h;exact ⟨_,rfl⟩
theorem xVn {k:IntKind} {n:Nat} {l:List (List D)} (f:Nat):(xgt k n l).flatMap (xd2 f)=[]:=by
 rw [List.flatMap_eq_nil_iff];intro v hv;obtain ⟨x,rfl⟩:=xHz hv;cases f <;> rfl
theorem xDp {k:IntKind}:∀ (cs:List SV),xgt k (xkb k cs).length (xkb k cs)=cs.take (xkb k cs).length
 | []=>rfl
 | c :: cs=>by
   cases c
   case int k' x=>
    simp only [xkb];split
    ·rename_i e;subst e;have ih:=xDp (k:=k') cs;rw [List.length_cons,List.take_succ_cons,<- ih];unfold xgt;rw [List.range_succ_eq_map,List.map_cons,List.map_map];rfl
    ·rfl
   all_goals rfl
theorem xDv {cs:List SV} {B:Blk} (h:xa3 (.box cs) B):xa3 (xFj cs) B:=by
 unfold xFj;split
 ·rename_i k x r;split
  ·refine xJh rfl ?_;rw [xDp,List.take_append_drop];exact h
  ·exact h
 ·exact h
theorem xIl {cs:List SV} {B:Blk} (h:xa3 (.box cs) B):xql B=xl6 (.box cs):=by
 cases B with
 | map kvs=>exact h.elim
 | row s es fl=>
   simp only [xa3] at h;obtain ⟨vs,rfl,_,h2,h3⟩:=h;simp only [xql,xl6];cases fl with
   | true=>
     simp only [if_true];rw [<- xle h2,eq_comm,List.flatMap_eq_nil_iff];exact fun v hv=>h3 rfl v hv xak
   | false=>simpa using xle h2
theorem xqm {α β:Type} {f:α->List β}:∀ {es:List α} {q:Nat} {e:α},es[q]?=some e->(∀ (i:Nat) x,i≠q->es[i]?=some x->f x=[])->es.flatMap f=f e
 | [],_,_,h,_=>by simp at h
 | x :: es,0,e,h,h2=>by
   simp only [List.getElem?_cons_zero,Option.some.injEq] at h;subst h;rw [List.flatMap_cons,List.flatMap_eq_nil_iff.2,List.append_nil];intro y hy;obtain ⟨i,hi,rfl⟩:=List.getElem_of_mem hy;exact h2 (i+1) _ (by omega) (by simp)
 | x :: es,q+1,e,h,h2=>by
   rw [List.flatMap_cons,h2 0 x (by omega) rfl,List.nil_append];exact xqm (by simpa using h) fun i y hi hy=>h2 (i+1) y (by omega) (by simpa using hy)
theorem xYt {b:SB} {B:Blk} (h:xa3 b B):xql B=xl6 b:=by
 cases b with
 | box cs=>exact xIl h
 | hole ok ks l q cs=>
   cases B with
   | map kvs=>exact h.elim
   | row s es fl=>
     have h:HoleR ok ks l q cs s es fl:=h;have hq:es[q]?=some (es[q]'(by have:=h.len;have:=h.lt;omega)):=List.getElem?_eq_getElem _;have hv:=h.own _ hq;simp only [xql,xl6];split
     ·rename_i hf;rw [<- xle hv,eq_comm,List.flatMap_eq_nil_iff];exact fun v hv=>h.flat hf _ (List.mem_of_getElem? hq) v hv xak
     ·rw [xqm hq fun i x hi hx=>List.flatMap_eq_nil_iff.2 fun v hv=>h.no i x hi hx v hv xak];exact xle hv
 | arr k n l tl=>
   rw [xIl (xol h).2];simp only [xl6,List.flatMap_append,xVn,List.nil_append]
 | row ks l=>
   cases B with
   | map kvs=>exact h.elim
   | row s es fl=>
     simp only [xa3] at h;obtain ⟨_,h1,h2⟩:=h;simp only [xql,xl6];split
     ·rfl
     ·rw [List.flatMap_eq_nil_iff];intro e he;rw [List.flatMap_eq_nil_iff];intro v hv;obtain ⟨i,hi,rfl⟩:=List.getElem_of_mem he;exact xme (h2 i _ (l[i]'(by omega)) (List.getElem?_eq_getElem hi) (List.getElem?_eq_getElem (by omega))) v hv xak
 | junk =>
   cases B with
   | map kvs=>exact h.elim
   | row s es fl=>
     simp only [xql,xl6];split
     ·rfl
     ·rename_i hf;have h:=(show fl=true\/∀ e∈es,∀ v∈e,xby v from h).resolve_left hf;rw [List.flatMap_eq_nil_iff];intro e he;rw [List.flatMap_eq_nil_iff];exact fun v hv=>h e he v hv xak
 | lst s' cs=>
   cases B with
   | map kvs=>exact h.elim
   | row s es fl=>
     simp only [xa3] at h;obtain ⟨_,h1,_,h3⟩:=h;simp only [xql,xl6];split
     ·rename_i hf;rw [<- h1.ids,eq_comm,List.flatMap_eq_nil_iff];intro e he;rw [List.flatMap_eq_nil_iff];exact fun v hv=>h3 hf e he v hv xak
     ·exact h1.ids
 | map ka kk vk l=>
   obtain ⟨kvs,rfl⟩:=xmy h;simp only [xa3] at h;obtain ⟨_,h1,h2⟩:=h;simp only [xql,xl6];rw [List.flatMap_eq_nil_iff];intro p hp;obtain ⟨i,hi,rfl⟩:=List.getElem_of_mem hp;obtain ⟨h3,h4⟩:=h2 i _ (l[i]'(by omega)) (List.getElem?_eq_getElem hi) (List.getElem?_eq_getElem (by omega));rw [xPm h3,xBn h4];rfl
 | mlst es=>
   obtain ⟨kvs,rfl⟩:=xnp h;simp only [xa3] at h;simp only [xql,xl6];exact xHw h.1 h.2
theorem xid {ls:Nat->Option SB} {l:Nat->Option Blk} (hl:∀ i,OR (ls i) (l i)):∀ (f:Nat) (q acc:List Nat),xfo l f q acc=xg9 ls f q acc
 | 0,q,acc=>by cases q <;> rfl
 | f+1,[],acc=>rfl
 | f + 1,i::q,acc=>by
   unfold xfo xg9;split
   ·exact xid hl f q acc
   ·have:=hl i;cases hs:ls i with
    | none=>rw [hs] at this;rw [xws this];exact xid hl f q acc
    | some b=>
      rw [hs] at this;obtain ⟨B,hB,hr⟩:=xbm this;rw [hB];simp only [xYt hr];exact xid hl f _ _
theorem xl5 (kb ky:Bool) (ρ:Nat->Option Nat):∀ (f:Nat) (a:AV),xby a->xby (mv kb ky ρ f a)
 | 0,a,_=>fun g=>by cases g <;> rfl
 | f + 1, a,h=>by
   have ih:=xl5 kb ky ρ f;have step:∀ {vs:List AV},(∀ v∈vs,xby v)->∀ g,(vs.map (mv kb ky ρ f)).flatMap (ids g)=[]:=fun {vs} hv g=>by
    rw [List.flatMap_eq_nil_iff];intro x hx;obtain ⟨v,hv',rfl⟩:=List.mem_map.1 hx;exact ih v (hv v hv') g
   have sub:∀ {vs:List AV},(∀ g,vs.flatMap (ids g)=[])->∀ v∈vs,xby v:=fun {vs} hv v hm g=>List.flatMap_eq_nil_iff.1 (hv g) v hm
   cases a with
   | ptr i s k j=>have:=h 1;simp [ids] at this
   | sl i s lo n cap=>have:=h 1;simp [ids] at this
   | mp i=>have:=h 1;simp [ids] at this
   | agg cs=>intro g;cases g with
     | zero=>rfl
     | succ g=>simp only [mv,ids];exact step (sub fun g=>h (g+1)) g
   | tup cs=>intro g;cases g with
     | zero=>rfl
     | succ g=>simp only [mv,ids];exact step (sub fun g=>h (g+1)) g
   | fn x y z=>intro g;cases g with
     | zero=>rfl
     | succ g=>
       simp only [mv,ids];have h1:∀ g,y.flatMap (ids g)=[]:=fun g=>(List.append_eq_nil_iff.1 (h (g+1))).1
       have h2:∀ g,z.flatMap (ids g)=[]:=fun g=>(List.append_eq_nil_iff.1 (h (g+1))).2
       rw [step (sub h1) g,step (sub h2) g];rfl
   | ifc t x=>intro g;cases g with
     | zero=>rfl
     | succ g=>simp only [mv,ids];exact ih x (fun g=>h (g+1)) g
   | ro kd c0 s es=>intro g;cases kd <;> simp only [mv] <;> (try split) <;> cases g <;> rfl
   | eptr kd cs=>intro g;cases kd <;> simp only [mv] <;> (try split) <;> cases g <;> rfl
   | yl=>intro g;simp only [mv];split <;> cases g <;> rfl
   | pan t=>exact absurd (h 1) (by simp [ids])
   | _=>intro g;cases g <;> rfl
theorem xe1 (kb ky:Bool) (ρ:Nat->Option Nat):∀ (f:Nat) (v:SV) (a:AV),VR v a->VR (mvS kb ky ρ f v) (mv kb ky ρ f a)
 | 0,v,a,_=>by simp only [mvS,mv,VR];exact fun g=>by cases g <;> rfl
 | f + 1, v,a,h=>by
   have ih:=xe1 kb ky ρ f;have hany:VR .any .any:=by simp only [VR];exact fun g=>by cases g <;> rfl
   cases v with
   | any=>simp only [mvS];simp only [VR] at h ⊢;exact xl5 kb ky ρ (f+1) a h
   | ptr i s k j=>
     simp only [VR] at h;subst h;simp only [mvS,mv];cases ρ i with
     | none=>exact hany
     | some i'=>simp only [VR]
   | sl i s n=>
     simp only [VR] at h;obtain ⟨cap,rfl⟩:=h;simp only [mvS,mv];cases ρ i with
     | none=>exact hany
     | some i'=>simp only [VR];exact ⟨cap,rfl⟩
   | sub i s lo n=>
     simp only [VR] at h;obtain ⟨cap,rfl⟩:=h;simp only [mvS,mv];cases ρ i with
     | none=>exact hany
     | some i'=>simp only [VR];exact ⟨cap,rfl⟩
   | mp i=>
     simp only [VR] at h;subst h;simp only [mvS,mv];cases ρ i with
     | none=>exact hany
     | some i'=>simp only [VR]
   | pix i s p=>
     simp only [VR] at h;subst h;simp only [mvS,mv];cases ρ i with
     | none=>exact hany
     | some i'=>simp only [VR]
   | agg cs=>
     simp only [VR] at h;obtain ⟨vs,rfl,h⟩:=h;simp only [mvS,mv,VR];exact ⟨_,rfl,xg5 ih h⟩
   | tup cs=>
     simp only [VR] at h;obtain ⟨vs,rfl,h⟩:=h;simp only [mvS,mv,VR];exact ⟨_,rfl,xg5 ih h⟩
   | fn g x y=>
     simp only [VR] at h;obtain ⟨vs,us,rfl,h1,h2⟩:=h;simp only [mvS,mv,VR];exact ⟨_,_,rfl,xg5 ih h1,xg5 ih h2⟩
   | ifc t x=>
     simp only [VR] at h;obtain ⟨u,rfl,h⟩:=h;simp only [mvS,mv,VR];exact ⟨_,rfl,ih _ _ h⟩
   | eptr cs=>
     have h0:=h;simp only [VR] at h;obtain ⟨kd,vs,rfl,h⟩:=h;have hno:VR .any (.eptr kd vs):=by simp only [VR];exact fun g=>by cases g <;> rfl
     cases kb <;> cases kd <;> simp only [mvS,mv,if_true,Bool.false_eq_true,if_false] <;> first | exact h0 | exact hany | exact hno
   | ro c0 ks l=>
     have h0:=h;simp only [VR] at h;rcases h with ⟨rfl,hl⟩ | ⟨kd,c0',es,rfl,h⟩
     ·have hno:VR .any .nils:=by simp only [VR];exact fun g=>by cases g <;> rfl
      cases kb <;> simp only [mvS,mv,if_true,Bool.false_eq_true,if_false] <;> first | exact h0 | exact hno
     ·have hno:VR .any (.ro kd c0' ks.length es):=by simp only [VR];exact fun g=>by cases g <;> rfl
      cases kb <;> cases kd <;> simp only [mvS,mv,if_true,Bool.false_eq_true,if_false] <;> first | exact h0 | exact hany | exact hno
   | emp s=>
     simp only [VR] at h;rcases h with rfl | rfl
     ·simp only [mvS,mv,VR];exact .inl trivial
     ·simp only [mvS,mv,VR];exact .inr trivial
   | opt ks l=>
     have h0:=h;simp only [VR] at h;rcases h with ⟨hl,rfl⟩ | ⟨kd,vs,c,r,hl,rfl,h⟩
     ·have hno:VR .any .nilp:=by simp only [VR];exact fun g=>by cases g <;> rfl
      cases kb <;> simp only [mvS,mv,if_true,Bool.false_eq_true,if_false] <;> first | exact h0 | exact hno
     ·have hno:VR .any (.eptr kd vs):=by simp only [VR];exact fun g=>by cases g <;> rfl
      cases kb <;> cases kd <;> simp only [mvS,mv,if_true,Bool.false_eq_true,if_false] <;> first | exact h0 | exact hany | exact hno
   | alt x c=>
     have h0:=h;simp only [VR] at h;have hno:VR .any (mv kb ky ρ (f+1) a):=by simp only [VR];exact xl5 kb ky ρ (f+1) a (xs7 h)
     cases kb with
     | false=>simp only [mvS,Bool.false_eq_true,if_false];exact hno
     | true=>
       match f with
       | 0=>simp only [mvS,if_true];exact hno
       | 1=>simp only [mvS,if_true];exact hno
       | f+2=>simp only [mvS,if_true];rw [xMg h];exact h0
   | yl =>
     simp only [VR] at h;subst h;cases ky <;> simp only [mvS,mv,if_true,Bool.false_eq_true,if_false]
     ·exact hany
     ·simp only [VR]
   | _=>simp only [VR] at h;subst h;simp only [mvS,mv,VR]
theorem xo0 (kb ky:Bool) (ρ:Nat->Option Nat):∀ (f:Nat) (v:SV) (a:AV),VR v a->xby a->VR (mvS kb ky ρ f v) a
 | 0,v,a,_,hn=>by simp only [mvS,VR];exact hn
 | f + 1, v,a,h,hn=>by
   have ihL:∀ {cs:List SV} {vs:List AV},VRL cs vs->(∀ v∈vs,xby v)->VRL (cs.map (mvS kb ky ρ f)) vs:=by
    intro cs;induction cs with
    | nil=>intro vs h _;simpa using h
    | cons c cs ih=>
      intro vs h hv;simp only [VRL] at h;obtain ⟨u,us,rfl,h1,h2⟩:=h;exact xa1 (xo0 kb ky ρ f c u h1 (hv u List.mem_cons_self)) (ih h2 fun v hm=>hv v (List.mem_cons_of_mem _ hm))
   have sub:∀ {vs:List AV},(∀ g,vs.flatMap (ids g)=[])->∀ v∈vs,xby v:=fun {vs} hv v hm g=>List.flatMap_eq_nil_iff.1 (hv g) v hm
   cases v with
   | any=>simp only [mvS,VR];exact hn
   | ptr i s k j=>simp only [VR] at h;subst h;have:=hn 1;simp [ids] at this
   | sl i s n=>simp only [VR] at h;obtain ⟨cap,rfl⟩:=h;have:=hn 1;simp [ids] at this
   | sub i s lo n=>simp only [VR] at h;obtain ⟨cap,rfl⟩:=h;have:=hn 1;simp [ids] at this
   | mp i=>simp only [VR] at h;subst h;have:=hn 1;simp [ids] at this
   | pix i s p=>simp only [VR] at h;subst h;have:=hn 1;simp [ids] at this
   | agg cs=>
     simp only [VR] at h;obtain ⟨vs,rfl,h⟩:=h;simp only [mvS,VR];exact ⟨_,rfl,ihL h (sub fun g=>hn (g+1))⟩
   | tup cs=>
     simp only [VR] at h;obtain ⟨vs,rfl,h⟩:=h;simp only [mvS,VR];exact ⟨_,rfl,ihL h (sub fun g=>hn (g+1))⟩
   | fn g x y=>
     simp only [VR] at h;obtain ⟨vs,us,rfl,h1,h2⟩:=h;simp only [mvS,VR];exact ⟨_,_,rfl,ihL h1 (sub fun g=>(List.append_eq_nil_iff.1 (hn (g+1))).1),ihL h2 (sub fun g=>(List.append_eq_nil_iff.1 (hn (g+1))).2)⟩
   | ifc t x=>
     simp only [VR] at h;obtain ⟨u,rfl,h⟩:=h;simp only [mvS,VR];exact ⟨_,rfl,xo0 kb ky ρ f _ _ h (fun g=>hn (g+1))⟩
   | eptr cs=>cases kb <;> simp only [mvS,if_true,Bool.false_eq_true,if_false] <;> first | exact h | (simp only [VR];exact hn)
   | ro c0 ks l=>cases kb <;> simp only [mvS,if_true,Bool.false_eq_true,if_false] <;> first | exact h | (simp only [VR];exact hn)
   | emp s=>simp only [mvS];simp only [VR] at h ⊢;exact h
   | opt ks l=>cases kb <;> simp only [mvS,if_true,Bool.false_eq_true,if_false] <;> first | exact h | (simp only [VR];exact hn)
   | alt x c=>
     cases kb with
     | false=>simp only [mvS,Bool.false_eq_true,if_false,VR];exact hn
     | true=>
       match f with
       | 0=>simp only [mvS,if_true,VR];exact hn
       | 1=>simp only [mvS,if_true,VR];exact hn
       | f+2=>simp only [mvS,if_true];exact h
   | yl=>cases ky <;> simp only [mvS,if_true,Bool.false_eq_true,if_false] <;> first | exact h | (simp only [VR];exact hn)
   | _=>simp only [VR] at h;subst h;simp only [mvS,VR] <;> exact hn
theorem xZa {ky:Bool} {ρ:Nat->Option Nat} {f:Nat} {k:K} {d:D} {v:AV} (h:xb3 k d v):xb3 k d (mv true ky ρ (f+3) v):=by
 cases k <;> simp only [xb3] at h ⊢
 ·subst h;rfl
 ·subst h;rfl
 ·rcases h with ⟨rfl,h⟩ | ⟨kd,c0,es,rfl,h⟩
  ·exact .inl ⟨rfl,h⟩
  ·right;cases kd <;> exact ⟨_,c0,es,rfl,h⟩
 ·rcases h with ⟨h,rfl⟩ | ⟨kd,vs,c,r,h,rfl,h'⟩
  ·exact .inl ⟨h,rfl⟩
  ·right;cases kd <;> exact ⟨_,vs,c,r,h,rfl,h'⟩
 ·rw [xMg h];exact h
theorem xC8 {ky:Bool} {ρ:Nat->Option Nat} {f:Nat}:∀ {ks:List K} {c:List D} {j:Nat} {vs:List AV},xaz ks c j vs->xaz ks c j (vs.map (mv true ky ρ (f+3)))
 | [],_,_,_,h=>by simp only [xaz] at h;subst h;simp [xaz]
 | k :: ks,_,_,_,h=>by
   simp only [xaz] at h;obtain ⟨u,us,rfl,h1,h2⟩:=h;simp only [List.map_cons,xaz];exact ⟨_,_,rfl,xZa h1,xC8 h2⟩
theorem xk8 {kb ky:Bool} {ρ:Nat->Option Nat} {f:Nat}:∀ {ks:List K} {c:List D} {j:Nat} {vs:List AV},xc5 ks=true->xaz ks c j vs->xaz ks c j (vs.map (mv kb ky ρ (f+1)))
 | [],_,_,_,_,h=>by simp only [xaz] at h;subst h;simp [xaz]
 | k :: ks,_,_,_,hp,h=>by
   simp only [xaz] at h;obtain ⟨u,us,rfl,h1,h2⟩:=h;simp only [List.map_cons,xaz];cases k with
   | int k=>simp only [xc5] at hp;simp only [xb3] at h1;subst h1;exact ⟨_,_,rfl,rfl,xk8 hp h2⟩
   | bool=>simp only [xc5] at hp;simp only [xb3] at h1;subst h1;exact ⟨_,_,rfl,rfl,xk8 hp h2⟩
   | ro ks=>simp [xc5] at hp
   | opt ks=>simp [xc5] at hp
   | alt a=>simp [xc5] at hp
theorem xIi (kb ky:Bool) (ρ:Nat->Option Nat) {s:Nat} {es:List (List AV)} {fl:Bool} (h:fl=true\/∀ e∈es,∀ v∈e,xby v):xa3 .junk (mvB kb ky ρ (.row s es fl)):=by
 cases fl with
 | true=>simp only [mvB,if_true,xa3];exact .inl (by trivial)
 | false=>
   simp only [mvB,Bool.false_eq_true,if_false,xa3];right;intro e he v hv;obtain ⟨e',he',rfl⟩:=List.mem_map.1 he;obtain ⟨v',hv',rfl⟩:=List.mem_map.1 hv;exact xl5 kb ky ρ xak v' (h.resolve_left (by simp) e' he' v' hv')
theorem xj7 {ks:List K} {l:List (List D)} {es:List (List AV)} (h:xej ks l es):∀ e∈es,∀ v∈e,xby v:=by
 intro e he v hv;obtain ⟨i,hi,rfl⟩:=List.getElem_of_mem he;exact xme (h.2 i _ (l[i]'(by have:=h.1;omega)) (List.getElem?_eq_getElem hi) (List.getElem?_eq_getElem (by have:=h.1;omega))) v hv
theorem xY7 {kb ky:Bool} {ρ:Nat->Option Nat} {ka:Bool} {kk:List K} {c:List D} {v:AV} (hp:xc5 kk=true) (h:xmd ka kk c v):xmd ka kk c (mv kb ky ρ xak v):=by
 cases ka with
 | true=>
   obtain ⟨vs,rfl,h⟩:=h;exact ⟨_,rfl,xk8 (f:=10) hp h⟩
 | false=>exact xk8 (f:=11) hp h
theorem xLm (kb ky:Bool) (ρ:Nat->Option Nat) {cs:List SV} {B:Blk} (h:xa3 (.box cs) B):xa3 (xft kb ky ρ (.box cs)) (mvB kb ky ρ B):=by
 cases B with
 | map kvs=>exact h.elim
 | row s es fl=>
   simp only [xa3] at h;obtain ⟨vs,rfl,h1,h2,h3⟩:=h;cases fl with
   | true =>
     simp only [xft,mvB,if_true,xa3];refine ⟨vs,rfl,by simp [h1],?_,fun _=>h3 rfl⟩;have key:∀ {cs:List SV} {vs:List AV},VRL cs vs->(∀ v∈vs,xby v)->VRL (cs.map (mvS kb ky ρ xak)) vs:=by
      intro cs;induction cs with
      | nil=>intro vs h _;simpa using h
      | cons c cs ih=>
        intro vs h hv;simp only [VRL] at h;obtain ⟨u,us,rfl,h1,h2⟩:=h;exact xa1 (xo0 kb ky ρ xak c u h1 (hv u List.mem_cons_self)) (ih h2 fun v hm=>hv v (List.mem_cons_of_mem _ hm))
     exact key h2 (h3 rfl)
   | false=>
     simp only [xft,mvB,Bool.false_eq_true,if_false,xa3];exact ⟨vs.map (mv kb ky ρ xak),by simp,by simp [h1],xg5 (xe1 kb ky ρ xak) h2,fun h=>by cases h⟩
theorem xY5 {kb ky:Bool} {ρ:Nat->Option Nat} {k:IntKind} {n:Nat} {l:List (List D)}:(xgt k n l).map (mvS kb ky ρ xak)=xgt k n l:=by
 conv=>rhs;rw [<- List.map_id (xgt k n l)]
 refine List.map_congr_left fun v hv=>?_
 obtain ⟨x,rfl⟩:=xHz hv;rfl
theorem xD2 {kb ky:Bool} {ρ:Nat->Option Nat}:∀ {cs:List SV} {vs:List AV},VRL cs vs->(∀ v∈vs,xby v)->VRL (cs.map (mvS kb ky ρ xak)) vs
 | [],vs,h,_=>by simpa using h
 | c :: cs,vs,h,hv=>by
   simp only [VRL] at h;obtain ⟨u,us,rfl,h1,h2⟩:=h;exact xa1 (xo0 kb ky ρ xak c u h1 (hv u List.mem_cons_self)) (xD2 h2 fun v hm=>hv v (List.mem_cons_of_mem _ hm))
theorem xLl (kb ky:Bool) (ρ:Nat->Option Nat) {b:SB} {B:Blk} (h:xa3 b B):xa3 (xft kb ky ρ b) (mvB kb ky ρ B):=by
 cases b with
 | hole ok ks l q cs=>
   cases B with
   | map kvs=>exact h.elim
   | row s es fl=>
     have h:HoleR ok ks l q cs s es fl:=h;cases fl with
     | true=>
       simp only [xft,mvB,if_true];show HoleR _ _ _ _ _ _ _ _;exact ⟨h.len,h.lt,fun e=>h.enc (by simp only [Bool.and_eq_true] at e;exact e.1),h.no,fun e he=>xD2 (h.own e he) (h.flat rfl e (List.mem_of_getElem? he)),h.flat⟩
     | false=>
       simp only [xft,mvB,Bool.false_eq_true,if_false];show HoleR _ _ _ _ _ _ _ _;refine ⟨by rw [List.length_map];exact h.len,h.lt,fun e=>?_,fun i e hi he v hv=>?_,fun e he=>?_,fun h=>by cases h⟩
       ·simp only [Bool.and_eq_true,Bool.or_eq_true] at e;obtain ⟨h1,h2⟩:=h.enc e.1;refine ⟨h1,fun i e' c hi he hc=>?_⟩;rw [List.getElem?_map,Option.map_eq_some_iff] at he;obtain ⟨e0,he0,rfl⟩:=he;have:=h2 i e0 c hi he0 hc;rcases e.2 with rfl | hk
        ·exact xC8 (f:=9) this
        ·exact xk8 (f:=11) hk this
       ·rw [List.getElem?_map,Option.map_eq_some_iff] at he;obtain ⟨e0,he0,rfl⟩:=he;obtain ⟨v0,hv0,rfl⟩:=List.mem_map.1 hv;exact xl5 kb ky ρ xak v0 (h.no i e0 hi he0 v0 hv0)
       ·rw [List.getElem?_map,Option.map_eq_some_iff] at he;obtain ⟨e0,he0,rfl⟩:=he;exact xg5 (xe1 kb ky ρ xak) (h.own e0 he0)
 | box cs=>exact xLm kb ky ρ h
 | arr k n l tl=>
   obtain ⟨h1,h2⟩:=xol h;have h3:=xLm kb ky ρ h2;simp only [xft,List.map_append,xY5] at h3 ⊢;exact xJh h1 h3
 | row ks l =>
   cases B with
   | map kvs=>exact h.elim
   | row s es fl=>
     simp only [xa3] at h;obtain ⟨h1,h2⟩:=h;simp only [xft];split
     ·rename_i hk;cases fl with
      | true=>simp only [mvB,if_true,xa3];exact ⟨h1,h2⟩
      | false=>
        simp only [mvB,Bool.false_eq_true,if_false,xa3];refine ⟨h1,by simp [h2.1],fun i e c he hc=>?_⟩;rw [List.getElem?_map] at he;cases hi:es[i]? with
        | none=>rw [hi] at he;cases he
        | some e0=>
          rw [hi] at he;simp only [Option.map_some,Option.some.injEq] at he;subst he;have:=h2.2 i e0 c hi hc;simp only [Bool.or_eq_true] at hk;rcases hk with rfl | hk
          ·exact xC8 (f:=9) this
          ·exact xk8 (f:=11) hk this
     ·exact xIi kb ky ρ (.inr (xj7 h2))
 | junk=>
   cases B with
   | map kvs=>exact h.elim
   | row s es fl=>
     exact xIi kb ky ρ h
 | lst s' cs=>
   cases B with
   | map kvs=>exact h.elim
   | row s es fl=>
     simp only [xa3] at h;obtain ⟨h0,h1,h2,h3⟩:=h;cases fl with
     | true =>
       simp only [xft,mvB,if_true,xa3];have key:∀ {cs:List SV} {vs:List AV},VRL cs vs->(∀ v∈vs,xby v)->VRL (cs.map (mvS kb ky ρ xak)) vs:=by
        intro cs;induction cs with
        | nil=>intro vs h _;simpa using h
        | cons c cs ih=>
          intro vs h hv;simp only [VRL] at h;obtain ⟨u,us,rfl,h1,h2⟩:=h;exact xa1 (xo0 kb ky ρ xak c u h1 (hv u List.mem_cons_self)) (ih h2 fun v hm=>hv v (List.mem_cons_of_mem _ hm))
       have:=h1.map (g:=fun e=>e.map (mvS kb ky ρ xak)) (g':=id) fun c v hc hv=>key hc (h3 rfl v hv)
       rw [List.map_id] at this;exact ⟨h0,this,h2,fun _=>h3 rfl⟩
     | false=>
       simp only [xft,mvB,Bool.false_eq_true,if_false,xa3];refine ⟨h0,h1.map fun c v hc _=>xg5 (xe1 kb ky ρ xak) hc,fun e he=>?_,fun h=>h.elim⟩;obtain ⟨e0,he0,rfl⟩:=List.mem_map.1 he;rw [List.length_map];exact h2 e0 he0
 | map ka kk vk l=>
   obtain ⟨kvs,rfl⟩:=xmy h;simp only [xa3] at h;obtain ⟨h1,h2,h3⟩:=h;simp only [xft,mvB,xa3];refine ⟨h1,by simpa using h2,fun i p c hp hc=>?_⟩;rw [List.getElem?_map,Option.map_eq_some_iff] at hp;obtain ⟨p0,hp0,rfl⟩:=hp;obtain ⟨h4,h5⟩:=h3 i p0 c hp0 hc;obtain ⟨p1,p2⟩:xc5 [vk]=true/\xc5 kk=true:=by
    cases vk <;> simp_all [xc5]
   refine ⟨xY7 p2 h4,?_⟩;have:=xk8 (kb:=kb) (ky:=ky) (ρ:=ρ) (f:=11) (ks:=[vk]) (c:=[c.getD kk.length default]) (j:=0) (vs:=[p0.2]) p1 (by simp only [xaz];exact ⟨_,_,rfl,h5,rfl⟩);simp only [List.map_cons,List.map_nil,xaz] at this;obtain ⟨v,vs',e,hv,-⟩:=this;cases e;exact hv
 | mlst es=>
   obtain ⟨kvs,rfl⟩:=xnp h;simp only [xa3] at h;obtain ⟨h1,h2⟩:=h;simp only [xft,mvB,xa3];refine ⟨by simpa using h1,fun i e p he hp=>?_⟩;rw [List.getElem?_map,Option.map_eq_some_iff] at he hp;obtain ⟨e0,he0,rfl⟩:=he;obtain ⟨p0,hp0,rfl⟩:=hp;obtain ⟨h3,h4⟩:=h2 i e0 p0 he0 hp0;exact ⟨xe1 kb ky ρ xak _ _ h3,xe1 kb ky ρ xak _ _ h4⟩
theorem xt9 {vs:List AV} (h:∀ v∈vs,xby v):xby (.agg vs):=fun g=>by
 cases g with
 | zero=>rfl
 | succ g=>simp only [ids];exact List.flatMap_eq_nil_iff.2 fun v hv=>h v hv g
theorem xcq {a:AV} (h:∀ g,ids (g+1) a=[]):xby a:=fun g=>by
 cases g with
 | zero=>cases a <;> rfl
 | succ g=>exact h g
theorem xHt (look:Nat->Option Blk):∀ (f:Nat) (a:AV),xby (fz look f a)
 | 0,a=>fun g=>by cases g <;> rfl
 | f + 1,a=>by
   have ih:=xHt look f;have hany:xby .any:=fun g=>by cases g <;> rfl
   cases a with
   | ptr i s k j=>
     simp only [fz]
     repeat' split
     all_goals first | exact hany | exact xcq fun _=>rfl
   | sl i s lo n cap=>
     simp only [fz]
     repeat' split
     all_goals first | exact hany | exact xcq fun _=>rfl
   | agg cs=>
     simp only [fz];exact xt9 fun v hv=>by obtain ⟨u,_,rfl⟩:=List.mem_map.1 hv;exact ih u
   | fn g x y=>
     simp only [fz];refine xcq fun g=>?_
     simp only [ids];rw [List.append_eq_nil_iff,List.flatMap_eq_nil_iff,List.flatMap_eq_nil_iff];exact ⟨fun v hv=>by obtain ⟨u,_,rfl⟩:=List.mem_map.1 hv;exact ih u g,fun v hv=>by obtain ⟨u,_,rfl⟩:=List.mem_map.1 hv;exact ih u g⟩
   | ifc t x=>simp only [fz];exact xcq fun g=>ih x g
   | _=>simp only [fz];exact xcq fun _=>rfl
theorem xyi (ls:Nat->Option SB):∀ (f:Nat) (v:SV) (a:AV),VR v a->xby a->VR (fzS ls f v) a
 | 0,v,a,_,hn=>by simp only [fzS,VR];exact hn
 | f + 1,v,a,h,hn=>by
   have ihL:∀ {cs:List SV} {vs:List AV},VRL cs vs->(∀ v∈vs,xby v)->VRL (cs.map (fzS ls f)) vs:=by
    intro cs;induction cs with
    | nil=>intro vs h _;simpa using h
    | cons c cs ih=>
      intro vs h hv;simp only [VRL] at h;obtain ⟨u,us,rfl,h1,h2⟩:=h;exact xa1 (xyi ls f c u h1 (hv u List.mem_cons_self)) (ih h2 fun v hm=>hv v (List.mem_cons_of_mem _ hm))
   have sub:∀ {vs:List AV},(∀ g,vs.flatMap (ids g)=[])->∀ v∈vs,xby v:=fun {vs} hv v hm g=>List.flatMap_eq_nil_iff.1 (hv g) v hm
   cases v with
   | any=>simp only [fzS,VR];exact hn
   | ptr i s k j=>simp only [VR] at h;subst h;have:=hn 1;simp [ids] at this
   | sl i s n=>simp only [VR] at h;obtain ⟨cap,rfl⟩:=h;have:=hn 1;simp [ids] at this
   | sub i s lo n=>simp only [VR] at h;obtain ⟨cap,rfl⟩:=h;have:=hn 1;simp [ids] at this
   | mp i=>simp only [VR] at h;subst h;have:=hn 1;simp [ids] at this
   | pix i s p=>simp only [VR] at h;subst h;have:=hn 1;simp [ids] at this
   | agg cs=>
     simp only [VR] at h;obtain ⟨vs,rfl,h⟩:=h;simp only [fzS,VR];exact ⟨_,rfl,ihL h (sub fun g=>hn (g+1))⟩
   | tup cs=>simp only [fzS,VR];exact hn
   | pan t=>simp only [fzS,VR];exact hn
   | yl=>simp only [fzS,VR];exact hn
   | fn g x y=>
     simp only [VR] at h;obtain ⟨vs,us,rfl,h1,h2⟩:=h;simp only [fzS,VR];exact ⟨_,_,rfl,ihL h1 (sub fun g=>(List.append_eq_nil_iff.1 (hn (g+1))).1),ihL h2 (sub fun g=>(List.append_eq_nil_iff.1 (hn (g+1))).2)⟩
   | ifc t x=>
     simp only [VR] at h;obtain ⟨u,rfl,h⟩:=h;simp only [fzS,VR];exact ⟨_,rfl,xyi ls f _ _ h (fun g=>hn (g+1))⟩
   | alt x c=>
     match f with
     | 0=>simp only [fzS,VR];exact hn
     | 1=>simp only [fzS,VR];exact hn
     | f+2=>simp only [fzS];exact h
   | _=>simp only [fzS];exact h
theorem xZb {look:Nat->Option Blk} {f:Nat} {k:K} {d:D} {v:AV} (h:xb3 k d v):xb3 k d (fz look (f+3) v):=by
 cases k <;> simp only [xb3] at h ⊢
 ·subst h;rfl
 ·subst h;rfl
 ·rcases h with ⟨rfl,h⟩ | ⟨kd,c0,es,rfl,h⟩
  ·exact .inl ⟨rfl,h⟩
  ·right;exact ⟨_,c0,es,rfl,h⟩
 ·rcases h with ⟨h,rfl⟩ | ⟨kd,vs,c,r,h,rfl,h'⟩
  ·exact .inl ⟨h,rfl⟩
  ·right;exact ⟨_,vs,c,r,h,rfl,h'⟩
 ·rw [xMh h];exact h
theorem xwu {look:Nat->Option Blk} {f:Nat}:∀ {ks:List K} {c:List D} {j:Nat} {vs:List AV},xaz ks c j vs->xaz ks c j (vs.map (fz look (f+3)))
 | [],_,_,_,h=>by simp only [xaz] at h;subst h;simp [xaz]
 | k :: ks,_,_,_,h=>by
   simp only [xaz] at h;obtain ⟨u,us,rfl,h1,h2⟩:=h;simp only [List.map_cons,xaz];exact ⟨_,_,rfl,xZb h1,xwu h2⟩
theorem xs5 {ks:List K} {l:List (List D)} {es:List (List AV)} {g:List AV->List AV} (h:xej ks l es) (hg:∀ c e,xaz ks c 0 e->xaz ks c 0 (g e)):xej ks l (es.map g):=by
 refine ⟨by simp [h.1],fun i e c he hc=>?_⟩;rw [List.getElem?_map] at he;cases hi:es[i]? with
 | none=>rw [hi] at he;cases he
 | some e0=>
   rw [hi] at he;simp only [Option.map_some,Option.some.injEq] at he;subst he;exact hg _ _ (h.2 i e0 c hi hc)
theorem xep {ks:List K} {l:List (List D)} {es:List (List AV)} (n:Nat) (h:xej ks l es):xej ks (l.take n) (es.take n):=by
 refine ⟨by simp [h.1],fun i e c he hc=>?_⟩;rw [List.getElem?_take] at he hc;split at he
 ·rename_i hi;rw [if_pos hi] at hc;exact h.2 i e c he hc
 ·cases he
theorem xno {ks:List K} {l:List (List D)} {es:List (List AV)} (n:Nat) (h:xej ks l es):xej ks (l.drop n) (es.drop n):=by
 refine ⟨by simp [h.1],fun i e c he hc=>?_⟩;rw [List.getElem?_drop] at he hc;exact h.2 _ e c he hc
theorem xm9 {ks:List K} {l m:List (List D)} {es fs:List (List AV)} (h:xej ks l es) (h':xej ks m fs):xej ks (l++m) (es++fs):=by
 refine ⟨by simp [h.1,h'.1],fun i e c he hc=>?_⟩;rw [List.getElem?_append] at he hc;split at he
 ·rename_i hi;rw [if_pos (by rw [<- h.1];exact hi)] at hc;exact h.2 i e c he hc
 ·rename_i hi;rw [if_neg (by rw [<- h.1];exact hi),<- h.1] at hc;exact h'.2 _ e c he hc
theorem xk7 {ks:List K}:xej ks [] []:=⟨rfl,fun i e c h=>by simp at h⟩
theorem xyg {ks:List K} {l:List (List D)} {q:Nat} {ds:List D} {es:List (List AV)} (hl:es.length=l.length) (h:∀ (i:Nat) e c,i≠q->es[i]?=some e->l[i]?=some c->xaz ks c 0 e) (hq:∀ e,es[q]?=some e->xaz ks ds 0 e):xej ks (l.set q ds) es:=by
 refine ⟨by rw [List.length_set];exact hl,fun i e c he hc=>?_⟩;rw [List.getElem?_set] at hc;split at hc
 ·rename_i e';subst e';split at hc
  ·cases hc;exact hq e he
  ·cases hc
 ·rename_i e';exact h i e c (Ne.symm e') he hc
theorem xlb (look:Nat->Option Blk):∀ (f:Nat) (a:AV),xby (fzg look f a)
 | 0,a=>fun g=>by cases g <;> rfl
 | f + 1,a=>by
   have ih:=xlb look f;have hany:xby .any:=fun g=>by cases g <;> rfl
   cases a with
   | ptr i s k j=>
     simp only [fzg]
     repeat' split
     all_goals first | exact hany | exact xcq fun _=>rfl
   | sl i s lo n cap=>
     simp only [fzg]
     repeat' split
     all_goals first | exact hany | exact xcq fun _=>rfl
   | agg cs=>
     simp only [fzg];exact xt9 fun v hv=>by obtain ⟨u,_,rfl⟩:=List.mem_map.1 hv;exact ih u
   | tup cs=>
     simp only [fzg];refine xcq fun g=>?_
     simp only [ids];exact List.flatMap_eq_nil_iff.2 fun v hv=>by obtain ⟨u,_,rfl⟩:=List.mem_map.1 hv;exact ih u g
   | fn g x y=>
     simp only [fzg];refine xcq fun g=>?_
     simp only [ids];rw [List.append_eq_nil_iff,List.flatMap_eq_nil_iff,List.flatMap_eq_nil_iff];exact ⟨fun v hv=>by obtain ⟨u,_,rfl⟩:=List.mem_map.1 hv;exact ih u g,fun v hv=>by obtain ⟨u,_,rfl⟩:=List.mem_map.1 hv;exact ih u g⟩
   | ifc t x=>simp only [fzg];exact xcq fun g=>ih x g
   | eptr kd cs=>cases kd <;> simp only [fzg] <;> first | exact hany | exact xcq fun _=>rfl
   | ro kd c0 s es=>cases kd <;> simp only [fzg] <;> first | exact hany | exact xcq fun _=>rfl
   | _=>simp only [fzg];first | exact hany | exact xcq fun _=>rfl
theorem xyy {look:Nat->Option Blk} {f:Nat}:∀ {ks:List K} {c:List D} {j:Nat} {vs:List AV},xc5 ks=true->xaz ks c j vs->xaz ks c j (vs.map (fzg look (f+1)))
 | [],_,_,_,_,h=>by simp only [xaz] at h;subst h;simp [xaz]
 | k :: ks,_,_,_,hp,h=>by
   simp only [xaz] at h;obtain ⟨u,us,rfl,h1,h2⟩:=h;simp only [List.map_cons,xaz];cases k with
   | int k=>simp only [xc5] at hp;simp only [xb3] at h1;subst h1;exact ⟨_,_,rfl,rfl,xyy hp h2⟩
   | bool=>simp only [xc5] at hp;simp only [xb3] at h1;subst h1;exact ⟨_,_,rfl,rfl,xyy hp h2⟩
   | ro ks=>simp [xc5] at hp
   | opt ks=>simp [xc5] at hp
   | alt a=>simp [xc5] at hp
theorem xri {ls:Nat->Option SB} {l:Nat->Option Blk} (hl:∀ i,OR (ls i) (l i)):∀ (f:Nat) (v:SV) (a:AV),VR v a->(∀ c∈xjp ls f v,c=true)->VR (xey ls f v) (fzg l f a)
 | 0,v,a,_,_=>by simp only [xey,fzg,VR];exact fun g=>by cases g <;> rfl
 | f + 1, v,a,h,hn=>by
   have ihL:∀ {cs:List SV} {vs:List AV},VRL cs vs->(∀ c∈cs.flatMap (xjp ls f),c=true)->VRL (cs.map (xey ls f)) (vs.map (fzg l f)):=by
    intro cs;induction cs with
    | nil=>intro vs h _;simp only [VRL] at h;subst h;exact xbt
    | cons c cs ih=>
      intro vs h hv;simp only [VRL] at h;obtain ⟨u,us,rfl,h1,h2⟩:=h;exact xa1 (xri hl f c u h1 fun c hc=>hv c (by simp only [List.flatMap_cons,List.mem_append];exact .inl hc)) (ih h2 fun c hc=>hv c (by simp only [List.flatMap_cons,List.mem_append];exact .inr hc))
   have hno:∀ a,VR .any (fzg l (f+1) a):=fun a=>by simp only [VR];exact xlb l (f+1) a
   cases v with
   | ptr i s k j=>
     simp only [VR] at h;subst h;simp only [xjp] at hn;simp only [xey];split
     ·rename_i cs hi;split
      ·rename_i hc;obtain ⟨rfl,rfl⟩:=hc;have:=xJt (hl i);rw [hi] at this;obtain ⟨B,hB,hr⟩:=xbm this;rw [hi] at hn;simp only [true_and,if_true] at hn;obtain ⟨s',es,fl,rfl⟩:=xce hr;simp only [xa3] at hr;obtain ⟨vs,rfl,rfl,h2,h3⟩:=hr;simp only [fzg,hB,if_true,List.getElem?_cons_zero,VR];exact ⟨_,_,rfl,ihL (xcw j h2) hn⟩
      ·exact hno _
     ·exact hno _
   | sl i s n=>
     simp only [VR] at h;obtain ⟨cap,rfl⟩:=h;simp only [xjp] at hn;simp only [xey];split
     ·rename_i ks l' hi;split
      ·rename_i hc;obtain ⟨rfl,hp,hf⟩:=hc;have:=hl i;rw [hi] at this;obtain ⟨B,hB,hr⟩:=xbm this;rw [hi] at hn;simp only [if_true,List.mem_singleton,forall_eq,decide_eq_true_eq] at hn;obtain ⟨s',es,fl,rfl⟩:=xce hr;simp only [xa3] at hr;obtain ⟨rfl,h2⟩:=hr;have hle:0+n<=es.length:=by have:=h2.1;omega
       simp only [fzg,hB];rw [if_pos ⟨by trivial,hle⟩];obtain ⟨f,rfl⟩:∃ g,f=g+1:=⟨f - 1,by omega⟩;simp only [VR];exact .inr ⟨_,_,_,rfl,fun h=>(by cases h),by simpa using xs5 (xep n h2) fun c e he=>xyy (f:=f) hp he⟩
      ·exact hno _
     ·exact hno _
   | agg cs=>
     simp only [VR] at h;obtain ⟨vs,rfl,h⟩:=h;simp only [xjp] at hn;simp only [xey,fzg,VR];exact ⟨_,rfl,ihL h hn⟩
   | tup cs=>
     simp only [VR] at h;obtain ⟨vs,rfl,h⟩:=h;simp only [xjp] at hn;simp only [xey,fzg,VR];exact ⟨_,rfl,ihL h hn⟩
   | fn g x y=>
     simp only [VR] at h;obtain ⟨vs,us,rfl,h1,h2⟩:=h;simp only [xjp,List.mem_append] at hn;simp only [xey,fzg,VR];exact ⟨_,_,rfl,ihL h1 fun c hc=>hn c (.inl hc),ihL h2 fun c hc=>hn c (.inr hc)⟩
   | ifc t x=>
     simp only [VR] at h;obtain ⟨u,rfl,h⟩:=h;simp only [xjp] at hn;simp only [xey,fzg,VR];exact ⟨_,rfl,xri hl f _ _ h hn⟩
   | emp s=>
     simp only [VR] at h;simp only [xey,VR];rcases h with rfl | rfl
     ·exact .inl (by simp only [fzg])
     ·exact .inr (by simp only [fzg])
   | und=>simp only [VR] at h;subst h;simp only [xey,fzg,VR]
   | int k n=>simp only [VR] at h;subst h;simp only [xey,fzg,VR]
   | bool b=>simp only [VR] at h;subst h;simp only [xey,fzg,VR]
   | kb b=>simp only [VR] at h;subst h;simp only [xey,fzg,VR]
   | nilp=>simp only [VR] at h;subst h;simp only [xey,fzg,VR]
   | nils=>simp only [VR] at h;subst h;simp only [xey,fzg,VR]
   | nilf=>simp only [VR] at h;subst h;simp only [xey,fzg,VR]
   | nili=>simp only [VR] at h;subst h;simp only [xey,fzg,VR]
   | _=>simp only [xey];exact hno a
theorem xzb {look:Nat->Option Blk}:∀ (f:Nat) (a:AV),mv false true some f (fzg look f a)=fzg look f a
 | 0,a=>by simp only [fzg,mv]
 | f + 1,a=>by
   have ih:=xzb (look:=look) f;have ihL:∀ (l:List AV),(l.map (fzg look f)).map (mv false true some f)=l.map (fzg look f):=fun l=>by
    rw [List.map_map];exact List.map_congr_left fun x _=>ih x
   cases a with
   | ptr i s k j=>
     simp only [fzg]
     repeat' split
     all_goals simp only [mv]
   | sl i s lo n cap=>
     simp only [fzg]
     repeat' split
     all_goals simp only [mv]
   | agg cs=>simp only [fzg,mv,ihL]
   | tup cs=>simp only [fzg,mv,ihL]
   | fn g x y=>simp only [fzg,mv,ihL]
   | ifc t x=>simp only [fzg,mv,ih]
   | eptr kd cs=>cases kd <;> simp only [fzg,mv]
   | ro kd c0 s es=>cases kd <;> simp only [fzg,mv]
   | _=>simp only [fzg,mv]
theorem xDy (look:Nat->Option Blk):∀ (f:Nat) (a:AV),xby a->xby (fzk look f a)
 | 0,a,_=>fun g=>by cases g <;> rfl
 | f + 1,a,h=>by
   cases a with
   | ptr i s k j=>simp only [fzk];exact xlb look (f+1) _
   | sl i s lo n cap=>simp only [fzk];exact xlb look (f+1) _
   | agg cs=>
     simp only [fzk];exact xt9 fun v hv=>by
      obtain ⟨u,hu,rfl⟩:=List.mem_map.1 hv;exact xDy look f u fun g=>List.flatMap_eq_nil_iff.1 (h (g+1)) u hu
   | _=>simp only [fzk];exact h
theorem xKg {look:Nat->Option Blk} {f:Nat}:∀ {x:KA} {q:Nat} {c:List D} {a:AV},xfz x q c a->fzk look (f+1) a=a
 | .nil,_,_,_,h=>by simp only [xfz] at h
 | .cons t ks r,_,_,_,h=>by
   simp only [xfz] at h;rcases h with ⟨_,_,vs,rfl,_⟩ | ⟨_,h⟩
   ·simp only [fzk]
   ·exact xKg h
theorem xCj {ls:Nat->Option SB} {l:Nat->Option Blk} (hl:∀ i,OR (ls i) (l i)):∀ (f:Nat) (v:SV) (a:AV),VR v a->(∀ c∈xsn ls f v,c=true)->VR (xg0 ls f v) (fzk l f a)
 | 0,v,a,_,_=>by simp only [xg0,fzk,VR];exact fun g=>by cases g <;> rfl
 | f + 1, v,a,h,hn=>by
   cases v with
   | any=>simp only [xg0,VR] at h ⊢;exact xDy l (f+1) a h
   | ptr i s k j=>
     simp only [xsn] at hn;have:=xri hl (f+1) _ a h hn;simp only [VR] at h;subst h;simpa only [xg0,fzk] using this
   | sl i s n=>
     simp only [xsn] at hn;have:=xri hl (f+1) _ a h hn;simp only [VR] at h;obtain ⟨cap,rfl⟩:=h;simpa only [xg0,fzk] using this
   | sub i s lo n=>
     simp only [VR] at h;obtain ⟨cap,rfl⟩:=h;simp only [xg0,fzk,VR];exact xlb l (f+1) _
   | pix i s p=>
     simp only [VR] at h;subst h;simp only [xg0,fzk,VR];exact xlb l (f+1) _
   | agg cs=>
     simp only [VR] at h;obtain ⟨vs,rfl,h⟩:=h;simp only [xsn] at hn;simp only [xg0,fzk,VR];refine ⟨_,rfl,?_⟩;induction cs generalizing vs with
     | nil=>simp only [VRL] at h;subst h;exact xbt
     | cons c cs ih=>
       simp only [VRL] at h;obtain ⟨u,us,rfl,h1,h2⟩:=h;exact xa1 (xCj hl f c u h1 fun c hc=>hn c (by simp only [List.flatMap_cons,List.mem_append];exact .inl hc)) (ih (fun c hc=>hn c (by simp only [List.flatMap_cons,List.mem_append];exact .inr hc)) _ h2)
   | alt x c=>
     simp only [VR] at h;simp only [xg0,xKg h,VR];exact h
   | ro c0 ks l'=>
     simp only [xg0];have h':=h;simp only [VR] at h;rcases h with ⟨rfl,_⟩ | ⟨kd,c0',es,rfl,_⟩ <;> simpa only [fzk] using h'
   | opt ks l'=>
     simp only [xg0];have h':=h;simp only [VR] at h;rcases h with ⟨_,rfl⟩ | ⟨kd,vs,c,r,_,rfl,_⟩ <;> simpa only [fzk] using h'
   | emp s=>
     simp only [xg0];have h':=h;simp only [VR] at h;rcases h with rfl | rfl <;> simpa only [fzk] using h'
   | eptr cs=>
     simp only [xg0];have h':=h;simp only [VR] at h;obtain ⟨kd,vs,rfl,_⟩:=h;simpa only [fzk] using h'
   | tup cs=>
     simp only [xg0];have h':=h;simp only [VR] at h;obtain ⟨vs,rfl,_⟩:=h;simpa only [fzk] using h'
   | fn g x y=>
     simp only [xg0];have h':=h;simp only [VR] at h;obtain ⟨vs,us,rfl,_⟩:=h;simpa only [fzk] using h'
   | ifc t x=>
     simp only [xg0];have h':=h;simp only [VR] at h;obtain ⟨u,rfl,_⟩:=h;simpa only [fzk] using h'
   | _ =>
     simp only [xg0];have h':=h;simp only [VR] at h;subst h;simpa only [fzk] using h'
theorem xAu {ls:Nat->Option SB} {l:Nat->Option Blk} (hl:∀ i,OR (ls i) (l i)):∀ (f:Nat) (v:SV) (a:AV),VR v a->(∀ c∈fzN ls f v,c=true)->VR (fzS ls f v) (fz l f a)
 | 0,v,a,_,_=>by simp only [fzS,fz,VR];exact fun g=>by cases g <;> rfl
 | f + 1, v, a,h,hn=>by
   have ihL:∀ {cs:List SV} {vs:List AV},VRL cs vs->(∀ c∈cs.flatMap (fzN ls f),c=true)->VRL (cs.map (fzS ls f)) (vs.map (fz l f)):=by
    intro cs;induction cs with
    | nil=>intro vs h _;simp only [VRL] at h;subst h;exact xbt
    | cons c cs ih=>
      intro vs h hv;simp only [VRL] at h;obtain ⟨u,us,rfl,h1,h2⟩:=h;exact xa1 (xAu hl f c u h1 fun c hc=>hv c (by simp only [List.flatMap_cons,List.mem_append];exact .inl hc)) (ih h2 fun c hc=>hv c (by simp only [List.flatMap_cons,List.mem_append];exact .inr hc))
   have keepL:∀ {cs:List SV} {vs:List AV},VRL cs vs->(∀ v∈vs,xby v)->VRL (cs.map (fzS ls f)) vs:=by
    intro cs;induction cs with
    | nil=>intro vs h _;simpa using h
    | cons c cs ih=>
      intro vs h hv;simp only [VRL] at h;obtain ⟨u,us,rfl,h1,h2⟩:=h;exact xa1 (xyi ls f c u h1 (hv u List.mem_cons_self)) (ih h2 fun v hm=>hv v (List.mem_cons_of_mem _ hm))
   have hno:∀ a,VR .any (fz l (f+1) a):=fun a=>by simp only [VR];exact xHt l (f+1) a
   cases v with
   | any=>simp only [fzS];exact hno a
   | tup cs=>simp only [fzS];exact hno a
   | mp i=>simp only [fzS];exact hno a
   | yl=>simp only [fzS];exact hno a
   | pix i s p=>simp only [fzS];exact hno a
   | ptr i s k j=>
     simp only [VR] at h;subst h;simp only [fzN] at hn;simp only [fzS];split
     ·rename_i cs hi;split
      ·rename_i hc;obtain ⟨rfl,rfl⟩:=hc;have:=xJt (hl i);rw [hi] at this;obtain ⟨B,hB,hr⟩:=xbm this;rw [hi] at hn;simp only [true_and,if_true] at hn;obtain ⟨s',es,fl,rfl⟩:=xce hr;simp only [xa3] at hr;obtain ⟨vs,rfl,rfl,h2,h3⟩:=hr;simp only [fz,hB,if_true,List.getElem?_cons_zero];cases fl with
       | true=>
         simp only [if_true,VR];exact ⟨_,_,rfl,keepL (xcw j h2) fun v hv=>h3 rfl v (List.mem_of_mem_drop hv)⟩
       | false=>
         simp only [Bool.false_eq_true,if_false,VR];exact ⟨_,_,rfl,ihL (xcw j h2) hn⟩
      ·exact hno _
     ·exact hno _
   | sl i s n=>
     simp only [VR] at h;obtain ⟨cap,rfl⟩:=h;simp only [fzN] at hn;simp only [fzS];split
     ·rename_i ks l' hi;split
      ·rename_i hc;obtain ⟨rfl,hf⟩:=hc;have:=hl i;rw [hi] at this;obtain ⟨B,hB,hr⟩:=xbm this;rw [hi] at hn;simp only [if_true,List.mem_singleton,forall_eq,decide_eq_true_eq] at hn;obtain ⟨s',es,fl,rfl⟩:=xce hr;simp only [xa3] at hr;obtain ⟨rfl,h2⟩:=hr;have hle:0+n<=es.length:=by have:=h2.1;omega
       simp only [fz,hB];rw [if_pos ⟨by trivial,hle⟩];obtain ⟨f,rfl⟩:∃ g,f=g+3:=⟨f - 3,by omega⟩
       ·cases fl with
        | true=>
          simp only [if_true,VR];exact .inr ⟨_,_,_,rfl,fun h=>(by cases h),by simpa using xep n h2⟩
        | false=>
          simp only [Bool.false_eq_true,if_false,VR];exact .inr ⟨_,_,_,rfl,fun h=>(by cases h),by simpa using xs5 (xep n h2) fun c e he=>xwu (f:=f) he⟩
      ·exact hno _
     ·rename_i ks l' q cs hi;split
      ·rename_i hc;obtain ⟨rfl,hf⟩:=hc;split
       ·rename_i ds hd;have:=hl i;rw [hi] at this;obtain ⟨B,hB,hr⟩:=xbm this;rw [hi] at hn;simp only [if_true,List.mem_cons,forall_eq_or_imp,decide_eq_true_eq] at hn;obtain ⟨hn0,hn⟩:=hn;obtain ⟨s',es,fl,rfl⟩:=xce hr;have hr:HoleR true ks l' q cs s' es fl:=hr;obtain ⟨rfl,he⟩:=hr.enc rfl;have hle:0+n<=es.length:=by have:=hr.len;omega
        simp only [fz,hB];rw [if_pos ⟨by trivial,hle⟩];obtain ⟨f,rfl⟩:∃ g,f=g+3:=⟨f - 3,by omega⟩;cases fl with
        | true=>
          simp only [if_true,VR,List.drop_zero];refine .inr ⟨_,_,_,rfl,fun h=>(by cases h),xep n (xyg hr.len he fun e hq=>?_)⟩;exact xgj hd (keepL (hr.own e hq) (hr.flat rfl e (List.mem_of_getElem? hq))) fun i d h=>by simpa using h
        | false=>
          simp only [Bool.false_eq_true,if_false,VR,List.drop_zero,List.map_take];refine .inr ⟨_,_,_,rfl,fun h=>(by cases h),xep n (xyg (by rw [List.length_map];exact hr.len) (fun i e c hi he' hc=>?_) fun e hq=>?_)⟩
          ·rw [List.getElem?_map,Option.map_eq_some_iff] at he';obtain ⟨e0,he0,rfl⟩:=he';exact xwu (f:=f) (he i e0 c hi he0 hc)
          ·rw [List.getElem?_map,Option.map_eq_some_iff] at hq;obtain ⟨e0,he0,rfl⟩:=hq;exact xgj hd (ihL (hr.own e0 he0) hn) fun i d h=>by simpa using h
       ·exact hno _
      ·exact hno _
     ·exact hno _
   | sub i s lo n=>
     simp only [VR] at h;obtain ⟨cap,rfl⟩:=h;simp only [fzN] at hn;simp only [fzS];split
     ·rename_i ks l' hi;split
      ·rename_i hc;obtain ⟨rfl,hf⟩:=hc;have:=hl i;rw [hi] at this;obtain ⟨B,hB,hr⟩:=xbm this;rw [hi] at hn;simp only [if_true,List.mem_singleton,forall_eq,decide_eq_true_eq] at hn;obtain ⟨s',es,fl,rfl⟩:=xce hr;simp only [xa3] at hr;obtain ⟨rfl,h2⟩:=hr;have hle:lo+n<=es.length:=by have:=h2.1;omega
       simp only [fz,hB];rw [if_pos ⟨by trivial,hle⟩];obtain ⟨f,rfl⟩:∃ g,f=g+3:=⟨f - 3,by omega⟩
       ·cases fl with
        | true=>
          simp only [if_true,VR];exact .inr ⟨_,_,_,rfl,fun h=>(by cases h),by simpa using xep n (xno lo h2)⟩
        | false=>
          simp only [Bool.false_eq_true,if_false,VR];exact .inr ⟨_,_,_,rfl,fun h=>(by cases h),by simpa using xs5 (xep n (xno lo h2)) fun c e he=>xwu (f:=f) he⟩
      ·exact hno _
     ·exact hno _
   | agg cs=>
     simp only [VR] at h;obtain ⟨vs,rfl,h⟩:=h;simp only [fzS,fz,VR];exact ⟨_,rfl,ihL h (by simpa only [fzN] using hn)⟩
   | fn g x y=>
     simp only [VR] at h;obtain ⟨vs,us,rfl,h1,h2⟩:=h;simp only [fzN] at hn;simp only [fzS,fz,VR];exact ⟨_,_,rfl,ihL h1 fun c hc=>hn c (List.mem_append_left _ hc),ihL h2 fun c hc=>hn c (List.mem_append_right _ hc)⟩
   | ifc t x=>
     simp only [VR] at h;obtain ⟨u,rfl,h⟩:=h;simp only [fzS,fz,VR];exact ⟨_,rfl,xAu hl f _ _ h (by simpa only [fzN] using hn)⟩
   | eptr cs=>
     have h0:=h;simp only [VR] at h;obtain ⟨kd,vs,rfl,h⟩:=h;exact h0
   | ro c0 ks l'=>
     have h0:=h;simp only [VR] at h;rcases h with ⟨rfl,hl'⟩ | ⟨kd,c0',es,rfl,h⟩ <;> exact h0
   | emp s=>
     simp only [VR] at h;rcases h with rfl | rfl <;> simp [fzS,fz,VR]
   | opt ks l'=>
     have h0:=h;simp only [VR] at h;rcases h with ⟨hl',rfl⟩ | ⟨kd,vs,c,r,hl',rfl,h⟩ <;> exact h0
   | alt x c=>
     have h0:=h;simp only [VR] at h
     match f with
     | 0=>simp only [fzS];exact hno a
     | 1=>simp only [fzS];exact hno a
     | f+2=>simp only [fzS];rw [xMh h];exact h0
   | pan t=>simp only [VR] at h;subst h;exact hno (.pan t)
   | _=>simp only [VR] at h;subst h;simp only [fzS,fz,VR]
theorem xt8 (v:Value):xby (xkq v):=xcq fun g=>by unfold xkq;split <;> rfl
theorem xDb (v:Value):VR (xy9 v) (xkq v):=by
 unfold xy9;split
 all_goals first
  | (simp only [VR];rfl)
  | (simp only [VR];exact xt8 _)
theorem xy8:∀ (vs:List Value),VRL (vs.map xy9) (vs.map xkq)
 | []=>xbt
 | v::vs=>xa1 (xDb v) (xy8 vs)
theorem xTo (v:Value):VR (xTp v) (xJg v):=by
 unfold xTp xJg;cases v with
 | agg cs=>simp only [VR];exact ⟨_,rfl,xy8 _⟩
 | _=>exact xDb _
theorem xMa {a:AV} (h:xby a):VR (a2s a) a:=by
 cases a with
 | int k n=>simp only [a2s,VR]
 | bool b=>simp only [a2s,VR]
 | nilp=>simp only [a2s,VR]
 | nils=>simp only [a2s,VR]
 | nilf=>simp only [a2s,VR]
 | nili=>simp only [a2s,VR]
 | nilm=>simp only [a2s,VR]
 | _=>simp only [a2s,VR];exact h
theorem xjs:∀ {as:List AV},(∀ a∈as,xby a)->VRL (as.map a2s) as
 | [],_=>xbt
 | a::_,h=>xa1 (xMa (h a List.mem_cons_self)) (xjs fun b hb=>h b (List.mem_cons_of_mem _ hb))
theorem xmu {ts:List SV} {as:List AV} (h:VRL ts as) (x:Operand):VR (evS ts x) (ev as x):=by
 cases x with
 | tmp t=>
   simp only [evS,ev];cases ht:ts[t]? with
   | none=>rw [xs2 h ht];simp only [Option.getD_none,VR]
   | some c=>
     obtain ⟨v,hv,hr⟩:=xd4 h ht;rw [hv];exact hr
 | const v=>exact xTo v
 | global g=>simp only [evS,ev,VR];exact xcq fun _=>rfl
 | func f=>simp only [evS,ev,VR];exact ⟨_,_,rfl,xbt,xbt⟩
theorem xib {P:Program} {t:TypeId} {Y:Ty} (hT:xcc P t=some Y) {z:List AV} (hz:Y.zero=some z):∀ a∈z,xby a:=by
 unfold xcc at hT;split at hT
 ·cases hT;simp only [Option.map_eq_some_iff] at hz;obtain ⟨v,_,rfl⟩:=hz;intro a ha;obtain ⟨u,_,rfl⟩:=List.mem_map.1 ha;exact xt8 u
 ·cases hT
def MR:MS->MA->Prop
 | .pure v,m=>∃ a,m=.pure a/\VR v a
 | .newbox cs,m=>∃ vs,m=.newp vs.length vs/\VRL cs vs
 | .newrow ks l n,m=>∃ es cap,m=.news ks.length es n cap/\xej ks l es/\okE es=true
 | .newe s,m=>m=.newe s
 | .newlst s cs,m=>∃ es,m=.news s es cs.length cs.length/\xmb cs es
 | .load i s k j agg n,m=>m=.load i s k j agg n
 | .store i s k j cs,m=>∃ vs,m=.store i s k j vs/\VRL cs vs
 | .loadx i s p,m=>∃ n,m=.load i s 0 p false n
 | .storex i s p v,m=>∃ a,m=.store i s 0 p [a]/\VR v a
 | .append a x s by_ ks,m=>∃ a' x',m=.append a' x' s by_/\VR a a'/\VR x x'/\s=ks.length
 | .copy a x s,m=>∃ a' x',m=.copy a' x' s/\VR a a'/\VR x x'
 | .call f args,m=>∃ as,m=.call f as/\VRL args as
 | .callp f i s k j agg n args,m=>∃ as,m=.callp f i s k j agg n as/\VRL args as
 | .yld args,m=>∃ as,m=.yld as/\VRL args as
 | .pan t,m=>m=.pan t
 | .newm b,m=>m=.newm/\xa3 b (.map [])
 | .mlen i,m=>m=.mlen i
 | .mget i Y k z ok,m=>∃ k' z',m=.mget i Y k' z' ok/\VR k k'/\VR z z'
 | .mset i Y k v,m=>∃ k' v',m=.mset i Y k' v'/\VR k k'/\VR v v'
 | .mdel i Y k,m=>∃ k',m=.mdel i Y k'/\VR k k'
theorem xrp {x:SV} {a:AV} {b:Bool} (h:VR x a) (hb:x.asB=some b):a=.bool b:=by
 cases x <;> simp only [SV.asB,reduceCtorEq,Option.some.injEq] at hb <;> subst hb <;> simpa only [VR] using h
theorem xKv {op:BinOp} {k:IntKind} {a b:Int} {v:SV} (h:(xwm op k a b).run=some v):∃ u,xvc op k a b=some u/\VR v u:=by
 cases op <;> simp only [xwm,T.run,Option.some.injEq,reduceCtorEq] at h <;> simp only [xvc]
 case quo=>
  split at h
  ·rename_i hb;cases h;have:¬ b=0:=by simpa using hb
   exact ⟨_,by rw [if_neg this],by simp only [VR]⟩
  ·cases h
 case rem=>
  split at h
  ·rename_i hb;cases h;have:¬ b=0:=by simpa using hb
   exact ⟨_,by rw [if_neg this],by simp only [VR]⟩
  ·cases h
 all_goals (subst h;exact ⟨_,rfl,by simp only [VR]⟩)
theorem xpf:∀ {ks:List Bool} {xs ys:List SV} {xs' ys':List AV} {r:Bool},xe5 ks xs ys=some r->VRL xs xs'->VRL ys ys'->xbl ks xs' ys'=some r
 | [],[],[],_,_,r,h,hx,hy=>by
   simp only [VRL] at hx hy;subst hx;subst hy;simpa [xe5,xbl] using h
 | true::ks,x::xs,y::ys,_,_,r,h,hx,hy=>by
   simp only [VRL] at hx hy;obtain ⟨u,us,rfl,h1,h2⟩:=hx;obtain ⟨w,ws,rfl,h3,h4⟩:=hy;cases x <;> try (simp [xe5] at h;done)
   cases y <;> try (simp [xe5] at h;done)
   simp only [VR] at h1 h3;subst h1;subst h3;simp only [xe5] at h;split at h
   ·rename_i e;simp only [Option.map_eq_some_iff] at h;obtain ⟨q,hq,rfl⟩:=h;simp only [xbl,if_pos e,xpf hq h2 h4,Option.map_some]
   ·cases h
 | false::ks,x::xs,y::ys,_,_,r,h,hx,hy=>by
   simp only [VRL] at hx hy;obtain ⟨u,us,rfl,h1,h2⟩:=hx;obtain ⟨w,ws,rfl,h3,h4⟩:=hy;simp only [xe5] at h;split at h
   ·rename_i a b e1 e2;rw [xrp h1 e1,xrp h3 e2];simp only [Option.map_eq_some_iff] at h;obtain ⟨q,hq,rfl⟩:=h;simp only [xbl,xpf hq h2 h4,Option.map_some]
   ·cases h
 | [],_::_,_,_,_,_,h,_,_=>by simp [xe5] at h
 | [],[],_::_,_,_,_,h,_,_=>by simp [xe5] at h
 | b::_,[],_,_,_,_,h,_,_=>by cases b <;> simp [xe5] at h
 | b::_,_::_,[],_,_,_,h,_,_=>by cases b <;> simp [xe5] at h
theorem xLx {Y:Option Ty} {x y:SV} {a b:AV} {r:Bool} (h:eqS Y x y=some r) (hx:VR x a) (hy:VR y b):eqA Y a b=some r:=by
 unfold eqS at h;split at h
 ·rename_i p q e1 e2;rw [xrp hx e1,xrp hy e2];split at h
  ·cases h;rfl
  ·cases h
 ·split at h
  ·rename_i xs ys _;simp only [VR] at hx hy;obtain ⟨vs,rfl,hx⟩:=hx;obtain ⟨us,rfl,hy⟩:=hy;split at h
   ·simp only [eqA];exact xpf h hx hy
   ·cases h
  ·split at h <;> simp only [Option.some.injEq,reduceCtorEq] at h <;> subst h
   all_goals
    simp only [VR] at hx hy
    first
     | (subst hx;subst hy;rfl)
     | (subst hx;obtain ⟨_,_,rfl,_⟩:=hy;rfl)
     | (subst hy;obtain ⟨_,_,rfl,_⟩:=hx;rfl)
     | (subst hx;obtain ⟨_,rfl,_⟩:=hy;rfl)
     | (subst hy;obtain ⟨_,rfl,_⟩:=hx;rfl)
     | (subst hx;obtain ⟨_,rfl⟩:=hy;rfl)
     | (subst hy;obtain ⟨_,rfl⟩:=hx;rfl)
theorem xDi {Y:Option Ty} {r c0:Bool} {ks:List K} {l:List (List D)} {a b:AV} {v:SV} (h:(xFe Y r l).run=some v) (hx:VR (.ro c0 ks l) a) (hy:VR .nils b):v=.kb r/\eqA Y a b=some false/\b=.nils/\∃ kd c s es,a=.ro kd c s es:=by
 unfold xFe at h;split at h
 ·simp only [T.run] at h;split at h
  ·rename_i hl;cases h;simp only [VR] at hx hy;subst hy;rcases hx with ⟨_,rfl⟩ | ⟨kd,c,es,rfl,_⟩
   ·simp at hl
   ·exact ⟨rfl,rfl,rfl,_,_,_,_,rfl⟩
  ·cases h
 ·cases h
theorem xz0 {Y:Option Ty} {r:Bool} {ks:List K} {l:List (List D)} {a b:AV} {v:SV} (h:(xz1 Y r).run=some v) (hx:VR (.opt ks l) a) (hy:VR .nilp b):v=.bool r/\eqA Y a b=some l.isEmpty/\b=.nilp/\(a=.nilp\/∃ kd vs,a=.eptr kd vs):=by
 unfold xz1 at h;split at h
 ·cases h;simp only [VR] at hx hy;subst hy;rcases hx with ⟨rfl,rfl⟩ | ⟨kd,vs,c,r,rfl,rfl,_⟩
  ·exact ⟨rfl,rfl,rfl,.inl rfl⟩
  ·exact ⟨rfl,rfl,rfl,.inr ⟨_,_,rfl⟩⟩
 ·cases h
theorem xVg {Y:Option Ty} {op:BinOp} {x y:SV} {a b:AV} {v:SV} (h:(xVh Y op x y).run=some v) (hx:VR x a) (hy:VR y b):∃ u,xma Y op a b=some u/\VR v u:=by
 unfold xVh at h;split at h
 ·rename_i k n k' m;simp only [VR] at hx hy;subst hx;subst hy;simp only [T.run] at h;split at h
  ·rename_i hb;cases h;have:¬ m<0:=by simpa using hb
   exact ⟨.int k (k.wrap (n*2 ^ (min m.toNat k.bits))),by simp only [xma,if_neg this],by simp only [VR]⟩
  ·cases h
 ·rename_i k n k' m;simp only [VR] at hx hy;subst hx;subst hy;simp only [T.run] at h;split at h
  ·rename_i hb;cases h;have:¬ m<0:=by simpa using hb
   exact ⟨.int k (n.fdiv (2 ^ (min m.toNat k.bits))),by simp only [xma,if_neg this],by simp only [VR]⟩
  ·cases h
 ·rename_i k n k' m hn1 hn2;simp only [VR] at hx hy;subst hx;subst hy;split at h
  ·rename_i e;obtain ⟨u,h1,h2⟩:=xKv h;refine ⟨u,?_,h2⟩;subst e;cases op <;> first | exact absurd rfl (hn1 ) | exact absurd rfl (hn2) | (simp only [xma,if_true];exact h1) | (simp [xwm,T.run] at h)
  ·cases h
 ·obtain ⟨rfl,h1,rfl,_,_,_,_,rfl⟩:=xDi h hx hy;exact ⟨.bool false,by simp only [xma,h1,Option.map_some],by simp only [VR]⟩
 ·obtain ⟨rfl,h1,rfl,_,_,_,_,rfl⟩:=xDi h hx hy;exact ⟨.bool true,by simp only [xma,h1,Option.map_some,Bool.not_false],by simp only [VR]⟩
 ·obtain ⟨rfl,h1,rfl,h2⟩:=xz0 h hx hy;rcases h2 with rfl | ⟨_,_,rfl⟩ <;> exact ⟨_,by simp only [xma,h1,Option.map_some];rfl,by simp only [VR]⟩
 ·obtain ⟨rfl,h1,rfl,h2⟩:=xz0 h hx hy;rcases h2 with rfl | ⟨_,_,rfl⟩ <;> exact ⟨_,by simp only [xma,h1,Option.map_some];rfl,by simp only [VR]⟩
 ·rw [T.run_ofO,Option.map_eq_some_iff] at h;obtain ⟨r,hr,rfl⟩:=h;have:=xLx hr hx hy;refine ⟨.bool r,?_,by simp only [VR]⟩;have hne:∀ k n k' m,¬ (a=.int k n/\b=.int k' m):=fun k n k' m hh=>by
   rw [hh.1,hh.2] at this;simp [eqA] at this
  cases a <;> cases b <;> first | exact absurd ⟨rfl,rfl⟩ (hne _ _ _ _) | simp only [xma,this,Option.map_some]
 ·rw [T.run_ofO,Option.map_eq_some_iff] at h;obtain ⟨r,hr,rfl⟩:=h;have:=xLx hr hx hy;refine ⟨.bool (!r),?_,by simp only [VR]⟩;have hne:∀ k n k' m,¬ (a=.int k n/\b=.int k' m):=fun k n k' m hh=>by
   rw [hh.1,hh.2] at this;simp [eqA] at this
  cases a <;> cases b <;> first | exact absurd ⟨rfl,rfl⟩ (hne _ _ _ _) | simp only [xma,this,Option.map_some]
 ·cases h
theorem xW2 {op:UnOp} {x:SV} {a:AV} {v:SV} (h:unS op x=some v) (hx:VR x a):∃ u,unA op a=some u/\VR v u:=by
 unfold unS at h;split at h <;> simp only [Option.some.injEq,reduceCtorEq] at h <;> subst h <;> simp only [VR] at hx <;> subst hx <;> exact ⟨_,rfl,by simp only [VR]⟩
theorem xgr {E:Operand->SV} {E':Operand->AV} (hE:∀ x,VR (E x) (E' x)) {x:Option Operand} {d m r:Nat} (h:(xmv E x d m).run=some r):evO E' x d m=some r:=by
 unfold xmv at h;cases x with
 | none=>simpa [evO,T.run] using h
 | some y=>
   simp only at h;have:=hE y;split at h
   ·rename_i k n e;rw [e] at this;simp only [VR] at this;simp only [T.run] at h;split at h
    ·rename_i hc;cases h;simp only [evO,this,xBh];rw [if_pos (by simpa using hc)]
    ·cases h
   ·cases h
theorem xM5 {E:Operand->SV} {E':Operand->AV} (hE:∀ x,VR (E x) (E' x)) {size:Nat} {x:SV} {a:AV} {lo hi mx:Option Operand} {v:SV} (h:(xG6 size E x lo hi mx).run=some v) (hx:VR x a):∃ u,xf1 size E' a lo hi mx=some u/\VR v u:=by
 unfold xG6 at h;split at h
 ·simp only [VR] at hx;subst hx;split at h
  ·cases h
  rename_i hm;simp only [T.run_bind,Option.bind_eq_some_iff] at h;obtain ⟨m,h1,q,h2,l,h3,h4⟩:=h;cases h4;refine ⟨.nils,?_,by simp only [VR]⟩;simp only [xf1,xgr hE h1,xgr hE h2,xgr hE h3,Option.bind_eq_bind,Option.bind_some,if_neg hm]
 ·rename_i c0 ks l;split at h
  ·cases h
  rename_i hm;split at h
  ·rename_i hs;simp only [T.run_bind,Option.bind_eq_some_iff] at h;obtain ⟨m,h1,q,h2,p,h3,h4⟩:=h;cases h4;have e1:=xgr hE h1;have e2:=xgr hE h2;have e3:=xgr hE h3;simp only [VR] at hx;rcases hx with ⟨rfl,rfl⟩ | ⟨kd,c0',es,rfl,hc,h5,h6⟩
   ·have z : ∀ {y d},evO E' y d 0=some d->True:=fun _=>trivial
    have lez:∀ {y:Option Operand} {d m' r:Nat},evO E' y d m'=some r->d<=m'->r<=m':=by
     intro y d m' r hh hd;cases y with
     | none=>simp only [evO,Option.some.injEq] at hh;omega
     | some y=>
       simp only [evO,xBh] at hh;split at hh
       ·split at hh
        ·rename_i hc;simp only [Option.some.injEq] at hh;omega
        ·cases hh
       ·cases hh
    simp only [List.length_nil] at e1 e2;have hm0:m=0:=Nat.le_zero.1 (lez e1 (Nat.le_refl _));subst hm0;have hq0:q=0:=Nat.le_zero.1 (lez e2 (Nat.le_refl _));subst hq0;have hp0:p=0:=Nat.le_zero.1 (lez e3 (Nat.le_refl _));subst hp0;refine ⟨.nils,?_,by simp only [VR];exact .inl ⟨by trivial,by simp⟩⟩;simp only [xf1,e1,e2,e3,Option.bind_eq_bind,Option.bind_some,if_neg hm]
   ·refine ⟨.ro kd (if mx.isSome then decide (m=q) else c0' && decide (q=es.length)) ks.length ((es.drop p).take (q - p)),?_,?_⟩
    ·simp only [xf1,if_neg hm,h5,e1,e2,e3,Option.bind_eq_bind,Option.bind_some,if_pos hs]
    ·simp only [VR];refine .inr ⟨kd,_,_,rfl,?_,xep _ (xno _ ⟨h5,h6⟩)⟩;intro hh;cases hmx:mx.isSome
     ·simp only [hmx,Bool.false_eq_true,if_false,Bool.and_eq_true,decide_eq_true_eq] at hh ⊢;exact ⟨hc hh.1,by rw [h5];exact hh.2⟩
     ·simpa only [hmx,if_true] using hh
  ·cases h
 ·rename_i i s' n';simp only [VR] at hx;obtain ⟨cap,rfl⟩:=hx;split at h
  ·rename_i hm;split at h
   case isFalse=>cases h
   rename_i hs;obtain ⟨hs,hhi⟩:=hs;have hcond:¬ ((mx.isSome && hi.isNone)=true):=by
    cases hi with
    | none=>cases hhi
    | some y=>simp
   rw [hm] at hcond;simp only [T.run_bind,Option.bind_eq_some_iff] at h;obtain ⟨p,h1,q,h2,h⟩:=h;have e1:=xgr hE h1;have e2:=xgr hE h2;have e0:∀ d m,evO E' none d m=some d:=fun _ _=>rfl
   split at h
   ·cases h;refine ⟨.sl i s' (0+0) (q - 0) (some (p - 0)),?_,by simp only [VR,Nat.add_zero,Nat.sub_zero];exact ⟨_,rfl⟩⟩;simp only [xf1,if_neg hcond,e0,e1,e2,Option.bind_eq_bind,Option.bind_some,if_pos hs,hm,if_true]
   ·rename_i y;simp only [T.run_bind,Option.bind_eq_some_iff] at h;obtain ⟨b,h3,h4⟩:=h;cases h4;have e3:=xgr hE h3;refine ⟨.sl i s' (0+b) (q - b) (some (p - b)),?_,by simp only [VR,Nat.zero_add];exact ⟨_,rfl⟩⟩;simp only [xf1,if_neg hcond,e1,e2,e3,Option.bind_eq_bind,Option.bind_some,if_pos hs,hm,if_true]
  rename_i hm;have hm:mx=none:=by simpa using hm
  subst hm;split at h
  ·rename_i hs;simp only [T.run_bind,Option.bind_eq_some_iff] at h;obtain ⟨q,h2,h⟩:=h;have e2:=xgr hE h2;split at h
   ·cases h;refine ⟨.sl i s' (0+0) (q - 0) (cap.map (· - 0)),?_,by simp only [VR,Nat.add_zero,Nat.sub_zero];exact ⟨_,rfl⟩⟩;have e0:∀ d m,evO E' none d m=some d:=fun _ _=>rfl
    simp only [xf1,Option.isSome_none,Bool.false_and,Bool.false_eq_true,if_false,e0,e2,Option.bind_eq_bind,Option.bind_some,if_pos hs]
   ·rename_i y;simp only [T.run_bind,Option.bind_eq_some_iff] at h;obtain ⟨b,h3,h4⟩:=h;cases h4;have e3:=xgr hE h3;refine ⟨.sl i s' (0+b) (q - b) (cap.map (· - b)),?_,by simp only [VR,Nat.zero_add];exact ⟨_,rfl⟩⟩;have e0:∀ d m,evO E' none d m=some d:=fun _ _=>rfl
    simp only [xf1,Option.isSome_none,Bool.false_and,Bool.false_eq_true,if_false,e0,e2,e3,Option.bind_eq_bind,Option.bind_some,if_pos hs]
  ·cases h
 ·cases h
theorem xUw {x:SV} {a:AV} {n:Nat} (h:xUx x=some n) (hx:VR x a):xIa a=some n:=by
 cases x <;> simp only [xUx,reduceCtorEq,Option.some.injEq] at h <;> subst h <;> simp only [VR] at hx
 ·subst hx;rfl
 ·rcases hx with ⟨rfl,rfl⟩ | ⟨kd,c0,es,rfl,_,h1,_⟩
  ·rfl
  ·simp only [xIa,h1]
 ·obtain ⟨cap,rfl⟩:=hx;rfl
 ·obtain ⟨cap,rfl⟩:=hx;rfl
 ·rcases hx with rfl | rfl <;> rfl
theorem xuw {f:Int->Int->Int} {k:IntKind}:∀ {xs:List SV} {as:List AV} {a:Int} {v:SV},xso f k xs a=some v->VRL xs as->∃ u,xhm f k as a=some u/\VR v u
 | [],_,a,v,h,hx=>by
   simp only [VRL] at hx;subst hx;simp only [xso,Option.some.injEq] at h;subst h;exact ⟨_,rfl,by simp only [VR]⟩
 | x :: xs,_,a,v,h,hx=>by
   simp only [VRL] at hx;obtain ⟨u,us,rfl,h1,h2⟩:=hx;cases x <;> try (simp [xso] at h;done)
   simp only [VR] at h1;subst h1;simp only [xso] at h;split at h
   ·rename_i e;obtain ⟨w,hw,hr⟩:=xuw h h2;exact ⟨w,by simp only [xhm,if_pos e];exact hw,hr⟩
   ·cases h
def PR:List (Nat×SV)->List (Nat×AV)->Prop
 | [],qs=>qs=[]
 | p::ps,qs=>∃ q qs',qs=q::qs'/\p.1=q.1/\VR p.2 q.2/\PR ps qs'
theorem xvg {E:Operand->SV} {E':Operand->AV} (hE:∀ x,VR (E x) (E' x)):∀ (ps:List (Nat×Operand)),PR (ps.map fun p=>(p.1,E p.2)) (ps.map fun p=>(p.1,E' p.2))
 | []=>by simp only [List.map_nil,PR]
 | p::ps=>by simp only [List.map_cons,PR];exact ⟨_,_,rfl,rfl,hE _,xvg hE ps⟩
theorem xJk {α:Type} {n:Int} {f:TypeId->List K->T α} {x:α} {c:List D} (hn:n=(c.getD 0 default).I) {v:AV}:∀ {a:KA} {q:Nat},(xJl n f a q).run=some x->xfz a q c v->∃ t ks vs,v=.ifc t (.agg vs)/\xaz ks c 1 vs/\(f t ks).run=some x
 | .nil,_,_,h2=>by simp only [xfz] at h2
 | .cons t ks .nil,q,h1,h2=>by
   simp only [xfz] at h2;rcases h2 with ⟨_,_,vs,rfl,h3⟩ | ⟨_,h2⟩
   ·simp only [xJl,T.run] at h1;split at h1
    ·exact ⟨t,ks,vs,rfl,h3,h1⟩
    ·cases h1
   ·exact h2.elim
 | .cons t ks (.cons t' ks' r),q,h1,h2=>by
   unfold xfz at h2;simp only [xJl,T.run] at h1;rcases h2 with ⟨e,_,vs,rfl,h3⟩ | ⟨e,h2⟩
   ·rw [if_pos (decide_eq_true (hn.trans e))] at h1;exact ⟨t,ks,vs,rfl,h3,h1⟩
   ·rw [if_neg (by rw [hn];simpa using e)] at h1;exact xJk hn h1 h2
theorem xMc {x:SV} (h:VR x .any):x=.any:=by
 cases x
 case any=>rfl
 case alt x' c'=>simp only [VR] at h;obtain ⟨_,_,h⟩:=xjv h;cases h
 all_goals simp only [VR,reduceCtorEq] at h
 all_goals simp at h
theorem xnk {places:Nat->Option (Nat×Nat)}:∀ {ps:List (Nat×SV)} {qs:List (Nat×AV)} {cs:List SV} {vs:List AV} {r:List SV},xko places cs ps=some r->PR ps qs->VRL cs vs->∃ r',xfq places vs qs=some r'/\VRL r r'
 | [],_,cs,vs,r,h,hp,hv=>by
   simp only [PR] at hp;subst hp;simp only [xko,Option.some.injEq] at h;subst h;exact ⟨vs,rfl,hv⟩
 | (i, x)::ps,_,cs,vs,r,h,hp,hv=>by
   simp only [PR] at hp;obtain ⟨⟨j,a⟩,qs,rfl,h1,h2,h3⟩:=hp;simp only at h1 h2;subst h1;have hx:x≠.any:=by rintro rfl;simp [xko] at h
   have hcells:=xyn h2 (fun cs=>.inr hx);have ha:a≠.any:=by
    rintro rfl
    cases x
    case alt x' c'=>simp only [VR] at h2;obtain ⟨_,_,h⟩:=xjv h2;cases h
    all_goals simp only [VR,reduceCtorEq] at h2
    all_goals first
     | exact hx rfl
     | (simp at h2;done)
   cases hpl:places i with
   | none=>
     exfalso;cases x <;> first | exact hx rfl | (simp only [xko,hpl,reduceCtorEq] at h)
   | some p=>
     obtain ⟨off,size⟩:=p;have h':xko places cs ((i,x)::ps)=if x.cells.length=size/\off+size<=cs.length then xko places (cs.take off++x.cells++cs.drop (off+size)) ps else none:=by
      cases x <;> first | exact absurd rfl hx | simp only [xko,hpl]
     have hA:xfq places vs ((i,a)::qs)=if a.cells.length=size/\off+size<=vs.length then xfq places (vs.take off++a.cells++vs.drop (off+size)) qs else none:=by
      cases a <;> first | exact absurd rfl ha | simp only [xfq,hpl]
     rw [hA];rw [h'] at h;split at h
     ·rename_i hc;rw [if_pos (by rw [<- xa4 hcells,<- xa4 hv];exact hc)];exact xnk h h3 (xch (xch (xdy _ hv) hcells) (xcw _ hv))
     ·cases h
theorem xn9 {s:Nat}:∀ {n:Nat} {cs:List SV} {vs:List AV},VRL cs vs->(xg3 s n cs).length=(xes s n vs).length/\∀ (i:Nat) c v,(xg3 s n cs)[i]?=some c->(xes s n vs)[i]?=some v->VRL c v
 | 0,_,_,_=>⟨rfl,fun i c v h=>by simp [xg3] at h⟩
 | n + 1,cs,vs,h=>by
   obtain ⟨h1,h2⟩:=xn9 (s:=s) (n:=n) (xcw s h);refine ⟨by simp [xg3,xes,h1],fun i c v hc hv=>?_⟩;cases i with
   | zero=>simp [xg3,xes] at hc hv;subst hc;subst hv;exact xdy s h
   | succ i=>simp [xg3,xes] at hc hv;exact h2 i c v hc hv
theorem xY9 {k:K} {d:D} {v:AV} (h:xb3 k d v):okV v=true:=by
 cases k <;> simp only [xb3] at h
 ·subst h;rfl
 ·subst h;rfl
 ·rcases h with ⟨rfl,_⟩ | ⟨_,_,_,rfl,_⟩ <;> rfl
 ·rcases h with ⟨_,rfl⟩ | ⟨_,_,_,_,_,rfl,_⟩ <;> rfl
 ·obtain ⟨_,_,rfl⟩:=xjv h;rfl
theorem xMe:∀ {ks:List K} {c:List D} {j:Nat} {vs:List AV},xaz ks c j vs->okL vs=true
 | [],_,_,_,h=>by simp only [xaz] at h;subst h;rfl
 | k :: ks,_,_,_,h=>by
   simp only [xaz] at h;obtain ⟨u,us,rfl,h1,h2⟩:=h;simp only [okL,xY9 h1,xMe h2,Bool.and_self]
theorem xRi {es:List (List AV)} (h:∀ e∈es,okL e=true):okE es=true:=by
 induction es with
 | nil=>rfl
 | cons e es ih=>simp only [okE,h e List.mem_cons_self,ih fun e' he=>h e' (List.mem_cons_of_mem _ he),Bool.and_self]
theorem xC7 {ks:List K} {l:List (List D)} {es:List (List AV)} (h:xej ks l es):okE es=true:=xRi fun e he=>by
 obtain ⟨i,hi,rfl⟩:=List.getElem_of_mem he;exact xMe (h.2 i _ (l[i]'(by have:=h.1;omega)) (List.getElem?_eq_getElem hi) (List.getElem?_eq_getElem (by have:=h.1;omega)))
theorem xS1 {ks:List K} {l:List (List D)} {es:List (List AV)} (h:xej ks l es):xse ks.length es=true:=by
 have:∀ {es:List (List AV)},(∀ e∈es,e.length=ks.length)->xse ks.length es=true:=by
  intro es;induction es with
  | nil=>intro _;rfl
  | cons e es ih=>intro h;simp only [xse,h e List.mem_cons_self,ih fun e' he=>h e' (List.mem_cons_of_mem _ he),decide_true,Bool.and_self]
 refine this fun e he=>?_
 obtain ⟨i,hi,rfl⟩:=List.getElem_of_mem he;exact xhp (h.2 i _ (l[i]'(by have:=h.1;omega)) (List.getElem?_eq_getElem hi) (List.getElem?_eq_getElem (by have:=h.1;omega)))
theorem xtl {ks:List K}:∀ {vss:List (List SV)} {l:List (List D)},xny ks vss=some l->l.length=vss.length
 | [],l,h=>by simp only [xny,Option.some.injEq] at h;subst h;rfl
 | v :: vss,l,h=>by
   simp only [xny] at h;split at h
   ·rename_i d ds h1 h2;cases h;simp [xtl h2]
   ·cases h
theorem xj6 {s:Nat}:∀ {n:Nat} {cs:List SV},(xg3 s n cs).length=n
 | 0,_=>rfl
 | n+1,cs=>by simp [xg3,xj6]
theorem xrs {ks:List K} {d:List D} {z:List AV} (h:xaz ks d 0 z) (n:Nat):xej ks (List.replicate n d) (List.replicate n z):=by
 refine ⟨by simp,fun i e c he hc=>?_⟩;have h1:=List.mem_of_getElem? he;have h2:=List.mem_of_getElem? hc;rw [List.eq_of_mem_replicate h1,List.eq_of_mem_replicate h2];exact h
theorem xyp {z:List SV} {z':List AV} (h:VRL z z'):∀ n,VRL (List.replicate n z).flatten (List.replicate n z').flatten
 | 0=>xbt
 | n+1=>by simp only [List.replicate_succ,List.flatten_cons];exact xch h (xyp h n)
theorem xho {E:Operand->SV} {E':Operand->AV} (hE:∀ x,VR (E x) (E' x)):∀ (l:List Operand),VRL (l.map E) (l.map E')
 | []=>xbt
 | x::l=>xa1 (hE x) (xho hE l)
section
variable {C:Cfg} {E:Operand->SV} {E':Operand->AV}
theorem xLn (P:Program) (kt e:TypeId):xa3 (xOb P kt e) (.map []):=by
 unfold xOb;split
 ·split
  ·rename_i h;simp only [xa3];exact ⟨h,rfl,fun i p c hp=>by simp at hp⟩
  ·simp only [xa3];exact ⟨rfl,fun i e p he=>by simp at he⟩
 ·simp only [xa3];exact ⟨rfl,fun i e p he=>by simp at he⟩
theorem xKh {P:Program} {t:TypeId} {z:AV} (h:xvj P t=some z):xby z:=by
 unfold xvj at h
 repeat' (split at h)
 all_goals first
  | (cases h;done)
  | (cases h;exact xt8 _)
theorem xNq (hE:∀ x,VR (E x) (E' x)) {b:Builtin} {args:List Operand} {ts:List TypeId} {ms:MS} (h:(xHm C E b args ts).run=some ms):∃ m,xaw C E' b args ts=some m/\MR ms m:=by
 unfold xHm at h;split at h
 ·rename_i x t;split at h
  ·rename_i hk;rw [T.run_ofO,Option.map_eq_some_iff] at h;obtain ⟨n,hn,rfl⟩:=h;refine ⟨.pure (i64 n),?_,by simp only [MR];exact ⟨_,rfl,by simp only [VR,i64]⟩⟩;simp only [xaw,hk,xUw hn (hE x),Option.map_some]
  ·rename_i hk;cases h;exact ⟨_,by simp only [xaw,hk] <;> rfl,by simp only [MR];exact ⟨_,rfl,by simp only [VR,i64]⟩⟩
  ·rename_i hk;split at h
   ·rename_i i he;have hx:=hE x;rw [he] at hx;simp only [VR] at hx;cases h;exact ⟨.mlen i,by simp only [xaw,hk,hx],by simp only [MR]⟩
   ·cases h
  ·cases h
 ·rename_i ts' x r;split at h
  ·rename_i k a he;have hx:=hE x;rw [he] at hx;simp only [VR] at hx;rw [T.run_ofO,Option.map_eq_some_iff] at h;obtain ⟨v,hv,rfl⟩:=h;obtain ⟨u,hu,hr⟩:=xuw hv (xho hE r);have hu:xhm (fun a b=>if b<a then b else a) k (r.map E') a=some u:=hu;exact ⟨.pure u,by simp only [xaw,hx,hu,Option.map_some],by simp only [MR];exact ⟨_,rfl,hr⟩⟩
  ·cases h
 ·rename_i ts' x r;split at h
  ·rename_i k a he;have hx:=hE x;rw [he] at hx;simp only [VR] at hx;rw [T.run_ofO,Option.map_eq_some_iff] at h;obtain ⟨v,hv,rfl⟩:=h;obtain ⟨u,hu,hr⟩:=xuw hv (xho hE r);have hu:xhm (fun a b=>if b > a then b else a) k (r.map E') a=some u:=hu;exact ⟨.pure u,by simp only [xaw,hx,hu,Option.map_some],by simp only [MR];exact ⟨_,rfl,hr⟩⟩
  ·cases h
 ·rename_i a x t u;split at h
  ·rename_i e _ _ _ _ _ _ _ _ _ _ ht hu;split at h
   ·rename_i he hk;split at h
    ·rename_i hc;cases h;refine ⟨_,by simp only [xaw,ht,hu,he,if_pos hc.1] <;> rfl,?_⟩;simp only [MR];exact ⟨_,_,rfl,hE a,hE x,hc.2.symm⟩
    ·cases h
   ·cases h
  ·cases h
 ·rename_i a x t u;split at h
  ·rename_i e _ _ _ _ _ _ _ _ _ _ ht hu;split at h
   ·rename_i he;cases h;refine ⟨_,by simp only [xaw,ht,hu,he] <;> rfl,?_⟩;simp only [MR];exact ⟨_,_,rfl,hE a,hE x⟩
   ·cases h
  ·cases h
 ·rename_i m k t ts';split at h
  ·rename_i kt e _ _ _ _ _ i hk he;have hx:=hE m;rw [he] at hx;simp only [VR] at hx;cases h;exact ⟨.mdel i (C.ty kt) (E' k),by simp only [xaw,hk,hx],by simp only [MR];exact ⟨_,rfl,hE k⟩⟩
  ·cases h
 ·cases h
theorem xS2 {ks:List K} {c:List D} {l:List (List D)} {e:List AV} {es:List (List AV)} (h1:xaz ks c 0 e) (h2:xej ks l es):xej ks (c::l) (e::es):=by
 refine ⟨by simp [h2.1],fun i x y hx hy=>?_⟩;cases i with
 | zero=>
   simp only [List.getElem?_cons_zero,Option.some.injEq] at hx hy;subst hx;subst hy;exact h1
 | succ i=>exact h2.2 i x y (by simpa using hx) (by simpa using hy)
theorem xHk {k:IntKind}:∀ (m:Nat) {cs:List SV} {vs:List AV},VRL cs vs->m<=(xkb k cs).length->xej [.int k] ((xkb k cs).take m) (xes 1 m vs)
 | 0,_,_,_,_=>xk7
 | m+1,[],_,_,h=>by simp [xkb] at h
 | m + 1,c::cs,vs,hv,h=>by
   simp only [VRL] at hv;obtain ⟨v,vs',rfl,h1,h2⟩:=hv;cases c
   case int k' x=>
    simp only [xkb] at h ⊢;split at h
    ·rename_i e;subst e;rw [if_pos rfl,List.take_succ_cons];simp only [VR] at h1;subst h1;refine xS2 ?_ (xHk m h2 (by simpa using h));simp only [List.take_succ_cons,List.take_zero,xaz,xb3,List.getD_cons_zero,D.I];exact ⟨_,_,rfl,rfl,rfl⟩
    ·simp at h
   all_goals simp [xkb] at h
theorem xDr (hC:∀ t Y,C.ty t=some Y->xcc C.P t=some Y) (hE:∀ x,VR (E x) (E' x)) {o:Oper} {ms:MS} (h:(xec C E o).run=some ms):∃ m,xi2 C E' o=some m/\MR ms m:=by
 have pure:∀ {v:SV} {a:AV},VR v a->MR (.pure v) (.pure a):=fun hv=>by simp only [MR];exact ⟨_,rfl,hv⟩
 unfold xec at h;unfold xi2;cases hop:o.op <;> simp only [hop] at h ⊢
 case move x=>cases h;exact ⟨_,rfl,pure (hE x)⟩
 case assign x=>cases h;exact ⟨_,rfl,pure (hE x)⟩
 case pick c a b=>
  have hc:=hE c;split at h
  ·rename_i t ht;rw [ht] at hc;simp only [VR] at hc;rw [hc];split at h
   ·rename_i x y e1 e2;cases h;refine ⟨_,rfl,pure ?_⟩;rw [xrp (hE a) e1,xrp (hE b) e2];cases t <;> simp only [VR,if_true,Bool.false_eq_true,if_false]
   ·simp only [T.run] at h;cases t <;> simp only [if_true,Bool.false_eq_true,if_false,Option.some.injEq] at h <;> subst h
    ·exact ⟨_,rfl,pure (by simpa using hE b)⟩
    ·exact ⟨_,rfl,pure (by simpa using hE a)⟩
  ·rename_i t ht;rw [ht] at hc;simp only [VR] at hc;rw [hc];cases h;refine ⟨_,rfl,pure ?_⟩;cases t
   ·simpa using hE b
   ·simpa using hE a
  ·cases h
 case alloc t=>
  split at h
  ·rename_i z _ ht;cases h;rename_i hty;refine ⟨_,by simp only [ht] <;> rfl,?_⟩;simp only [MR];exact ⟨_,rfl,xjs (xib (hC _ _ ht) rfl)⟩
  ·cases h
 case box t x=>
  have hx:=hE x;split at h
  ·cases h
  ·rename_i v hne;cases h;have hx':E x≠.any:=fun e=>hne (by rw [e])
   have ha:E' x≠.any:=fun e=>hx' (xMc (e ▸ hx))
   refine ⟨.newp (E' x).cells.length (E' x).cells,?_,?_⟩
   ·cases hv:E' x <;> first | exact absurd hv ha | rfl
   ·simp only [MR];exact ⟨_,rfl,xyn hx (fun cs=>.inr hx')⟩
 case build t ps=>
  split at h
  ·rename_i ht;rw [T.run_ofO,Option.map_eq_some_iff] at h;obtain ⟨cs,hcs,rfl⟩:=h;obtain ⟨r,hr,hv⟩:=xnk hcs (xvg hE _) (xjs (xib (hC _ _ ht) rfl));exact ⟨_,by simp only [ht,hr,Option.map_some] <;> rfl,pure (by simp only [VR];exact ⟨_,rfl,hv⟩)⟩
  ·rename_i ht;rw [T.run_ofO,Option.map_eq_some_iff] at h;obtain ⟨cs,hcs,rfl⟩:=h;obtain ⟨r,hr,hv⟩:=xnk hcs (xvg hE _) (xjs (xib (hC _ _ ht) rfl));exact ⟨_,by simp only [ht,hr,Option.map_some] <;> rfl,pure (by simp only [VR];exact ⟨_,rfl,hv⟩)⟩
  ·cases h
 case buildSlice t len ps=>
  split at h
  ·rename_i e _ _ _ _ _ ht;split at h
   ·rename_i ks he hk;split at h
    ·rename_i hc;split at h
     ·rename_i cs hcs;obtain ⟨r,hr,hv⟩:=xnk hcs (xvg hE _) (xyp (xjs (xib (hC _ _ he) rfl)) len);split at h
      ·rename_i h0;cases h;exact ⟨_,by simp only [ht,he,if_pos (And.intro hc.1 hc.2.1),if_pos h0,hr,Option.map_some] <;> rfl,by simp only [MR]⟩
      rename_i h0;split at h
      ·rename_i l hl;cases h;have hch:=xn9 (s:=ks.length) (n:=len) hv;have hll:l.length=len:=by rw [xtl hl,xj6]
       obtain ⟨hc1,hc2,hc3⟩:=hc;subst hc3;have hee:=xtm hl hch.1 hch.2;refine ⟨_,by simp only [ht,he,if_pos (And.intro hc1 hc2),if_neg h0,hr,Option.map_some] <;> rfl,?_⟩;simp only [MR];exact ⟨_,_,by rw [hll],hee,xC7 hee⟩
      ·cases h;obtain ⟨hc1,hc2,hc3⟩:=hc;refine ⟨_,by simp only [ht,he,if_pos (And.intro hc1 hc2),if_neg h0,hr,Option.map_some] <;> rfl,?_⟩;simp only [MR];exact ⟨_,by rw [xj6],xn9 hv⟩
     ·cases h
    ·cases h
   ·rename_i he hk;split at h
    ·rename_i hc;split at h
     ·rename_i cs hcs;obtain ⟨r,hr,hv⟩:=xnk hcs (xvg hE _) (xyp (xjs (xib (hC _ _ he) rfl)) len);cases h;obtain ⟨hc1,hc2,hc3⟩:=hc;refine ⟨_,by simp only [ht,he,if_pos (And.intro hc1 hc2),if_neg hc3,hr,Option.map_some] <;> rfl,?_⟩;simp only [MR];exact ⟨_,by rw [xj6],xn9 hv⟩
     ·cases h
    ·cases h
   ·cases h
  ·cases h
 case load t a=>
  have ha:=hE a;split at h
  ·rename_i ty ht;split at h
   ·rename_i i s k j he;rw [he] at ha;simp only [VR] at ha;cases h;exact ⟨_,by simp only [ht,ha] <;> rfl,by simp only [MR]⟩
   ·rename_i cs he;rw [he] at ha;simp only [VR] at ha;obtain ⟨kd,vs,ha,hv⟩:=ha;simp only [ht,ha];split at h
    ·rename_i hag;rw [if_pos hag];split at h
     ·rename_i hle;cases h;rw [if_pos (by rw [<- xa4 hv];exact hle)];exact ⟨_,rfl,pure (by simp only [VR];exact ⟨_,rfl,xdy _ hv⟩)⟩
     ·cases h
    ·rename_i hag;rw [if_neg hag];rw [T.run_ofO,Option.map_eq_some_iff] at h;obtain ⟨v,hv',rfl⟩:=h;cases cs with
     | nil=>cases hv'
     | cons c cs=>
       simp only [List.head?_cons,Option.some.injEq] at hv';subst hv';simp only [VRL] at hv;obtain ⟨u,us,rfl,h1,h2⟩:=hv;exact ⟨_,rfl,pure h1⟩
   ·rename_i ks l he;rw [he] at ha;simp only [VR] at ha;simp only [T.run] at h;split at h
    ·rename_i hl;rcases ha with ⟨rfl,_⟩ | ⟨kd,vs,c,r,rfl,ha,hv⟩
     ·simp at hl
     ·simp only [List.getD_cons_zero] at h;simp only [ht,ha];have hln:=xhp hv;have hv:=xiq hv;split at h
      ·rename_i hag;rw [if_pos hag];split at h
       ·rename_i hle;cases h;rw [if_pos (by rw [hln];exact hle)];exact ⟨_,rfl,pure (by simp only [VR];exact ⟨_,rfl,xdy _ hv⟩)⟩
       ·cases h
      ·rename_i hag;rw [if_neg hag];rw [T.run_ofO,Option.map_eq_some_iff] at h;obtain ⟨v,hv',rfl⟩:=h;generalize xe6 ks c 0=cs at hv hv';cases cs with
       | nil=>cases hv'
       | cons c cs=>
         simp only [List.head?_cons,Option.some.injEq] at hv';subst hv';simp only [VRL] at hv;obtain ⟨u,us,rfl,h1,h2⟩:=hv;exact ⟨_,rfl,pure h1⟩
    ·cases h
   ·rename_i i s p he;rw [he] at ha;simp only [VR] at ha;split at h
    ·cases h
    ·rename_i hag;cases h;have hag':ty.agg=false:=by simpa using hag
     exact ⟨_,by simp only [ht,ha,hag'] <;> rfl,by simp only [MR];exact ⟨_,rfl⟩⟩
   ·cases h
  ·cases h
 case store t a x=>
  have ha:=hE a;have hx:=hE x;split at h
  ·rename_i ty ht;split at h
   ·cases h
   ·rename_i v i s k j he hne;rw [he] at ha;simp only [VR] at ha;have hx':E x≠.any:=hne;have hxa:E' x≠.any:=fun e=>hx' (xMc (e ▸ hx))
    have hcells:=xyn hx (fun cs=>.inr hx');split at h
    ·rename_i hl;cases h;refine ⟨.store i s k j (E' x).cells,?_,by simp only [MR];exact ⟨_,rfl,hcells⟩⟩;rw [xa4 hcells] at hl;simp only [ht,ha];cases hv:E' x <;> first | exact absurd hv hxa | (rw [hv] at hl;simp only [if_pos hl])
    ·cases h
   ·rename_i i s p k n he hex;rw [he] at ha;rw [hex] at hx;simp only [VR] at ha hx;split at h
    ·rename_i hl;cases h;refine ⟨.store i s 0 p [.int k n],?_,by simp only [MR];exact ⟨_,rfl,by simp only [VR]⟩⟩;simp only [ht,ha,hx];exact if_pos hl.symm
    ·cases h
   ·cases h
  ·cases h
 case nilCheck x=>
  have hx:=hE x;split at h
  ·rename_i i s k j he;rw [he] at hx;simp only [VR] at hx;cases h;exact ⟨_,by simp only [hx] <;> rfl,pure (by simp only [VR])⟩
  ·rename_i i s p he;rw [he] at hx;simp only [VR] at hx;cases h;exact ⟨_,by simp only [hx] <;> rfl,pure (by simp only [VR])⟩
  ·rename_i cs he;rw [he] at hx;simp only [VR] at hx;obtain ⟨kd,vs,hx,hv⟩:=hx;cases h;exact ⟨_,by simp only [hx] <;> rfl,pure (by simp only [VR];exact ⟨_,_,rfl,hv⟩)⟩
  ·rename_i ks l he;rw [he] at hx;simp only [VR] at hx;simp only [T.run] at h;split at h
   ·rename_i hl;rcases hx with ⟨rfl,_⟩ | ⟨kd,vs,c,r,rfl,hx,hv⟩
    ·simp at hl
    ·cases h;exact ⟨_,by simp only [hx] <;> rfl,pure (by simp only [VR,List.getD_cons_zero];exact ⟨_,_,rfl,xiq hv⟩)⟩
   ·cases h
  ·rename_i f a c he;rw [he] at hx;simp only [VR] at hx;obtain ⟨a',c',hx,h1,h2⟩:=hx;cases h;exact ⟨_,by simp only [hx] <;> rfl,pure (by simp only [VR];exact ⟨_,_,rfl,h1,h2⟩)⟩
  ·cases h
 case binOp op t x y t'=>
  by_cases hnlS:xB4 (C.ty t) (E x) (E y) y=true
  ·rw [if_pos hnlS] at h;have hnl:xq3 (C.ty t) (E' x) (E' y) y=true:=by
    have h1:=hE x;have h2:=hE y;unfold xB4 at hnlS;split at hnlS
    ·rename_i e1 e2 e3;rw [e2] at h1;rw [e3] at h2;simp only [VR] at h1 h2;rw [e1,h1,h2];rfl
    ·cases hnlS
   rw [if_pos hnl];cases op <;> first
    | (cases h;done)
    | (cases h;exact ⟨_,rfl,pure (by simp only [VR])⟩)
  rw [if_neg hnlS] at h;rw [T.run_map,Option.map_eq_some_iff] at h;obtain ⟨v,hv,rfl⟩:=h;obtain ⟨u,hu,hr⟩:=xVg hv (hE x) (hE y);have hnl:¬ xq3 (C.ty t) (E' x) (E' y) y=true:=fun hn=>by
   rw [xKo hn] at hu;cases hu
  exact ⟨_,by rw [if_neg hnl];simp only [hu,Option.map_some] <;> rfl,pure hr⟩
 case unOp op t x=>
  rw [T.run_ofO,Option.map_eq_some_iff] at h;obtain ⟨v,hv,rfl⟩:=h;obtain ⟨u,hu,hr⟩:=xW2 hv (hE x);exact ⟨_,by simp only [hu,Option.map_some] <;> rfl,pure hr⟩
 case convert s d x=>
  have hx:=hE x;split at h
  ·rename_i k n hs hd he;rw [he] at hx;simp only [VR] at hx;cases h;exact ⟨_,by simp only [hs,hd,hx] <;> rfl,pure (by simp only [VR])⟩
  ·cases h
 case makeInterface t x=>
  split at h
  ·cases h
  ·rename_i ty hne ht;cases h;refine ⟨.pure (.ifc t (E' x)),?_,pure (by simp only [VR];exact ⟨_,rfl,hE x⟩)⟩;split
   ·rename_i e;exact absurd e (by rw [ht];exact fun e=>hne _ _ _ _ _ (Option.some.inj e))
   ·rfl
   ·rename_i e;rw [ht] at e;cases e
  ·cases h
 case makeFunc f a c=>
  cases h;exact ⟨_,rfl,pure (by simp only [VR];exact ⟨_,_,rfl,xho hE _,xho hE _⟩)⟩
 case makeSlice t l c=>
  have hl:=hE l;have hc:=hE c;split at h
  ·rename_i e _ _ _ _ _ n m ht he1 he2;rw [he1] at hl;rw [he2] at hc;simp only [VR] at hl hc;split at h
   ·rename_i ks he hk;split at h
    ·rename_i d hd;split at h
     ·rename_i hcond;obtain ⟨c1,c2,c3⟩:=hcond;split at h
      ·simp only [T.run] at h;split at h
       ·rename_i hn;cases h;simp only [decide_eq_true_eq] at hn;obtain ⟨n1,n2,n3,n4⟩:=hn;subst c3;have hee:=xrs (xgj (c:=d) (j:=0) hd (xjs (xib (hC _ _ he) rfl)) (fun i d h=>by simpa using h)) n.toNat;refine ⟨_,by simp only [ht,hl,hc,he];rw [if_pos ⟨n1,Int.le_of_eq n2,by rw [<- n2];exact n3,by rw [<- n2];exact n4,c1,c2⟩],?_⟩;simp only [MR,<- n2];exact ⟨_,n.toNat,by simp,hee,xC7 hee⟩
       ·cases h
      ·simp only [T.run] at h;split at h
       ·rename_i hn;cases h;simp only [decide_eq_true_eq] at hn;obtain ⟨n1,n2,n3,n4⟩:=hn;subst c3;have hee:=xrs (xgj (c:=d) (j:=0) hd (xjs (xib (hC _ _ he) rfl)) (fun i d h=>by simpa using h)) m.toNat;refine ⟨_,by simp only [ht,hl,hc,he];rw [if_pos ⟨n1,n2,n3,n4,c1,c2⟩],?_⟩;simp only [MR];exact ⟨_,_,rfl,hee,xC7 hee⟩
       ·cases h
     ·cases h
    ·cases h
   ·cases h
  ·cases h
 case slice t x lo hi mx=>
  split at h
  ·rename_i e _ _ _ _ _ ht;split at h
   ·rename_i te he;rw [T.run_map,Option.map_eq_some_iff] at h;obtain ⟨v,hv,rfl⟩:=h;obtain ⟨u,hu,hr⟩:=xM5 hE hv (hE x);exact ⟨_,by simp only [ht,he,hu,Option.map_some] <;> rfl,pure hr⟩
   ·cases h
  ·rename_i m es _ _ _ _ _ _ ht;have hx:=hE x;split at h
   ·rename_i cs hex;rw [hex] at hx;simp only [VR] at hx;obtain ⟨kd,vs,hx,hv⟩:=hx;split at h
    ·rename_i hc;obtain ⟨c1,c2,rfl⟩:=hc;split at h
     ·rename_i k n r;split at h
      ·rename_i hm;cases h;refine ⟨.pure (.ro kd true 1 (xes 1 m vs)),by simp only [ht,hx];rw [if_pos ⟨c1,by rw [<- xa4 hv];exact c2⟩],pure ?_⟩;simp only [VR];exact .inr ⟨kd,true,_,rfl,fun _=>rfl,xHk m hv hm⟩
      ·cases h
     ·cases h
    ·cases h
   ·cases h
  ·cases h
 case fieldAddr t x f=>
  have hx:=hE x;split at h
  ·rename_i fs _ _ _ _ _ ht;split at h
   ·rename_i off sz ag hf;split at h
    ·cases h
    ·rename_i hsz;simp only [ht,hf,if_neg hsz];split at h
     ·rename_i i s k j he;rw [he] at hx;simp only [VR] at hx;cases h;exact ⟨_,by simp only [hx] <;> rfl,pure (by simp only [VR])⟩
     ·rename_i cs he;rw [he] at hx;simp only [VR] at hx;obtain ⟨kd,vs,hx,hv⟩:=hx;cases h;exact ⟨_,by simp only [hx] <;> rfl,pure (by simp only [VR];exact ⟨_,_,rfl,xcw _ hv⟩)⟩
     ·rename_i ks l he;rw [he] at hx;simp only [VR] at hx;simp only [T.run] at h;split at h
      ·rename_i hl;rcases hx with ⟨rfl,_⟩ | ⟨kd,vs,c,r,rfl,hx,hv⟩
       ·simp at hl
       ·cases h;exact ⟨_,by simp only [hx] <;> rfl,pure (by simp only [VR,List.getD_cons_zero];exact ⟨_,_,rfl,xcw _ (xiq hv)⟩)⟩
      ·cases h
     ·cases h
   ·cases h
  ·cases h
 case field t x f=>
  have hx:=hE x;split at h
  ·rename_i fs _ _ _ _ _ cs ht he;rw [he] at hx;simp only [VR] at hx;obtain ⟨vs,hx,hv⟩:=hx;simp only [ht,hx];split at h
   ·rename_i off sz hf;simp only [hf];split at h
    ·rename_i hle;cases h;rw [if_pos (by rw [<- xa4 hv];exact hle)];exact ⟨_,rfl,pure (by simp only [VR];exact ⟨_,rfl,xdy _ (xcw _ hv)⟩)⟩
    ·cases h
   ·rename_i off sz hf;simp only [hf];rw [T.run_ofO,Option.map_eq_some_iff] at h;obtain ⟨v,hv',rfl⟩:=h;obtain ⟨u,hu,hr⟩:=xd4 hv hv';exact ⟨_,by simp only [hu,Option.map_some] <;> rfl,pure hr⟩
   ·cases h
  ·cases h
 case indexAddr t x ix=>
  have hx:=hE x;have hi:=hE ix;split at h
  ·rename_i e _ _ _ _ _ k n ht he1;rw [he1] at hi;simp only [VR] at hi;simp only [ht,hi];split at h
   ·rename_i te c0 ks l he hex;rw [hex] at hx;simp only [VR] at hx;split at h
    ·rename_i hs;simp only [T.run] at h;split at h
     ·rename_i hn;cases h;simp only [decide_eq_true_eq] at hn;rcases hx with ⟨-,rfl⟩ | ⟨kd,c0',es,hx,-,h1,h2⟩
      ·simp at hn;omega
      ·have hlt:n.toNat<es.length:=by omega
       simp only [he,hx];rw [if_pos ⟨hn.1,hs⟩,List.getElem?_eq_getElem hlt];refine ⟨_,rfl,pure ?_⟩;simp only [VR];refine ⟨_,_,rfl,xiq (h2 n.toNat _ _ (List.getElem?_eq_getElem hlt) ?_)⟩;rw [List.getD_eq_getElem?_getD,List.getElem?_eq_getElem (by omega)];rfl
     ·cases h
    ·cases h
   ·rename_i te i s m he hex;rw [hex] at hx;simp only [VR] at hx;obtain ⟨cap,hx⟩:=hx;split at h
    ·rename_i hs;simp only [T.run] at h;split at h
     ·rename_i hn;cases h;simp only [decide_eq_true_eq] at hn;simp only [he,hx];rw [if_pos ⟨hn.1,hn.2,hs⟩];exact ⟨_,rfl,pure (by simp only [VR,Nat.zero_add])⟩
     ·cases h
    ·cases h
   ·rename_i te i s lo m he hex;rw [hex] at hx;simp only [VR] at hx;obtain ⟨cap,hx⟩:=hx;split at h
    ·rename_i hs;simp only [T.run] at h;split at h
     ·rename_i hn;cases h;simp only [decide_eq_true_eq] at hn;simp only [he,hx];rw [if_pos ⟨hn.1,hn.2,hs⟩];exact ⟨_,rfl,pure (by simp only [VR])⟩
     ·cases h
    ·cases h
   ·cases h
  ·rename_i m es _ _ _ _ _ _ n ht he1;rw [he1] at hi;simp only [VR] at hi;simp only [ht,hi];split at h
   ·split at h
    ·split at h
     ·rename_i i s j hex;rw [hex] at hx;simp only [VR] at hx;simp only [T.run] at h;split at h
      ·rename_i hn;cases h;simp only [decide_eq_true_eq] at hn;rw [if_pos hn];exact ⟨_,by simp only [hx] <;> rfl,pure (by simp only [VR])⟩
      ·cases h
     ·cases h
    obtain ⟨p,-,hp,rfl,h5⟩:=xps _ _ h;clear h;have h:=h5;rw [if_pos ⟨by omega,by omega⟩];rw [Int.toNat_natCast];split at h
    ·rename_i i s k j hex;rw [hex] at hx;simp only [VR] at hx;cases h;exact ⟨_,by simp only [hx] <;> rfl,pure (by simp only [VR])⟩
    ·rename_i cs hex;rw [hex] at hx;simp only [VR] at hx;obtain ⟨kd,vs,hx,hv⟩:=hx;cases h;exact ⟨_,by simp only [hx] <;> rfl,pure (by simp only [VR];exact ⟨_,_,rfl,xcw _ hv⟩)⟩
    ·cases h
   ·simp only [T.run] at h;split at h
    case isFalse=>cases h
    rename_i hn;simp only [decide_eq_true_eq] at hn;rw [if_pos hn];split at h
    ·rename_i i s k j hex;rw [hex] at hx;simp only [VR] at hx;cases h;exact ⟨_,by simp only [hx] <;> rfl,pure (by simp only [VR])⟩
    ·rename_i cs hex;rw [hex] at hx;simp only [VR] at hx;obtain ⟨kd,vs,hx,hv⟩:=hx;cases h;exact ⟨_,by simp only [hx] <;> rfl,pure (by simp only [VR];exact ⟨_,_,rfl,xcw _ hv⟩)⟩
    ·cases h
  ·cases h
 case index t x ix=>
  split at h
  ·rename_i s hsb;have hi:=hE ix;split at h
   case h_2=>cases h
   rename_i k n he;rw [he] at hi;simp only [VR] at hi;simp only [T.run] at h;split at h
   case isFalse=>cases h
   rename_i hn;cases h;simp only [decide_eq_true_eq] at hn;have hlt:n.toNat<s.size:=by omega
   have hg:s[n.toNat]?=some (s[n.toNat]'hlt):=getElem?_pos s n.toNat hlt;simp only [hi,hsb,hg,Option.getD_some];rw [if_pos hn.1];exact ⟨_,rfl,pure (by simp only [VR])⟩
  rename_i hsb;simp only [hsb];have hx:=hE x;have hi:=hE ix;split at h
  ·rename_i m es ea _ _ _ _ _ cs k n ht hex he1;rw [he1] at hi;simp only [VR] at hi;rw [hex] at hx;simp only [VR] at hx;obtain ⟨vs,hx,hv⟩:=hx;simp only [ht,hi,hx];split at h
   ·obtain ⟨p,-,hp,rfl,h5⟩:=xps _ _ h;clear h;have h:=h5;rw [if_pos ⟨by omega,by omega⟩];rw [Int.toNat_natCast];split at h
    ·rename_i hea;rw [if_pos hea];split at h
     ·rename_i hle;cases h;rw [if_pos (by rw [<- xa4 hv];exact hle)];exact ⟨_,rfl,pure (by simp only [VR];exact ⟨_,rfl,xdy _ (xcw _ hv)⟩)⟩
     ·cases h
    ·rename_i hea;rw [if_neg hea];rw [T.run_ofO,Option.map_eq_some_iff] at h;obtain ⟨v,hv',rfl⟩:=h;obtain ⟨u,hu,hr⟩:=xd4 hv hv';exact ⟨_,by simp only [hu,Option.map_some] <;> rfl,pure hr⟩
   ·simp only [T.run] at h;split at h
    case isFalse=>cases h
    rename_i hn;simp only [decide_eq_true_eq] at hn;rw [if_pos hn];split at h
    ·rename_i hea;rw [if_pos hea];split at h
     ·rename_i hle;cases h;rw [if_pos (by rw [<- xa4 hv];exact hle)];exact ⟨_,rfl,pure (by simp only [VR];exact ⟨_,rfl,xdy _ (xcw _ hv)⟩)⟩
     ·cases h
    ·rename_i hea;rw [if_neg hea];rw [T.run_ofO,Option.map_eq_some_iff] at h;obtain ⟨v,hv',rfl⟩:=h;obtain ⟨u,hu,hr⟩:=xd4 hv hv';exact ⟨_,by simp only [hu,Option.map_some] <;> rfl,pure hr⟩
  ·cases h
 case typeAssert x _ t ok=>
  have hx:=hE x;split at h
  ·cases h
  ·rename_i Y t' v hni ht hex;rw [hex] at hx;simp only [VR] at hx;obtain ⟨u,hx,hv⟩:=hx;split at h
   ·rename_i htt;cases h;refine ⟨.pure (if ok=true then .tup [u,.bool true] else u),?_,pure ?_⟩
    ·subst htt;obtain ⟨kd,_,_,_,_,_⟩:=Y;cases kd <;> first | exact (hni _ _ _ _ _ rfl).elim | simp only [ht,hx,if_true]
    ·cases ok with
     | true=>simp only [if_true,VR];exact ⟨_,rfl,xa1 hv (xa1 (by simp only [VR]) xbt)⟩
     | false=>simpa using hv
   ·cases h
  ·cases h
 case extract x i=>
  have hx:=hE x;split at h
  ·rename_i vs he;rw [he] at hx;simp only [VR] at hx;obtain ⟨us,hx,hv⟩:=hx;rw [T.run_ofO,Option.map_eq_some_iff] at h;obtain ⟨v,hv',rfl⟩:=h;obtain ⟨u,hu,hr⟩:=xd4 hv hv';exact ⟨_,by simp only [hx,hu,Option.map_some] <;> rfl,pure hr⟩
  ·cases h
 case call c=>
  split at h
  ·rename_i b hb;simp only [hb];exact xNq hE h
  ·rename_i f hf;simp only [hf];have hx:=hE f;split at h
   ·rename_i g a cp he;rw [he] at hx;simp only [VR] at hx;obtain ⟨a',c',hx,h1,h2⟩:=hx;cases h;refine ⟨_,by simp only [hx] <;> rfl,?_⟩;simp only [MR];exact ⟨_,rfl,xch (xch h1 (xho hE _)) h2⟩
   ·rename_i he;rw [he] at hx;simp only [VR] at hx;cases h;refine ⟨_,by simp only [hx] <;> rfl,?_⟩;simp only [MR];exact ⟨_,rfl,xho hE _⟩
   ·cases h
  ·rename_i recv name hf;simp only [hf];have hx:=hE recv;split at h
   ·rename_i t v he;rw [he] at hx;simp only [VR] at hx;obtain ⟨u,hx,hv⟩:=hx;split at h
    ·rename_i g hm;cases h;refine ⟨_,by simp only [hx,hm] <;> rfl,?_⟩;simp only [MR];exact ⟨_,rfl,xa1 hv (xho hE _)⟩
    ·rename_i g e hm;split at h
     ·rename_i ty i s k j hty;simp only [VR] at hv;subst hv;cases h;refine ⟨_,by simp only [hx,hm,hty] <;> rfl,?_⟩;simp only [MR];exact ⟨_,rfl,xho hE _⟩
     ·cases h
    ·cases h
   ·rename_i a d he;rw [he] at hx;simp only [VR] at hx;obtain ⟨t,ks,vs,hx,hv,h⟩:=xJk rfl h hx;split at h
    ·rename_i g hm;cases h;refine ⟨_,by simp only [hx,hm] <;> rfl,?_⟩;simp only [MR];exact ⟨_,rfl,xa1 (by simp only [VR];exact ⟨_,rfl,xiq hv⟩) (xho hE _)⟩
    ·cases h
   ·cases h
 case panic x=>
  split at h
  ·rename_i t hx;have h1:=hE x;rw [hx] at h1;simp only [VR] at h1;obtain ⟨u,h1,vs,rfl,h2⟩:=h1;simp only [VRL] at h2;subst h2;cases h;exact ⟨_,by simp only [h1] <;> rfl,by simp only [MR]⟩
  ·cases h
 case makeMap t r=>
  split at h
  ·rename_i kt e hk;split at h
   ·cases h;exact ⟨.newm,by simp only [hk],by simp only [MR];exact ⟨trivial,xLn _ _ _⟩⟩
   ·rename_i x;split at h
    ·rename_i k n he;have hx:=hE x;rw [he] at hx;simp only [VR] at hx;cases h;exact ⟨.newm,by simp only [hk,hx],by simp only [MR];exact ⟨trivial,xLn _ _ _⟩⟩
    ·cases h
  ·cases h
 case lookup t x ix ok=>
  split at h
  ·rename_i kt e _ _ _ _ _ i hk he;have hx:=hE x;rw [he] at hx;simp only [VR] at hx;rw [T.run_ofO,Option.map_eq_some_iff] at h;obtain ⟨z,hz,rfl⟩:=h;exact ⟨.mget i (C.ty kt) (E' ix) z ok,by simp only [hk,hx,hz,Option.map_some],by simp only [MR];exact ⟨_,_,rfl,hE ix,xMa (xKh hz)⟩⟩
  ·cases h
 case mapUpdate t m k v=>
  split at h
  ·rename_i kt e _ _ _ _ _ i hk he;have hx:=hE m;rw [he] at hx;simp only [VR] at hx;cases h;exact ⟨.mset i (C.ty kt) (E' k) (E' v),by simp only [hk,hx],by simp only [MR];exact ⟨_,_,rfl,hE k,hE v⟩⟩
  ·cases h
 case insert t m k v=>
  split at h
  ·rename_i kt e _ _ _ _ _ i hk he;have hx:=hE m;rw [he] at hx;simp only [VR] at hx;cases h;exact ⟨.mset i (C.ty kt) (E' k) (E' v),by simp only [hk,hx],by simp only [MR];exact ⟨_,_,rfl,hE k,hE v⟩⟩
  ·cases h
 all_goals cases h
end
end Go.Lite
