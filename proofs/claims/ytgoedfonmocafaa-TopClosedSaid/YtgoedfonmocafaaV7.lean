/-
 What the claim top_closed rests on,part 7.
-/
import Derived.Test.YtgoedfonmocafaaV6
namespace Go.Proofs.Ytgoedfonmocafaa.Rs
open Go.Lite
def s83:Sig:=⟨[.k (.int .i64),.k (.int .i64),.k (.int .i64)],[(.k .bool,[])]⟩
def s87:Sig:=⟨[.agg [.k (.int .i64),.k (.int .i64),.k (.int .i64),.k (.ro [.int .i64,.int .i64])],.k (.int .i64)],[(.k (.int .i64),[])]⟩
def l87_2:LSig:=mkLS [1,2,8,9,10] [(31,[(1,.k (.int .i64)),(2,.ptr 0 4 0 0),(8,.k (.ro [.int .i64,.int .i64])),(9,.k (.int .i64)),(10,.k (.int .i64))],[.box [.k (.int .i64),.k (.int .i64),.k (.int .i64),.k (.ro [.int .i64,.int .i64])]])] [(.exit 0,[1],[(31,[(1,.k (.int .i64))],[])])]
def s168:Sig:=⟨[.k (.ro [.int .i64,.int .i64])],[(.k (.int .i64),[])]⟩
def s169:Sig:=⟨[.k (.ro [.int .i64,.int .i64]),.k (.int .i64),.k (.int .i64)],[(.k .bool,[])]⟩
def s171:SigW:=⟨[.sl 0 2,.k (.int .i64),.k (.int .i64)],[.row [.int .i64,.int .i64]],[(.tup [],[.row [.int .i64,.int .i64]])]⟩
def s176:SigW:=⟨[.ptr 0 1 0 0],[.box [.sl 1 2],.row [.int .i64,.int .i64]],[(.ifc 169 (.agg [.k (.int .i64),.k (.int .i64)]),[.box [.sl 1 2],.row [.int .i64,.int .i64]])]⟩
def s170:SigW:=⟨[.ptr 0 1 0 0,.ifc 169 (.agg [.k (.int .i64),.k (.int .i64)])],[.box [.sl 1 2],.row [.int .i64,.int .i64]],[(.tup [],[.box [.sl 2 2],.none,.row [.int .i64,.int .i64]])]⟩
def s145:SigW:=⟨[.ifc 245 (.ptr 0 1 0 0),.k (.int .i64)],[.box [.sl 1 2],.row [.int .i64,.int .i64]],[(.tup [],[.box [.sl 1 2],.row [.int .i64,.int .i64]])]⟩
def l145_0:LSig:=mkLS [0,1] [(23,[(0,.ifc 245 (.ptr 0 1 0 0)),(1,.k (.int .i64))],[.box [.sl 1 2],.row [.int .i64,.int .i64]])] [(.exit 0,[],[(23,[],[.box [.sl 1 2],.row [.int .i64,.int .i64]])])]
def s174:SigW:=⟨[.ifc 245 (.ptr 0 1 0 0),.k (.int .i64),.k (.int .i64)],[.box [.sl 1 2],.row [.int .i64,.int .i64]],[(.k .bool,[.box [.sl 1 2],.row [.int .i64,.int .i64]])]⟩
def l174_2:LSig:=mkLS [0,1,2,7] [(48,[(0,.ifc 245 (.ptr 0 1 0 0)),(1,.k (.int .i64)),(2,.k (.int .i64)),(7,.k (.int .i64))],[.box [.sl 1 2],.row [.int .i64,.int .i64]])] [(.exit 0,[1,7],[(48,[(1,.k (.int .i64)),(7,.k (.int .i64))],[.box [.sl 1 2],.row [.int .i64,.int .i64]])])]
def s141:SigW:=⟨[.ifc 245 (.ptr 0 1 0 0),.ifc 169 (.agg [.k (.int .i64),.k (.int .i64)])],[.box [.sl 1 2],.row [.int .i64,.int .i64]],[(.tup [],[.box [.sl 2 2],.none,.row [.int .i64,.int .i64]])]⟩
def s173:SigW:=⟨[.ifc 245 (.ptr 0 1 0 0)],[.box [.sl 1 2],.row [.int .i64,.int .i64]],[(.ifc 169 (.agg [.k (.int .i64),.k (.int .i64)]),[.box [.sl 1 2],.row [.int .i64,.int .i64]])]⟩
def s172:SigW:=⟨[.ptr 0 1 0 0],[.box [.sl 1 2],.row [.int .i64,.int .i64]],[(.agg [.k (.int .i64),.k (.int .i64)],[.box [.sl 1 2],.row [.int .i64,.int .i64]])]⟩
def s120:SigW:=⟨[.k (.int .i64),.k (.int .i64),.eptr [.k (.int .i64),.k (.ro [.int .i64,.int .i64,.int .i64,.ro [.int .i64,.int .i64]])]],[],[(.fn 121 [] [.eptr [.k (.int .i64),.k (.ro [.int .i64,.int .i64,.int .i64,.ro [.int .i64,.int .i64]])],.ptr 0 1 0 0,.ptr 1 1 0 0],[.box [.k (.int .i64)],.box [.k (.int .i64)]])]⟩
def s121:SigI:=⟨[.yl,.eptr [.k (.int .i64),.k (.ro [.int .i64,.int .i64,.int .i64,.ro [.int .i64,.int .i64]])],.ptr 0 1 0 0,.ptr 1 1 0 0],[.box [.k (.int .i64)],.box [.k (.int .i64)]]⟩
def y121:YS:=mkY [.agg [.k (.int .i64),.k (.int .i64)]] [] false
def l121_1:LSig:=mkLS [0,2,3,8,9,10] [(33,[(0,.yl),(2,.ptr 0 1 0 0),(3,.ptr 1 1 0 0),(8,.k (.ro [.int .i64,.int .i64,.int .i64,.ro [.int .i64,.int .i64]])),(9,.k (.int .i64)),(10,.k (.int .i64))],[.box [.k (.int .i64)],.box [.k (.int .i64)]])] [(.ret,[],[(33,[],[.box [.k (.int .i64)],.box [.k (.int .i64)]])]),(.exit 0,[],[(33,[],[.box [.k (.int .i64)],.box [.k (.int .i64)]])])]
def s119:Sig:=⟨[.k (.int .i64),.agg [.k (.int .i64),.k (.int .i64)],.fn 120 [] [.eptr [.k (.int .i64),.k (.ro [.int .i64,.int .i64,.int .i64,.ro [.int .i64,.int .i64]])]]],[(.sl 0 1,[.row [.int .i64]])]⟩
def h119_14:List Shp:=[mkShp (72,[(2,.fn 120 [] [.eptr [.k (.int .i64),.k (.ro [.int .i64,.int .i64,.int .i64,.ro [.int .i64,.int .i64]])]]),(6,.nils),(7,.ptr 0 1 0 0),(9,.ptr 1 1 0 0),(51,.fn 121 [] [.eptr [.k (.int .i64),.k (.ro [.int .i64,.int .i64,.int .i64,.ro [.int .i64,.int .i64]])],.any,.any])],[.box [.sl 2 1],.box [.ifc 245 (.ptr 3 1 0 0)],.row [.int .i64],.box [.sl 4 2],.row [.int .i64,.int .i64]])]
def l119_3:LSig:=mkLS [2,4,6,7,15,16] [(72,[(2,.fn 120 [] [.eptr [.k (.int .i64),.k (.ro [.int .i64,.int .i64,.int .i64,.ro [.int .i64,.int .i64]])]]),(4,.ptr 0 2 0 0),(6,.nils),(7,.ptr 1 1 0 0),(15,.k (.int .i64)),(16,.k (.int .i64))],[.box [.k (.int .i64),.k (.int .i64)],.box [.sl 2 1],.row [.int .i64]])] [(.exit 0,[2,4,6,7],[(72,[(2,.fn 120 [] [.eptr [.k (.int .i64),.k (.ro [.int .i64,.int .i64,.int .i64,.ro [.int .i64,.int .i64]])]]),(4,.ptr 0 2 0 0),(6,.nils),(7,.ptr 1 1 0 0)],[.box [.k (.int .i64),.k (.int .i64)],.box [.sl 2 1],.row [.int .i64]])])]
def l119_9:LSig:=mkLS [2,6,7,9] [(72,[(2,.fn 120 [] [.eptr [.k (.int .i64),.k (.ro [.int .i64,.int .i64,.int .i64,.ro [.int .i64,.int .i64]])]]),(6,.nils),(7,.ptr 0 1 0 0),(9,.ptr 1 1 0 0)],[.box [.sl 2 1],.box [.ifc 245 (.ptr 3 1 0 0)],.row [.int .i64],.box [.sl 4 2],.row [.int .i64,.int .i64]])] [(.exit 2,[7],[(72,[(7,.ptr 0 1 0 0)],[.box [.sl 1 1],.row [.int .i64]])])]
def s84:Sig:=⟨[.agg [.k (.int .i64),.k (.ro [.int .i64,.int .i64,.int .i64,.ro [.int .i64,.int .i64]])],.k (.int .i64),.k (.int .i64)],[(.sl 0 1,[.row [.int .i64]])]⟩
def l84_3:LSig:=mkLS [7,17,18,19] [(31,[(7,.sl 0 1),(17,.sl 0 1),(18,.k (.int .i64)),(19,.k (.int .i64))],[.row [.int .i64]])] [(.exit 0,[7],[(31,[(7,.sl 0 1)],[.row [.int .i64]])])]
def s38:Sig:=⟨[.agg [.k (.int .i64),.k (.ro [.int .i64,.int .i64,.int .i64,.ro [.int .i64,.int .i64]])]],[(.k (.int .i64),[])]⟩
def l38_4:LSig:=mkLS [1,19,20,21] [(92,[(1,.ptr 0 2 0 0),(19,.k (.ro [.int .i64,.int .i64,.int .i64,.ro [.int .i64,.int .i64]])),(20,.k (.int .i64)),(21,.k (.int .i64))],[.box [.k (.int .i64),.k (.ro [.int .i64,.int .i64,.int .i64,.ro [.int .i64,.int .i64]])]])] [(.ret,[2],[(92,[(2,.k (.int .i64))],[])]),(.exit 0,[],[(92,[],[])])]
def l38_10:LSig:=mkLS [1,5,19,20,21,61,62,63] [(92,[(1,.ptr 0 2 0 0),(5,.k (.int .i64)),(19,.k (.ro [.int .i64,.int .i64,.int .i64,.ro [.int .i64,.int .i64]])),(20,.k (.int .i64)),(21,.k (.int .i64)),(61,.k (.ro [.int .i64,.int .i64])),(62,.k (.int .i64)),(63,.k (.int .i64))],[.box [.k (.int .i64),.k (.ro [.int .i64,.int .i64,.int .i64,.ro [.int .i64,.int .i64]])]])] [(.ret,[2],[(92,[(2,.k (.int .i64))],[])]),(.exit 2,[1,19,20,21],[(92,[(1,.ptr 0 2 0 0),(19,.k (.ro [.int .i64,.int .i64,.int .i64,.ro [.int .i64,.int .i64]])),(20,.k (.int .i64)),(21,.k (.int .i64))],[.box [.k (.int .i64),.k (.ro [.int .i64,.int .i64,.int .i64,.ro [.int .i64,.int .i64]])]])])]
def s33:Sig:=⟨[.agg [.k (.int .i64),.k (.ro [.int .i64,.int .i64,.int .i64,.ro [.int .i64,.int .i64]])],.k (.int .i64),.k (.int .i64)],[(.tup [.k (.ro [.int .i64]),.k (.int .i64)],[])]⟩
def s3:Sig:=⟨[.agg [.k (.int .i64),.k (.ro [.int .i64,.int .i64,.int .i64,.ro [.int .i64,.int .i64]])],.k (.int .i64),.k (.int .i64)],[(.k .bool,[])]⟩
noncomputable section
def G83 (ds:List D):T (List D):=match ds with
 | [n,a,b]=>.leaf [.b (within n.I a.I b.I)]
 | _=>.fail
def entF (l:List (List D)) (c:Int):Nat → Nat → Int → Int
 | _,0,s=>s
 | i,k + 1,s=>entF l c (i + 1) k (if s + c > ix (l.getD i []) 0 ∧ s < ix (l.getD i []) 1 then ix (l.getD i []) 1 else s)
def okC (l:List (List D)):Prop:=l.length < big ∧ ∀ j,(-1099511627776 ≤ ix (l.getD j []) 0 ∧ ix (l.getD j []) 0 ≤ 1099511627776) ∧ (-1099511627776 ≤ ix (l.getD j []) 1 ∧ ix (l.getD j []) 1 ≤ 1099511627776)
def okS (s:Int):Prop:=-1152921504606846976 ≤ s ∧ s ≤ 1152921504606846976
def okT (c:Int):Prop:=-1099511627776 ≤ c ∧ c ≤ 1099511627776
def G87 (ds:List D):T (List D):=match ds with
 | [_,_,c,l,s]=>.need (yes (okT c.I ∧ okS s.I ∧ okC l.L)) (.leaf [.i (entF l.L c.I 0 l.L.length s.I)])
 | _=>.fail
def G87_2 (ds:List D):T (Ex × List D):=match ds with
 | [s,l,m,i,_,_,c,_]=>.need (yes (okT c.I ∧ okS s.I ∧ okC l.L ∧ m.I = l.L.length ∧ 0 ≤ i.I ∧ i.I ≤ l.L.length)) (.leaf (.exit 0,[.i (entF l.L c.I i.I.toNat (l.L.length - i.I.toNat) s.I)]))
 | _=>.fail
def atR (l:List (List D)) (i:Nat):Int:=ix (l.getD i []) 1
def row2 (c:List D):List D:=[.i (ix c 0),.i (ix c 1)]
def swapR (l:List (List D)) (i j:Nat):List (List D):=(l.set i (row2 (l.getD j []))).set j (row2 (l.getD i []))
def upF:Nat → List (List D) → Nat → List (List D)
 | 0,l,_=>l
 | f + 1,l,j=>if (j - 1) / 2 = j ∨ ¬ atR l j < atR l ((j - 1) / 2) then l else upF f (swapR l ((j - 1) / 2) j) ((j - 1) / 2)
def kidR (l:List (List D)) (m i:Nat):Nat:=if 2 * i + 2 < m ∧ atR l (2 * i + 2) < atR l (2 * i + 1) then 2 * i + 2 else 2 * i + 1
def downF:Nat → List (List D) → Nat → Nat → List (List D) × Nat
 | 0,l,_,i=>(l,i)
 | f + 1,l,m,i=>if 2 * i + 1 ≥ m ∨ ¬ atR l (kidR l m i) < atR l i then (l,i) else downF f (swapR l i (kidR l m i)) m (kidR l m i)
def G168 (ds:List D):T (List D):=match ds with
 | [l]=>.leaf [.i l.L.length]
 | _=>.fail
def G169 (ds:List D):T (List D):=match ds with
 | [l,i,j]=>.need (yes ((0 ≤ i.I ∧ i.I < l.L.length) ∧ 0 ≤ j.I ∧ j.I < l.L.length)) (.leaf [.b (decide (atR l.L i.I.toNat < atR l.L j.I.toNat))])
 | _=>.fail
def G171 (ds:List D):T (List D):=match ds with
 | [n,i,j,l]=>.need (yes ((0 ≤ i.I ∧ i.I < (n.I.toNat:Int)) ∧ (0 ≤ j.I ∧ j.I < (n.I.toNat:Int)) ∧ n.I.toNat ≤ l.L.length)) (.leaf [.l (swapR l.L i.I.toNat j.I.toNat)])
 | _=>.fail
def G176 (ds:List D):T (List D):=match ds with
 | [n,l]=>.need (yes (1 ≤ n.I.toNat ∧ n.I.toNat ≤ l.L.length ∧ n.I.toNat < 1099511627776)) (.leaf [.i (ix (l.L.getD (n.I.toNat - 1) []) 0),.i (ix (l.L.getD (n.I.toNat - 1) []) 1),.i ((n.I.toNat - 1:Nat):Int),.l l.L])
 | _=>.fail
def G170 (ds:List D):T (List D):=match ds with
 | [v,t,n,l]=>.need (yes (n.I.toNat ≤ l.L.length ∧ n.I.toNat < 1099511627776)) (.leaf [.i ((n.I.toNat + 1:Nat):Int),.l (l.L.take n.I.toNat ++ [[.i v.I,.i t.I]])])
 | _=>.fail
def G145 (ds:List D):T (List D):=match ds with
 | [j,n,l]=>.need (yes (0 ≤ j.I ∧ j.I < (n.I.toNat:Int) ∧ n.I.toNat ≤ l.L.length ∧ n.I.toNat < 2199023255552)) (.leaf [.i (n.I.toNat:Int),.l (upF (j.I.toNat + 1) l.L j.I.toNat)])
 | _=>.fail
def G145_0 (ds:List D):T (Ex × List D):=match ds with
 | [j,n,l]=>.need (yes (0 ≤ j.I ∧ j.I < (n.I.toNat:Int) ∧ n.I.toNat ≤ l.L.length ∧ n.I.toNat < 2199023255552)) (.leaf (.exit 0,[.i (n.I.toNat:Int),.l (upF (j.I.toNat + 1) l.L j.I.toNat)]))
 | _=>.fail
def G174 (ds:List D):T (List D):=match ds with
 | [s, m,n,l]=>.need (yes (0 ≤ s.I ∧ s.I ≤ m.I ∧ m.I ≤ (n.I.toNat:Int) ∧ n.I.toNat ≤ l.L.length ∧ n.I.toNat < 2199023255552))
     (.leaf [.b (decide (((downF (m.I.toNat + 1) l.L m.I.toNat s.I.toNat).2:Int) > s.I)),.i (n.I.toNat:Int),.l (downF (m.I.toNat + 1) l.L m.I.toNat s.I.toNat).1])
 | _=>.fail
def G174_2 (ds:List D):T (Ex × List D):=match ds with
 | [s, m,i,n,l]=>.need (yes (0 ≤ i.I ∧ i.I ≤ m.I ∧ m.I ≤ (n.I.toNat:Int) ∧ n.I.toNat ≤ l.L.length ∧ n.I.toNat < 2199023255552))
     (.leaf (.exit 0,[.i s.I,.i ((downF (m.I.toNat + 1) l.L m.I.toNat i.I.toNat).2:Int),.i (n.I.toNat:Int),.l (downF (m.I.toNat + 1) l.L m.I.toNat i.I.toNat).1]))
 | _=>.fail
def pushR (l:List (List D)) (n:Nat) (v t:Int):List (List D):=upF (n + 1) (l.take n ++ [[.i v,.i t]]) n
def popR (l:List (List D)) (n:Nat):List (List D):=(downF n (swapR l 0 (n - 1)) (n - 1) 0).1
def G141 (ds:List D):T (List D):=match ds with
 | [v,t,n,l]=>.need (yes (n.I.toNat ≤ l.L.length ∧ n.I.toNat < 1099511627776)) (.leaf [.i ((n.I.toNat + 1:Nat):Int),.l (pushR l.L n.I.toNat v.I t.I)])
 | _=>.fail
def G173 (ds:List D):T (List D):=match ds with
 | [n, l]=>.need (yes (1 ≤ n.I.toNat ∧ n.I.toNat ≤ l.L.length ∧ n.I.toNat < 1099511627776))
     (.leaf [.i (ix ((popR l.L n.I.toNat).getD (n.I.toNat - 1) []) 0),.i (ix ((popR l.L n.I.toNat).getD (n.I.toNat - 1) []) 1),.i ((n.I.toNat - 1:Nat):Int),.l (popR l.L n.I.toNat)])
 | _=>.fail
def G172:List D → T (List D):=G173
def okR (r:List (List D)):Prop:=r.length < 1099511627776 ∧ ∀ i,i < r.length → okT (ix (r.getD i []) 2) ∧ okC (lx (r.getD i []) 3)
def entW (c:List D) (t:Int):Int:=entF (lx c 3) (ix c 2) 0 (lx c 3).length t
def nextF (r:List (List D)) (v t:Int):Nat → Nat → List (List D)
 | _,0=>[]
 | i,k + 1=>if ix (r.getD i []) 0 = v then [.i (ix (r.getD i []) 1),.i (entW (r.getD i []) t + ix (r.getD i []) 2)] :: nextF r v t (i + 1) k else nextF r v t (i + 1) k
def G120 (ds:List D):T (List D):=match ds with
 | [v,t,n,r]=>.leaf [.i n.I,.l r.L,.i v.I,.i t.I]
 | _=>.fail
def G121 (ds:List D):T (List (List D)):=match ds with
 | [_,r,v,t]=>.need (yes (okR r.L ∧ okS t.I)) (.leaf (nextF r.L v.I t.I 0 r.L.length))
 | _=>.fail
def G121_1 (q:Nat) (ds:List D):T (Ex × List D):=match ds with
 | [g, r,m,i,v,t]=>.need (yes (okR r.L ∧ okS t.I ∧ m.I = r.L.length ∧ 0 ≤ i.I ∧ i.I ≤ r.L.length ∧ g.L.length ≤ q))
     (.ite (decide (q < g.L.length + (nextF r.L v.I t.I i.I.toNat (r.L.length - i.I.toNat)).length))
      (.leaf (.ret,[.l (g.L ++ (nextF r.L v.I t.I i.I.toNat (r.L.length - i.I.toNat)).take (q + 1 - g.L.length)),.i v.I,.i t.I]))
      (.leaf (.exit 0,[.l (g.L ++ nextF r.L v.I t.I i.I.toNat (r.L.length - i.I.toNat)),.i v.I,.i t.I])))
 | _=>.fail
end
noncomputable section
structure Sr where
 o : List (List D)
 k : Nat
 q : List (List D)
def relF:List (List D) → Sr → Sr
 | [],s=>s
 | e :: es,s=>if ix e 1 < rg s.o (ix e 0).toNat then relF es ⟨rs s.o (ix e 0).toNat (ix e 1),s.k + 1,pushR s.q s.k (ix e 0) (ix e 1)⟩ else relF es s
def takeV (s:Sr):Int:=ix ((popR s.q s.k).getD (s.k - 1) []) 0
def takeT (s:Sr):Int:=ix ((popR s.q s.k).getD (s.k - 1) []) 1
def stepS (r:List (List D)) (s:Sr):Sr:=
 if takeT s > rg s.o (takeV s).toNat then ⟨s.o,s.k - 1,popR s.q s.k⟩ else relF (nextF r (takeV s) (takeT s) 0 r.length) ⟨s.o,s.k - 1,popR s.q s.k⟩
def needS (n:Nat) (r:List (List D)) (s:Sr):Prop:=s.k ≤ s.q.length ∧ s.k < 274877906944 ∧ n ≤ s.o.length ∧ (0 ≤ takeV s ∧ takeV s < n) ∧ okS (takeT s) ∧ okR r ∧ r.length < 274877906944 ∧ ∀ i,i < r.length → 0 ≤ ix (r.getD i []) 1 ∧ ix (r.getD i []) 1 < n
def endsS (n:Nat) (r:List (List D)):Nat → Sr → Prop
 | 0,s=>s.k = 0
 | f + 1,s=>s.k ≠ 0 ∧ needS n r s ∧ endsS n r f (stepS r s)
def runSr (r:List (List D)):Nat → Sr → List (List D)
 | 0,s=>s.o
 | f + 1,s=>runSr r f (stepS r s)
def lenS (n:Nat) (r:List (List D)) (s:Sr):Nat:=Classical.epsilon fun f=>endsS n r f s
def resS (n:Nat) (r:List (List D)) (s:Sr):List (List D):=runSr r (lenS n r s) s
def haltS (n:Nat) (r:List (List D)) (s:Sr):Prop:=∃ f,f < 9223372036854775808 ∧ endsS n r f s
def mkSr (o k q:D):Sr:=⟨o.L,k.I.toNat,q.L⟩
def fillF (v:Int):Nat → Nat → List (List D) → List (List D)
 | _,0,l=>l
 | i,k + 1,l=>fillF v (i + 1) k (rs l i v)
def G119_3 (ds:List D):T (Ex × List D):=match ds with
 | [n,r,m,i,x,y,k,l]=>.need (yes (m.I = (k.I.toNat:Int) ∧ k.I.toNat ≤ l.L.length ∧ 0 ≤ i.I ∧ i.I ≤ m.I ∧ m.I < 1099511627776)) (.leaf (.exit 0,[.i n.I,.l r.L,.i x.I,.i y.I,.i (k.I.toNat:Int),.l (fillF 9223372036854775807 i.I.toNat (k.I.toNat - i.I.toNat) l.L)]))
 | _=>.fail
def G119_9 (ds:List D):T (Ex × List D):=match ds with
 | [_,r,n,o,k,q]=>.need (yes (haltS n.I.toNat r.L (mkSr o k q))) (.leaf (.exit 2,[.i (n.I.toNat:Int),.l (resS n.I.toNat r.L (mkSr o k q))]))
 | _=>.fail
def G119_14 (L:List (List D)) (ds:List D):T (Ex × List D):=match ds with
 | [a, r,a',r',n,o,k,q]=>.need (yes (n.I.toNat ≤ o.L.length ∧ k.I.toNat ≤ q.L.length ∧ k.I.toNat + L.length < 549755813888 ∧ ∀ e ∈ L,0 ≤ ix e 0 ∧ ix e 0 < (n.I.toNat:Int)))
     (.leaf (.normal,[.i a.I,.l r.L,.i a'.I,.l r'.L,.i (n.I.toNat:Int),.l (relF L (mkSr o k q)).o,.i ((relF L (mkSr o k q)).k:Int),.l (relF L (mkSr o k q)).q]))
 | _=>.fail
def startS (n:Int) (v t:Int):Sr:=⟨rs (List.replicate n.toNat [.i 9223372036854775807]) v.toNat t,1,[[.i v,.i t]]⟩
def G119 (ds:List D):T (List D):=match ds with
 | [n,v,t,_,r]=>.need (yes (0 ≤ n.I ∧ n.I < 1099511627776 ∧ 0 ≤ v.I ∧ v.I < n.I ∧ haltS n.I.toNat r.L (startS n.I v.I t.I))) (.leaf [.i n.I,.l (resS n.I.toNat r.L (startS n.I v.I t.I))])
 | _=>.fail
def noneF:Nat → Nat → List (List D) → List (List D)
 | _,0,l=>l
 | i,k + 1,l=>noneF (i + 1) k (if rg l i = 9223372036854775807 then rs l i (-1) else l)
def G84_3 (ds:List D):T (Ex × List D):=match ds with
 | [n,n2,m,i,l]=>.need (yes (m.I = (n.I.toNat:Int) ∧ n2.I.toNat = n.I.toNat ∧ n.I.toNat ≤ l.L.length ∧ 0 ≤ i.I ∧ i.I ≤ m.I ∧ m.I < 1099511627776)) (.leaf (.exit 0,[.i (n.I.toNat:Int),.l (noneF i.I.toNat (n.I.toNat - i.I.toNat) l.L)]))
 | _=>.fail
def arrF (n:Int) (r:List (List D)) (v t:Int):List (List D):=noneF 0 n.toNat (resS n.toNat r (startS n v t))
def G84 (ds:List D):T (List D):=match ds with
 | [n,r,v,t]=>.need (yes (0 ≤ n.I ∧ n.I < 1099511627776 ∧ 0 ≤ v.I ∧ v.I < n.I ∧ haltS n.I.toNat r.L (startS n.I v.I t.I))) (.leaf [.i n.I,.l (arrF n.I r.L v.I t.I)])
 | _=>.fail
end
noncomputable section
def clB (l:List (List D)) (i:Nat):Bool:=decide (0 ≤ ix (l.getD i []) 0 ∧ ix (l.getD i []) 0 < ix (l.getD i []) 1 ∧ ix (l.getD i []) 1 ≤ 100000 ∧ (0 < i → ix (l.getD (i - 1) []) 1 < ix (l.getD i []) 0))
def roadH (n:Int) (c:List D):Bool:=decide ((0 ≤ ix c 0 ∧ ix c 0 < n) ∧ (0 ≤ ix c 1 ∧ ix c 1 < n) ∧ ix c 0 ≠ ix c 1 ∧ (1 ≤ ix c 2 ∧ ix c 2 ≤ 10000) ∧ (lx c 3).length ≤ 20)
def roadB (n:Int) (c:List D):Bool:=roadH n c && allFrom (clB (lx c 3)) 0 (lx c 3).length
def netB (n:Int) (r:List (List D)):Bool:=decide ((1 ≤ n ∧ n ≤ 200) ∧ r.length ≤ 1000) && allFrom (fun i=>roadB n (r.getD i [])) 0 r.length
def nodeB (n v t:Int):Bool:=decide ((0 ≤ v ∧ v < n) ∧ 0 ≤ t ∧ t ≤ 100000)
def hop1 (c:List D) (a x:List (List D)):List (List D):=
 if rg a (ix c 0).toNat < 0 then x
 else if rg x (ix c 1).toNat < 0 ∨ entW c (rg a (ix c 0).toNat) + ix c 2 < rg x (ix c 1).toNat then rs x (ix c 1).toNat (entW c (rg a (ix c 0).toNat) + ix c 2) else x
def hopF (r a:List (List D)):Nat → Nat → List (List D) → List (List D)
 | _,0,x=>x
 | i,k + 1,x=>hopF r a (i + 1) k (hop1 (r.getD i []) a x)
def reachF (r:List (List D)):Nat → List (List D) → List (List D)
 | 0,a=>a
 | k + 1,a=>reachF r k (hopF r a 0 r.length a)
def beginF (n v t:Int):List (List D):=rs (List.replicate n.toNat [.i (-1)]) v.toNat t
def okAt (n:Int) (k:Int) (a:List (List D)):Prop:=(a.length:Int) = n ∧ ∀ v,-1 ≤ rg a v ∧ rg a v ≤ 1099511627776 + 10000 * k
def G38 (ds:List D):T (List D):=match ds with
 | [n,r]=>.leaf [.i (if netB n.I r.L then 0 else 2)]
 | _=>.fail
def G38_4 (ds:List D):T (Ex × List D):=match ds with
 | [r,m,i,n,_]=>.need (yes ((1 ≤ n.I ∧ n.I ≤ 200) ∧ r.L.length ≤ 1000 ∧ m.I = r.L.length ∧ 0 ≤ i.I ∧ i.I ≤ r.L.length)) (.ite (allFrom (fun j=>roadB n.I (r.L.getD j [])) i.I.toNat (r.L.length - i.I.toNat)) (.leaf (.exit 0,[])) (.leaf (.ret,[.i 2])))
 | _=>.fail
def G38_10 (ds:List D):T (Ex × List D):=match ds with
 | [last,r,m,i,l,m',j,n,r']=>.need (yes (l.L.length ≤ 20 ∧ m'.I = l.L.length ∧ 0 ≤ j.I ∧ j.I ≤ l.L.length ∧ last.I = if j.I = 0 then -1 else ix (l.L.getD (j.I.toNat - 1) []) 1))
     (.ite (allFrom (clB l.L) j.I.toNat (l.L.length - j.I.toNat)) (.leaf (.exit 2,[.l r.L,.i m.I,.i i.I,.i n.I,.l r'.L])) (.leaf (.ret,[.i 2])))
 | _=>.fail
def G33 (ds:List D):T (List D):=match ds with
 | [n,r,v,t]=>.ite (netB n.I r.L && nodeB n.I v.I t.I) (.leaf [.l (arrF n.I r.L v.I t.I),.i 0]) (.leaf [.l [],.i 2])
 | _=>.fail
end
end Go.Proofs.Ytgoedfonmocafaa.Rs
namespace Go.Proofs.Ytgoedfonmocafaa
open Go.Lite
noncomputable section
def s33:Sig:=Rs.s33
def G33 (ds:List D):T (List D):=match ds with
 | [n,r,v,t]=>.need (yes (Rs.netB n.I r.L = true ∧ Rs.nodeB n.I v.I t.I = true)) (.leaf [.l (Rs.arrF n.I r.L v.I t.I),.i 0])
 | _=>.fail
end
end Go.Proofs.Ytgoedfonmocafaa
namespace Go.Proofs.Ytgoedfonmocafaa.Rs
open Go.Lite
def s86:Sig:=⟨[.agg [.k (.int .i64),.k (.ro [.int .i64,.int .i64,.int .i64,.ro [.int .i64,.int .i64]])],.agg [.k (.int .i64),.k (.int .i64)],.k (.int .i64),.k (.int .i64)],[(.k (.int .i64),[])]⟩
def l86_3:LSig:=mkLS [2,3,4,5,9,19,20] [(88,[(2,.k (.int .i64)),(3,.k (.int .i64)),(4,.ptr 0 2 0 0),(5,.ptr 1 2 0 0),(9,.sl 2 1),(19,.k (.int .i64)),(20,.k (.int .i64))],[.box [.k (.int .i64),.k (.ro [.int .i64,.int .i64,.int .i64,.ro [.int .i64,.int .i64]])],.box [.k (.int .i64),.k (.int .i64)],.row [.int .i64]])] [(.exit 0,[2,3,4,5,9],[(88,[(2,.k (.int .i64)),(3,.k (.int .i64)),(4,.ptr 0 2 0 0),(5,.ptr 1 2 0 0),(9,.sl 2 1)],[.box [.k (.int .i64),.k (.ro [.int .i64,.int .i64,.int .i64,.ro [.int .i64,.int .i64]])],.box [.k (.int .i64),.k (.int .i64)],.row [.int .i64]])])]
def l86_9:LSig:=mkLS [2,4,9,33,34] [(88,[(2,.k (.int .i64)),(4,.ptr 0 2 0 0),(9,.sl 1 1),(33,.k (.int .i64)),(34,.k (.int .i64))],[.box [.k (.int .i64),.k (.ro [.int .i64,.int .i64,.int .i64,.ro [.int .i64,.int .i64]])],.row [.int .i64]])] [(.exit 2,[2,9],[(88,[(2,.k (.int .i64)),(9,.sl 0 1)],[.row [.int .i64]])])]
def l86_12:LSig:=mkLS [2,4,9,11,33,34,40,41] [(88,[(2,.k (.int .i64)),(4,.ptr 0 2 0 0),(9,.sl 1 1),(11,.sl 2 1),(33,.k (.int .i64)),(34,.k (.int .i64)),(40,.k (.int .i64)),(41,.k (.int .i64))],[.box [.k (.int .i64),.k (.ro [.int .i64,.int .i64,.int .i64,.ro [.int .i64,.int .i64]])],.row [.int .i64],.row [.int .i64]])] [(.exit 4,[2,4,9,11,33,34],[(88,[(2,.k (.int .i64)),(4,.ptr 0 2 0 0),(9,.sl 1 1),(11,.sl 2 1),(33,.k (.int .i64)),(34,.k (.int .i64))],[.box [.k (.int .i64),.k (.ro [.int .i64,.int .i64,.int .i64,.ro [.int .i64,.int .i64]])],.row [.int .i64],.row [.int .i64]])])]
def l86_17:LSig:=mkLS [2,4,9,11,33,34,49,50,51] [(88,[(2,.k (.int .i64)),(4,.ptr 0 2 0 0),(9,.sl 1 1),(11,.sl 2 1),(33,.k (.int .i64)),(34,.k (.int .i64)),(49,.k (.ro [.int .i64,.int .i64,.int .i64,.ro [.int .i64,.int .i64]])),(50,.k (.int .i64)),(51,.k (.int .i64))],[.box [.k (.int .i64),.k (.ro [.int .i64,.int .i64,.int .i64,.ro [.int .i64,.int .i64]])],.row [.int .i64],.row [.int .i64]])] [(.exit 6,[2,4,11,33,34],[(88,[(2,.k (.int .i64)),(4,.ptr 0 2 0 0),(11,.sl 1 1),(33,.k (.int .i64)),(34,.k (.int .i64))],[.box [.k (.int .i64),.k (.ro [.int .i64,.int .i64,.int .i64,.ro [.int .i64,.int .i64]])],.row [.int .i64]])])]
def s37:Sig:=⟨[.agg [.k (.int .i64),.k (.ro [.int .i64,.int .i64,.int .i64,.ro [.int .i64,.int .i64]])],.k (.int .i64),.k (.int .i64),.k (.int .i64)],[(.tup [.k (.ro [.int .i64,.int .i64]),.k (.int .i64),.k (.int .i64)],[])]⟩
def l37_8:LSig:=mkLS [3,4,11,12,13] [(109,[(3,.k (.int .i64)),(4,.ptr 0 2 0 0),(11,.k (.int .i64)),(12,.ptr 1 2 0 0),(13,.k (.int .i64))],[.box [.k (.int .i64),.k (.ro [.int .i64,.int .i64,.int .i64,.ro [.int .i64,.int .i64]])],.box [.k (.int .i64),.k (.int .i64)]])] [(.exit 0,[3,4,11,12,13],[(109,[(3,.k (.int .i64)),(4,.ptr 0 2 0 0),(11,.k (.int .i64)),(12,.ptr 1 2 0 0),(13,.k (.int .i64))],[.box [.k (.int .i64),.k (.ro [.int .i64,.int .i64,.int .i64,.ro [.int .i64,.int .i64]])],.box [.k (.int .i64),.k (.int .i64)]])])]
def l37_11:LSig:=mkLS [3,4,11,12,13,14] [(109,[(3,.k (.int .i64)),(4,.ptr 0 2 0 0),(11,.k (.int .i64)),(12,.ptr 1 2 0 0),(13,.k (.int .i64)),(14,.nils)],[.box [.k (.int .i64),.k (.ro [.int .i64,.int .i64,.int .i64,.ro [.int .i64,.int .i64]])],.box [.k (.int .i64),.k (.int .i64)]]),(109,[(3,.k (.int .i64)),(4,.ptr 0 2 0 0),(11,.k (.int .i64)),(12,.ptr 1 2 0 0),(13,.k (.int .i64)),(14,.sl 2 2)],[.box [.k (.int .i64),.k (.ro [.int .i64,.int .i64,.int .i64,.ro [.int .i64,.int .i64]])],.box [.k (.int .i64),.k (.int .i64)],.row [.int .i64,.int .i64]])] [(.exit 2,[11,14],[(109,[(11,.k (.int .i64)),(14,.nils)],[]),(109,[(11,.k (.int .i64)),(14,.sl 0 2)],[.row [.int .i64,.int .i64]])])]
def l37_14:LSig:=mkLS [3,4,11,12,13,14,69,70,71] [(109,[(3,.k (.int .i64)),(4,.ptr 0 2 0 0),(11,.k (.int .i64)),(12,.ptr 1 2 0 0),(13,.k (.int .i64)),(14,.nils),(69,.k (.ro [.int .i64,.int .i64,.int .i64,.ro [.int .i64,.int .i64]])),(70,.k (.int .i64)),(71,.k (.int .i64))],[.box [.k (.int .i64),.k (.ro [.int .i64,.int .i64,.int .i64,.ro [.int .i64,.int .i64]])],.box [.k (.int .i64),.k (.int .i64)]]),(109,[(3,.k (.int .i64)),(4,.ptr 0 2 0 0),(11,.k (.int .i64)),(12,.ptr 1 2 0 0),(13,.k (.int .i64)),(14,.sl 2 2),(69,.k (.ro [.int .i64,.int .i64,.int .i64,.ro [.int .i64,.int .i64]])),(70,.k (.int .i64)),(71,.k (.int .i64))],[.box [.k (.int .i64),.k (.ro [.int .i64,.int .i64,.int .i64,.ro [.int .i64,.int .i64]])],.box [.k (.int .i64),.k (.int .i64)],.row [.int .i64,.int .i64]])] [(.exit 3,[3,4,11,12,13,14],[(109,[(3,.k (.int .i64)),(4,.ptr 0 2 0 0),(11,.k (.int .i64)),(12,.ptr 1 2 0 0),(13,.k (.int .i64)),(14,.sl 2 2)],[.box [.k (.int .i64),.k (.ro [.int .i64,.int .i64,.int .i64,.ro [.int .i64,.int .i64]])],.box [.k (.int .i64),.k (.int .i64)],.row [.int .i64,.int .i64]])]),(.exit 4,[3,4,11,12,13,14],[(109,[(3,.k (.int .i64)),(4,.ptr 0 2 0 0),(11,.k (.int .i64)),(12,.ptr 1 2 0 0),(13,.k (.int .i64)),(14,.nils)],[.box [.k (.int .i64),.k (.ro [.int .i64,.int .i64,.int .i64,.ro [.int .i64,.int .i64]])],.box [.k (.int .i64),.k (.int .i64)]]),(109,[(3,.k (.int .i64)),(4,.ptr 0 2 0 0),(11,.k (.int .i64)),(12,.ptr 1 2 0 0),(13,.k (.int .i64)),(14,.sl 2 2)],[.box [.k (.int .i64),.k (.ro [.int .i64,.int .i64,.int .i64,.ro [.int .i64,.int .i64]])],.box [.k (.int .i64),.k (.int .i64)],.row [.int .i64,.int .i64]])])]
noncomputable section
def ex1 (c:List D) (a x:List (List D)):List (List D):=
 if rg a (ix c 0).toNat < 9223372036854775807 then rs x (ix c 1).toNat (if entW c (rg a (ix c 0).toNat) + ix c 2 < rg x (ix c 1).toNat then entW c (rg a (ix c 0).toNat) + ix c 2 else rg x (ix c 1).toNat) else x
def exF (r a:List (List D)):Nat → Nat → List (List D) → List (List D)
 | _,0,x=>x
 | i,k + 1,x=>exF r a (i + 1) k (ex1 (r.getD i []) a x)
def noneL (n:Int):List (List D):=List.replicate n.toNat [.i 9223372036854775807]
def exactF (n:Int) (r:List (List D)):Nat → List (List D) → List (List D)
 | 0,a=>a
 | k + 1,a=>exactF n r k (exF r a 0 r.length (noneL n))
def okEx (n:Int) (k:Int) (a:List (List D)):Prop:=(a.length:Int) = n ∧ ∀ v,0 ≤ rg a v ∧ (rg a v ≤ 1099511627776 + 10000 * k ∨ rg a v = 9223372036854775807)
def startE (n v t:Int):List (List D):=rs (noneL n) v.toNat t
def G86 (ds:List D):T (List D):=match ds with
 | [n,r,v,t,to,h]=>.need (yes (netB n.I r.L = true ∧ (0 ≤ v.I ∧ v.I < n.I) ∧ (0 ≤ t.I ∧ t.I ≤ 1099511627776) ∧ (0 ≤ to.I ∧ to.I < n.I) ∧ 0 ≤ h.I ∧ h.I ≤ 1000)) (.leaf [.i (rg (exactF n.I r.L h.I.toNat (startE n.I v.I t.I)) to.I.toNat)])
 | _=>.fail
def G86_3 (ds:List D):T (Ex × List D):=match ds with
 | [to,h,m,m',i,n,r,v,t,a]=>.need (yes ((1 ≤ n.I ∧ n.I ≤ 200) ∧ m.I = n.I ∧ m'.I = n.I ∧ (a.L.length:Int) = n.I ∧ 0 ≤ i.I ∧ i.I ≤ n.I)) (.leaf (.exit 0,[.i to.I,.i h.I,.i n.I,.i n.I,.l r.L,.i v.I,.i t.I,.l (fillF 9223372036854775807 i.I.toNat (n.I.toNat - i.I.toNat) a.L)]))
 | _=>.fail
def G86_9 (ds:List D):T (Ex × List D):=match ds with
 | [to,m,h,k,n,r,a]=>.need (yes (netB n.I r.L = true ∧ m.I = n.I ∧ okEx n.I k.I a.L ∧ 0 ≤ k.I ∧ k.I ≤ h.I ∧ h.I ≤ 1000)) (.leaf (.exit 2,[.i to.I,.i n.I,.l (exactF n.I r.L (h.I.toNat - k.I.toNat) a.L)]))
 | _=>.fail
def G86_12 (ds:List D):T (Ex × List D):=match ds with
 | [to, m,m',h,k,q,i,n,r,a,x]=>.need (yes ((1 ≤ n.I ∧ n.I ≤ 200) ∧ m.I = n.I ∧ m'.I = n.I ∧ q.I = n.I ∧ (a.L.length:Int) = n.I ∧ (x.L.length:Int) = n.I ∧ 0 ≤ i.I ∧ i.I ≤ n.I))
     (.leaf (.exit 4,[.i to.I,.i n.I,.i n.I,.i h.I,.i k.I,.i n.I,.l r.L,.l a.L,.l (fillF 9223372036854775807 i.I.toNat (n.I.toNat - i.I.toNat) x.L)]))
 | _=>.fail
def G86_17 (ds:List D):T (Ex × List D):=match ds with
 | [to, m,m',h,k,r',q,i,n,r,a,x]=>.need (yes (netB n.I r.L = true ∧ r'.L = r.L ∧ q.I = r.L.length ∧ m.I = n.I ∧ m'.I = n.I ∧ okEx n.I k.I a.L ∧ okEx n.I (k.I + 1) x.L ∧ 0 ≤ k.I ∧ k.I ≤ 1000 ∧ 0 ≤ i.I ∧ i.I ≤ r.L.length))
     (.leaf (.exit 6,[.i to.I,.i n.I,.i h.I,.i k.I,.i n.I,.l r.L,.l (exF r.L a.L i.I.toNat (r.L.length - i.I.toNat) x.L)]))
 | _=>.fail
end
noncomputable section
def seekF (p:Nat → Bool):Nat → Nat → Nat
 | 0,k=>k
 | f + 1,k=>if p k then k else seekF p f (k + 1)
def roadF (p:Nat → Bool):Nat → Nat → Option Nat
 | _,0=>none
 | i,m + 1=>if p i then some i else roadF p (i + 1) m
def wayF (r:List (List D)) (q:Nat → Int → Int → Bool):Nat → Int → Int → List (List D)
 | 0,_,_=>[]
 | l + 1,v,t=>
   match roadF (fun i=>decide (ix (r.getD i []) 0 = v) && q l (ix (r.getD i []) 1) (entW (r.getD i []) t + ix (r.getD i []) 2)) 0 r.length with
   | none=>wayF r q l v t
   | some i=>[.i i,.i (entW (r.getD i []) t)] :: wayF r q l (ix (r.getD i []) 1) (entW (r.getD i []) t + ix (r.getD i []) 2)
def qE (n:Int) (r:List (List D)) (to best:Int) (l:Nat) (v t:Int):Bool:=rg (exactF n r l (startE n v t)) to.toNat == best
def qR (n:Int) (r:List (List D)) (to best:Int) (l:Nat) (v t:Int):Bool:=rg (reachF r l (beginF n v t)) to.toNat == best
end
noncomputable section
def pickF (r:List (List D)) (q:Nat → Int → Int → Bool) (l:Nat) (v t:Int) (i m:Nat):Option Nat:=roadF (fun i=>decide (ix (r.getD i []) 0 = v) && q l (ix (r.getD i []) 1) (entW (r.getD i []) t + ix (r.getD i []) 2)) i m
def pickB (r:List (List D)) (q:Nat → Int → Int → Bool) (l:Nat) (v t:Int) (i m:Nat):Bool:=(pickF r q l v t i m).isSome
def pickI (r:List (List D)) (q:Nat → Int → Int → Bool) (l:Nat) (v t:Int) (i m:Nat):Nat:=(pickF r q l v t i m).getD 0
def toR (r:List (List D)) (i:Nat):Int:=ix (r.getD i []) 1
def tmR (r:List (List D)) (i:Nat) (t:Int):Int:=entW (r.getD i []) t + ix (r.getD i []) 2
def hopR (r:List (List D)) (i:Nat) (t:Int):List D:=[.i i,.i (entW (r.getD i []) t)]
def okWay (n left v t to:Int) (r:List (List D)):Prop:=netB n r = true ∧ (0 ≤ left ∧ left ≤ 1000) ∧ (0 ≤ v ∧ v < n) ∧ (0 ≤ t ∧ t + 10000 * left ≤ 10100000) ∧ 0 ≤ to ∧ to < n
def hopsE (n:Int) (r:List (List D)) (v t to best:Int) (k:Nat):Nat:=seekF (fun l=>qE n r to best l v t) (1000 - k) k
def hopsR (n:Int) (r:List (List D)) (v t to best:Int) (k:Nat):Nat:=seekF (fun l=>qR n r to best l v t) (1000 - k) k
def comesE (n:Int) (r:List (List D)) (v t to best:Int) (k:Nat):Prop:=∃ l,k ≤ l ∧ l ≤ 1000 ∧ qE n r to best l v t = true
def comesR (n:Int) (r:List (List D)) (v t to best:Int) (k:Nat):Prop:=∃ l,k ≤ l ∧ l ≤ 1000 ∧ qR n r to best l v t = true
def wayE (n:Int) (r:List (List D)) (to best:Int) (l:Nat) (v t:Int):List (List D):=wayF r (qE n r to best) l v t
def wayO (n:Int) (r:List (List D)) (to best:Int) (l:Nat) (v t:Int):List (List D):=wayF r (qR n r to best) l v t
def bestF (n:Int) (r:List (List D)) (v t to:Int):Int:=rg (arrF n r v t) to.toNat
def progW (n:Int) (r:List (List D)) (v t to:Int):List (List D):=wayE n r to (bestF n r v t to) (hopsE n r v t to (bestF n r v t to) 0) v t
def docA (n:Int) (r:List (List D)) (v t to:Int):Int:=rg (reachF r n.toNat (beginF n v t)) to.toNat
def docW (n:Int) (r:List (List D)) (v t to:Int):List (List D):=wayO n r to (docA n r v t to) (hopsR n r v t to (docA n r v t to) 0) v t
def G37 (ds:List D):T (List D):=match ds with
 | [n, r,v,t,to]=>.ite (netB n.I r.L && nodeB n.I v.I t.I && nodeB n.I to.I 0)
     (.ite (decide (bestF n.I r.L v.I t.I to.I < 0)) (.leaf [.l [],.i 0,.i 5]) (.leaf [.l (progW n.I r.L v.I t.I to.I),.i (bestF n.I r.L v.I t.I to.I),.i 0])) (.leaf [.l [],.i 0,.i 2])
 | _=>.fail
def G37_8 (ds:List D):T (Ex × List D):=match ds with
 | [to, best,left,n,r,v,t]=>.need (yes (netB n.I r.L = true ∧ (0 ≤ left.I ∧ left.I ≤ 1000) ∧ (0 ≤ v.I ∧ v.I < n.I) ∧ (0 ≤ t.I ∧ t.I ≤ 100000) ∧ (0 ≤ to.I ∧ to.I < n.I) ∧ comesE n.I r.L v.I t.I to.I best.I left.I.toNat))
     (.leaf (.exit 0,[.i to.I,.i best.I,.i (hopsE n.I r.L v.I t.I to.I best.I left.I.toNat),.i n.I,.l r.L,.i v.I,.i t.I]))
 | _=>.fail
def G37_11 (ds:List D):T (Ex × List D):=match ds with
 | [j, to,best,left,n,r,v,t]=>.need (yes (j.I = 0 ∧ okWay n.I left.I v.I t.I to.I r.L))
     (.ite (wayE n.I r.L to.I best.I left.I.toNat v.I t.I).isEmpty (.leaf (.exit 2,[.i 0,.i best.I])) (.leaf (.exit 2,[.i 1,.i best.I,.i (wayE n.I r.L to.I best.I left.I.toNat v.I t.I).length,.l (wayE n.I r.L to.I best.I left.I.toNat v.I t.I)])))
 | [j, to,best,left,m,n,r,v,t,o]=>.need (yes (j.I = 1 ∧ okWay n.I left.I v.I t.I to.I r.L ∧ m.I = o.L.length ∧ m.I + left.I ≤ 1000 ∧ 0 < m.I))
     (.leaf (.exit 2,[.i 1,.i best.I,.i (o.L ++ wayE n.I r.L to.I best.I left.I.toNat v.I t.I).length,.l (o.L ++ wayE n.I r.L to.I best.I left.I.toNat v.I t.I)]))
 | _=>.fail
def G37_14 (ds:List D):T (Ex × List D):=match ds with
 | [j, to,best,left,r',q,i,n,r,v,t]=>.need (yes (j.I = 0 ∧ okWay n.I (left.I + 1) v.I t.I to.I r.L ∧ 0 ≤ left.I ∧ r'.L = r.L ∧ q.I = r.L.length ∧ 0 ≤ i.I ∧ i.I ≤ r.L.length))
     (.ite (pickB r.L (qE n.I r.L to.I best.I) left.I.toNat v.I t.I i.I.toNat (r.L.length - i.I.toNat))
      (.leaf (.exit 3,[.i to.I,.i best.I,.i left.I,.i 1,.i n.I,.l r.L,.i (toR r.L (pickI r.L (qE n.I r.L to.I best.I) left.I.toNat v.I t.I i.I.toNat (r.L.length - i.I.toNat))),.i (tmR r.L (pickI r.L (qE n.I r.L to.I best.I) left.I.toNat v.I t.I i.I.toNat (r.L.length - i.I.toNat)) t.I),.l [hopR r.L (pickI r.L (qE n.I r.L to.I best.I) left.I.toNat v.I t.I i.I.toNat (r.L.length - i.I.toNat)) t.I]]))
      (.leaf (.exit 4,[.i 0,.i to.I,.i best.I,.i left.I,.i n.I,.l r.L,.i v.I,.i t.I])))
 | [j, to,best,left,m,r',q,i,n,r,v,t,o]=>.need (yes (j.I = 1 ∧ okWay n.I (left.I + 1) v.I t.I to.I r.L ∧ 0 ≤ left.I ∧ r'.L = r.L ∧ q.I = r.L.length ∧ (0 ≤ i.I ∧ i.I ≤ r.L.length) ∧ m.I = o.L.length ∧ m.I ≤ 1000))
     (.ite (pickB r.L (qE n.I r.L to.I best.I) left.I.toNat v.I t.I i.I.toNat (r.L.length - i.I.toNat))
      (.leaf (.exit 3,[.i to.I,.i best.I,.i left.I,.i (o.L.length + 1:Nat),.i n.I,.l r.L,.i (toR r.L (pickI r.L (qE n.I r.L to.I best.I) left.I.toNat v.I t.I i.I.toNat (r.L.length - i.I.toNat))),.i (tmR r.L (pickI r.L (qE n.I r.L to.I best.I) left.I.toNat v.I t.I i.I.toNat (r.L.length - i.I.toNat)) t.I),.l (o.L ++ [hopR r.L (pickI r.L (qE n.I r.L to.I best.I) left.I.toNat v.I t.I i.I.toNat (r.L.length - i.I.toNat)) t.I])]))
      (.leaf (.exit 4,[.i 1,.i to.I,.i best.I,.i left.I,.i o.L.length,.i n.I,.l r.L,.i v.I,.i t.I,.l o.L])))
 | _=>.fail
end
end Go.Proofs.Ytgoedfonmocafaa.Rs
namespace Go.Proofs.Ytgoedfonmocafaa
open Go.Lite
noncomputable section
def s37:Sig:=Rs.s37
def G37 (ds:List D):T (List D):=match ds with
 | [n, r,v,t,to]=>.need (yes ((Rs.netB n.I r.L = true ∧ Rs.nodeB n.I v.I t.I = true) ∧ Rs.nodeB n.I to.I 0 = true))
     (.ite (decide (Rs.bestF n.I r.L v.I t.I to.I < 0)) (.leaf [.l [],.i 0,.i 5]) (.leaf [.l (Rs.progW n.I r.L v.I t.I to.I),.i (Rs.bestF n.I r.L v.I t.I to.I),.i 0]))
 | _=>.fail
def s38:Sig:=Rs.s38
def G38 (ds:List D):T (List D):=match ds with
 | [n,r]=>.need (yes (Rs.netB n.I r.L = true)) (.leaf [.i 0])
 | _=>.fail
def G34 (ds:List D):T (List D):=match ds with
 | []=>.leaf [.b true]
 | _=>.fail
def G35x (ds:List D):T (List D):=match ds with
 | [c,f,w,du,cl,op,ch]=>.need (yes ((du.L.length < big ∧ cl.L.length < big ∧ op.L.length < big ∧ ch.L.length < big) ∧ fitsP c.I f.I w.L du.L cl.L op.L ch.L = true)) (.leaf [.b true])
 | _=>.fail
def detB (se de:List (List D)) (j:Nat):Bool:=decide ((1 ≤ rgI se j ∧ rgI se j ≤ 10000) ∧ 0 ≤ rgI de j ∧ rgI de j ≤ 10000)
def cutB (cl op:List (List D)) (j:Nat):Bool:=decide (rgI cl j < rgI op j ∧ 60 * rgI op j ≤ 100000)
def posD (de:List (List D)) (j:Nat):Bool:=!decide (rgI de j = 0)
def sumD (de:List (List D)):Nat → Nat → Int
 | _,0=>0
 | j,k + 1=>rgI de j + sumD de (j + 1) k
def freeP (w cl op:List (List D)) (a fr sec:Int):Prop:=∃ j:Nat,j < w.length ∧ fr = j ∧ (0 ≤ sec ∧ sec ≤ 10000) ∧ (0 ≤ a ∧ a ≤ 1099511627776) ∧ (a + sec ≤ 60 * rgI cl j ∨ 60 * rgI op j ≤ a)
def hopP (w cl op rs:List (List D)) (c:List D):Prop:=(0 ≤ ix c 0 ∧ ix c 0 < rs.length) ∧ ((lx (rs.getD (ix c 0).toNat []) 3).length ≠ 0 → freeP w cl op (ix c 1) (ix (rs.getD (ix c 0).toNat []) 0) (ix (rs.getD (ix c 0).toNat []) 2))
def G7_4 (ds:List D):T (Ex × List D):=match ds with
 | [se, de,fr,a,to,i,c,f,w]=>.need (yes (de.L.length = se.L.length ∧ 0 ≤ i.I ∧ i.I ≤ se.L.length ∧ se.L.length ≤ 1000))
     (.ite (allFrom (detB se.L de.L) i.I.toNat (se.L.length - i.I.toNat)) (.leaf (.exit 0,[.l se.L,.l de.L,.i fr.I,.i a.I,.i to.I,.i c.I,.i f.I,.l w.L])) (.leaf (.ret,[.b true])))
 | _=>.fail
def G7_14 (ds:List D):T (Ex × List D):=match ds with
 | [se, de,fr,a,to,i,c,f,w,lo,n,n1,n2,n3,du,cl,op,ch]=>.need (yes (fndT c.I f.I w.L du.L cl.L op.L ch.L lo.I n.I n1.I n2.I n3.I ∧ 0 ≤ i.I ∧ i.I ≤ w.L.length))
     (.ite (allFrom (cutB cl.L op.L) i.I.toNat (w.L.length - i.I.toNat)) (.leaf (.exit 2,[.l se.L,.l de.L,.i fr.I,.i a.I,.i to.I,.i c.I,.i f.I,.l w.L,.i 1,.i (w.L.length + 1:Nat),.i w.L.length,.i w.L.length,.i w.L.length,.l du.L,.l cl.L,.l op.L,.l ch.L])) (.leaf (.ret,[.b true])))
 | _=>.fail
def G7_28 (ds:List D):T (Ex × List D):=match ds with
 | de :: fr :: a :: to :: wy :: best :: [i,c,f,w,lo,n,n1,n2,n3,_,nl,du,cl,op,ch,rs]=>.need (yes (fndT c.I f.I w.L du.L cl.L op.L ch.L lo.I n.I n1.I n2.I n3.I ∧ nl.I = rs.L.length ∧ (0 ≤ i.I ∧ i.I ≤ wy.L.length ∧ wy.L.length ≤ 1000) ∧ ∀ k,k < wy.L.length → hopP w.L cl.L op.L rs.L (wy.L.getD k [])))
     (.leaf (.exit 4,[.l de.L,.i fr.I,.i a.I,.i to.I,.i best.I]))
 | _=>.fail
def G7_35 (ds:List D):T (Ex × List D):=match ds with
 | de :: fr :: a :: to :: wy :: best :: i :: k :: c :: f :: [w,lo,n,n1,n2,n3,nn,nl,rf,_,sec,_,du,cl,op,ch,rs]=>.need (yes (fndT c.I f.I w.L du.L cl.L op.L ch.L lo.I n.I n1.I n2.I n3.I ∧ nl.I = rs.L.length ∧ (0 ≤ i.I ∧ i.I < wy.L.length) ∧ (0 ≤ k.I ∧ k.I ≤ c.I) ∧ freeP w.L cl.L op.L (ix (wy.L.getD i.I.toNat []) 1) rf.I sec.I))
     (.leaf (.exit 6,[.l de.L,.i fr.I,.i a.I,.i to.I,.l wy.L,.i best.I,.i i.I,.i c.I,.i f.I,.l w.L,.i 1,.i (w.L.length + 1:Nat),.i w.L.length,.i w.L.length,.i w.L.length,.i nn.I,.i rs.L.length,.l du.L,.l cl.L,.l op.L,.l ch.L,.l rs.L]))
 | _=>.fail
def G7_42 (ds:List D):T (Ex × List D):=match ds with
 | [de, fr,to,best,s,k]=>.need (yes ((∀ j,j < de.L.length → 0 ≤ rgI de.L j ∧ rgI de.L j ≤ 10000) ∧ 0 ≤ k.I ∧ to.I ≤ de.L.length ∧ de.L.length ≤ 1000 ∧ 0 ≤ s.I ∧ s.I ≤ 100000 + 10000 * k.I))
     (.ite (allFrom (posD de.L) k.I.toNat (to.I - k.I).toNat) (.leaf (.exit 8,[.i fr.I,.i to.I,.i best.I,.i (s.I + sumD de.L k.I.toNat (to.I - k.I).toNat)])) (.leaf (.ret,[.b true])))
 | _=>.fail
end
noncomputable def sp7:SpL:=[(24,mkF s24 G24),(34,mkF s34 G34),(26,mkF s26 G2026),(35,mkF s35 G35x),(37,mkF s37 G37),(33,mkF s33 G33),(38,mkF s38 G38),(30,mkF s30 G30x)]
noncomputable def lp7:LpL:=[(4,mkL l7_4 G7_4),(14,mkL l7_14 G7_14),(28,mkL l7_28 G7_28),(35,mkL l7_35 G7_35),(42,mkL l7_42 G7_42)]
noncomputable def sw7:SwL:=[(36,mkFW s36 G36)]
noncomputable def tab7:Tab:=mkTab sp7 lp7 sw7
noncomputable def sp34:SpL:=[(33,mkF s33 G33)]
noncomputable def lp34:LpL:=[]
noncomputable def sw34:SwL:=[]
noncomputable def tab34:Tab:=mkTab sp34 lp34 sw34
set_option linter.unusedVariables false
set_option maxRecDepth 100000
theorem t7 (a b c d e f g h:D):(fnT C tab7 7 s7 [a,b,c,d,e,f,g,h]).run =
 T.run (T.ite (!planS a.I b.I c.L) (T.leaf [D.b true]) (T.ite ((d.L.length:Int) != (c.L.length:Int)) (T.leaf [D.b true]) (T.ite ((e.L.length:Int) != (c.L.length:Int)) (T.leaf [D.b true]) (T.ite (decide (f.I < (0:Int))) (T.leaf [D.b true]) (T.ite (decide (h.I < (0:Int))) (T.leaf [D.b true]) (T.ite (decide (f.I > (c.L.length:Int))) (T.leaf [D.b true]) (T.ite (decide (h.I > (c.L.length:Int))) (T.leaf [D.b true]) (T.ite (decide (g.I < (0:Int))) (T.leaf [D.b true]) (T.ite (decide (g.I > (100000:Int))) (T.leaf [D.b true]) (T.need (yes (e.L.length = d.L.length ∧ (0:Int) ≤ (0:Int) ∧ (0:Int) ≤ (d.L.length:Int) ∧ d.L.length ≤ 1000)) (T.ite (allFrom (detB d.L e.L) (Int.toNat (0:Int)) (d.L.length - Int.toNat (0:Int))) (T.need (yes (planB a.I b.I c.L = true ∧ fewC c.L)) (T.ite (decide ((foundC a.I b.I c.L).fst = (0:Int))) (T.need (decide (Int.toNat (1:Int) + Int.toNat (↑(c.L.length + 1):Int) ≤ List.length (rowP a.I b.I c.L (foundC a.I b.I c.L).snd))) (T.need (decide (Int.toNat (c.L.length:Int) ≤ List.length (clR a.I b.I c.L (foundC a.I b.I c.L).snd))) (T.need (decide (Int.toNat (c.L.length:Int) ≤ List.length (opR a.I b.I c.L (foundC a.I b.I c.L).snd))) (T.need (decide (Int.toNat (c.L.length:Int) ≤ List.length (foundC a.I b.I c.L).snd)) (T.need (yes ((List.length (List.take (Int.toNat (↑(c.L.length + 1):Int)) (List.drop (Int.toNat (1:Int)) (rowP a.I b.I c.L (foundC a.I b.I c.L).snd))) < big ∧ List.length (List.take (Int.toNat (c.L.length:Int)) (clR a.I b.I c.L (foundC a.I b.I c.L).snd)) < big ∧ List.length (List.take (Int.toNat (c.L.length:Int)) (opR a.I b.I c.L (foundC a.I b.I c.L).snd)) < big ∧ List.length (List.take (Int.toNat (c.L.length:Int)) (foundC a.I b.I c.L).snd) < big) ∧ fitsP a.I b.I c.L (List.take (Int.toNat (↑(c.L.length + 1):Int)) (List.drop (Int.toNat (1:Int)) (rowP a.I b.I c.L (foundC a.I b.I c.L).snd))) (List.take (Int.toNat (c.L.length:Int)) (clR a.I b.I c.L (foundC a.I b.I c.L).snd)) (List.take (Int.toNat (c.L.length:Int)) (opR a.I b.I c.L (foundC a.I b.I c.L).snd)) (List.take (Int.toNat (c.L.length:Int)) (foundC a.I b.I c.L).snd) = true)) (T.ite ((↑(Int.toNat (c.L.length:Int)):Int) != (c.L.length:Int)) (T.leaf [D.b false]) (T.ite ((↑(Int.toNat (c.L.length:Int)):Int) != (c.L.length:Int)) (T.leaf [D.b false]) (T.need (yes (fndT a.I b.I c.L (rowP a.I b.I c.L (foundC a.I b.I c.L).snd) (clR a.I b.I c.L (foundC a.I b.I c.L).snd) (opR a.I b.I c.L (foundC a.I b.I c.L).snd) (foundC a.I b.I c.L).snd (↑(Int.toNat (1:Int)):Int) (↑(Int.toNat (↑(c.L.length + 1):Int)):Int) (↑(Int.toNat (c.L.length:Int)):Int) (↑(Int.toNat (c.L.length:Int)):Int) (↑(Int.toNat (c.L.length:Int)):Int) ∧ (0:Int) ≤ (0:Int) ∧ (0:Int) ≤ (c.L.length:Int))) (T.ite (allFrom (cutB (clR a.I b.I c.L (foundC a.I b.I c.L).snd) (opR a.I b.I c.L (foundC a.I b.I c.L).snd)) (Int.toNat (0:Int)) (c.L.length - Int.toNat (0:Int))) (T.need (yes (cutP c.L d.L e.L (clR a.I b.I c.L (foundC a.I b.I c.L).snd) (opR a.I b.I c.L (foundC a.I b.I c.L).snd) ∧ (↑(Int.toNat (c.L.length:Int)):Int) = (c.L.length:Int) ∧ (↑(Int.toNat (c.L.length:Int)):Int) = (c.L.length:Int))) (T.need (decide (Int.toNat (↑(List.length (cutN d.L e.L (clR a.I b.I c.L (foundC a.I b.I c.L).snd) (opR a.I b.I c.L (foundC a.I b.I c.L).snd) c.L.length)):Int) ≤ List.length (cutN d.L e.L (clR a.I b.I c.L (foundC a.I b.I c.L).snd) (opR a.I b.I c.L (foundC a.I b.I c.L).snd) c.L.length))) (T.need (yes ((Rs.netB (↑(c.L.length + 1):Int) (List.take (Int.toNat (↑(List.length (cutN d.L e.L (clR a.I b.I c.L (foundC a.I b.I c.L).snd) (opR a.I b.I c.L (foundC a.I b.I c.L).snd) c.L.length)):Int)) (cutN d.L e.L (clR a.I b.I c.L (foundC a.I b.I c.L).snd) (opR a.I b.I c.L (foundC a.I b.I c.L).snd) c.L.length)) = true ∧ Rs.nodeB (↑(c.L.length + 1):Int) f.I g.I = true) ∧ Rs.nodeB (↑(c.L.length + 1):Int) h.I (0:Int) = true)) (T.ite (decide (Rs.bestF (↑(c.L.length + 1):Int) (List.take (Int.toNat (↑(List.length (cutN d.L e.L (clR a.I b.I c.L (foundC a.I b.I c.L).snd) (opR a.I b.I c.L (foundC a.I b.I c.L).snd) c.L.length)):Int)) (cutN d.L e.L (clR a.I b.I c.L (foundC a.I b.I c.L).snd) (opR a.I b.I c.L (foundC a.I b.I c.L).snd) c.L.length)) f.I g.I h.I < (0:Int))) (T.need (decide (Int.toNat (↑(List.length (cutN d.L e.L (clR a.I b.I c.L (foundC a.I b.I c.L).snd) (opR a.I b.I c.L (foundC a.I b.I c.L).snd) c.L.length)):Int) ≤ List.length (cutN d.L e.L (clR a.I b.I c.L (foundC a.I b.I c.L).snd) (opR a.I b.I c.L (foundC a.I b.I c.L).snd) c.L.length))) (T.need (yes (Rs.netB (↑(c.L.length + 1):Int) (List.take (Int.toNat (↑(List.length (cutN d.L e.L (clR a.I b.I c.L (foundC a.I b.I c.L).snd) (opR a.I b.I c.L (foundC a.I b.I c.L).snd) c.L.length)):Int)) (cutN d.L e.L (clR a.I b.I c.L (foundC a.I b.I c.L).snd) (opR a.I b.I c.L (foundC a.I b.I c.L).snd) c.L.length)) = true ∧ Rs.nodeB (↑(c.L.length + 1):Int) f.I g.I = true)) (T.need (decide (Int.toNat (↑(List.length (cutN d.L e.L (clR a.I b.I c.L (foundC a.I b.I c.L).snd) (opR a.I b.I c.L (foundC a.I b.I c.L).snd) c.L.length)):Int) ≤ List.length (cutN d.L e.L (clR a.I b.I c.L (foundC a.I b.I c.L).snd) (opR a.I b.I c.L (foundC a.I b.I c.L).snd) c.L.length))) (T.need (yes (Rs.netB (↑(c.L.length + 1):Int) (List.take (Int.toNat (↑(List.length (cutN d.L e.L (clR a.I b.I c.L (foundC a.I b.I c.L).snd) (opR a.I b.I c.L (foundC a.I b.I c.L).snd) c.L.length)):Int)) (cutN d.L e.L (clR a.I b.I c.L (foundC a.I b.I c.L).snd) (opR a.I b.I c.L (foundC a.I b.I c.L).snd) c.L.length)) = true)) (T.ite ((↑(List.length (Rs.arrF (↑(c.L.length + 1):Int) (List.take (Int.toNat (↑(List.length (cutN d.L e.L (clR a.I b.I c.L (foundC a.I b.I c.L).snd) (opR a.I b.I c.L (foundC a.I b.I c.L).snd) c.L.length)):Int)) (cutN d.L e.L (clR a.I b.I c.L (foundC a.I b.I c.L).snd) (opR a.I b.I c.L (foundC a.I b.I c.L).snd) c.L.length)) f.I g.I)):Int) != (↑(c.L.length + 1):Int)) (T.leaf [D.b false]) (T.need (decide ((0:Int) ≤ h.I ∧ h.I < (↑(List.length (Rs.arrF (↑(c.L.length + 1):Int) (List.take (Int.toNat (↑(List.length (cutN d.L e.L (clR a.I b.I c.L (foundC a.I b.I c.L).snd) (opR a.I b.I c.L (foundC a.I b.I c.L).snd) c.L.length)):Int)) (cutN d.L e.L (clR a.I b.I c.L (foundC a.I b.I c.L).snd) (opR a.I b.I c.L (foundC a.I b.I c.L).snd) c.L.length)) f.I g.I)):Int))) (T.ite (D.I (List.getD (List.getD (Rs.arrF (↑(c.L.length + 1):Int) (List.take (Int.toNat (↑(List.length (cutN d.L e.L (clR a.I b.I c.L (foundC a.I b.I c.L).snd) (opR a.I b.I c.L (foundC a.I b.I c.L).snd) c.L.length)):Int)) (cutN d.L e.L (clR a.I b.I c.L (foundC a.I b.I c.L).snd) (opR a.I b.I c.L (foundC a.I b.I c.L).snd) c.L.length)) f.I g.I) h.I.toNat []) 0 default) == (-1:Int)) (T.leaf [D.b true]) (T.leaf [D.b false])))))))) (T.need (decide (Int.toNat (↑(List.length (cutN d.L e.L (clR a.I b.I c.L (foundC a.I b.I c.L).snd) (opR a.I b.I c.L (foundC a.I b.I c.L).snd) c.L.length)):Int) ≤ List.length (cutN d.L e.L (clR a.I b.I c.L (foundC a.I b.I c.L).snd) (opR a.I b.I c.L (foundC a.I b.I c.L).snd) c.L.length))) (T.need (yes (Rs.netB (↑(c.L.length + 1):Int) (List.take (Int.toNat (↑(List.length (cutN d.L e.L (clR a.I b.I c.L (foundC a.I b.I c.L).snd) (opR a.I b.I c.L (foundC a.I b.I c.L).snd) c.L.length)):Int)) (cutN d.L e.L (clR a.I b.I c.L (foundC a.I b.I c.L).snd) (opR a.I b.I c.L (foundC a.I b.I c.L).snd) c.L.length)) = true ∧ Rs.nodeB (↑(c.L.length + 1):Int) f.I g.I = true)) (T.need (decide (Int.toNat (↑(List.length (cutN d.L e.L (clR a.I b.I c.L (foundC a.I b.I c.L).snd) (opR a.I b.I c.L (foundC a.I b.I c.L).snd) c.L.length)):Int) ≤ List.length (cutN d.L e.L (clR a.I b.I c.L (foundC a.I b.I c.L).snd) (opR a.I b.I c.L (foundC a.I b.I c.L).snd) c.L.length))) (T.need (yes (Rs.netB (↑(c.L.length + 1):Int) (List.take (Int.toNat (↑(List.length (cutN d.L e.L (clR a.I b.I c.L (foundC a.I b.I c.L).snd) (opR a.I b.I c.L (foundC a.I b.I c.L).snd) c.L.length)):Int)) (cutN d.L e.L (clR a.I b.I c.L (foundC a.I b.I c.L).snd) (opR a.I b.I c.L (foundC a.I b.I c.L).snd) c.L.length)) = true)) (T.ite ((↑(List.length (Rs.arrF (↑(c.L.length + 1):Int) (List.take (Int.toNat (↑(List.length (cutN d.L e.L (clR a.I b.I c.L (foundC a.I b.I c.L).snd) (opR a.I b.I c.L (foundC a.I b.I c.L).snd) c.L.length)):Int)) (cutN d.L e.L (clR a.I b.I c.L (foundC a.I b.I c.L).snd) (opR a.I b.I c.L (foundC a.I b.I c.L).snd) c.L.length)) f.I g.I)):Int) != (↑(c.L.length + 1):Int)) (T.leaf [D.b false]) (T.need (decide ((0:Int) ≤ h.I ∧ h.I < (↑(List.length (Rs.arrF (↑(c.L.length + 1):Int) (List.take (Int.toNat (↑(List.length (cutN d.L e.L (clR a.I b.I c.L (foundC a.I b.I c.L).snd) (opR a.I b.I c.L (foundC a.I b.I c.L).snd) c.L.length)):Int)) (cutN d.L e.L (clR a.I b.I c.L (foundC a.I b.I c.L).snd) (opR a.I b.I c.L (foundC a.I b.I c.L).snd) c.L.length)) f.I g.I)):Int))) (T.ite (D.I (List.getD (List.getD (Rs.arrF (↑(c.L.length + 1):Int) (List.take (Int.toNat (↑(List.length (cutN d.L e.L (clR a.I b.I c.L (foundC a.I b.I c.L).snd) (opR a.I b.I c.L (foundC a.I b.I c.L).snd) c.L.length)):Int)) (cutN d.L e.L (clR a.I b.I c.L (foundC a.I b.I c.L).snd) (opR a.I b.I c.L (foundC a.I b.I c.L).snd) c.L.length)) f.I g.I) h.I.toNat []) 0 default) != Rs.bestF (↑(c.L.length + 1):Int) (List.take (Int.toNat (↑(List.length (cutN d.L e.L (clR a.I b.I c.L (foundC a.I b.I c.L).snd) (opR a.I b.I c.L (foundC a.I b.I c.L).snd) c.L.length)):Int)) (cutN d.L e.L (clR a.I b.I c.L (foundC a.I b.I c.L).snd) (opR a.I b.I c.L (foundC a.I b.I c.L).snd) c.L.length)) f.I g.I h.I) (T.leaf [D.b false]) (T.need (yes (fndT a.I b.I c.L (rowP a.I b.I c.L (foundC a.I b.I c.L).snd) (clR a.I b.I c.L (foundC a.I b.I c.L).snd) (opR a.I b.I c.L (foundC a.I b.I c.L).snd) (foundC a.I b.I c.L).snd (↑(Int.toNat (1:Int)):Int) (↑(Int.toNat (↑(c.L.length + 1):Int)):Int) (↑(Int.toNat (c.L.length:Int)):Int) (↑(Int.toNat (c.L.length:Int)):Int) (↑(Int.toNat (c.L.length:Int)):Int) ∧ (↑(Int.toNat (↑(List.length (cutN d.L e.L (clR a.I b.I c.L (foundC a.I b.I c.L).snd) (opR a.I b.I c.L (foundC a.I b.I c.L).snd) c.L.length)):Int)):Int) = (↑(List.length (cutN d.L e.L (clR a.I b.I c.L (foundC a.I b.I c.L).snd) (opR a.I b.I c.L (foundC a.I b.I c.L).snd) c.L.length)):Int) ∧ ((0:Int) ≤ (0:Int) ∧ (0:Int) ≤ (↑(List.length (Rs.progW (↑(c.L.length + 1):Int) (List.take (Int.toNat (↑(List.length (cutN d.L e.L (clR a.I b.I c.L (foundC a.I b.I c.L).snd) (opR a.I b.I c.L (foundC a.I b.I c.L).snd) c.L.length)):Int)) (cutN d.L e.L (clR a.I b.I c.L (foundC a.I b.I c.L).snd) (opR a.I b.I c.L (foundC a.I b.I c.L).snd) c.L.length)) f.I g.I h.I)):Int) ∧ List.length (Rs.progW (↑(c.L.length + 1):Int) (List.take (Int.toNat (↑(List.length (cutN d.L e.L (clR a.I b.I c.L (foundC a.I b.I c.L).snd) (opR a.I b.I c.L (foundC a.I b.I c.L).snd) c.L.length)):Int)) (cutN d.L e.L (clR a.I b.I c.L (foundC a.I b.I c.L).snd) (opR a.I b.I c.L (foundC a.I b.I c.L).snd) c.L.length)) f.I g.I h.I) ≤ 1000) ∧ ∀ (k:Nat),k < List.length (Rs.progW (↑(c.L.length + 1):Int) (List.take (Int.toNat (↑(List.length (cutN d.L e.L (clR a.I b.I c.L (foundC a.I b.I c.L).snd) (opR a.I b.I c.L (foundC a.I b.I c.L).snd) c.L.length)):Int)) (cutN d.L e.L (clR a.I b.I c.L (foundC a.I b.I c.L).snd) (opR a.I b.I c.L (foundC a.I b.I c.L).snd) c.L.length)) f.I g.I h.I) → hopP c.L (clR a.I b.I c.L (foundC a.I b.I c.L).snd) (opR a.I b.I c.L (foundC a.I b.I c.L).snd) (cutN d.L e.L (clR a.I b.I c.L (foundC a.I b.I c.L).snd) (opR a.I b.I c.L (foundC a.I b.I c.L).snd) c.L.length) (List.getD (Rs.progW (↑(c.L.length + 1):Int) (List.take (Int.toNat (↑(List.length (cutN d.L e.L (clR a.I b.I c.L (foundC a.I b.I c.L).snd) (opR a.I b.I c.L (foundC a.I b.I c.L).snd) c.L.length)):Int)) (cutN d.L e.L (clR a.I b.I c.L (foundC a.I b.I c.L).snd) (opR a.I b.I c.L (foundC a.I b.I c.L).snd) c.L.length)) f.I g.I h.I) k []))) (T.need (yes ((∀ (j:Nat),j < e.L.length → (0:Int) ≤ rgI e.L j ∧ rgI e.L j ≤ (10000:Int)) ∧ (0:Int) ≤ f.I ∧ h.I ≤ (e.L.length:Int) ∧ e.L.length ≤ 1000 ∧ (0:Int) ≤ g.I ∧ g.I ≤ (100000:Int) + (10000:Int) * f.I)) (T.ite (allFrom (posD e.L) f.I.toNat (Int.toNat (h.I - f.I))) (T.ite (decide (h.I < f.I)) (T.leaf [D.b true]) (T.ite (decide (Rs.bestF (↑(c.L.length + 1):Int) (List.take (Int.toNat (↑(List.length (cutN d.L e.L (clR a.I b.I c.L (foundC a.I b.I c.L).snd) (opR a.I b.I c.L (foundC a.I b.I c.L).snd) c.L.length)):Int)) (cutN d.L e.L (clR a.I b.I c.L (foundC a.I b.I c.L).snd) (opR a.I b.I c.L (foundC a.I b.I c.L).snd) c.L.length)) f.I g.I h.I ≤ g.I + sumD e.L f.I.toNat (Int.toNat (h.I - f.I)))) (T.leaf [D.b true]) (T.leaf [D.b false]))) (T.leaf [D.b true]))))))))))))))) (T.leaf [D.b true])))))))))) (T.ite (decide ((foundC a.I b.I c.L).fst = (5:Int))) (T.leaf [D.b true]) (T.leaf [D.b true])))) (T.leaf [D.b true])))))))))))):=by kernel_rfl
theorem t7_4 (a b c d e f g h i:D):(roundT C tab7 7 (loopOf C.P 7 4) l7_4 [a,b,c,d,e,f,g,h,i]).run =
 T.run (T.ite (decide (f.I < (a.L.length:Int))) (T.need (decide ((0:Int) ≤ f.I ∧ f.I < (a.L.length:Int))) (T.ite (decide (D.I (List.getD (List.getD a.L f.I.toNat []) 0 default) < (1:Int))) (T.leaf (Rd.out Ex.ret [D.b true])) (T.need (decide ((0:Int) ≤ f.I ∧ f.I < (a.L.length:Int))) (T.ite (decide (D.I (List.getD (List.getD a.L f.I.toNat []) 0 default) > (10000:Int))) (T.leaf (Rd.out Ex.ret [D.b true])) (T.need (decide ((0:Int) ≤ f.I ∧ f.I < (b.L.length:Int))) (T.ite (decide (D.I (List.getD (List.getD b.L f.I.toNat []) 0 default) < (0:Int))) (T.leaf (Rd.out Ex.ret [D.b true])) (T.need (decide ((0:Int) ≤ f.I ∧ f.I < (b.L.length:Int))) (T.ite (decide (D.I (List.getD (List.getD b.L f.I.toNat []) 0 default) > (10000:Int))) (T.leaf (Rd.out Ex.ret [D.b true])) (T.leaf (Rd.again [D.l a.L,D.l b.L,D.i c.I,D.i d.I,D.i e.I,D.i (IntKind.i64.wrap (f.I + (1:Int))),D.i g.I,D.i h.I,D.l i.L])))))))))) (T.leaf (Rd.out (Ex.exit 0) [D.l a.L,D.l b.L,D.i c.I,D.i d.I,D.i e.I,D.i g.I,D.i h.I,D.l i.L]))):=by kernel_rfl
theorem t7_14 (a b c d e f g h i j k l m n o p q r:D):(roundT C tab7 7 (loopOf C.P 7 14) l7_14 [a,b,c,d,e,f,g,h,i,j,k,l,m,n,o,p,q,r]).run =
 T.run (T.ite (decide (f.I < (i.L.length:Int))) (T.need (decide ((0:Int) ≤ f.I ∧ f.I < (l.I.toNat:Int))) (T.need (decide (f.I.toNat < p.L.length)) (T.need (decide ((0:Int) ≤ f.I ∧ f.I < (m.I.toNat:Int))) (T.need (decide (f.I.toNat < q.L.length)) (T.ite (decide (D.I (List.getD (List.getD p.L f.I.toNat []) 0 default) ≥ D.I (List.getD (List.getD q.L f.I.toNat []) 0 default))) (T.leaf (Rd.out Ex.ret [D.b true])) (T.need (decide ((0:Int) ≤ f.I ∧ f.I < (m.I.toNat:Int))) (T.need (decide (f.I.toNat < q.L.length)) (T.ite (decide (IntKind.i64.wrap ((60:Int) * D.I (List.getD (List.getD q.L f.I.toNat []) 0 default)) > (100000:Int))) (T.leaf (Rd.out Ex.ret [D.b true])) (T.leaf (Rd.again [D.l a.L,D.l b.L,D.i c.I,D.i d.I,D.i e.I,D.i (IntKind.i64.wrap (f.I + (1:Int))),D.i g.I,D.i h.I,D.l i.L,D.i (j.I.toNat:Int),D.i (k.I.toNat:Int),D.i (l.I.toNat:Int),D.i (m.I.toNat:Int),D.i (n.I.toNat:Int),D.l o.L,D.l p.L,D.l q.L,D.l r.L])))))))))) (T.leaf (Rd.out (Ex.exit 2) [D.l a.L,D.l b.L,D.i c.I,D.i d.I,D.i e.I,D.i g.I,D.i h.I,D.l i.L,D.i (j.I.toNat:Int),D.i (k.I.toNat:Int),D.i (l.I.toNat:Int),D.i (m.I.toNat:Int),D.i (n.I.toNat:Int),D.l o.L,D.l p.L,D.l q.L,D.l r.L]))):=by kernel_rfl
theorem t7_28 (a b c d e f g h i j k l m n o p q r s t u v:D):(roundT C tab7 7 (loopOf C.P 7 28) l7_28 [a,b,c,d,e,f,g,h,i,j,k,l,m,n,o,p,q,r,s,t,u,v]).run =
 T.run (T.ite (decide (g.I < (e.L.length:Int))) (T.need (decide ((0:Int) ≤ g.I ∧ g.I < (e.L.length:Int))) (T.ite (decide (D.I (List.getD (List.getD e.L g.I.toNat []) 0 default) < (0:Int))) (T.leaf (Rd.out Ex.ret [D.b false])) (T.need (decide ((0:Int) ≤ g.I ∧ g.I < (e.L.length:Int))) (T.ite (decide (D.I (List.getD (List.getD e.L g.I.toNat []) 0 default) ≥ (q.I.toNat:Int))) (T.leaf (Rd.out Ex.ret [D.b false])) (T.need (decide ((0:Int) ≤ g.I ∧ g.I < (e.L.length:Int))) (T.need (decide ((0:Int) ≤ D.I (List.getD (List.getD e.L g.I.toNat []) 0 default) ∧ D.I (List.getD (List.getD e.L g.I.toNat []) 0 default) < (q.I.toNat:Int))) (T.need (decide (Int.toNat (D.I (List.getD (List.getD e.L g.I.toNat []) 0 default)) < v.L.length)) (T.ite ((↑(List.length (D.L (List.getD (List.getD v.L (Int.toNat (D.I (List.getD (List.getD e.L g.I.toNat []) 0 default))) []) (0 + 1 + 1 + 1) default))):Int) == (0:Int)) (T.leaf (Rd.again [D.l a.L,D.i b.I,D.i c.I,D.i d.I,D.l e.L,D.i f.I,D.i (IntKind.i64.wrap (g.I + (1:Int))),D.i h.I,D.i i.I,D.l j.L,D.i (k.I.toNat:Int),D.i (l.I.toNat:Int),D.i (m.I.toNat:Int),D.i (n.I.toNat:Int),D.i (o.I.toNat:Int),D.i p.I,D.i (q.I.toNat:Int),D.l r.L,D.l s.L,D.l t.L,D.l u.L,D.l v.L])) (T.need (yes (fndT h.I i.I j.L r.L s.L t.L u.L (k.I.toNat:Int) (l.I.toNat:Int) (m.I.toNat:Int) (n.I.toNat:Int) (o.I.toNat:Int) ∧ (q.I.toNat:Int) = (v.L.length:Int) ∧ ((0:Int) ≤ g.I ∧ g.I < (e.L.length:Int)) ∧ ((0:Int) ≤ (0:Int) ∧ (0:Int) ≤ h.I) ∧ freeP j.L s.L t.L (ix (List.getD e.L g.I.toNat []) 1) (D.I (List.getD (List.getD v.L (Int.toNat (D.I (List.getD (List.getD e.L g.I.toNat []) 0 default))) []) 0 default)) (D.I (List.getD (List.getD v.L (Int.toNat (D.I (List.getD (List.getD e.L g.I.toNat []) 0 default))) []) (0 + 1 + 1) default)))) (T.leaf (Rd.again [D.l a.L,D.i b.I,D.i c.I,D.i d.I,D.l e.L,D.i f.I,D.i (IntKind.i64.wrap (g.I + (1:Int))),D.i h.I,D.i i.I,D.l j.L,D.i 1,D.i (↑(Int.toNat (↑(j.L.length + 1):Int)):Int),D.i (↑(Int.toNat (j.L.length:Int)):Int),D.i (↑(Int.toNat (j.L.length:Int)):Int),D.i (↑(Int.toNat (j.L.length:Int)):Int),D.i p.I,D.i (↑(Int.toNat (v.L.length:Int)):Int),D.l r.L,D.l s.L,D.l t.L,D.l u.L,D.l v.L]))))))))))) (T.leaf (Rd.out (Ex.exit 4) [D.l a.L,D.i b.I,D.i c.I,D.i d.I,D.i f.I]))):=by kernel_rfl
theorem t7_35 (a b c d e f g h i j k l m n o p q r s t u v w x y z z26:D):(roundT C tab7 7 (loopOf C.P 7 35) l7_35 [a,b,c,d,e,f,g,h,i,j,k,l,m,n,o,p,q,r,s,t,u,v,w,x,y,z,z26]).run =
 T.run (T.ite (decide (h.I < i.I)) (T.need (decide (l.I.toNat + m.I.toNat ≤ w.L.length)) (T.need (decide (n.I.toNat ≤ x.L.length)) (T.need (decide (o.I.toNat ≤ y.L.length)) (T.need (decide (p.I.toNat ≤ z.L.length)) (T.need (yes (List.length (List.take m.I.toNat (List.drop l.I.toNat w.L)) < big ∧ dueB i.I j.I k.L (List.take m.I.toNat (List.drop l.I.toNat w.L)) h.I s.I = true)) (T.need (decide ((0:Int) ≤ g.I ∧ g.I < (e.L.length:Int))) (T.ite (decide (D.I (List.getD (List.getD e.L g.I.toNat []) (0 + 1) default) < IntKind.i64.wrap ((60:Int) * (dueF k.L (List.take m.I.toNat (List.drop l.I.toNat w.L)) h.I s.I.toNat + ix (List.getD k.L s.I.toNat []) 0)))) (T.need (decide ((0:Int) ≤ g.I ∧ g.I < (e.L.length:Int))) (T.ite (decide (IntKind.i64.wrap (D.I (List.getD (List.getD e.L g.I.toNat []) (0 + 1) default) + u.I) > IntKind.i64.wrap ((60:Int) * dueF k.L (List.take m.I.toNat (List.drop l.I.toNat w.L)) h.I s.I.toNat))) (T.leaf (Rd.out Ex.ret [D.b false])) (T.leaf (Rd.again [D.l a.L,D.i b.I,D.i c.I,D.i d.I,D.l e.L,D.i f.I,D.i g.I,D.i (IntKind.i64.wrap (h.I + (1:Int))),D.i i.I,D.i j.I,D.l k.L,D.i (l.I.toNat:Int),D.i (m.I.toNat:Int),D.i (n.I.toNat:Int),D.i (o.I.toNat:Int),D.i (p.I.toNat:Int),D.i q.I,D.i (r.I.toNat:Int),D.i s.I,D.i t.I,D.i u.I,D.l v.L,D.l w.L,D.l x.L,D.l y.L,D.l z.L,D.l z26.L])))) (T.leaf (Rd.again [D.l a.L,D.i b.I,D.i c.I,D.i d.I,D.l e.L,D.i f.I,D.i g.I,D.i (IntKind.i64.wrap (h.I + (1:Int))),D.i i.I,D.i j.I,D.l k.L,D.i (l.I.toNat:Int),D.i (m.I.toNat:Int),D.i (n.I.toNat:Int),D.i (o.I.toNat:Int),D.i (p.I.toNat:Int),D.i q.I,D.i (r.I.toNat:Int),D.i s.I,D.i t.I,D.i u.I,D.l v.L,D.l w.L,D.l x.L,D.l y.L,D.l z.L,D.l z26.L]))))))))) (T.leaf (Rd.out (Ex.exit 6) [D.l a.L,D.i b.I,D.i c.I,D.i d.I,D.l e.L,D.i f.I,D.i g.I,D.i i.I,D.i j.I,D.l k.L,D.i (l.I.toNat:Int),D.i (m.I.toNat:Int),D.i (n.I.toNat:Int),D.i (o.I.toNat:Int),D.i (p.I.toNat:Int),D.i q.I,D.i (r.I.toNat:Int),D.l w.L,D.l x.L,D.l y.L,D.l z.L,D.l z26.L]))):=by kernel_rfl
theorem t7_42 (a b c d e f:D):(roundT C tab7 7 (loopOf C.P 7 42) l7_42 [a,b,c,d,e,f]).run =
 T.run (T.ite (decide (f.I < c.I)) (T.need (decide ((0:Int) ≤ f.I ∧ f.I < (a.L.length:Int))) (T.ite (D.I (List.getD (List.getD a.L f.I.toNat []) 0 default) == (0:Int)) (T.leaf (Rd.out Ex.ret [D.b true])) (T.need (decide ((0:Int) ≤ f.I ∧ f.I < (a.L.length:Int))) (T.leaf (Rd.again [D.l a.L,D.i b.I,D.i c.I,D.i d.I,D.i (IntKind.i64.wrap (e.I + D.I (List.getD (List.getD a.L f.I.toNat []) 0 default))),D.i (IntKind.i64.wrap (f.I + (1:Int)))]))))) (T.leaf (Rd.out (Ex.exit 8) [D.i b.I,D.i c.I,D.i d.I,D.i e.I]))):=by kernel_rfl
theorem t34:(fnT C tab34 34 s34 []).run =
 T.run (T.need (yes (Rs.netB (3:Int) (List.take (List.length [[D.i 0,D.i 1,D.i 10,D.l []],[D.i 1,D.i 2,D.i 5,D.l (List.take (List.length [[D.i 12,D.i 20]]) [[D.i 12,D.i 20]])],[D.i 0,D.i 2,D.i 30,D.l []]]) [[D.i 0,D.i 1,D.i 10,D.l []],[D.i 1,D.i 2,D.i 5,D.l (List.take (List.length [[D.i 12,D.i 20]]) [[D.i 12,D.i 20]])],[D.i 0,D.i 2,D.i 30,D.l []]]) = true ∧ Rs.nodeB (3:Int) (0:Int) (0:Int) = true)) (T.ite ((↑(List.length (Rs.arrF (3:Int) (List.take (List.length [[D.i 0,D.i 1,D.i 10,D.l []],[D.i 1,D.i 2,D.i 5,D.l (List.take (List.length [[D.i 12,D.i 20]]) [[D.i 12,D.i 20]])],[D.i 0,D.i 2,D.i 30,D.l []]]) [[D.i 0,D.i 1,D.i 10,D.l []],[D.i 1,D.i 2,D.i 5,D.l (List.take (List.length [[D.i 12,D.i 20]]) [[D.i 12,D.i 20]])],[D.i 0,D.i 2,D.i 30,D.l []]]) (0:Int) (0:Int))):Int) == (3:Int)) (T.need (decide ((0:Int) ≤ (2:Int) ∧ (2:Int) < (↑(List.length (Rs.arrF (3:Int) (List.take (List.length [[D.i 0,D.i 1,D.i 10,D.l []],[D.i 1,D.i 2,D.i 5,D.l (List.take (List.length [[D.i 12,D.i 20]]) [[D.i 12,D.i 20]])],[D.i 0,D.i 2,D.i 30,D.l []]]) [[D.i 0,D.i 1,D.i 10,D.l []],[D.i 1,D.i 2,D.i 5,D.l (List.take (List.length [[D.i 12,D.i 20]]) [[D.i 12,D.i 20]])],[D.i 0,D.i 2,D.i 30,D.l []]]) (0:Int) (0:Int))):Int))) (T.leaf [D.b (D.I (List.getD (List.getD (Rs.arrF (3:Int) (List.take (List.length [[D.i 0,D.i 1,D.i 10,D.l []],[D.i 1,D.i 2,D.i 5,D.l (List.take (List.length [[D.i 12,D.i 20]]) [[D.i 12,D.i 20]])],[D.i 0,D.i 2,D.i 30,D.l []]]) [[D.i 0,D.i 1,D.i 10,D.l []],[D.i 1,D.i 2,D.i 5,D.l (List.take (List.length [[D.i 12,D.i 20]]) [[D.i 12,D.i 20]])],[D.i 0,D.i 2,D.i 30,D.l []]]) (0:Int) (0:Int)) (Int.toNat (2:Int)) []) 0 default) == (25:Int))])) (T.leaf [D.b false]))):=by kernel_rfl
noncomputable def sp71:SpL:=[(163,mkF s163 G163),(166,mkF s166 G166),(167,mkF s167 G167)]
noncomputable def lp71:LpL:=[(4,mkLK 3 l71_4 G71_4),(9,mkLK 3 l71_9 G71_9)]
noncomputable def sw71:SwL:=[(113,mkFW s113 G113),(114,mkFW s114 G114)]
noncomputable def tab71:Tab:=mkTab sp71 lp71 sw71
noncomputable def sp72:SpL:=[(115,mkF s115 Gcl1),(85,mkF s85 G85)]
noncomputable def lp72:LpL:=[(3,mkLK 1 l72_3 G72_3)]
noncomputable def sw72:SwL:=[]
noncomputable def tab72:Tab:=mkTab sp72 lp72 sw72
noncomputable def sp115:SpL:=[]
noncomputable def lp115:LpL:=[]
noncomputable def sw115:SwL:=[]
noncomputable def tab115:Tab:=mkTab sp115 lp115 sw115
set_option linter.unusedVariables false
set_option maxRecDepth 100000
theorem t71 (a b c d:D):fnTD C tab71 3 71 s71 [a,b,c,d] =
 T.need (yes (planB a.I b.I c.L = true ∧ chOK c.L d.L)) (T.need (yes ((↑0:Int) = (0:Int) ∧ planB a.I b.I c.L = true ∧ rulesV c.L (rulesP b.I c.L d.L) ∧ (↑(Int.toNat (↑(List.length (rulesP b.I c.L d.L)):Int)):Int) = (↑(List.length (rulesP b.I c.L d.L)):Int) ∧ (↑(Int.toNat (↑(List.length (rulesP b.I c.L d.L)):Int)):Int) = (↑(List.length (rulesP b.I c.L d.L)):Int) ∧ (0:Int) = (0:Int) ∧ 0 < List.length (rulesP b.I c.L d.L))) (T.ite (allFrom (rulesK a.I c.L (rulesP b.I c.L d.L)) 0 (List.length (rulesP b.I c.L d.L))) (T.need (yes ((↑(0 + 1):Int) = (1:Int) ∧ (0:Int) ≤ (0:Int) ∧ (0:Int) ≤ IntKind.i64.wrap ((c.L.length:Int) + (2:Int)) ∧ IntKind.i64.wrap ((c.L.length:Int) + (2:Int)) ≤ (500:Int) ∧ (↑(Int.toNat (↑(List.length (linksU a.I c.L (rulesP b.I c.L d.L) 0 (List.length (rulesP b.I c.L d.L)))):Int)):Int) = (↑(List.length (linksU a.I c.L (rulesP b.I c.L d.L) 0 (List.length (rulesP b.I c.L d.L)))):Int) ∧ (↑(List.length (linksU a.I c.L (rulesP b.I c.L d.L) 0 (List.length (rulesP b.I c.L d.L)))):Int) + (IntKind.i64.wrap ((c.L.length:Int) + (2:Int)) - (0:Int)) ≤ (5500:Int))) (T.need (decide ((0:Int) ≤ IntKind.i64.wrap ((c.L.length:Int) + (2:Int)) ∧ IntKind.i64.wrap ((c.L.length:Int) + (2:Int)) = IntKind.i64.wrap ((c.L.length:Int) + (2:Int)) ∧ IntKind.i64.wrap ((c.L.length:Int) + (2:Int)) ≤ (2:Int) ^ 40 ∧ (↑Try.prog.types[3].bytes:Int) * IntKind.i64.wrap ((c.L.length:Int) + (2:Int)) ≤ (2:Int) ^ 46)) (T.need (decide ((0:Int) ≤ (1:Int) ∧ (1:Int) ≤ (↑(List.length (List.replicate (Int.toNat (IntKind.i64.wrap ((c.L.length:Int) + (2:Int)))) [D.i 0])):Int))) (T.need (decide (Int.toNat (1:Int) + (List.length (List.replicate (Int.toNat (IntKind.i64.wrap ((c.L.length:Int) + (2:Int)))) [D.i 0]) - Int.toNat (1:Int)) ≤ List.length (List.replicate (Int.toNat (IntKind.i64.wrap ((c.L.length:Int) + (2:Int)))) [D.i 0]))) (T.need (decide (Int.toNat (↑(List.length (linksU a.I c.L (rulesP b.I c.L d.L) 0 (List.length (rulesP b.I c.L d.L)) ++ extraF (Int.toNat (0:Int)) (Int.toNat (IntKind.i64.wrap ((c.L.length:Int) + (2:Int)) - (0:Int))))):Int) ≤ List.length (linksU a.I c.L (rulesP b.I c.L d.L) 0 (List.length (rulesP b.I c.L d.L)) ++ extraF (Int.toNat (0:Int)) (Int.toNat (IntKind.i64.wrap ((c.L.length:Int) + (2:Int)) - (0:Int)))))) (T.need (yes (goodL (IntKind.i64.wrap ((c.L.length:Int) + (2:Int))) (List.take (Int.toNat (↑(List.length (linksU a.I c.L (rulesP b.I c.L d.L) 0 (List.length (rulesP b.I c.L d.L)) ++ extraF (Int.toNat (0:Int)) (Int.toNat (IntKind.i64.wrap ((c.L.length:Int) + (2:Int)) - (0:Int))))):Int)) (linksU a.I c.L (rulesP b.I c.L d.L) 0 (List.length (rulesP b.I c.L d.L)) ++ extraF (Int.toNat (0:Int)) (Int.toNat (IntKind.i64.wrap ((c.L.length:Int) + (2:Int)) - (0:Int))))) ∧ (↑(List.length (List.replicate (Int.toNat (IntKind.i64.wrap ((c.L.length:Int) + (2:Int)))) [D.i 0])):Int) = IntKind.i64.wrap ((c.L.length:Int) + (2:Int)) ∧ (↑(List.length (cpy (List.replicate (Int.toNat (IntKind.i64.wrap ((c.L.length:Int) + (2:Int)))) [D.i 0]) [] (Int.toNat (1:Int)) (List.length (List.replicate (Int.toNat (IntKind.i64.wrap ((c.L.length:Int) + (2:Int)))) [D.i 0]) - Int.toNat (1:Int)))):Int) = IntKind.i64.wrap ((c.L.length:Int) + (2:Int)) ∧ bndR (cpy (List.replicate (Int.toNat (IntKind.i64.wrap ((c.L.length:Int) + (2:Int)))) [D.i 0]) [] (Int.toNat (1:Int)) (List.length (List.replicate (Int.toNat (IntKind.i64.wrap ((c.L.length:Int) + (2:Int)))) [D.i 0]) - Int.toNat (1:Int))) (1099511627776:Int))) (T.ite (decide ((pushR (IntKind.i64.wrap ((c.L.length:Int) + (2:Int))) (List.take (Int.toNat (↑(List.length (linksU a.I c.L (rulesP b.I c.L d.L) 0 (List.length (rulesP b.I c.L d.L)) ++ extraF (Int.toNat (0:Int)) (Int.toNat (IntKind.i64.wrap ((c.L.length:Int) + (2:Int)) - (0:Int))))):Int)) (linksU a.I c.L (rulesP b.I c.L d.L) 0 (List.length (rulesP b.I c.L d.L)) ++ extraF (Int.toNat (0:Int)) (Int.toNat (IntKind.i64.wrap ((c.L.length:Int) + (2:Int)) - (0:Int))))) (cpy (List.replicate (Int.toNat (IntKind.i64.wrap ((c.L.length:Int) + (2:Int)))) [D.i 0]) [] (Int.toNat (1:Int)) (List.length (List.replicate (Int.toNat (IntKind.i64.wrap ((c.L.length:Int) + (2:Int)))) [D.i 0]) - Int.toNat (1:Int)))).snd.snd ≥ (0:Int))) (T.leaf [D.i 0,D.b false]) (T.need (decide ((0:Int) ≤ (0:Int) ∧ (0:Int) < (↑(List.length (List.replicate (Int.toNat (IntKind.i64.wrap ((c.L.length:Int) + (2:Int)))) [D.i 0])):Int))) (T.need (decide (Int.toNat (0:Int) < List.length (pushR (IntKind.i64.wrap ((c.L.length:Int) + (2:Int))) (List.take (Int.toNat (↑(List.length (linksU a.I c.L (rulesP b.I c.L d.L) 0 (List.length (rulesP b.I c.L d.L)) ++ extraF (Int.toNat (0:Int)) (Int.toNat (IntKind.i64.wrap ((c.L.length:Int) + (2:Int)) - (0:Int))))):Int)) (linksU a.I c.L (rulesP b.I c.L d.L) 0 (List.length (rulesP b.I c.L d.L)) ++ extraF (Int.toNat (0:Int)) (Int.toNat (IntKind.i64.wrap ((c.L.length:Int) + (2:Int)) - (0:Int))))) (cpy (List.replicate (Int.toNat (IntKind.i64.wrap ((c.L.length:Int) + (2:Int)))) [D.i 0]) [] (Int.toNat (1:Int)) (List.length (List.replicate (Int.toNat (IntKind.i64.wrap ((c.L.length:Int) + (2:Int)))) [D.i 0]) - Int.toNat (1:Int)))).fst)) (T.ite (D.I (List.getD (List.getD (pushR (IntKind.i64.wrap ((c.L.length:Int) + (2:Int))) (List.take (Int.toNat (↑(List.length (linksU a.I c.L (rulesP b.I c.L d.L) 0 (List.length (rulesP b.I c.L d.L)) ++ extraF (Int.toNat (0:Int)) (Int.toNat (IntKind.i64.wrap ((c.L.length:Int) + (2:Int)) - (0:Int))))):Int)) (linksU a.I c.L (rulesP b.I c.L d.L) 0 (List.length (rulesP b.I c.L d.L)) ++ extraF (Int.toNat (0:Int)) (Int.toNat (IntKind.i64.wrap ((c.L.length:Int) + (2:Int)) - (0:Int))))) (cpy (List.replicate (Int.toNat (IntKind.i64.wrap ((c.L.length:Int) + (2:Int)))) [D.i 0]) [] (Int.toNat (1:Int)) (List.length (List.replicate (Int.toNat (IntKind.i64.wrap ((c.L.length:Int) + (2:Int)))) [D.i 0]) - Int.toNat (1:Int)))).fst (Int.toNat (0:Int)) []) 0 default) != (0:Int)) (T.leaf [D.i 0,D.b false]) (T.need (decide ((0:Int) ≤ (1:Int) ∧ (1:Int) ≤ (↑(List.length (List.replicate (Int.toNat (IntKind.i64.wrap ((c.L.length:Int) + (2:Int)))) [D.i 0])):Int))) (T.leaf [D.i 1,D.i 1,D.i (↑(List.length (List.replicate (Int.toNat (IntKind.i64.wrap ((c.L.length:Int) + (2:Int)))) [D.i 0]) - Int.toNat (1:Int)):Int),D.b true,D.l (pushR (IntKind.i64.wrap ((c.L.length:Int) + (2:Int))) (List.take (Int.toNat (↑(List.length (linksU a.I c.L (rulesP b.I c.L d.L) 0 (List.length (rulesP b.I c.L d.L)) ++ extraF (Int.toNat (0:Int)) (Int.toNat (IntKind.i64.wrap ((c.L.length:Int) + (2:Int)) - (0:Int))))):Int)) (linksU a.I c.L (rulesP b.I c.L d.L) 0 (List.length (rulesP b.I c.L d.L)) ++ extraF (Int.toNat (0:Int)) (Int.toNat (IntKind.i64.wrap ((c.L.length:Int) + (2:Int)) - (0:Int))))) (cpy (List.replicate (Int.toNat (IntKind.i64.wrap ((c.L.length:Int) + (2:Int)))) [D.i 0]) [] (Int.toNat (1:Int)) (List.length (List.replicate (Int.toNat (IntKind.i64.wrap ((c.L.length:Int) + (2:Int)))) [D.i 0]) - Int.toNat (1:Int)))).fst])))))))))))) (T.ite true (T.leaf [D.i 0,D.b false]) (T.leaf [D.i 0,D.b false])))):=by kernel_rfl
theorem t71_4_0 (a b c d e f g h i:D):roundTK C tab71 71 (loopOf C.P 71 4) 3 l71_4 [.i 0,a,b,c,d,e,f,g,h,i] =
 T.ite (decide (c.I < b.I)) (T.need (decide ((0:Int) ≤ c.I ∧ c.I < (a.I.toNat:Int))) (T.need (decide (c.I.toNat < i.L.length)) (T.ite (decide (D.I (List.getD (List.getD (D.L (List.getD (List.getD i.L c.I.toNat []) 0 default)) 0 []) 0 default) = (↑0:Int))) (T.need true (T.ite false (T.leaf (Rd.again [D.i 0,D.i (a.I.toNat:Int),D.i b.I,D.i (IntKind.i64.wrap (c.I + (1:Int))),D.i d.I,D.i e.I,D.l f.L,D.b g.B,D.i h.I,D.l i.L])) (T.need true (T.leaf (Rd.again [D.i 1,D.i (a.I.toNat:Int),D.i b.I,D.i (IntKind.i64.wrap (c.I + (1:Int))),D.i d.I,D.i e.I,D.l f.L,D.b g.B,D.i h.I,D.i 1,D.l i.L,D.l [[D.i 0,D.i 1,D.i (D.I (List.getD (List.getD (D.L (List.getD (List.getD i.L c.I.toNat []) 0 default)) 0 []) 1 default))]]]))))) (T.ite (decide (D.I (List.getD (List.getD (D.L (List.getD (List.getD i.L c.I.toNat []) 0 default)) 0 []) 0 default) = (↑(0 + 1):Int))) (T.need (yes (planB d.I e.I f.L = true ∧ (1:Int) ≤ D.I (List.getD (List.getD (D.L (List.getD (List.getD i.L c.I.toNat []) 0 default)) 0 []) 1 default) ∧ D.I (List.getD (List.getD (D.L (List.getD (List.getD i.L c.I.toNat []) 0 default)) 0 []) 1 default) ≤ (f.L.length:Int))) (T.need true (T.ite false (T.leaf (Rd.again [D.i 0,D.i (a.I.toNat:Int),D.i b.I,D.i (IntKind.i64.wrap (c.I + (1:Int))),D.i d.I,D.i e.I,D.l f.L,D.b g.B,D.i h.I,D.l i.L])) (T.need true (T.leaf (Rd.again [D.i 1,D.i (a.I.toNat:Int),D.i b.I,D.i (IntKind.i64.wrap (c.I + (1:Int))),D.i d.I,D.i e.I,D.l f.L,D.b g.B,D.i h.I,D.i 2,D.l i.L,D.l [[D.i ((↑(Int.toNat (D.I (List.getD (List.getD (D.L (List.getD (List.getD i.L c.I.toNat []) 0 default)) 0 []) 1 default) - (1:Int))):Int) + (1:Int)),D.i ((↑(Int.toNat (D.I (List.getD (List.getD (D.L (List.getD (List.getD i.L c.I.toNat []) 0 default)) 0 []) 1 default) - (1:Int))):Int) + (2:Int)),D.i (leW d.I f.L (Int.toNat (D.I (List.getD (List.getD (D.L (List.getD (List.getD i.L c.I.toNat []) 0 default)) 0 []) 1 default) - (1:Int))))],[D.i ((↑(Int.toNat (D.I (List.getD (List.getD (D.L (List.getD (List.getD i.L c.I.toNat []) 0 default)) 0 []) 1 default) - (1:Int))):Int) + (2:Int)),D.i ((↑(Int.toNat (D.I (List.getD (List.getD (D.L (List.getD (List.getD i.L c.I.toNat []) 0 default)) 0 []) 1 default) - (1:Int))):Int) + (1:Int)),D.i (-moW d.I f.L (Int.toNat (D.I (List.getD (List.getD (D.L (List.getD (List.getD i.L c.I.toNat []) 0 default)) 0 []) 1 default) - (1:Int))))]]])))))) (T.need (decide (D.I (List.getD (List.getD (D.L (List.getD (List.getD i.L c.I.toNat []) 0 default)) 0 []) 0 default) = (↑(0 + 1 + 1):Int))) (T.need (yes (planB d.I e.I f.L = true ∧ (0:Int) ≤ D.I (List.getD (List.getD (D.L (List.getD (List.getD i.L c.I.toNat []) 0 default)) 0 []) 1 default) ∧ D.I (List.getD (List.getD (D.L (List.getD (List.getD i.L c.I.toNat []) 0 default)) 0 []) 1 default) < (f.L.length:Int) ∧ winOk (D.L (List.getD (List.getD (D.L (List.getD (List.getD i.L c.I.toNat []) 0 default)) 0 []) (1 + 1) default)))) (T.ite (List.isEmpty (D.L (List.getD (List.getD (D.L (List.getD (List.getD i.L c.I.toNat []) 0 default)) 0 []) (1 + 1) default))) (T.need true (T.ite false (T.leaf (Rd.again [D.i 0,D.i (a.I.toNat:Int),D.i b.I,D.i (IntKind.i64.wrap (c.I + (1:Int))),D.i d.I,D.i e.I,D.l f.L,D.b g.B,D.i h.I,D.l i.L])) (T.need true (T.leaf (Rd.again [D.i 1,D.i (a.I.toNat:Int),D.i b.I,D.i (IntKind.i64.wrap (c.I + (1:Int))),D.i d.I,D.i e.I,D.l f.L,D.b g.B,D.i h.I,D.i 1,D.l i.L,D.l [[D.i 0,D.i (D.I (List.getD (List.getD (D.L (List.getD (List.getD i.L c.I.toNat []) 0 default)) 0 []) 1 default) + (1:Int)),D.i (ix (List.getD f.L (Int.toNat (D.I (List.getD (List.getD (D.L (List.getD (List.getD i.L c.I.toNat []) 0 default)) 0 []) 1 default))) []) 1)]]]))))) (T.ite (decide (ix (List.getD f.L (Int.toNat (D.I (List.getD (List.getD (D.L (List.getD (List.getD i.L c.I.toNat []) 0 default)) 0 []) 1 default))) []) 1 + busyF d.I (List.getD f.L (Int.toNat (D.I (List.getD (List.getD (D.L (List.getD (List.getD i.L c.I.toNat []) 0 default)) 0 []) 1 default))) []) > ix (List.getD (D.L (List.getD (List.getD (D.L (List.getD (List.getD i.L c.I.toNat []) 0 default)) 0 []) (1 + 1) default)) 0 []) 2)) (T.leaf (Rd.out (Ex.pan 204) [D.i d.I,D.i e.I,D.l f.L,D.b g.B])) (T.need true (T.ite false (T.leaf (Rd.again [D.i 0,D.i (a.I.toNat:Int),D.i b.I,D.i (IntKind.i64.wrap (c.I + (1:Int))),D.i d.I,D.i e.I,D.l f.L,D.b g.B,D.i h.I,D.l i.L])) (T.need true (T.leaf (Rd.again [D.i 1,D.i (a.I.toNat:Int),D.i b.I,D.i (IntKind.i64.wrap (c.I + (1:Int))),D.i d.I,D.i e.I,D.l f.L,D.b g.B,D.i h.I,D.i 2,D.l i.L,D.l [[D.i 0,D.i (D.I (List.getD (List.getD (D.L (List.getD (List.getD i.L c.I.toNat []) 0 default)) 0 []) 1 default) + (1:Int)),D.i (ix (List.getD f.L (Int.toNat (D.I (List.getD (List.getD (D.L (List.getD (List.getD i.L c.I.toNat []) 0 default)) 0 []) 1 default))) []) 1 + ix (List.getD (D.L (List.getD (List.getD (D.L (List.getD (List.getD i.L c.I.toNat []) 0 default)) 0 []) (1 + 1) default)) 0 []) 0)],[D.i (D.I (List.getD (List.getD (D.L (List.getD (List.getD i.L c.I.toNat []) 0 default)) 0 []) 1 default) + (1:Int)),D.i 0,D.i (busyF d.I (List.getD f.L (Int.toNat (D.I (List.getD (List.getD (D.L (List.getD (List.getD i.L c.I.toNat []) 0 default)) 0 []) 1 default))) []) - ix (List.getD (D.L (List.getD (List.getD (D.L (List.getD (List.getD i.L c.I.toNat []) 0 default)) 0 []) (1 + 1) default)) 0 []) 1)]]]))))))))))))) (T.leaf (Rd.out (Ex.exit 0) [D.i 0,D.i d.I,D.i e.I,D.l f.L,D.b g.B,D.i h.I])):=by kernel_rfl
theorem t71_4_1 (a b c d e f g h i j k:D):roundTK C tab71 71 (loopOf C.P 71 4) 3 l71_4 [.i 1,a,b,c,d,e,f,g,h,i,j,k] =
 T.ite (decide (c.I < b.I)) (T.need (decide ((0:Int) ≤ c.I ∧ c.I < (a.I.toNat:Int))) (T.need (decide (c.I.toNat < j.L.length)) (T.ite (decide (D.I (List.getD (List.getD (D.L (List.getD (List.getD j.L c.I.toNat []) 0 default)) 0 []) 0 default) = (↑0:Int))) (T.need true (T.ite false (T.leaf (Rd.again [D.i 1,D.i (a.I.toNat:Int),D.i b.I,D.i (IntKind.i64.wrap (c.I + (1:Int))),D.i d.I,D.i e.I,D.l f.L,D.b g.B,D.i h.I,D.i (i.I.toNat:Int),D.l j.L,D.l k.L])) (T.need (decide (i.I.toNat ≤ k.L.length ∧ i.I.toNat + 1 ≤ 2 ^ 62 ∧ (i.I.toNat + 1) * Try.prog.types[139].bytes ≤ 2 ^ 47)) (T.leaf (Rd.again [D.i 1,D.i (a.I.toNat:Int),D.i b.I,D.i (IntKind.i64.wrap (c.I + (1:Int))),D.i d.I,D.i e.I,D.l f.L,D.b g.B,D.i h.I,D.i (↑(i.I.toNat + 1):Int),D.l j.L,D.l (List.take i.I.toNat k.L ++ List.take (Int.toNat (1:Int)) [lk3 (0:Int) (1:Int) (D.I (List.getD (List.getD (D.L (List.getD (List.getD j.L c.I.toNat []) 0 default)) 0 []) 1 default))])]))))) (T.ite (decide (D.I (List.getD (List.getD (D.L (List.getD (List.getD j.L c.I.toNat []) 0 default)) 0 []) 0 default) = (↑(0 + 1):Int))) (T.need (yes (planB d.I e.I f.L = true ∧ (1:Int) ≤ D.I (List.getD (List.getD (D.L (List.getD (List.getD j.L c.I.toNat []) 0 default)) 0 []) 1 default) ∧ D.I (List.getD (List.getD (D.L (List.getD (List.getD j.L c.I.toNat []) 0 default)) 0 []) 1 default) ≤ (f.L.length:Int))) (T.need true (T.ite false (T.leaf (Rd.again [D.i 1,D.i (a.I.toNat:Int),D.i b.I,D.i (IntKind.i64.wrap (c.I + (1:Int))),D.i d.I,D.i e.I,D.l f.L,D.b g.B,D.i h.I,D.i (i.I.toNat:Int),D.l j.L,D.l k.L])) (T.need (decide (i.I.toNat ≤ k.L.length ∧ i.I.toNat + 2 ≤ 2 ^ 62 ∧ (i.I.toNat + 2) * Try.prog.types[139].bytes ≤ 2 ^ 47)) (T.leaf (Rd.again [D.i 1,D.i (a.I.toNat:Int),D.i b.I,D.i (IntKind.i64.wrap (c.I + (1:Int))),D.i d.I,D.i e.I,D.l f.L,D.b g.B,D.i h.I,D.i (↑(i.I.toNat + 2):Int),D.l j.L,D.l (List.take i.I.toNat k.L ++ List.take (Int.toNat (2:Int)) (afterL d.I f.L (Int.toNat (D.I (List.getD (List.getD (D.L (List.getD (List.getD j.L c.I.toNat []) 0 default)) 0 []) 1 default) - (1:Int)))))])))))) (T.need (decide (D.I (List.getD (List.getD (D.L (List.getD (List.getD j.L c.I.toNat []) 0 default)) 0 []) 0 default) = (↑(0 + 1 + 1):Int))) (T.need (yes (planB d.I e.I f.L = true ∧ (0:Int) ≤ D.I (List.getD (List.getD (D.L (List.getD (List.getD j.L c.I.toNat []) 0 default)) 0 []) 1 default) ∧ D.I (List.getD (List.getD (D.L (List.getD (List.getD j.L c.I.toNat []) 0 default)) 0 []) 1 default) < (f.L.length:Int) ∧ winOk (D.L (List.getD (List.getD (D.L (List.getD (List.getD j.L c.I.toNat []) 0 default)) 0 []) (1 + 1) default)))) (T.ite (List.isEmpty (D.L (List.getD (List.getD (D.L (List.getD (List.getD j.L c.I.toNat []) 0 default)) 0 []) (1 + 1) default))) (T.need true (T.ite false (T.leaf (Rd.again [D.i 1,D.i (a.I.toNat:Int),D.i b.I,D.i (IntKind.i64.wrap (c.I + (1:Int))),D.i d.I,D.i e.I,D.l f.L,D.b g.B,D.i h.I,D.i (i.I.toNat:Int),D.l j.L,D.l k.L])) (T.need (decide (i.I.toNat ≤ k.L.length ∧ i.I.toNat + 1 ≤ 2 ^ 62 ∧ (i.I.toNat + 1) * Try.prog.types[139].bytes ≤ 2 ^ 47)) (T.leaf (Rd.again [D.i 1,D.i (a.I.toNat:Int),D.i b.I,D.i (IntKind.i64.wrap (c.I + (1:Int))),D.i d.I,D.i e.I,D.l f.L,D.b g.B,D.i h.I,D.i (↑(i.I.toNat + 1):Int),D.l j.L,D.l (List.take i.I.toNat k.L ++ List.take (Int.toNat (1:Int)) [lk3 (0:Int) (D.I (List.getD (List.getD (D.L (List.getD (List.getD j.L c.I.toNat []) 0 default)) 0 []) 1 default) + (1:Int)) (ix (List.getD f.L (Int.toNat (D.I (List.getD (List.getD (D.L (List.getD (List.getD j.L c.I.toNat []) 0 default)) 0 []) 1 default))) []) 1)])]))))) (T.ite (decide (ix (List.getD f.L (Int.toNat (D.I (List.getD (List.getD (D.L (List.getD (List.getD j.L c.I.toNat []) 0 default)) 0 []) 1 default))) []) 1 + busyF d.I (List.getD f.L (Int.toNat (D.I (List.getD (List.getD (D.L (List.getD (List.getD j.L c.I.toNat []) 0 default)) 0 []) 1 default))) []) > ix (List.getD (D.L (List.getD (List.getD (D.L (List.getD (List.getD j.L c.I.toNat []) 0 default)) 0 []) (1 + 1) default)) 0 []) 2)) (T.leaf (Rd.out (Ex.pan 204) [D.i d.I,D.i e.I,D.l f.L,D.b g.B])) (T.need true (T.ite false (T.leaf (Rd.again [D.i 1,D.i (a.I.toNat:Int),D.i b.I,D.i (IntKind.i64.wrap (c.I + (1:Int))),D.i d.I,D.i e.I,D.l f.L,D.b g.B,D.i h.I,D.i (i.I.toNat:Int),D.l j.L,D.l k.L])) (T.need (decide (i.I.toNat ≤ k.L.length ∧ i.I.toNat + 2 ≤ 2 ^ 62 ∧ (i.I.toNat + 2) * Try.prog.types[139].bytes ≤ 2 ^ 47)) (T.leaf (Rd.again [D.i 1,D.i (a.I.toNat:Int),D.i b.I,D.i (IntKind.i64.wrap (c.I + (1:Int))),D.i d.I,D.i e.I,D.l f.L,D.b g.B,D.i h.I,D.i (↑(i.I.toNat + 2):Int),D.l j.L,D.l (List.take i.I.toNat k.L ++ List.take (Int.toNat (2:Int)) [lk3 (0:Int) (D.I (List.getD (List.getD (D.L (List.getD (List.getD j.L c.I.toNat []) 0 default)) 0 []) 1 default) + (1:Int)) (ix (List.getD f.L (Int.toNat (D.I (List.getD (List.getD (D.L (List.getD (List.getD j.L c.I.toNat []) 0 default)) 0 []) 1 default))) []) 1 + ix (List.getD (D.L (List.getD (List.getD (D.L (List.getD (List.getD j.L c.I.toNat []) 0 default)) 0 []) (1 + 1) default)) 0 []) 0),lk3 (D.I (List.getD (List.getD (D.L (List.getD (List.getD j.L c.I.toNat []) 0 default)) 0 []) 1 default) + (1:Int)) (0:Int) (busyF d.I (List.getD f.L (Int.toNat (D.I (List.getD (List.getD (D.L (List.getD (List.getD j.L c.I.toNat []) 0 default)) 0 []) 1 default))) []) - ix (List.getD (D.L (List.getD (List.getD (D.L (List.getD (List.getD j.L c.I.toNat []) 0 default)) 0 []) (1 + 1) default)) 0 []) 1)])]))))))))))))) (T.leaf (Rd.out (Ex.exit 0) [D.i 1,D.i d.I,D.i e.I,D.l f.L,D.b g.B,D.i h.I,D.i (i.I.toNat:Int),D.l k.L])):=by kernel_rfl
theorem t71_9_1 (a b c d e f g h i:D):roundTK C tab71 71 (loopOf C.P 71 9) 3 l71_9 [.i 1,a,b,c,d,e,f,g,h,i] =
 T.ite (decide (b.I < a.I)) (T.need true (T.ite false (T.leaf (Rd.again [D.i 1,D.i a.I,D.i (IntKind.i64.wrap (b.I + (1:Int))),D.i c.I,D.i d.I,D.l e.L,D.b f.B,D.i g.I,D.i (h.I.toNat:Int),D.l i.L])) (T.need (decide (h.I.toNat ≤ i.L.length ∧ h.I.toNat + 1 ≤ 2 ^ 62 ∧ (h.I.toNat + 1) * Try.prog.types[139].bytes ≤ 2 ^ 47)) (T.leaf (Rd.again [D.i 1,D.i a.I,D.i (IntKind.i64.wrap (b.I + (1:Int))),D.i c.I,D.i d.I,D.l e.L,D.b f.B,D.i g.I,D.i (↑(h.I.toNat + 1):Int),D.l (List.take h.I.toNat i.L ++ List.take (List.length [[D.i 0,D.i b.I,D.i 0]]) [[D.i 0,D.i b.I,D.i 0]])]))))) (T.leaf (Rd.out (Ex.exit 2) [D.i 1,D.i c.I,D.i d.I,D.l e.L,D.b f.B,D.i g.I,D.i (h.I.toNat:Int),D.l i.L])):=by kernel_rfl
theorem t72 (a b c d e f g:D):fnTW C tab72 72 s72 [a,b,c,d,e,f,g] =
 T.need (yes (d.L ≠ [] ∧ d.L.length ≤ 1073741824)) (T.need (yes ((↑0:Int) = (0:Int) ∧ planB a.I b.I c.L = true ∧ (e.I.toNat:Int) = (1:Int) ∧ (f.I.toNat:Int) = (c.L.length:Int) + (1:Int) ∧ c.L = c.L ∧ (c.L.length:Int) = (c.L.length:Int) ∧ (0:Int) = (0:Int) ∧ duOK c.L g.L ∧ (e.I.toNat:Int) = (1:Int) ∧ (f.I.toNat:Int) = (c.L.length:Int) + (1:Int) ∧ (↑(Int.toNat (d.L.length:Int)):Int) = (d.L.length:Int))) (T.leaf [D.i 1,D.i (↑(Int.toNat (↑(c.L.length + 1):Int)):Int),D.i (↑(Int.toNat (c.L.length:Int)):Int),D.i (↑(Int.toNat (c.L.length:Int)):Int),D.i (↑(Int.toNat (d.L.length:Int)):Int),D.l g.L,D.l (rowF (clG c.L (duF g.L)) 0 c.L.length),D.l (rowF (opG a.I c.L (duF g.L)) 0 c.L.length),D.l d.L])):=by kernel_rfl
theorem t72_3_0 (a b c d e f g h i j k l m:D):roundTK C tab72 72 (loopOf C.P 72 3) 1 l72_3 [.i 0,a,b,c,d,e,f,g,h,i,j,k,l,m] =
 T.ite (decide (e.I < d.I)) (T.need (decide ((0:Int) ≤ e.I ∧ e.I < (c.L.length:Int))) (T.need (decide ((0:Int) ≤ e.I ∧ e.I < (b.I.toNat:Int))) (T.need (decide (a.I.toNat + e.I.toNat < f.L.length)) (T.need true (T.ite false (T.need (decide ((0:Int) ≤ e.I ∧ e.I < (b.I.toNat:Int))) (T.need (decide (a.I.toNat + e.I.toNat < f.L.length)) (T.need (yes (planB g.I h.I i.L = true ∧ (0:Int) ≤ e.I ∧ e.I < (i.L.length:Int))) (T.need true (T.ite false (T.leaf (Rd.again [D.i 0,D.i (a.I.toNat:Int),D.i (b.I.toNat:Int),D.l c.L,D.i d.I,D.i (IntKind.i64.wrap (e.I + (1:Int))),D.l f.L,D.i g.I,D.i h.I,D.l i.L,D.i (j.I.toNat:Int),D.i (k.I.toNat:Int),D.i (l.I.toNat:Int),D.l m.L])) (T.need true T.fail)))))) (T.need true (T.need (decide ((0:Int) ≤ e.I ∧ e.I < (b.I.toNat:Int))) (T.need (decide (a.I.toNat + e.I.toNat < f.L.length)) (T.need (yes (planB g.I h.I i.L = true ∧ (0:Int) ≤ e.I ∧ e.I < (i.L.length:Int))) (T.need true (T.ite false T.fail (T.need true (T.leaf (Rd.again [D.i 1,D.i (a.I.toNat:Int),D.i (b.I.toNat:Int),D.l c.L,D.i d.I,D.i (IntKind.i64.wrap (e.I + (1:Int))),D.l f.L,D.i g.I,D.i h.I,D.l i.L,D.i (j.I.toNat:Int),D.i (k.I.toNat:Int),D.i 1,D.i 1,D.i (l.I.toNat:Int),D.l [[D.i (IntKind.i64.wrap (D.I (List.getD (List.getD f.L (a.I.toNat + e.I.toNat) []) 0 default) - D.I (List.getD (List.getD c.L e.I.toNat []) (0 + 1) default)))]],D.l [[D.i (IntKind.i64.wrap (D.I (List.getD (List.getD f.L (a.I.toNat + e.I.toNat) []) 0 default) + busyF g.I (List.getD i.L e.I.toNat [])))]],D.l m.L])))))))))))))) T.fail:=by kernel_rfl
theorem t72_3_1 (a b c d e f g h i j k l m n o p q:D):roundTK C tab72 72 (loopOf C.P 72 3) 1 l72_3 [.i 1,a,b,c,d,e,f,g,h,i,j,k,l,m,n,o,p,q] =
 T.ite (decide (e.I < d.I)) (T.need (decide ((0:Int) ≤ e.I ∧ e.I < (c.L.length:Int))) (T.need (decide ((0:Int) ≤ e.I ∧ e.I < (b.I.toNat:Int))) (T.need (decide (a.I.toNat + e.I.toNat < f.L.length)) (T.need true (T.ite false (T.need (decide ((0:Int) ≤ e.I ∧ e.I < (b.I.toNat:Int))) (T.need (decide (a.I.toNat + e.I.toNat < f.L.length)) (T.need (yes (planB g.I h.I i.L = true ∧ (0:Int) ≤ e.I ∧ e.I < (i.L.length:Int))) (T.need true (T.ite false (T.leaf (Rd.again [D.i 1,D.i (a.I.toNat:Int),D.i (b.I.toNat:Int),D.l c.L,D.i d.I,D.i (IntKind.i64.wrap (e.I + (1:Int))),D.l f.L,D.i g.I,D.i h.I,D.l i.L,D.i (j.I.toNat:Int),D.i (k.I.toNat:Int),D.i (l.I.toNat:Int),D.i (m.I.toNat:Int),D.i (n.I.toNat:Int),D.l o.L,D.l p.L,D.l q.L])) (T.need (decide (m.I.toNat ≤ p.L.length ∧ m.I.toNat + 1 ≤ 2 ^ 62 ∧ (m.I.toNat + 1) * Try.prog.types[3].bytes ≤ 2 ^ 47)) (T.leaf (Rd.again [D.i 1,D.i (a.I.toNat:Int),D.i (b.I.toNat:Int),D.l c.L,D.i d.I,D.i (IntKind.i64.wrap (e.I + (1:Int))),D.l f.L,D.i g.I,D.i h.I,D.l i.L,D.i (j.I.toNat:Int),D.i (k.I.toNat:Int),D.i (l.I.toNat:Int),D.i (↑(m.I.toNat + 1):Int),D.i (n.I.toNat:Int),D.l o.L,D.l (List.take m.I.toNat p.L ++ List.take (List.length [[D.i (IntKind.i64.wrap (D.I (List.getD (List.getD f.L (a.I.toNat + e.I.toNat) []) 0 default) + busyF g.I (List.getD i.L e.I.toNat [])))]]) [[D.i (IntKind.i64.wrap (D.I (List.getD (List.getD f.L (a.I.toNat + e.I.toNat) []) 0 default) + busyF g.I (List.getD i.L e.I.toNat [])))]]),D.l q.L])))))))) (T.need (decide (l.I.toNat ≤ o.L.length ∧ l.I.toNat + 1 ≤ 2 ^ 62 ∧ (l.I.toNat + 1) * Try.prog.types[3].bytes ≤ 2 ^ 47)) (T.need (decide ((0:Int) ≤ e.I ∧ e.I < (b.I.toNat:Int))) (T.need (decide (a.I.toNat + e.I.toNat < f.L.length)) (T.need (yes (planB g.I h.I i.L = true ∧ (0:Int) ≤ e.I ∧ e.I < (i.L.length:Int))) (T.need true (T.ite false (T.leaf (Rd.again [D.i 1,D.i (a.I.toNat:Int),D.i (b.I.toNat:Int),D.l c.L,D.i d.I,D.i (IntKind.i64.wrap (e.I + (1:Int))),D.l f.L,D.i g.I,D.i h.I,D.l i.L,D.i (j.I.toNat:Int),D.i (k.I.toNat:Int),D.i (↑(l.I.toNat + 1):Int),D.i (m.I.toNat:Int),D.i (n.I.toNat:Int),D.l (List.take l.I.toNat o.L ++ List.take (List.length [[D.i (IntKind.i64.wrap (D.I (List.getD (List.getD f.L (a.I.toNat + e.I.toNat) []) 0 default) - D.I (List.getD (List.getD c.L e.I.toNat []) (0 + 1) default)))]]) [[D.i (IntKind.i64.wrap (D.I (List.getD (List.getD f.L (a.I.toNat + e.I.toNat) []) 0 default) - D.I (List.getD (List.getD c.L e.I.toNat []) (0 + 1) default)))]]),D.l p.L,D.l q.L])) (T.need (decide (m.I.toNat ≤ p.L.length ∧ m.I.toNat + 1 ≤ 2 ^ 62 ∧ (m.I.toNat + 1) * Try.prog.types[3].bytes ≤ 2 ^ 47)) (T.leaf (Rd.again [D.i 1,D.i (a.I.toNat:Int),D.i (b.I.toNat:Int),D.l c.L,D.i d.I,D.i (IntKind.i64.wrap (e.I + (1:Int))),D.l f.L,D.i g.I,D.i h.I,D.l i.L,D.i (j.I.toNat:Int),D.i (k.I.toNat:Int),D.i (↑(l.I.toNat + 1):Int),D.i (↑(m.I.toNat + 1):Int),D.i (n.I.toNat:Int),D.l (List.take l.I.toNat o.L ++ List.take (List.length [[D.i (IntKind.i64.wrap (D.I (List.getD (List.getD f.L (a.I.toNat + e.I.toNat) []) 0 default) - D.I (List.getD (List.getD c.L e.I.toNat []) (0 + 1) default)))]]) [[D.i (IntKind.i64.wrap (D.I (List.getD (List.getD f.L (a.I.toNat + e.I.toNat) []) 0 default) - D.I (List.getD (List.getD c.L e.I.toNat []) (0 + 1) default)))]]),D.l (List.take m.I.toNat p.L ++ List.take (List.length [[D.i (IntKind.i64.wrap (D.I (List.getD (List.getD f.L (a.I.toNat + e.I.toNat) []) 0 default) + busyF g.I (List.getD i.L e.I.toNat [])))]]) [[D.i (IntKind.i64.wrap (D.I (List.getD (List.getD f.L (a.I.toNat + e.I.toNat) []) 0 default) + busyF g.I (List.getD i.L e.I.toNat [])))]]),D.l q.L])))))))))))))) (T.leaf (Rd.out (Ex.exit 0) [D.l f.L,D.i (j.I.toNat:Int),D.i (k.I.toNat:Int),D.i (l.I.toNat:Int),D.i (m.I.toNat:Int),D.i (n.I.toNat:Int),D.l o.L,D.l p.L,D.l q.L])):=by kernel_rfl
theorem t115 (a:D):fnT C tab115 115 s115 [a] =
 T.need (!List.isEmpty a.L) (T.ite (List.isEmpty a.L) (T.leaf [D.i 1]) (T.need (decide (a.L.length ≤ 2 ^ 62 ∧ a.L.length * Try.prog.types[3].bytes ≤ 2 ^ 47)) (T.leaf [D.i 0,D.i (a.L.length:Int),D.l a.L]))):=by kernel_rfl
set_option maxRecDepth 100000
def solD (c f:Int) (w ch:List (List D)) (d:Nat → Int):Prop:=
 f ≤ d 0 ∧ (∀ j,0 ≤ d j) ∧ ∀ j,j < w.length → d j + leW c w j ≤ d (j + 1) ∧ d (j + 1) - moW c w j ≤ d j ∧ ix (w.getD j []) 1 + fromF w ch j ≤ d j
def shiftD (d:Nat → Int):Nat → Int
 | 0=>0
 | j + 1=>d j
def endsD (c:Int) (w ch:List (List D)) (d:Nat → Int):Prop:=∀ j,j < w.length → 0 ≤ rg ch j → d j + busyF c (w.getD j []) ≤ ix (winF w ch j) 1
theorem kept_sol {u:Bool} {c f:Int} {w ch:List (List D)} {d:Nat → Int} (h0:∀ j,0 ≤ d j):(netN (nP w) (allL (nP w) (linksP u c f w ch))).kept (shiftD d) ↔ solD c f w ch d ∧ (u = true → endsD c w ch d):=by
 rw [kept_plan]
 unfold keptJ solD endsD
 simp only [shiftD,Int.zero_add]
 constructor
 ·rintro ⟨h1,h2,-⟩
  refine ⟨⟨h1,h0,fun j hj=>?_⟩,fun hu j hj hc=>?_⟩
  ·obtain ⟨a,b,c,-⟩:=h2 j hj
   exact ⟨a,b,c⟩
  ·obtain ⟨-,-,-,e⟩:=h2 j hj
   have:=e hu hc
   omega
 ·rintro ⟨⟨h1,-,h2⟩,h3⟩
  refine ⟨h1,fun j hj=>?_,fun j _=>?_⟩
  ·obtain ⟨a,b,c⟩:=h2 j hj
   exact ⟨a,b,c,fun hu hc=>by have:=h3 hu j hj hc; omega⟩
  ·cases j with
   | zero=>exact Int.le_refl _
   | succ j=>exact h0 j
theorem kept_shift {u:Bool} {c f:Int} {w ch:List (List D)} {p:Nat → Int} (h0:p 0 = 0) (h:(netN (nP w) (allL (nP w) (linksP u c f w ch))).kept p) (hn:∀ j,0 ≤ p j):solD c f w ch (fun j=>p (j + 1)) ∧ (u = true → endsD c w ch fun j=>p (j + 1)):=by
 rw [← kept_sol (fun j=>hn _)]
 rw [kept_plan] at h ⊢
 have e:∀ j,shiftD (fun j=>p (j + 1)) j = p j:=fun j=>by cases j with
  | zero=>exact h0.symm
  | succ j=>rfl
 unfold keptJ at h ⊢
 simp only [e]
 exact h
section
variable {c f:Int} {w ch:List (List D)}
theorem hours_of {l:List (List D)} (h:hours l = true) {k:Nat} (hk:k < l.length):(0 ≤ ix (l.getD k []) 0 ∧ ix (l.getD k []) 0 ≤ ix (l.getD k []) 1) ∧ ix (l.getD k []) 1 ≤ 200000 ∧ 0 ≤ ix (l.getD k []) 2 ∧ ix (l.getD k []) 2 ≤ 200000:=by
 unfold hours at h
 exact of_decide_eq_true (allFrom_iff.1 h k (Nat.zero_le _) (by omega))
theorem win_of (hp:planB c f w = true) (hc:chOK w ch) {j:Nat} (hj:j < w.length) (h0:0 ≤ rg ch j):(0 ≤ ix (winF w ch j) 0 ∧ ix (winF w ch j) 0 ≤ ix (winF w ch j) 1) ∧ ix (winF w ch j) 1 ≤ 200000 ∧ 0 ≤ ix (winF w ch j) 2 ∧ ix (winF w ch j) 2 ≤ 200000:=by
 have h1:=hc.2 j hj
 split at h1
 ·omega
 ·exact hours_of (way_of hp hj).2 (by omega)
theorem from_of (hp:planB c f w = true) (hc:chOK w ch) {j:Nat} (hj:j < w.length):0 ≤ fromF w ch j ∧ fromF w ch j ≤ 200000:=by
 unfold fromF
 split
 ·have:=win_of hp hc hj (by assumption)
  omega
 ·omega
theorem lemo_of (hp:planB c f w = true) {j:Nat} (hj:j < w.length):0 ≤ leW c w j ∧ leW c w j ≤ moW c w j ∧ moW c w j ≤ 14000:=by
 have h1:=wayC_of (way_of hp hj).1
 have h2:=span_of hp hj
 unfold leW moW
 by_cases hg:j + 1 < w.length ∧ bx (w.getD (j + 1) []) 4 = true
 ·have h3:=wayC_of (way_of hp hg.1).1
  rw [if_pos hg,if_pos hg]
  omega
 ·rw [if_neg hg,if_neg hg]
  omega
theorem busy_of (hp:planB c f w = true) {j:Nat} (hj:j < w.length):0 ≤ busyF c (w.getD j []) ∧ busyF c (w.getD j []) ≤ 14000:=by
 have h1:=wayC_of (way_of hp hj).1
 have h2:=span_of hp hj
 unfold busyF
 omega
def qD (c:Int) (w:List (List D)):Nat → Int
 | 0=>300000
 | j + 1=>if j < w.length then qD c w j + leW c w j else 300000
theorem qD_rng (hp:planB c f w = true):∀ j,300000 ≤ qD c w j ∧ qD c w j ≤ 300000 + 14000 * j
 | 0=>by simp [qD]
 | j + 1=>by
   have:=qD_rng hp j
   simp only [qD]
   split
   ·have:=lemo_of hp (j:=j) (by assumption)
    omega
   ·omega
theorem qD_sol (hp:planB c f w = true) (hc:chOK w ch):solD c f w ch (qD c w):=by
 obtain ⟨-,-,p1,p2⟩:=plan_of hp
 refine ⟨by simp only [qD]; omega,fun j=>by have:=qD_rng hp j; omega,fun j hj=>?_⟩
 have h1:=lemo_of hp hj
 have h2:=qD_rng hp j
 have h3:=from_of hp hc hj
 have h4:=wayC_of (way_of hp hj).1
 simp only [qD]
 rw [if_pos hj]
 omega
theorem len_linksF (u:Bool):∀ (k i:Nat),(linksF u c w ch i k).length ≤ 4 * k
 | 0,_=>by simp [linksF]
 | k + 1,i=>by
   have h1:=len_linksF u k (i + 1)
   have h2:(linkJ u c w ch i).length ≤ 4:=by
    unfold linkJ afterL closL
    split
    ·cases u <;> simp
    ·simp
   simp only [linksF,List.length_append]
   omega
theorem net_plan (u:Bool) (hp:planB c f w = true) (hc:chOK w ch):netP (nP w) (linksP u c f w ch):=by
 obtain ⟨p0,p1,p2,p3⟩:=plan_of hp
 have hl:=len_linksF (c:=c) (w:=w) (ch:=ch) u w.length 0
 unfold netP netOk
 simp only [Bool.and_eq_true,Lite.within_iff,decide_eq_true_eq,allFrom_iff]
 refine ⟨⟨by unfold nP; omega,by unfold linksP; simp only [List.length_cons]; omega⟩,fun i _ hi=>?_⟩
 have key : ∀ x ∈ linksP u c f w ch,linkP (nP w) (ix x 0) (ix x 1) (ix x 2) = true:=by
  have g:∀ a b y:Int,linkP (nP w) (ix (lk3 a b y) 0) (ix (lk3 a b y) 1) (ix (lk3 a b y) 2) = linkP (nP w) a b y:=fun _ _ _=>rfl
  have g2:∀ a b y:Int,(0 ≤ a ∧ a ≤ w.length + 1) → (0 ≤ b ∧ b ≤ w.length + 1) → (-1000000 ≤ y ∧ y ≤ 1000000) → linkP (nP w) a b y = true:=fun a b y h1 h2 h3=>by
   unfold linkP nP
   simp only [Bool.and_eq_true,Lite.within_iff]
   omega
  intro x hx
  unfold linksP at hx
  rw [List.mem_cons,mem_linksF] at hx
  rcases hx with rfl | ⟨j,-,hj,hx⟩
  ·rw [g]
   exact g2 _ _ _ (by omega) (by omega) (by omega)
  ·have hjl:j < w.length:=by omega
   have h1:=lemo_of hp hjl
   have h2:=busy_of hp hjl
   have h3:=wayC_of (way_of hp hjl).1
   unfold linkJ afterL closL at hx
   rw [List.mem_append,List.mem_cons,List.mem_cons] at hx
   rcases hx with (rfl | rfl | hx) | hx
   ·rw [g]; exact g2 _ _ _ (by omega) (by omega) (by omega)
   ·rw [g]; exact g2 _ _ _ (by omega) (by omega) (by omega)
   ·cases hx
   ·by_cases h0:0 ≤ rg ch j
    ·have h4:=win_of hp hc hjl h0
     rw [if_pos h0,List.mem_cons] at hx
     rcases hx with rfl | hx
     ·rw [g]; exact g2 _ _ _ (by omega) (by omega) (by omega)
     ·cases u with
      | false=>cases hx
      | true=>
        simp only [if_true,List.mem_cons,List.not_mem_nil,or_false] at hx
        subst hx
        rw [g]; exact g2 _ _ _ (by omega) (by omega) (by omega)
    ·rw [if_neg h0,List.mem_cons] at hx
     rcases hx with rfl | hx
     ·rw [g]; exact g2 _ _ _ (by omega) (by omega) (by omega)
     ·cases hx
 have:=key ((linksP u c f w ch).getD i []) (by
  have hi':i < (linksP u c f w ch).length:=by omega
  rw [List.getD_eq_getElem?_getD,List.getElem?_eq_getElem hi']
  exact List.getElem_mem hi')
 exact this
theorem shift_nn {d:Nat → Int} (h:∀ j,0 ≤ d j) (j:Nat):0 ≤ shiftD d j:=by
 cases j with
 | zero=>exact Int.le_refl _
 | succ j=>exact h j
theorem push_plan (u:Bool) (hp:planB c f w = true) (hc:chOK w ch) (hr:(pushP u c f w ch).2.2 < 0) :
    rg (pushP u c f w ch).1 0 = 0 ∧ (∀ j,0 ≤ rg (pushP u c f w ch).1 j) ∧ (pushP u c f w ch).1.length = w.length + 2 ∧ solD c f w ch (fun j=>rg (pushP u c f w ch).1 (j + 1)) ∧ (u = true → endsD c w ch fun j=>rg (pushP u c f w ch).1 (j + 1)):=by
 have hn:=net_plan u hp hc
 have h0:rg (pushP u c f w ch).1 0 = 0:=push_zero hn hr
 have h1:(∀ j,0 ≤ rg (pushP u c f w ch).1 j) ∧ (pushP u c f w ch).1.length = (nP w).toNat:=⟨fun j=>by have:=push_le (good_all hn) (len_zeros _) j; rw [rg_zeros] at this; exact this,(sim_push (good_all hn) (len_zeros _)).l1⟩
 have hk:=kept_push (good_all hn) (len_zeros _) hr
 have h2:=kept_shift h0 hk h1.1
 have h3:(pushP u c f w ch).1.length = (nP w).toNat:=h1.2
 exact ⟨h0,h1.1,by rw [h3]; unfold nP; omega,h2.1,h2.2⟩
theorem push_le_plan (u:Bool) (hp:planB c f w = true) (hc:chOK w ch) {d:Nat → Int} (hd:solD c f w ch d) (he:u = true → endsD c w ch d) :
    (pushP u c f w ch).2.2 < 0 ∧ ∀ j,rg (pushP u c f w ch).1 (j + 1) ≤ d j:=by
 have h:=push_least (net_plan u hp hc) ((kept_sol hd.2.1).2 ⟨hd,he⟩) (shift_nn hd.2.1)
 exact ⟨h.1,fun j=>h.2 (j + 1)⟩
theorem rg_dueL (c f:Int) (w ch:List (List D)) (j:Nat):rg (dueL c f w ch) j = rg (pushP false c f w ch).1 (j + 1):=by
 unfold dueL
 rw [rg_drop,Nat.add_comm]
theorem due_least (hp:planB c f w = true) (hc:chOK w ch):(dueL c f w ch).length = w.length + 1 ∧ canon (dueL c f w ch) ∧ solD c f w ch (rg (dueL c f w ch)) ∧ (∀ j,rg (dueL c f w ch) j ≤ 2000000) ∧ ∀ d,solD c f w ch d → ∀ j,rg (dueL c f w ch) j ≤ d j:=by
 have h1:=push_le_plan false hp hc (qD_sol hp hc) (fun h=>by cases h)
 have h2:=push_plan false hp hc h1.1
 have hl:(dueL c f w ch).length = w.length + 1:=by unfold dueL; rw [List.length_drop,h2.2.2.1]; rfl
 have hle:∀ d,solD c f w ch d → ∀ j,rg (dueL c f w ch) j ≤ d j:=fun d hd j=>by
  rw [rg_dueL]
  exact (push_le_plan false hp hc hd (fun h=>by cases h)).2 j
 refine ⟨hl,canon_drop (canon_push _ _) 1,?_,fun j=>?_,hle⟩
 ·have h3:=h2.2.2.2.1
  have e:rg (dueL c f w ch) = fun j=>rg (pushP false c f w ch).1 (j + 1):=funext fun j=>rg_dueL c f w ch j
  rw [e]
  exact h3
 ·by_cases hj:j < w.length + 1
  ·have h4:=hle _ (qD_sol hp hc) j
   have h5:=qD_rng hp j
   have h6:=(plan_of hp).2.1
   omega
  ·rw [rg_ge (by omega)]
   omega
theorem push_ends (hp:planB c f w = true) (hc:chOK w ch):((pushP true c f w ch).2.2 < 0 ↔ endsD c w ch (rg (dueL c f w ch))) ∧ ((pushP true c f w ch).2.2 < 0 → (pushP true c f w ch).1.drop 1 = dueL c f w ch):=by
 obtain ⟨d1,d2,d3,d4,d5⟩:=due_least (f:=f) hp hc
 have key:(pushP true c f w ch).2.2 < 0 → endsD c w ch (rg (dueL c f w ch)):=fun hr=>by
  obtain ⟨e1,e2,e3,e4,e5⟩:=push_plan true hp hc hr
  intro j hj h0
  have h1:=e5 rfl j hj h0
  have h2:=d5 _ e4 j
  simp only at h1 h2
  omega
 refine ⟨⟨key,fun he=>(push_le_plan true hp hc d3 (fun _=>he)).1⟩,fun hr=>?_⟩
 obtain ⟨e1,e2,e3,e4,e5⟩:=push_plan true hp hc hr
 refine canon_ext (canon_drop (canon_push _ _) 1) d2 (by rw [List.length_drop,e3,d1]; rfl) fun j _=>?_
 rw [rg_drop,Nat.add_comm]
 have h1:=(push_le_plan true hp hc d3 (fun _=>key hr)).2 j
 have h2:=d5 _ e4 j
 omega
end
set_option maxRecDepth 100000
theorem rD_def (l:List (List D)) (k:Nat):(lx (l.getD k []) 0).getD 0 [] = rD l k:=rfl
theorem all_cons {p:Nat → Bool} {k n:Nat} (h:k < n):allFrom p k (n - k) = (p k && allFrom p (k + 1) (n - (k + 1))):=by
 rw [show n - k = (n - (k + 1)) + 1 by omega]
 rfl
theorem ok71_4 (n:Nat):LoopSimK C (n + 2) 3 71 (loopOf C.P 71 4) (mkLK 3 l71_4 G71_4):=by
 refine loop_ofK hC (sp:=sp71) (lp:=lp71) (sw:=sw71) ⟨ok163 n,ok166 n,ok167 n,trivial⟩ ⟨ok113 (n + 1),ok114 (n + 1),trivial⟩ 3 [] (by kernel_rfl) rfl (fun k hk=>by cases hk) (by kernel_rfl) (fun ds=>((ds.getD 2 default).I - (ds.getD 3 default).I).toNat) fun ds rr h=>?_
 unfold G71_4 at h
 split at h
 ·rename_i hd nn m i c f w ok z l
  obtain ⟨hp,h⟩:=need_some h
  rw [yes_iff] at hp
  obtain ⟨e0,hp,hv,hn,hm,hi,hl0⟩:=hp
  have hb:=big_eq
  have hl:=hv.1
  refine ⟨by rw [fuelC]; simp; omega,?_⟩
  rw [roundTK_head (j:=hd) (n:=0) e0 (by decide),show roundTK C (mkTab sp71 lp71 sw71) 71 (loopOf C.P 71 4) 3 l71_4 [.i 0,nn,m,i,c,f,w,ok,z,l] = _ from t71_4_0 nn m i c f w ok z l]
  have hx:=hv.2 0 hl0
  have e1:allFrom (rulesK c.I w.L l.L) 0 l.L.length = (ruleK c.I w.L (rD l.L 0) && allFrom (rulesK c.I w.L l.L) 1 (l.L.length - 1)):=all_cons (p:=rulesK c.I w.L l.L) (k:=0) hl0
  have e2:linksU c.I w.L l.L 0 l.L.length = ruleL c.I w.L (rD l.L 0) ++ linksU c.I w.L l.L 1 (l.L.length - 1):=by
   obtain ⟨q,hq⟩:∃ q,l.L.length = q + 1:=⟨l.L.length - 1,by omega⟩
   rw [hq]
   rfl
  have w1:IntKind.i64.wrap ((0:Int) + 1) = 1:=by decide
  simp only [hi,hm,hn,Int.toNat_natCast,Int.toNat_zero,rD_def,ix_def,lx_def,Nat.reduceAdd,w1,e1,e2] at h hx ⊢
  generalize rD l.L 0 = x at h hx ⊢
  have hmu:(((l.L.length:Nat):Int) - 1).toNat < (m.I - i.I).toNat:=by omega
  have go:ruleK c.I w.L x = true → ∀ (y:List (List D)) (q:Int),q = y.length → ruleL c.I w.L x = y → y.length ≤ 2 → (G71_4 [.i 1,.i (l.L.length:Int),.i (l.L.length:Int),.i 1,.i c.I,.i f.I,.l w.L,.b ok.B,.i z.I,.i q,.l l.L,.l y]).run = some rr:=fun hk y q hq hy hy2=>by
   subst hq
   rw [hk,Bool.true_and,hy] at h
   refine (need_yes ⟨rfl,hp,hv,rfl,rfl,by simp only [I_i]; omega,by simp only [I_i,L_l]; omega,rfl,by simp only [I_i,L_l]; omega⟩).trans ?_
   exact h
  refine rd_pos (by omega) (rd_dec (by omega) (rd_dec (by omega) ?_))
  rcases hx with hx | ⟨hx,h1,h2⟩ | ⟨hx,h1,h2⟩
  ·refine rd_pos hx (rd_need rfl (rd_false rfl (rd_need rfl (rd_again (go ?_ _ _ ?_ ?_ ?_) hmu))))
   ·unfold ruleK
    exact decide_eq_true (fun hh=>by omega)
   ·rfl
   ·unfold ruleL lk3
    rw [if_pos hx]
   ·simp
  ·have hx':¬ ix x 0 = ((0:Nat):Int):=by omega
   refine rd_neg hx' (rd_pos hx (rd_yes ⟨hp,h1,h2⟩ (rd_need rfl (rd_false rfl (rd_need rfl (rd_again (go ?_ _ _ ?_ ?_ ?_) hmu))))))
   ·unfold ruleK
    exact decide_eq_true (fun hh=>by omega)
   ·rfl
   ·unfold ruleL
    rw [if_neg (by omega),if_pos hx]
    rfl
   ·simp
  ·have hx0:¬ ix x 0 = ((0:Nat):Int):=by omega
   have hx1:¬ ix x 0 = ((1:Nat):Int):=by omega
   refine rd_neg hx0 (rd_neg hx1 (rd_dec hx (rd_yes ⟨hp,h1.1,h1.2,h2⟩ ?_)))
   have hr:ruleL c.I w.L x = closO c.I w.L (ix x 1).toNat (lx x 2):=by unfold ruleL; rw [if_neg (by omega),if_neg (by omega)]
   have e3:(((ix x 1).toNat:Nat):Int) = ix x 1:=by omega
   refine rd_ite (fun hem=>?_) fun hem=>?_
   ·refine rd_need rfl (rd_false rfl (rd_need rfl (rd_again (go ?_ _ _ ?_ ?_ ?_) hmu)))
    ·unfold ruleK
     exact decide_eq_true (fun _ hh=>by rw [hem] at hh; cases hh)
    ·rfl
    ·rw [hr]
     unfold closO
     rw [if_pos hem,e3]
     rfl
    ·simp
   ·refine rd_if (fun hgt=>rd_out ?_) fun hle=>rd_need rfl (rd_false rfl (rd_need rfl (rd_again (go ?_ _ _ ?_ ?_ ?_) hmu)))
    ·have hk:ruleK c.I w.L x = false:=by
      unfold ruleK
      exact decide_eq_false (fun hh=>by have:=hh hx hem; omega)
     rw [hk,Bool.false_and] at h
     exact h
    ·unfold ruleK
     exact decide_eq_true (fun _ _=>by omega)
    ·rfl
    ·rw [hr]
     unfold closO
     rw [if_neg (by rw [hem]; exact Bool.false_ne_true),e3]
     rfl
    ·simp
 ·rename_i hd nn m i c f w ok z ll l k
  obtain ⟨hp,h⟩:=need_some h
  rw [yes_iff] at hp
  obtain ⟨e0,hp,hv,hn,hm,hi0,hi1,hll,hkl⟩:=hp
  have hb:=big_eq
  have hl:=hv.1
  refine ⟨by rw [fuelC]; simp; omega,?_⟩
  rw [roundTK_head (j:=hd) (n:=1) e0 (by decide),show roundTK C (mkTab sp71 lp71 sw71) 71 (loopOf C.P 71 4) 3 l71_4 [.i 1,nn,m,i,c,f,w,ok,z,ll,l,k] = _ from t71_4_1 nn m i c f w ok z ll l k]
  obtain ⟨j,hj⟩:∃ j:Nat,i.I = j:=⟨i.I.toNat,by omega⟩
  have t1:∀ y:List D,List.take 1 [y] = [y]:=fun _=>rfl
  have t2:∀ y z:List D,List.take 2 [y,z] = [y,z]:=fun _ _=>rfl
  have t3:∀ q:Nat,List.take 2 (afterL c.I w.L q) = afterL c.I w.L q:=fun _=>rfl
  have t4:List.take k.L.length k.L = k.L:=List.take_length
  simp only [hj,hm,hn,hll,Int.toNat_natCast,rD_def,ix_def,lx_def,Nat.reduceAdd,t4,bytes139] at h hi0 hi1 hkl ⊢
  refine rd_if (fun hlt=>?_) fun hge=>rd_out ?_
  ·have hjl:j < l.L.length:=by omega
   have hx:=hv.2 j hjl
   rw [wrap_succ (by omega)]
   have e2:linksU c.I w.L l.L j (l.L.length - j) = ruleL c.I w.L (rD l.L j) ++ linksU c.I w.L l.L (j + 1) (l.L.length - (j + 1)):=by
    rw [show l.L.length - j = (l.L.length - (j + 1)) + 1 by omega]
    rfl
   rw [all_cons hjl,e2,show rulesK c.I w.L l.L j = ruleK c.I w.L (rD l.L j) from rfl] at h
   generalize rD l.L j = x at h hx ⊢
   have hmu:(((l.L.length:Nat):Int) - ((j + 1:Nat):Int)).toNat < (m.I - i.I).toNat:=by omega
   have go:ruleK c.I w.L x = true → ∀ (y:List (List D)) (q:Int),q = ((k.L.length + y.length:Nat):Int) → ruleL c.I w.L x = y → y.length ≤ 2 → (G71_4 [.i 1,.i (l.L.length:Int),.i (l.L.length:Int),.i ((j + 1:Nat):Int),.i c.I,.i f.I,.l w.L,.b ok.B,.i z.I,.i q,.l l.L,.l (k.L ++ y)]).run = some rr:=fun hk y q hq hy hy2=>by
    subst hq
    rw [hk,Bool.true_and,hy,← List.append_assoc] at h
    refine (need_yes ⟨rfl,hp,hv,rfl,rfl,by simp only [I_i]; omega,by simp only [I_i,L_l]; omega,by simp only [I_i,L_l,List.length_append],by simp only [I_i,L_l,List.length_append]; omega⟩).trans ?_
    simp only [I_i,L_l,Int.toNat_natCast]
    exact h
   refine rd_dec (by omega) (rd_dec (by omega) ?_)
   rcases hx with hx | ⟨hx,h1,h2⟩ | ⟨hx,h1,h2⟩
   ·refine rd_pos hx (rd_need rfl (rd_false rfl (rd_dec (by omega) (rd_again (go ?_ _ _ ?_ ?_ ?_) hmu))))
    ·unfold ruleK
     exact decide_eq_true (fun hh=>by omega)
    ·rfl
    ·unfold ruleL
     rw [if_pos hx]
     rfl
    ·simp
   ·have hx':¬ ix x 0 = ((0:Nat):Int):=by omega
    refine rd_neg hx' (rd_pos hx (rd_yes ⟨hp,h1,h2⟩ (rd_need rfl (rd_false rfl (rd_dec (by omega) (rd_again (go ?_ _ _ ?_ ?_ ?_) hmu))))))
    ·unfold ruleK
     exact decide_eq_true (fun hh=>by omega)
    ·rfl
    ·unfold ruleL
     rw [if_neg (by omega),if_pos hx]
     rfl
    ·simp [afterL]
   ·have hx0:¬ ix x 0 = ((0:Nat):Int):=by omega
    have hx1:¬ ix x 0 = ((1:Nat):Int):=by omega
    refine rd_neg hx0 (rd_neg hx1 (rd_dec hx (rd_yes ⟨hp,h1.1,h1.2,h2⟩ ?_)))
    have hr:ruleL c.I w.L x = closO c.I w.L (ix x 1).toNat (lx x 2):=by unfold ruleL; rw [if_neg (by omega),if_neg (by omega)]
    have e3:(((ix x 1).toNat:Nat):Int) = ix x 1:=by omega
    refine rd_ite (fun hem=>?_) fun hem=>?_
    ·refine rd_need rfl (rd_false rfl (rd_dec (by omega) (rd_again (go ?_ _ _ ?_ ?_ ?_) hmu)))
     ·unfold ruleK
      exact decide_eq_true (fun _ hh=>by rw [hem] at hh; cases hh)
     ·rfl
     ·rw [hr]
      unfold closO
      rw [if_pos hem,e3]
      rfl
     ·simp
    ·refine rd_if (fun hgt=>rd_out ?_) fun hle=>rd_need rfl (rd_false rfl (rd_dec (by omega) (rd_again (go ?_ _ _ ?_ ?_ ?_) hmu)))
     ·have hk:ruleK c.I w.L x = false:=by
       unfold ruleK
       exact decide_eq_false (fun hh=>by have:=hh hx hem; omega)
      rw [hk,Bool.false_and] at h
      exact h
     ·unfold ruleK
      exact decide_eq_true (fun _ _=>by omega)
     ·rfl
     ·rw [hr]
      unfold closO
      rw [if_neg (by rw [hem]; exact Bool.false_ne_true),e3]
      rfl
     ·simp
  ·rw [show l.L.length - j = 0 by omega] at h
   simp only [allFrom,linksU,List.append_nil] at h
   exact h
 ·cases h
theorem ok71_9 (n:Nat):LoopSimK C (n + 2) 3 71 (loopOf C.P 71 9) (mkLK 3 l71_9 G71_9):=by
 refine loop_ofK hC (sp:=sp71) (lp:=lp71) (sw:=sw71) ⟨ok163 n,ok166 n,ok167 n,trivial⟩ ⟨ok113 (n + 1),ok114 (n + 1),trivial⟩ 3 [] (by kernel_rfl) rfl (fun k hk=>by cases hk) (by kernel_rfl) (fun ds=>((ds.getD 1 default).I - (ds.getD 2 default).I).toNat) fun ds rr h=>?_
 unfold G71_9 at h
 split at h
 ·rename_i hd m i c f w ok z ll r
  obtain ⟨hp,h⟩:=need_some h
  rw [yes_iff] at hp
  obtain ⟨e0,h1,h2,h3,h4,h5⟩:=hp
  have hb:=big_eq
  refine ⟨by rw [fuelC]; simp; omega,?_⟩
  rw [roundTK_head (j:=hd) (n:=1) e0 (by decide),show roundTK C (mkTab sp71 lp71 sw71) 71 (loopOf C.P 71 9) 3 l71_9 [.i 1,m,i,c,f,w,ok,z,ll,r] = _ from t71_9_1 m i c f w ok z ll r]
  obtain ⟨q,hq⟩:∃ q:Nat,i.I = q:=⟨i.I.toNat,by omega⟩
  have e1:[[D.i 0,D.i (q:Int),D.i 0]].take 1 = [[D.i 0,D.i (q:Int),D.i 0]]:=rfl
  simp only [hq,h4,Int.toNat_natCast,e1,List.length_cons,List.length_nil,Nat.zero_add,List.take_length,bytes139] at h h2 h5 ⊢
  refine rd_if (fun hlt=>?_) fun hge=>rd_out ?_
  ·refine rd_need rfl (rd_false rfl (rd_dec (by omega) ?_))
   rw [wrap_succ (by omega)]
   have e2:(m.I - (q:Int)).toNat = (m.I - ((q + 1:Nat):Int)).toNat + 1:=by omega
   refine rd_again ((need_yes ⟨rfl,by simp only [I_i]; omega,by simp only [I_i]; omega,h3,by simp only [I_i,L_l,List.length_append,List.length_cons,List.length_nil],by simp only [I_i,L_l,List.length_append,List.length_cons,List.length_nil]; omega⟩).trans ?_) (show (m.I - ((q + 1:Nat):Int)).toNat < (m.I - i.I).toNat by omega)
   rw [← h]
   simp only [L_l,I_i,Int.toNat_natCast,e2,extraF_snoc]
   rfl
  ·rw [← h]
   have e3:(m.I - (q:Int)).toNat = 0:=by omega
   simp only [e3,extraF,List.append_nil,run_leaf]
 ·cases h
set_option maxRecDepth 100000
theorem cpy_nil {α:Type} (l:List α) (i n:Nat):cpy l [] i n = l:=rfl
theorem rulesF_get {w ch:List (List D)}:∀ (k i q:Nat),q < k → rD (rulesF w ch i k) (2 * q) = [.i 1,.i (((i + q:Nat):Int) + 1)] ∧ rD (rulesF w ch i k) (2 * q + 1) = [.i 2,.i ((i + q:Nat):Int),.l (optF w ch (i + q))]
 | k + 1,i,0,_=>⟨rfl,rfl⟩
 | k + 1,i,q + 1,h=>by
   have:=rulesF_get (w:=w) (ch:=ch) k (i + 1) q (by omega)
   rw [show i + 1 + q = i + (q + 1) by omega] at this
   exact this
section
variable {c f:Int} {w ch:List (List D)}
theorem rule_0:rD (rulesP f w ch) 0 = [.i 0,.i f]:=rfl
theorem rule_aft {q:Nat} (h:q < w.length):rD (rulesP f w ch) (2 * q + 1) = [.i 1,.i ((q:Int) + 1)]:=by
 have:=(rulesF_get (w:=w) (ch:=ch) w.length 0 q h).1
 rw [Nat.zero_add] at this
 exact this
theorem rule_clo {q:Nat} (h:q < w.length):rD (rulesP f w ch) (2 * q + 2) = [.i 2,.i (q:Int),.l (optF w ch q)]:=by
 have:=(rulesF_get (w:=w) (ch:=ch) w.length 0 q h).2
 rw [Nat.zero_add] at this
 exact this
theorem opt_empty (q:Nat):(optF w ch q).isEmpty = !decide (0 ≤ rg ch q):=by
 unfold optF
 split
 ·rename_i h; rw [decide_eq_true h]; rfl
 ·rename_i h; rw [decide_eq_false h]; rfl
theorem ruleL_clo (q:Nat):ruleL c w [.i 2,.i (q:Int),.l (optF w ch q)] = closL true c w ch q:=by
 have e:ruleL c w [.i 2,.i (q:Int),.l (optF w ch q)] = closO c w q (optF w ch q):=rfl
 rw [e]
 unfold closO closL
 rw [opt_empty]
 by_cases h:0 ≤ rg ch q
 ·rw [if_neg (by rw [decide_eq_true h]; exact Bool.false_ne_true),if_pos h,if_pos rfl]
  unfold optF
  rw [if_pos h]
  rfl
 ·rw [if_pos (by rw [decide_eq_false h]; rfl),if_neg h]
theorem ruleK_clo (q:Nat):ruleK c w [.i 2,.i (q:Int),.l (optF w ch q)] = limJ c w ch q:=by
 have e:ruleK c w [.i 2,.i (q:Int),.l (optF w ch q)] = decide ((2:Int) = 2 → (optF w ch q).isEmpty = false → ix (w.getD q []) 1 + busyF c (w.getD q []) ≤ ix ((optF w ch q).getD 0 []) 2):=rfl
 rw [e,opt_empty]
 unfold limJ
 by_cases h:0 ≤ rg ch q
 ·have e2:ix ((optF w ch q).getD 0 []) 2 = ix (winF w ch q) 2:=by unfold optF; rw [if_pos h]; rfl
  rw [e2]
  simp [h]
 ·simp [h]
theorem links_rules:∀ (k i:Nat),i + k ≤ w.length → linksU c w (rulesP f w ch) (2 * i + 1) (2 * k) = linksF true c w ch i k
 | 0,_,_=>rfl
 | k + 1,i,h=>by
   have ih:=links_rules (k:=k) (i:=i + 1) (by omega)
   rw [show 2 * (k + 1) = 2 * k + 1 + 1 by omega]
   simp only [linksU]
   rw [show 2 * i + 1 + 1 = 2 * i + 2 by omega,rule_aft (show i < w.length by omega),rule_clo (show i < w.length by omega),ruleL_clo,show 2 * i + 2 + 1 = 2 * (i + 1) + 1 by omega,ih]
   have e:ruleL c w [.i 1,.i ((i:Int) + 1)] = afterL c w i:=by
    have:ruleL c w [.i 1,.i ((i:Int) + 1)] = afterL c w ((i:Int) + 1 - 1).toNat:=rfl
    rw [this,show ((i:Int) + 1 - 1).toNat = i by omega]
   rw [e]
   simp only [linksF,linkJ,List.append_assoc]
theorem links_plan:linksU c w (rulesP f w ch) 0 (rulesP f w ch).length = linksP true c f w ch:=by
 rw [len_rulesP]
 simp only [linksU]
 rw [show 0 + 1 = 2 * 0 + 1 by rfl,links_rules w.length 0 (by omega)]
 rfl
theorem lim_rules:∀ (k i:Nat),i + k ≤ w.length → allFrom (rulesK c w (rulesP f w ch)) (2 * i + 1) (2 * k) = allFrom (limJ c w ch) i k
 | 0,_,_=>rfl
 | k + 1,i,h=>by
   have ih:=lim_rules (k:=k) (i:=i + 1) (by omega)
   rw [show 2 * (k + 1) = 2 * k + 1 + 1 by omega]
   simp only [allFrom,rulesK]
   rw [show 2 * i + 1 + 1 = 2 * i + 2 by omega,rule_aft (show i < w.length by omega),rule_clo (show i < w.length by omega),ruleK_clo,show 2 * i + 2 + 1 = 2 * (i + 1) + 1 by omega]
   have e:ruleK c w [.i 1,.i ((i:Int) + 1)] = true:=by
    have:ruleK c w [.i 1,.i ((i:Int) + 1)] = decide ((1:Int) = 2 → (D.i 1).L.isEmpty = false → _):=rfl
    rw [this]
    exact decide_eq_true (fun h=>by omega)
   rw [e,Bool.true_and]
   rw [← ih]
theorem lim_plan:allFrom (rulesK c w (rulesP f w ch)) 0 (rulesP f w ch).length = limB c w ch:=by
 rw [len_rulesP]
 simp only [allFrom]
 rw [show 0 + 1 = 2 * 0 + 1 by rfl,lim_rules w.length 0 (by omega)]
 have e:rulesK c w (rulesP f w ch) 0 = true:=by
  unfold rulesK
  rw [rule_0]
  unfold ruleK
  exact decide_eq_true (fun h=>by
   have h:(0:Int) = 2:=h
   omega)
 rw [e,Bool.true_and]
 rfl
theorem rules_valid (hp:planB c f w = true) (hc:chOK w ch):rulesV w (rulesP f w ch):=by
 have h1:=(plan_of hp).2.1
 refine ⟨by rw [len_rulesP]; omega,fun j hj=>?_⟩
 rw [len_rulesP] at hj
 cases j with
 | zero=>exact .inl rfl
 | succ j=>
   obtain ⟨q,hq⟩:∃ q,j = 2 * q ∨ j = 2 * q + 1:=⟨j / 2,by omega⟩
   rcases hq with rfl | rfl
   ·rw [rule_aft (by omega)]
    refine .inr (.inl ⟨rfl,?_,?_⟩)
    ·show (1:Int) ≤ (q:Int) + 1
     omega
    ·show (q:Int) + 1 ≤ w.length
     omega
   ·rw [show 2 * q + 1 + 1 = 2 * q + 2 by rfl,rule_clo (by omega)]
    refine .inr (.inr ⟨rfl,⟨?_,?_⟩,fun he=>?_⟩)
    ·show (0:Int) ≤ (q:Int)
     omega
    ·show (q:Int) < w.length
     omega
    ·have he:(optF w ch q).isEmpty = false:=he
     rw [opt_empty] at he
     have h0:0 ≤ rg ch q:=by
      have:decide (0 ≤ rg ch q) = true:=by simpa using he
      exact of_decide_eq_true this
     have hw:=win_of hp hc (j:=q) (by omega) h0
     show hourB (optF w ch q) 0 = true
     unfold optF
     rw [if_pos h0]
     exact decide_eq_true hw
end
theorem ok71 (n:Nat):FnOK C (n + 3) 71 (mkF s71 G71):=by
 refine fn_ofD hC (sp:=sp71) (lp:=lp71) (sw:=sw71) ⟨ok163 n,ok166 n,ok167 n,trivial⟩ ⟨ok113 (n + 1),ok114 (n + 1),trivial⟩ (by kernel_rfl) 3 [4,9] (by kernel_rfl) (by kernel_rfl) (fun k hk L hL=>by
     simp at hk
     rcases hk with rfl | rfl <;> cases hL
     ·exact ok71_4 n
     ·exact ok71_9 n) fun ds rr h=>?_
 unfold G71 at h
 split at h
 ·rename_i c f w ch
  obtain ⟨hp,h⟩:=need_some h
  rw [yes_iff] at hp
  obtain ⟨hp,hc⟩:=hp
  refine (congrArg T.run (t71 c f w ch)).trans ?_
  obtain ⟨p0,p1,p2,p3⟩:=plan_of hp
  have hnet:=net_plan (f:=f.I) true hp hc
  have hgood:=good_all hnet
  have w2:IntKind.i64.wrap ((w.L.length:Int) + 2) = nP w.L:=wrap_id (by omega) (by omega)
  have hn:nP w.L = (w.L.length:Int) + 2:=rfl
  have hnn:(nP w.L).toNat = w.L.length + 2:=by omega
  have hll:=len_linksF (c:=c.I) (w:=w.L) (ch:=ch.L) true w.L.length 0
  have hpl:(linksP true c.I f.I w.L ch.L).length ≤ 4 * w.L.length + 1:=by unfold linksP; simp only [List.length_cons]; omega
  have e1:linksP true c.I f.I w.L ch.L ++ extraF 0 (nP w.L).toNat = allL (nP w.L) (linksP true c.I f.I w.L ch.L):=rfl
  have e2:List.replicate (nP w.L).toNat [D.i 0] = zeros (nP w.L):=rfl
  have e3:pushR (nP w.L) (allL (nP w.L) (linksP true c.I f.I w.L ch.L)) (zeros (nP w.L)) = pushP true c.I f.I w.L ch.L:=rfl
  have lz:=len_zeros (nP w.L)
  rw [hnn] at lz
  have t1:Int.toNat 1 = 1:=rfl
  simp only [lim_plan,links_plan,w2,Int.toNat_natCast,Int.toNat_zero,Int.sub_zero,List.take_length,e1,e2,e3,bytes3,rg_def,t1,lz,cpy_nil]
  refine go_yes ⟨hp,hc⟩ (go_yes ⟨by trivial,hp,rules_valid hp hc,by trivial,by trivial,by trivial,by rw [len_rulesP]; omega⟩ ?_)
  unfold duesOk at h
  refine go_ite (fun hl=>?_) fun hl=>?_
  ·rw [hl,Bool.true_and] at h
   have h1:(0:Int) ≤ 1 ∧ (1:Int) ≤ ((w.L.length + 2:Nat):Int):=by omega
   refine go_yes ⟨by trivial,by omega,by omega,by omega,by trivial,by omega⟩ (go_dec ⟨by omega,by trivial,by omega,by omega⟩ (go_dec h1 (go_dec (by omega) (go_dec (by omega) (go_yes ⟨hgood,by trivial,by omega,bnd_zeros _ (by omega)⟩ (go_if (fun hge=>?_) fun hlt=>?_))))))
   ·rw [← h,decide_eq_false (by omega)]
    rfl
   ·have hneg:(pushP true c.I f.I w.L ch.L).2.2 < 0:=by omega
    obtain ⟨q1,q2,q3,-⟩:=push_plan true hp hc hneg
    rw [decide_eq_true hneg] at h
    refine go_dec (by omega) (go_dec (by omega) (go_false ?_ (go_dec h1 ?_)))
    ·rw [q1]
     rfl
    ·rw [← h,run_ite,if_pos rfl,show w.L.length + 2 - 1 = w.L.length + 1 by omega]
  ·rw [hl,Bool.false_and] at h
   rw [← h]
   rfl
 ·cases h
theorem ok115 (n:Nat):FnOK C (n + 1) 115 (mkF s115 Gcl1):=by
 refine fn_ofS hC (sp:=sp115) (lp:=lp115) (sw:=sw115) trivial trivial (by kernel_rfl) [] (by kernel_rfl) rfl (fun k hk=>by cases hk) fun ds rr h=>?_
 unfold Gcl1 at h
 split at h
 ·rename_i l
  obtain ⟨hp,h⟩:=need_some h
  rw [yes_iff] at hp
  obtain ⟨h1,h2⟩:=hp
  refine (congrArg T.run (t115 l)).trans ?_
  have hne:l.L.isEmpty = false:=by cases hl:l.L with
   | nil=>exact absurd hl h1
   | cons c cs=>rfl
  have b3:Try.prog.types[3].bytes = 8:=by kernel_rfl
  rw [b3]
  refine go_need (by rw [hne]; rfl) (go_false hne (go_dec (by omega) h))
 ·cases h
theorem len_rowF (g:Nat → Int):∀ (k i:Nat),(rowF g i k).length = k
 | 0,_=>rfl
 | k + 1,i=>by simp only [rowF,List.length_cons,len_rowF g k (i + 1)]
theorem rowF_snoc (g:Nat → Int):∀ (k i:Nat),rowF g i k ++ [[.i (g (i + k))]] = rowF g i (k + 1)
 | 0,_=>rfl
 | k + 1,i=>by
   have:=rowF_snoc g k (i + 1)
   rw [show i + 1 + k = i + (k + 1) by omega] at this
   simp only [rowF,List.cons_append] at this ⊢
   rw [this]
theorem rowF_get (g:Nat → Int):∀ (k i j:Nat),j < k → (rowF g i k).getD j [] = [.i (g (i + j))]
 | k + 1,i,0,_=>rfl
 | k + 1,i,j + 1,h=>by
   have:=rowF_get g k (i + 1) j (by omega)
   rw [show i + 1 + j = i + (j + 1) by omega] at this
   exact this
theorem rg_rowF {g:Nat → Int} {k i j:Nat} (h:j < k):rg (rowF g i k) j = g (i + j):=by
 unfold rg
 rw [rowF_get g k i j h]
 rfl
theorem canon_rowF (g:Nat → Int) (k i:Nat):canon (rowF g i k):=by
 intro j hj
 rw [len_rowF] at hj
 rw [rowF_get g k i j hj,rg_rowF hj]
theorem rowF_ext {g g':Nat → Int}:∀ (k i:Nat),(∀ j,i ≤ j → j < i + k → g j = g' j) → rowF g i k = rowF g' i k
 | 0,_,_=>rfl
 | k + 1,i,h=>by
   simp only [rowF]
   rw [h i (Nat.le_refl _) (by omega),rowF_ext k (i + 1) (fun j h1 h2=>h j (by omega) (by omega))]
theorem rep_cons (n:Nat):zerR (n + 1) = [.i 0] :: zerR n:=rfl
theorem rowF_rep (g:Nat → Int) (i k:Nat) (v:Int) (hv:v = g i):rs (rowF g 0 i ++ zerR (k + 1)) i v = rowF g 0 (i + 1) ++ zerR k:=by
 unfold rs
 rw [List.set_append_right _ _ (by rw [len_rowF]; exact Nat.le_refl _),len_rowF,Nat.sub_self,rep_cons,List.set_cons_zero,hv]
 have:=rowF_snoc g i 0
 rw [Nat.zero_add] at this
 rw [← this,List.append_assoc]
 rfl
set_option maxRecDepth 100000
theorem rs_same {t:List (List D)} (h:canon t) (j:Nat):rs t j (rg t j) = t:=by
 by_cases hj:j < t.length
 ·refine canon_ext (canon_rs h _ _) h (len_rs _ _ _) fun i hi=>?_
  rw [rg_rs hj]
  split
  ·rename_i e; rw [e]
  ·rfl
 ·unfold rs
  exact List.set_eq_of_length_le (by omega)
section
variable {w:List (List D)}
theorem zero_eq (w:List (List D)) (j:Nat):zeroC w j = min 0 (hoursN w j - 1):=by
 unfold zeroC hoursN
 by_cases h:((lx (w.getD j []) 7).length:Int) = 0
 ·rw [if_pos h,h]; rfl
 ·rw [if_neg h]
  omega
theorem digit_of {ch:List (List D)} (hc:chOK w ch) {j:Nat} (hj:j < w.length):(hoursN w j = 0 ∧ rg ch j = -1) ∨ (0 ≤ rg ch j ∧ rg ch j < hoursN w j):=by
 have:=hc.2 j hj
 unfold hoursN
 split at this
 ·rename_i h; exact .inl ⟨by omega,this⟩
 ·exact .inr this
theorem digit_ok {ch:List (List D)} (hl:ch.length = w.length) (h:∀ j,j < w.length → (hoursN w j = 0 ∧ rg ch j = -1) ∨ (0 ≤ rg ch j ∧ rg ch j < hoursN w j)):chOK w ch:=by
 refine ⟨hl,fun j hj=>?_⟩
 have:=h j hj
 unfold hoursN at this
 split
 ·rename_i e
  rcases this with h | h
  ·exact h.2
  ·omega
 ·rcases this with h | h
  ·omega
  ·exact h
theorem zero_digit (j:Nat):(hoursN w j = 0 ∧ zeroC w j = -1) ∨ (0 ≤ zeroC w j ∧ zeroC w j < hoursN w j):=by
 unfold zeroC
 by_cases h:hoursN w j = 0
 ·rw [if_pos h]; exact .inl ⟨h,rfl⟩
 ·rw [if_neg h]
  have:0 ≤ hoursN w j:=by unfold hoursN; omega
  exact .inr ⟨Int.le_refl _,by omega⟩
theorem first_ok:carOK w (firstC w):=by
 refine ⟨digit_ok (len_rowF _ _ _) fun j hj=>?_,canon_rowF _ _ _⟩
 unfold firstC
 rw [rg_rowF hj,Nat.zero_add]
 exact zero_digit j
theorem set_ok {ch:List (List D)} (h:carOK w ch) {k:Nat} (hk:k < w.length) {v:Int} (hv:(hoursN w k = 0 ∧ v = -1) ∨ (0 ≤ v ∧ v < hoursN w k)):carOK w (rs ch k v):=by
 refine ⟨digit_ok (by rw [len_rs]; exact h.1.1) fun j hj=>?_,canon_rs h.2 _ _⟩
 rw [rg_rs (by rw [h.1.1]; exact hk)]
 split
 ·rename_i e; subst e; exact hv
 ·exact digit_of h.1 hj
theorem carry_ok:∀ (k:Nat) {ch:List (List D)},k ≤ w.length → carOK w ch → carOK w (carryF w k ch).1 ∧ -1 ≤ (carryF w k ch).2 ∧ (carryF w k ch).2 < k ∧ (0 ≤ (carryF w k ch).2 → rg (carryF w k ch).1 (carryF w k ch).2.toNat + 1 < hoursN w (carryF w k ch).2.toNat) ∧ ∀ j,k ≤ j → rg (carryF w k ch).1 j = rg ch j
 | 0,ch,_,h=>⟨h,by simp [carryF],by simp [carryF],by simp [carryF],fun _ _=>rfl⟩
 | k + 1,ch,hk,h=>by
   simp only [carryF]
   by_cases hc:rg ch k + 1 ≥ hoursN w k
   ·rw [if_pos hc]
    obtain ⟨a,b,c,d,e⟩:=carry_ok k (by omega) (set_ok h (by omega) (zero_digit (w:=w) k))
    refine ⟨a,b,by omega,d,fun j hj=>?_⟩
    rw [e j (by omega),rg_rs (by rw [h.1.1]; omega),if_neg (by omega)]
   ·rw [if_neg hc]
    exact ⟨h,by omega,by omega,fun _=>by simp only [Int.toNat_natCast]; omega,fun _ _=>rfl⟩
theorem step_ok {ch:List (List D)} (h:carOK w ch) (h0:0 ≤ (carryF w w.length ch).2):carOK w (stepC (carryF w w.length ch)):=by
 obtain ⟨a,b,c,d,e⟩:=carry_ok w.length (Nat.le_refl _) h
 have hj:(carryF w w.length ch).2.toNat < w.length:=by omega
 refine set_ok a hj ?_
 have h1:=digit_of a.1 hj
 have h2:=d h0
 rcases h1 with h1 | h1
 ·omega
 ·exact .inr ⟨by omega,h2⟩
theorem val_congr {ch ch':List (List D)}:∀ (k:Nat),(∀ j,j < k → rg ch j = rg ch' j) → valC w ch k = valC w ch' k
 | 0,_=>rfl
 | k + 1,h=>by
   simp only [valC]
   rw [val_congr k (fun j hj=>h j (by omega)),h k (by omega)]
theorem val_lt {ch:List (List D)} (hc:chOK w ch):∀ (k:Nat),k ≤ w.length → valC w ch k < prodF w k
 | 0,_=>Nat.zero_lt_one
 | k + 1,hk=>by
   have ih:=val_lt hc k (by omega)
   have hd:=digit_of hc (show k < w.length by omega)
   have hL:(max 0 (rg ch k)).toNat < (max 1 (hoursN w k)).toNat:=by omega
   simp only [valC,prodF]
   generalize (max 0 (rg ch k)).toNat = d at hL
   generalize (max 1 (hoursN w k)).toNat = L at hL ⊢
   calc valC w ch k * L + d < valC w ch k * L + L:=by omega
    _ = (valC w ch k + 1) * L:=by rw [Nat.add_mul,Nat.one_mul]
    _ ≤ prodF w k * L:=Nat.mul_le_mul_right _ ih
theorem val_carry:∀ (k:Nat) {ch:List (List D)},k ≤ w.length → carOK w ch → ((carryF w k ch).2 < 0 → valC w ch k + 1 = prodF w k) ∧ (0 ≤ (carryF w k ch).2 → valC w (stepC (carryF w k ch)) k = valC w ch k + 1)
 | 0,ch,_,h=>⟨fun _=>rfl,fun h=>by simp [carryF] at h⟩
 | k + 1,ch,hk,h=>by
   have hkl:k < w.length:=by omega
   have hd:=digit_of h.1 hkl
   by_cases hc:rg ch k + 1 ≥ hoursN w k
   ·have hset:=set_ok h hkl (zero_digit (w:=w) k)
    have hL:(max 0 (rg ch k)).toNat + 1 = (max 1 (hoursN w k)).toNat:=by omega
    have hv:valC w (rs ch k (zeroC w k)) k = valC w ch k:=val_congr k fun j hj=>by rw [rg_rs (by rw [h.1.1]; exact hkl),if_neg (by omega)]
    obtain ⟨i1,i2⟩:=val_carry k (by omega) hset
    obtain ⟨a,b,c,d,e⟩:=carry_ok k (by omega) hset
    simp only [carryF]
    rw [if_pos hc]
    simp only [valC,prodF]
    generalize (max 1 (hoursN w k)).toNat = L at hL ⊢
    refine ⟨fun hn=>?_,fun hp=>?_⟩
    ·have:=i1 hn
     rw [hv] at this
     rw [← this,Nat.add_mul,Nat.one_mul]
     omega
    ·have:=i2 hp
     rw [hv] at this
     have e1:rg (stepC (carryF w k (rs ch k (zeroC w k)))) k = zeroC w k:=by
      unfold stepC
      rw [rg_rs (by rw [a.1.1]; omega),if_neg (by omega),e k (Nat.le_refl _),rg_rs (by rw [h.1.1]; exact hkl),if_pos rfl]
     have hz:=zero_digit (w:=w) k
     have e2:(max 0 (zeroC w k)).toNat = 0:=by rw [zero_eq] at hz ⊢; omega
     rw [this,e1,e2,Nat.add_mul,Nat.one_mul]
     omega
   ·simp only [carryF]
    rw [if_neg hc]
    refine ⟨fun hn=>by simp only at hn; omega,fun _=>?_⟩
    simp only [stepC,Int.toNat_natCast,valC]
    have hv:valC w (rs ch k (rg ch k + 1)) k = valC w ch k:=val_congr k fun j hj=>by rw [rg_rs (by rw [h.1.1]; exact hkl),if_neg (by omega)]
    rw [hv,rg_rs (by rw [h.1.1]; exact hkl),if_pos rfl]
    omega
theorem rest_last {ch:List (List D)} (h:carOK w ch) (hn:(carryF w w.length ch).2 < 0):restC w ch = 1:=by
 have:=(val_carry w.length (Nat.le_refl _) h).1 hn
 unfold restC
 omega
theorem rest_step {ch:List (List D)} (h:carOK w ch) (hn:0 ≤ (carryF w w.length ch).2):restC w ch = restC w (stepC (carryF w w.length ch)) + 1:=by
 have h1:=(val_carry w.length (Nat.le_refl _) h).2 hn
 have h2:=val_lt (step_ok h hn).1 w.length (Nat.le_refl _)
 unfold restC
 omega
theorem val_first:∀ (k:Nat),k ≤ w.length → valC w (firstC w) k = 0
 | 0,_=>rfl
 | k + 1,hk=>by
   simp only [valC]
   have hz:=zero_digit (w:=w) k
   have e2:(max 0 (zeroC w k)).toNat = 0:=by rw [zero_eq] at hz ⊢; omega
   rw [val_first k (by omega)]
   unfold firstC
   rw [rg_rowF (by omega),Nat.zero_add,e2]
   omega
theorem rest_first:restC w (firstC w) = prodF w w.length:=by
 unfold restC
 rw [val_first _ (Nat.le_refl _)]
 rfl
theorem all_rest {ch:List (List D)} (h:carOK w ch):allC w (restC w ch) ch = [.i ch.length,.l ch] :: (if (carryF w w.length ch).2 < 0 then [] else allC w (restC w (stepC (carryF w w.length ch))) (stepC (carryF w w.length ch))):=by
 by_cases hn:(carryF w w.length ch).2 < 0
 ·rw [rest_last h hn]
  simp only [allC]
  rw [if_pos hn,if_pos hn]
 ·rw [rest_step h (by omega)]
  simp only [allC]
end
set_option maxRecDepth 100000
section
variable {c f:Int} {w ch:List (List D)}
theorem lim_iff:limB c w ch = true ↔ ∀ j,j < w.length → 0 ≤ rg ch j → ix (w.getD j []) 1 + busyF c (w.getD j []) ≤ ix (winF w ch j) 2:=by
 unfold limB limJ
 rw [allFrom_iff]
 constructor
 ·intro h j hj
  exact of_decide_eq_true (h j (Nat.zero_le _) (by omega))
 ·intro h j _ hj
  exact decide_eq_true (h j (by omega))
theorem timed_mk {l:List (List D)} {n:Int} (hl:(l.length:Int) = n) (h:∀ j,j < l.length → 0 ≤ rg l j ∧ rg l j ≤ 1000000000):timedB l n = true:=by
 unfold timedB
 rw [Bool.and_eq_true,decide_eq_true_eq,allFrom_iff]
 exact ⟨hl,fun j _ hj=>by unfold timeL; exact decide_eq_true (h j (by omega))⟩
theorem fits_due (hp:planB c f w = true) (hc:chOK w ch):fitsR c f w (dueL c f w ch) (clR c f w ch) (opR c f w ch) ch = duesOk c f w ch:=by
 obtain ⟨d1,d2,⟨s1,s2,s3⟩,d4,d5⟩:=due_least (f:=f) hp hc
 obtain ⟨p0,p1,p2,p3⟩:=plan_of hp
 have lc:(clR c f w ch).length = w.length:=len_rowF _ _ _
 have lo:(opR c f w ch).length = w.length:=len_rowF _ _ _
 have gc:∀ j,j < w.length → rg (clR c f w ch) j = rg (dueL c f w ch) j - ix (w.getD j []) 1:=fun j hj=>by
  unfold clR
  rw [rg_rowF hj,Nat.zero_add]
  rfl
 have go:∀ j,j < w.length → rg (opR c f w ch) j = rg (dueL c f w ch) j + busyF c (w.getD j []):=fun j hj=>by
  unfold opR
  rw [rg_rowF hj,Nat.zero_add]
  rfl
 have hfit:fitH f (dueL c f w ch) (clR c f w ch) (opR c f w ch) ch w.length = true:=by
  unfold fitH
  rw [timed_mk (by rw [d1]; rfl) (fun j _=>⟨s2 j,by have:=d4 j; omega⟩),timed_mk (by rw [lc]) (fun j hj=>by
   rw [lc] at hj
   rw [gc j hj]
   have a:=s3 j hj
   have b:=wayC_of (way_of hp hj).1
   have e:=from_of hp hc hj
   have g:=d4 j
   omega),timed_mk (by rw [lo]) (fun j hj=>by
   rw [lo] at hj
   rw [go j hj]
   have a:=s2 j
   have b:=busy_of hp hj
   have g:=d4 j
   omega)]
  simp only [Bool.true_and,decide_eq_true_eq]
  exact ⟨hc.1,s1⟩
 have hnext:allFrom (nextR c w (dueL c f w ch)) 0 (w.length + 1) = true:=by
  rw [allFrom_iff]
  intro j _ hj
  cases j with
  | zero=>rfl
  | succ j=>
    have hjl:j < w.length:=by omega
    obtain ⟨a,b,-⟩:=s3 j hjl
    show nextB c w (dueL c f w ch) j = true
    unfold nextB
    unfold leW at a
    unfold moW at b
    by_cases hg:j + 1 < w.length ∧ bx (w.getD (j + 1) []) 4 = true
    ·rw [if_pos hg] at a b ⊢
     exact decide_eq_true (by omega)
    ·rw [if_neg hg] at a b ⊢
     exact decide_eq_true (by omega)
 have hrest:allFrom (restB c w (dueL c f w ch) (clR c f w ch) (opR c f w ch) ch) 0 w.length = duesOk c f w ch:=by
  rw [Bool.eq_iff_iff,allFrom_iff]
  unfold duesOk
  rw [Bool.and_eq_true,decide_eq_true_eq,(push_ends hp hc).1,lim_iff]
  have one:∀ j,j < w.length → (restB c w (dueL c f w ch) (clR c f w ch) (opR c f w ch) ch j = true ↔ (0 ≤ rg ch j → ix (w.getD j []) 1 + busyF c (w.getD j []) ≤ ix (winF w ch j) 2) ∧ (0 ≤ rg ch j → rg (dueL c f w ch) j + busyF c (w.getD j []) ≤ ix (winF w ch j) 1)):=fun j hj=>by
   obtain ⟨-,-,a⟩:=s3 j hj
   have hcj:=hc.2 j hj
   unfold restB choB
   rw [Bool.and_eq_true,decide_eq_true_eq,gc j hj,go j hj]
   by_cases hz:(lx (w.getD j []) 7).length = 0
   ·rw [if_pos hz] at hcj ⊢
    rw [decide_eq_true_eq]
    exact ⟨fun _=>⟨fun h=>by omega,fun h=>by omega⟩,fun _=>⟨by omega,hcj⟩⟩
   ·rw [if_neg hz] at hcj ⊢
    rw [decide_eq_true_eq]
    unfold fromF at a
    rw [if_pos hcj.1] at a
    have e:(lx (w.getD j []) 7).getD (rg ch j).toNat [] = winF w ch j:=rfl
    rw [e]
    constructor
    ·intro h
     exact ⟨fun _=>by omega,fun _=>by omega⟩
    ·intro h
     have h1:=h.1 hcj.1
     have h2:=h.2 hcj.1
     omega
  constructor
  ·intro h
   exact ⟨fun j hj=>((one j hj).1 (h j (Nat.zero_le _) (by omega))).1,fun j hj=>((one j hj).1 (h j (Nat.zero_le _) (by omega))).2⟩
  ·intro h j _ hj
   exact (one j (by omega)).2 ⟨h.1 j (by omega),h.2 j (by omega)⟩
 unfold fitsR
 rw [hfit,hnext,hrest]
 rfl
end
noncomputable def sp70:SpL:=[]
noncomputable def lp70:LpL:=[]
noncomputable def sw70:SwL:=[]
noncomputable def tab70:Tab:=mkTab sp70 lp70 sw70
noncomputable def sp111:SpL:=[]
noncomputable def lp111 (q:Nat):LpL:=[(2,mkLY 1 l111_2 (G111_2 q)),(7,mkLY 1 l111_7 (G111_7 q)),(9,mkLY 1 l111_9 (G111_9 q))]
noncomputable def sw111:SwL:=[]
noncomputable def tab111 (q:Nat):Tab:=mkTabY sp111 (lp111 q) sw111 y111 q
set_option linter.unusedVariables false
set_option maxRecDepth 100000
theorem t70 (a b c:D):fnTW C tab70 70 s70 [a,b,c] =
 T.leaf [D.i a.I,D.i b.I,D.l c.L]:=by kernel_rfl
theorem t111 (q:Nat) (a b c:D):fnTY C (tab111 q) 111 s111 [a,b,c] =
 T.need (decide ((0:Int) ≤ (c.L.length:Int) ∧ (c.L.length:Int) = (c.L.length:Int) ∧ (c.L.length:Int) ≤ (2:Int) ^ 40 ∧ (↑Try.prog.types[3].bytes:Int) * (c.L.length:Int) ≤ (2:Int) ^ 46)) (T.need (yes (planB a.I b.I c.L = true ∧ c.L = c.L ∧ (c.L.length:Int) = (c.L.length:Int) ∧ (↑(List.length (List.replicate (Int.toNat (c.L.length:Int)) [D.i 0])):Int) = (c.L.length:Int) ∧ ((0:Int) ≤ (0:Int) ∧ (0:Int) ≤ (c.L.length:Int)) ∧ List.replicate (Int.toNat (c.L.length:Int)) [D.i 0] = rowF (zeroC c.L) 0 (Int.toNat (0:Int)) ++ zerR (c.L.length - Int.toNat (0:Int)))) (T.need (yes (planB a.I b.I c.L = true ∧ fewC c.L ∧ (↑(Int.toNat (↑(Int.toNat (↑(List.length (List.replicate (Int.toNat (c.L.length:Int)) [D.i 0])):Int)):Int)):Int) = (c.L.length:Int) ∧ carOK c.L (firstC c.L) ∧ List.length ([]:List (List D)) ≤ q)) (T.leaf ([] ++ List.take (q + 1 - List.length ([]:List (List D))) (allC c.L (restC c.L (firstC c.L)) (firstC c.L)))))):=by kernel_rfl
theorem t111_2 (q:Nat) (a b c d e f g h i:D):roundTY C (tab111 q) 111 (loopOf C.P 111 2) 1 l111_2 [a,b,c,d,e,f,g,h,i] =
 T.ite (decide (e.I < d.I)) (T.need (decide ((0:Int) ≤ e.I ∧ e.I < (c.L.length:Int))) (T.ite ((↑(List.length (D.L (List.getD (List.getD c.L e.I.toNat []) (0 + 1 + 1 + 1 + 1 + 1 + 1 + 1) default))):Int) == (0:Int)) (T.need (decide ((0:Int) ≤ e.I ∧ e.I < (b.I.toNat:Int))) (T.need (decide (e.I.toNat < i.L.length)) (T.leaf (Rd.again [D.l a.L,D.i (b.I.toNat:Int),D.l c.L,D.i d.I,D.i (IntKind.i64.wrap (e.I + (1:Int))),D.i f.I,D.i g.I,D.l h.L,D.l (List.set i.L e.I.toNat (updC (List.getD i.L e.I.toNat []) [D.i (-1:Int)] 0 0 (List.length [K.int IntKind.i64])))])))) (T.leaf (Rd.again [D.l a.L,D.i (b.I.toNat:Int),D.l c.L,D.i d.I,D.i (IntKind.i64.wrap (e.I + (1:Int))),D.i f.I,D.i g.I,D.l h.L,D.l i.L])))) (T.leaf (Rd.out (Ex.exit 0) [D.l a.L,D.i (b.I.toNat:Int),D.i f.I,D.i g.I,D.l h.L,D.l i.L])):=by kernel_rfl
theorem t111_7 (q:Nat) (a b c d e f:D):roundTY C (tab111 q) 111 (loopOf C.P 111 7) 1 l111_7 [a,b,c,d,e,f] =
 T.ite (!!a.L.length == (tab111 q).q) (T.leaf (Rd.out Ex.ret [D.l (a.L ++ [[D.i (b.I.toNat:Int)] ++ [] ++ ([D.l f.L] ++ [])]),D.i c.I,D.i d.I,D.l e.L])) (T.need (yes (planB c.I d.I e.L = true ∧ (b.I.toNat:Int) = (e.L.length:Int) ∧ carOK e.L f.L ∧ (-1:Int) ≤ IntKind.i64.wrap ((b.I.toNat:Int) - (1:Int)) ∧ IntKind.i64.wrap ((b.I.toNat:Int) - (1:Int)) < (e.L.length:Int))) (T.ite (decide ((carryF e.L (Int.toNat (IntKind.i64.wrap ((b.I.toNat:Int) - (1:Int)) + (1:Int))) f.L).snd < (0:Int))) (T.leaf (Rd.out Ex.ret [D.l (a.L ++ [[D.i (b.I.toNat:Int)] ++ [] ++ ([D.l f.L] ++ [])]),D.i c.I,D.i d.I,D.l e.L])) (T.need (decide ((0:Int) ≤ (carryF e.L (Int.toNat (IntKind.i64.wrap ((b.I.toNat:Int) - (1:Int)) + (1:Int))) f.L).snd ∧ (carryF e.L (Int.toNat (IntKind.i64.wrap ((b.I.toNat:Int) - (1:Int)) + (1:Int))) f.L).snd < (↑(Int.toNat (↑(Int.toNat (b.I.toNat:Int)):Int)):Int))) (T.need (decide (Int.toNat (carryF e.L (Int.toNat (IntKind.i64.wrap ((b.I.toNat:Int) - (1:Int)) + (1:Int))) f.L).snd < List.length (carryF e.L (Int.toNat (IntKind.i64.wrap ((b.I.toNat:Int) - (1:Int)) + (1:Int))) f.L).fst)) (T.need (decide ((0:Int) ≤ (carryF e.L (Int.toNat (IntKind.i64.wrap ((b.I.toNat:Int) - (1:Int)) + (1:Int))) f.L).snd ∧ (carryF e.L (Int.toNat (IntKind.i64.wrap ((b.I.toNat:Int) - (1:Int)) + (1:Int))) f.L).snd < (↑(Int.toNat (↑(Int.toNat (b.I.toNat:Int)):Int)):Int))) (T.need (decide (Int.toNat (carryF e.L (Int.toNat (IntKind.i64.wrap ((b.I.toNat:Int) - (1:Int)) + (1:Int))) f.L).snd < List.length (carryF e.L (Int.toNat (IntKind.i64.wrap ((b.I.toNat:Int) - (1:Int)) + (1:Int))) f.L).fst)) (T.leaf (Rd.again [D.l (a.L ++ [[D.i (b.I.toNat:Int)] ++ [] ++ ([D.l f.L] ++ [])]),D.i (↑(Int.toNat (↑(Int.toNat (b.I.toNat:Int)):Int)):Int),D.i c.I,D.i d.I,D.l e.L,D.l (List.set (carryF e.L (Int.toNat (IntKind.i64.wrap ((b.I.toNat:Int) - (1:Int)) + (1:Int))) f.L).fst (Int.toNat (carryF e.L (Int.toNat (IntKind.i64.wrap ((b.I.toNat:Int) - (1:Int)) + (1:Int))) f.L).snd) (updC (List.getD (carryF e.L (Int.toNat (IntKind.i64.wrap ((b.I.toNat:Int) - (1:Int)) + (1:Int))) f.L).fst (Int.toNat (carryF e.L (Int.toNat (IntKind.i64.wrap ((b.I.toNat:Int) - (1:Int)) + (1:Int))) f.L).snd) []) [D.i (IntKind.i64.wrap (D.I (List.getD (List.getD (carryF e.L (Int.toNat (IntKind.i64.wrap ((b.I.toNat:Int) - (1:Int)) + (1:Int))) f.L).fst (Int.toNat (carryF e.L (Int.toNat (IntKind.i64.wrap ((b.I.toNat:Int) - (1:Int)) + (1:Int))) f.L).snd) []) 0 default) + (1:Int)))] 0 0 (List.length [K.int IntKind.i64])))])))))))):=by kernel_rfl
theorem t111_9 (q:Nat) (a b c d e f g:D):roundTY C (tab111 q) 111 (loopOf C.P 111 9) 1 l111_9 [a,b,c,d,e,f,g] =
 T.ite (decide (c.I ≥ (0:Int))) (T.need (decide ((0:Int) ≤ c.I ∧ c.I < (b.I.toNat:Int))) (T.need (decide (c.I.toNat < g.L.length)) (T.need (decide ((0:Int) ≤ c.I ∧ c.I < (f.L.length:Int))) (T.ite (decide (D.I (List.getD (List.getD g.L c.I.toNat []) 0 default) ≥ IntKind.i64.wrap ((↑(List.length (D.L (List.getD (List.getD f.L c.I.toNat []) (0 + 1 + 1 + 1 + 1 + 1 + 1 + 1) default))):Int) - (1:Int)))) (T.need (decide ((0:Int) ≤ c.I ∧ c.I < (b.I.toNat:Int))) (T.need (decide (c.I.toNat < g.L.length)) (T.ite (decide (D.I (List.getD (List.getD g.L c.I.toNat []) 0 default) > (0:Int))) (T.need (decide ((0:Int) ≤ c.I ∧ c.I < (b.I.toNat:Int))) (T.need (decide (c.I.toNat < g.L.length)) (T.leaf (Rd.again [D.l a.L,D.i (b.I.toNat:Int),D.i (IntKind.i64.wrap (c.I - (1:Int))),D.i d.I,D.i e.I,D.l f.L,D.l (List.set g.L c.I.toNat (updC (List.getD g.L c.I.toNat []) [D.i 0] 0 0 (List.length [K.int IntKind.i64])))])))) (T.leaf (Rd.again [D.l a.L,D.i (b.I.toNat:Int),D.i (IntKind.i64.wrap (c.I - (1:Int))),D.i d.I,D.i e.I,D.l f.L,D.l g.L]))))) (T.leaf (Rd.out (Ex.exit 4) [D.l a.L,D.i (b.I.toNat:Int),D.i c.I,D.i d.I,D.i e.I,D.l f.L,D.l g.L])))))) (T.leaf (Rd.out (Ex.exit 4) [D.l a.L,D.i (b.I.toNat:Int),D.i c.I,D.i d.I,D.i e.I,D.l f.L,D.l g.L])):=by kernel_rfl
set_option maxRecDepth 100000
theorem zer_len (n:Nat):(zerR n).length = n:=List.length_replicate ..
theorem fill_step {w:List (List D)} {k:Nat} (hk:k < w.length) (v:Int) (hv:v = zeroC w k):rs (rowF (zeroC w) 0 k ++ zerR (w.length - k)) k v = rowF (zeroC w) 0 (k + 1) ++ zerR (w.length - (k + 1)):=by
 rw [show w.length - k = (w.length - (k + 1)) + 1 by omega]
 exact rowF_rep _ _ _ _ hv
theorem fill_same {w:List (List D)} {k:Nat} (hk:k < w.length) (hv:zeroC w k = 0):rowF (zeroC w) 0 k ++ zerR (w.length - k) = rowF (zeroC w) 0 (k + 1) ++ zerR (w.length - (k + 1)):=by
 have h:=rowF_snoc (zeroC w) k 0
 rw [Nat.zero_add,hv] at h
 rw [show w.length - k = (w.length - (k + 1)) + 1 by omega,← h,rep_cons,List.append_assoc]
 rfl
theorem zero_len (w:List (List D)) (k:Nat):zeroC w k = if (lx (w.getD k []) 7).length = 0 then -1 else 0:=by
 unfold zeroC hoursN
 by_cases h:(lx (w.getD k []) 7).length = 0
 ·rw [if_pos h,if_pos (by omega)]
 ·rw [if_neg h,if_neg (by omega)]
theorem fill_end {w:List (List D)} {k:Nat} (h:w.length ≤ k) (h2:k ≤ w.length):rowF (zeroC w) 0 k ++ zerR (w.length - k) = firstC w:=by
 have:k = w.length:=by omega
 subst this
 rw [Nat.sub_self]
 exact List.append_nil _
theorem ok111_2 (q n:Nat):LoopSimY C n 1 111 (loopOf C.P 111 2) (some y111) q (mkLY 1 l111_2 (G111_2 q)):=by
 refine loop_ofY hC (sp:=sp111) (lp:=lp111 q) (sw:=sw111) (Y:=y111) (yOK_mk _ _ _) trivial trivial 1 [] (by kernel_rfl) rfl (by kernel_rfl) (fun k hk=>by cases hk) (by kernel_rfl) (fun ds=>((ds.getD 3 default).I - (ds.getD 4 default).I).toNat) fun ds rr h=>?_
 unfold G111_2 at h
 split at h
 ·rename_i g m w' r i c f w ch
  obtain ⟨hp,h⟩:=need_some h
  rw [yes_iff] at hp
  obtain ⟨hp,h0,h1,h4,⟨h2,h3⟩,h5⟩:=hp
  have hb:=big_eq
  obtain ⟨p0,p1,-⟩:=plan_of hp
  refine ⟨by rw [fuelC]; simp; omega,?_⟩
  rw [show roundTY C (mkTabY sp111 (lp111 q) sw111 y111 q) 111 (loopOf C.P 111 2) 1 l111_2 [g,m,w',r,i,c,f,w,ch] = _ from t111_2 q g m w' r i c f w ch]
  obtain ⟨k,hk⟩:∃ k:Nat,i.I = k:=⟨i.I.toNat,by omega⟩
  simp only [hk,h0,h1,h4,h5,Int.toNat_natCast,Nat.reduceAdd,lx_def,upd1,rs_def,lenN] at h h2 h3 ⊢
  refine rd_if (fun hlt=>?_) fun hge=>rd_out ?_
  ·have hkl:k < w.L.length:=by omega
   have hcl:(rowF (zeroC w.L) 0 k ++ zerR (w.L.length - k)).length = w.L.length:=by rw [List.length_append,len_rowF,zer_len]; omega
   rw [wrap_succ (by omega)]
   have hmu:((w.L.length:Int) - ((k + 1:Nat):Int)).toNat < (r.I - i.I).toNat:=by omega
   have hz:=zero_len w.L k
   have go:∀ cc,cc = rowF (zeroC w.L) 0 (k + 1) ++ zerR (w.L.length - (k + 1)) → (G111_2 q [.l g.L,.i (w.L.length:Int),.l w.L,.i (w.L.length:Int),.i ((k + 1:Nat):Int),.i c.I,.i f.I,.l w.L,.l cc]).run = some rr:=fun cc hcc=>by
    refine (need_yes ⟨hp,rfl,rfl,rfl,⟨by simp only [I_i]; omega,by simp only [I_i]; omega⟩,by simp only [I_i,L_l,Int.toNat_natCast]; exact hcc⟩).trans ?_
    exact h
   refine rd_dec (by omega) (rd_ite (fun hc=>rd_dec (by omega) (rd_dec (by omega) (rd_again (go _ ?_) hmu))) fun hc=>rd_again (go _ ?_) hmu)
   ·have hc0:(lx (w.L.getD k []) 7).length = 0:=by have:=eq_of_beq hc; omega
    rw [if_pos hc0] at hz
    exact fill_step hkl _ hz.symm
   ·have hc0:¬ (lx (w.L.getD k []) 7).length = 0:=fun e=>by rw [e] at hc; cases hc
    rw [if_neg hc0] at hz
    exact fill_same hkl hz
  ·rw [← h,fill_end (by omega) (by omega)]
   rfl
 ·cases h
theorem ok111_9 (q n:Nat):LoopSimY C n 1 111 (loopOf C.P 111 9) (some y111) q (mkLY 1 l111_9 (G111_9 q)):=by
 refine loop_ofY hC (sp:=sp111) (lp:=lp111 q) (sw:=sw111) (Y:=y111) (yOK_mk _ _ _) trivial trivial 1 [] (by kernel_rfl) rfl (by kernel_rfl) (fun k hk=>by cases hk) (by kernel_rfl) (fun ds=>((ds.getD 2 default).I + 1).toNat) fun ds rr h=>?_
 unfold G111_9 at h
 split at h
 ·rename_i g m j c f w ch
  obtain ⟨hp,h⟩:=need_some h
  rw [yes_iff] at hp
  obtain ⟨hp,h1,hc,h2,h3⟩:=hp
  have hb:=big_eq
  obtain ⟨p0,p1,-⟩:=plan_of hp
  refine ⟨by rw [fuelC]; simp; omega,?_⟩
  rw [show roundTY C (mkTabY sp111 (lp111 q) sw111 y111 q) 111 (loopOf C.P 111 9) 1 l111_9 [g,m,j,c,f,w,ch] = _ from t111_9 q g m j c f w ch]
  refine rd_if (fun hge=>?_) fun hlt=>rd_out ?_
  ·obtain ⟨k,hk⟩:∃ k:Nat,j.I = k:=⟨j.I.toNat,by omega⟩
   have hkl:k < w.L.length:=by omega
   have hcl:=hc.1.1
   have hd:=digit_of hc.1 hkl
   have hh:=(wayC_of (way_of hp hkl).1).2.2.2.2.2.2
   have e1:((k:Int) + 1).toNat = k + 1:=by omega
   have e2:IntKind.i64.wrap (((lx (w.L.getD k []) 7).length:Int) - 1) = hoursN w.L k - 1:=wrap_id (by omega) (by omega)
   have e3:ix (ch.L.getD k []) 0 = rg ch.L k:=rfl
   simp only [hk,h1,Int.toNat_natCast,Nat.reduceAdd,lx_def,ix_def,upd1,rs_def,e1,e2,e3,carryF,lenN] at h h2 h3 ⊢
   rw [wrap_pred (by omega)]
   have hmu:((k:Int) - 1 + 1).toNat < (j.I + 1).toNat:=by omega
   have go:∀ cc,cc = rs ch.L k (zeroC w.L k) → rg ch.L k + 1 ≥ hoursN w.L k → (G111_9 q [.l g.L,.i (w.L.length:Int),.i ((k:Int) - 1),.i c.I,.i f.I,.l w.L,.l cc]).run = some rr:=fun cc hcc hge=>by
    subst hcc
    refine (need_yes ⟨hp,rfl,set_ok hc hkl (zero_digit k),by simp only [I_i]; omega,by simp only [I_i,L_l]; omega⟩).trans ?_
    rw [if_pos hge] at h
    simp only [I_i,L_l,show ((k:Int) - 1 + 1).toNat = k by omega]
    exact h
   refine rd_dec (by omega) (rd_dec (by omega) (rd_dec (by omega) (rd_if (fun hc2=>?_) fun hc2=>rd_out ?_)))
   ·refine rd_dec (by omega) (rd_dec (by omega) (rd_if (fun hpos=>rd_dec (by omega) (rd_dec (by omega) (rd_again (go _ ?_ (by omega)) hmu))) fun hneg=>rd_again (go _ ?_ (by omega)) hmu))
    ·have:zeroC w.L k = 0:=by unfold zeroC; rw [if_neg (by omega)]
     rw [this]
    ·have:zeroC w.L k = rg ch.L k:=by
      unfold zeroC
      by_cases hz:hoursN w.L k = 0
      ·rw [if_pos hz]; omega
      ·rw [if_neg hz]; omega
     rw [this,rs_same hc.2]
   ·rw [if_neg (by omega)] at h
    exact h
  ·simp only [lenN,h1,Int.toNat_natCast] at h ⊢
   have e:j.I = -1:=by omega
   rw [e] at h ⊢
   exact h
 ·cases h
theorem ok111_7 (q n:Nat):LoopSimY C n 1 111 (loopOf C.P 111 7) (some y111) q (mkLY 1 l111_7 (G111_7 q)):=by
 refine loop_ofY hC (sp:=sp111) (lp:=lp111 q) (sw:=sw111) (Y:=y111) (yOK_mk _ _ _) trivial trivial 1 [9] (by kernel_rfl) (by kernel_rfl) (by kernel_rfl) (fun k hk L hL=>by simp at hk; subst hk; cases hL; exact ok111_9 q n) (by kernel_rfl) (fun ds=>restC (ds.getD 4 default).L (ds.getD 5 default).L) fun ds rr h=>?_
 unfold G111_7 at h
 split at h
 ·rename_i g m c f w ch
  obtain ⟨hp,h⟩:=need_some h
  rw [yes_iff] at hp
  obtain ⟨hp,hf,h1,hc,hg⟩:=hp
  have hb:=big_eq
  obtain ⟨p0,p1,-⟩:=plan_of hp
  have hrl:restC w.L ch.L ≤ 1000000000000:=by unfold restC; unfold fewC at hf; omega
  refine ⟨by rw [fuelC]; show restC w.L ch.L < _; omega,?_⟩
  rw [show roundTY C (mkTabY sp111 (lp111 q) sw111 y111 q) 111 (loopOf C.P 111 7) 1 l111_7 [g,m,c,f,w,ch] = _ from t111_7 q g m c f w ch]
  have hq:(tab111 q).q = q:=rfl
  have hcl:=hc.1.1
  have e1:IntKind.i64.wrap ((w.L.length:Int) - 1) = (w.L.length:Int) - 1:=wrap_pred (by omega)
  have e2:((w.L.length:Int) - 1 + 1).toNat = w.L.length:=by omega
  rw [all_rest hc,hcl,show q + 1 - g.L.length = (q - g.L.length) + 1 by omega,List.take_succ_cons] at h
  simp only [h1,hq,Int.toNat_natCast,e1,e2,upd1,rs_def,Bool.not_not] at h ⊢
  have hy:[D.i (w.L.length:Int)] ++ [] ++ ([D.l ch.L] ++ []) = [D.i (w.L.length:Int),D.l ch.L]:=rfl
  simp only [hy]
  refine rd_ite (fun c2=>rd_out ?_) fun c2=>rd_yes ⟨hp,by trivial,hc,by omega,by omega⟩ (rd_if (fun hn=>rd_out ?_) fun hn=>?_)
  ·have c2:g.L.length = q:=by simpa using c2
   rw [show q - g.L.length = 0 by omega,List.take_zero] at h
   exact h
  ·rw [if_pos hn,List.take_nil] at h
   exact h
  ·have c2:g.L.length ≠ q:=by
    have:¬ (g.L.length == q) = true:=by rw [c2]; simp
    simpa using this
   obtain ⟨a,b,d,e,e'⟩:=carry_ok w.L.length (Nat.le_refl _) hc
   have al:=a.1.1
   have hnn:0 ≤ (carryF w.L w.L.length ch.L).2:=by omega
   rw [if_neg hn] at h
   refine rd_dec (by omega) (rd_dec (by omega) (rd_dec (by omega) (rd_dec (by omega) (rd_again ?_ ?_))))
   ·have hdg:=digit_of a.1 (j:=(carryF w.L w.L.length ch.L).2.toNat) (by omega)
    have hh:=(wayC_of (way_of hp (k:=(carryF w.L w.L.length ch.L).2.toNat) (by omega)).1).2.2.2.2.2.2
    have e3:IntKind.i64.wrap (ix ((carryF w.L w.L.length ch.L).1.getD (carryF w.L w.L.length ch.L).2.toNat []) 0 + 1) = rg (carryF w.L w.L.length ch.L).1 (carryF w.L w.L.length ch.L).2.toNat + 1:=by
     have:hoursN w.L (carryF w.L w.L.length ch.L).2.toNat ≤ 10:=by unfold hoursN; omega
     exact wrap_id (x:=rg (carryF w.L w.L.length ch.L).1 (carryF w.L w.L.length ch.L).2.toNat + 1) (by omega) (by omega)
    simp only [ix_def,e3]
    refine (need_yes ⟨hp,hf,rfl,step_ok hc hnn,by simp only [L_l,List.length_append,List.length_cons,List.length_nil]; omega⟩).trans ?_
    simp only [L_l,I_i,List.length_append,List.length_cons,List.length_nil,List.append_assoc,List.cons_append,List.nil_append]
    rw [show q + 1 - (g.L.length + (0 + 1)) = q - g.L.length by omega]
    exact h
   ·have hdg:=digit_of a.1 (j:=(carryF w.L w.L.length ch.L).2.toNat) (by omega)
    have hh:=(wayC_of (way_of hp (k:=(carryF w.L w.L.length ch.L).2.toNat) (by omega)).1).2.2.2.2.2.2
    have e3:IntKind.i64.wrap (ix ((carryF w.L w.L.length ch.L).1.getD (carryF w.L w.L.length ch.L).2.toNat []) 0 + 1) = rg (carryF w.L w.L.length ch.L).1 (carryF w.L w.L.length ch.L).2.toNat + 1:=by
     have:hoursN w.L (carryF w.L w.L.length ch.L).2.toNat ≤ 10:=by unfold hoursN; omega
     exact wrap_id (x:=rg (carryF w.L w.L.length ch.L).1 (carryF w.L w.L.length ch.L).2.toNat + 1) (by omega) (by omega)
    simp only [ix_def,e3]
    show restC w.L (stepC (carryF w.L w.L.length ch.L)) < restC w.L ch.L
    rw [rest_step hc (by omega)]
    omega
 ·cases h
theorem ok111 (n:Nat):IterOK C (n + 1) 111 y111 (mkFY s111 G111):=by
 refine iter_of hC (sp:=sp111) (lp:=lp111) (sw:=sw111) (Y:=y111) (yOK_mk _ _ _) trivial trivial (by kernel_rfl) [2,7] (by kernel_rfl) (by kernel_rfl) (by kernel_rfl) (fun q k hk L hL=>by
  simp at hk
  rcases hk with rfl | rfl <;> cases hL
  ·exact ok111_2 q n
  ·exact ok111_7 q n) fun ds L h q=>?_
 unfold G111 at h
 split at h
 ·rename_i c f w
  obtain ⟨hp,h⟩:=need_some h
  rw [yes_iff] at hp
  cases h
  obtain ⟨hp,hf⟩:=hp
  obtain ⟨p0,p1,-⟩:=plan_of hp
  have hb:=big_eq
  refine (congrArg T.run (t111 q c f w)).trans ?_
  simp only [Int.toNat_natCast,Int.toNat_zero,Nat.sub_zero,List.length_replicate,bytes3,rest_first,List.length_nil,List.nil_append]
  exact go_dec ⟨by omega,by trivial,by omega,by omega⟩ (go_yes ⟨hp,by trivial,by trivial,by trivial,by omega,rfl⟩ (go_yes ⟨hp,hf,by trivial,first_ok,by omega⟩ rfl))
 ·cases h
theorem ok70 (n:Nat):FnOKW C (n + 1) 70 (mkFW s70 G70):=by
 refine fn_ofW hC (sp:=sp70) (lp:=lp70) (sw:=sw70) trivial trivial (by kernel_rfl) [] (by kernel_rfl) rfl (fun k hk=>by cases hk) fun ds rr h=>?_
 unfold G70 at h
 split at h
 ·rename_i c f w
  refine (congrArg T.run (t70 c f w)).trans ?_
  exact h
 ·cases h
set_option maxRecDepth 100000
theorem ok72_3 (n:Nat):LoopSimK C (n + 1) 1 72 (loopOf C.P 72 3) (mkLK 1 l72_3 G72_3):=by
 refine loop_ofK hC (sp:=sp72) (lp:=lp72) (sw:=sw72) ⟨ok115 n,ok85 n,trivial⟩ trivial 1 [] (by kernel_rfl) rfl (fun k hk=>by cases hk) (by kernel_rfl) (fun ds=>((ds.getD 4 default).I - (ds.getD 5 default).I).toNat) fun ds rr h=>?_
 unfold G72_3 at h
 split at h
 ·rename_i hd lo m w' q i du c f w lo2 n2 n3 ch
  obtain ⟨hp,h⟩:=need_some h
  rw [yes_iff] at hp
  obtain ⟨e0,hp,h1,h2,h3,h4,h5,hdu,h6,h7,h8⟩:=hp
  have hb:=big_eq
  obtain ⟨p0,p1,-⟩:=plan_of hp
  refine ⟨by rw [fuelC]; simp; omega,?_⟩
  rw [roundTK_head (j:=hd) (n:=0) e0 (by decide),show roundTK C (mkTab sp72 lp72 sw72) 72 (loopOf C.P 72 3) 1 l72_3 [.i 0,lo,m,w',q,i,du,c,f,w,lo2,n2,n3,ch] = _ from t72_3_0 lo m w' q i du c f w lo2 n2 n3 ch]
  have h0:0 < w.L.length:=by omega
  have c1:=wayC_of (way_of hp h0).1
  have b1:=busy_of hp h0
  have d1:=hdu.2 1
  have dl:=hdu.1
  have z1:IntKind.i64.wrap ((0:Int) + 1) = 1:=by decide
  have z2:Int.toNat 1 = 1:=rfl
  have z3:((w.L.length:Int) + 1).toNat = w.L.length + 1:=by omega
  have z4:IntKind.i64.wrap (ix (du.L.getD 1 []) 0 - ix (w.L.getD 0 []) 1) = clG w.L (duF du.L) 0:=wrap_id (x:=rg du.L 1 - ix (w.L.getD 0 []) 1) (by omega) (by omega)
  have z5:IntKind.i64.wrap (ix (du.L.getD 1 []) 0 + busyF c.I (w.L.getD 0 [])) = opG c.I w.L (duF du.L) 0:=wrap_id (x:=rg du.L 1 + busyF c.I (w.L.getD 0 [])) (by omega) (by omega)
  simp only [h1,h2,h3,h4,h5,h6,h7,h8,Int.toNat_natCast,Int.toNat_zero,Nat.add_zero,ix_def,Nat.reduceAdd,z1,z2,z3,z4,z5] at h ⊢
  refine rd_pos (by omega) (rd_dec (by omega) (rd_dec (by omega) (rd_dec (by omega) (rd_need rfl (rd_false rfl (rd_need rfl (rd_dec (by omega) (rd_dec (by omega) (rd_yes ⟨hp,by omega,by omega⟩ (rd_need rfl (rd_false rfl (rd_need rfl (rd_again ?_ ?_)))))))))))))
  ·refine (need_yes ⟨rfl,hp,rfl,by simp only [I_i,L_l]; omega,rfl,rfl,⟨by simp only [I_i]; omega,by simp only [I_i,L_l]; omega⟩,hdu,rfl,by simp only [I_i,L_l]; omega,rfl,rfl,rfl,rfl,rfl⟩).trans ?_
   rw [← h]
   rfl
  ·show ((w.L.length:Int) - 1).toNat < (q.I - i.I).toNat
   omega
 ·rename_i hd lo m w' q i du c f w lo2 n2 n4 n5 n3 cl op ch
  obtain ⟨hp,h⟩:=need_some h
  rw [yes_iff] at hp
  obtain ⟨e0,hp,h1,h2,h3,h4,h5,hdu,h6,h7,h8,h9,h10,h11,h12⟩:=hp
  have hb:=big_eq
  obtain ⟨p0,p1,-⟩:=plan_of hp
  refine ⟨by rw [fuelC]; simp; omega,?_⟩
  rw [roundTK_head (j:=hd) (n:=1) e0 (by decide),show roundTK C (mkTab sp72 lp72 sw72) 72 (loopOf C.P 72 3) 1 l72_3 [.i 1,lo,m,w',q,i,du,c,f,w,lo2,n2,n4,n5,n3,cl,op,ch] = _ from t72_3_1 lo m w' q i du c f w lo2 n2 n4 n5 n3 cl op ch]
  obtain ⟨k,hk⟩:∃ k:Nat,i.I = k:=⟨i.I.toNat,by omega⟩
  have dl:=hdu.1
  have z2:Int.toNat 1 = 1:=rfl
  have z3:((w.L.length:Int) + 1).toNat = w.L.length + 1:=by omega
  have lc:=len_rowF (clG w.L (duF du.L)) k 0
  have lo':=len_rowF (opG c.I w.L (duF du.L)) k 0
  have y1:(rowF (clG w.L (duF du.L)) 0 k).take k = rowF (clG w.L (duF du.L)) 0 k:=List.take_of_length_le (by omega)
  have y2:(rowF (opG c.I w.L (duF du.L)) 0 k).take k = rowF (opG c.I w.L (duF du.L)) 0 k:=List.take_of_length_le (by omega)
  have t1:∀ y:List D,List.take 1 [y] = [y]:=fun _=>rfl
  have b3:Try.prog.types[3].bytes = 8:=by kernel_rfl
  simp only [hk,h1,h2,h3,h4,h6,h7,h8,h9,h10,h11,h12,Int.toNat_natCast,ix_def,z2,z3,lc,lo',y1,y2,List.length_cons,List.length_nil,Nat.zero_add,t1,b3] at h h5 ⊢
  refine rd_if (fun hlt=>?_) fun hge=>rd_out ?_
  ·have hkl:k < w.L.length:=by omega
   have c1:=wayC_of (way_of hp hkl).1
   have b1:=busy_of hp hkl
   have d1:=hdu.2 (1 + k)
   have z4:IntKind.i64.wrap (ix (du.L.getD (1 + k) []) 0 - ix (w.L.getD k []) 1) = clG w.L (duF du.L) (0 + k):=(wrap_id (x:=rg du.L (1 + k) - ix (w.L.getD k []) 1) (by omega) (by omega)).trans (by unfold clG duF; rw [Nat.zero_add,Nat.add_comm 1 k])
   have z5:IntKind.i64.wrap (ix (du.L.getD (1 + k) []) 0 + busyF c.I (w.L.getD k [])) = opG c.I w.L (duF du.L) (0 + k):=(wrap_id (x:=rg du.L (1 + k) + busyF c.I (w.L.getD k [])) (by omega) (by omega)).trans (by unfold opG duF; rw [Nat.zero_add,Nat.add_comm 1 k])
   rw [wrap_succ (by omega)]
   simp only [z4,z5,rowF_snoc]
   refine rd_dec (by omega) (rd_dec (by omega) (rd_dec (by omega) (rd_need rfl (rd_false rfl (rd_dec (by omega) (rd_dec (by omega) (rd_dec (by omega) (rd_yes ⟨hp,by omega,by omega⟩ (rd_need rfl (rd_false rfl (rd_dec (by omega) (rd_again ?_ ?_))))))))))))
   ·refine (need_yes ⟨rfl,hp,rfl,by simp only [I_i,L_l]; omega,rfl,rfl,⟨by simp only [I_i]; omega,by simp only [I_i,L_l]; omega⟩,hdu,rfl,by simp only [I_i,L_l]; omega,rfl,rfl,rfl,by simp only [I_i,L_l,Int.toNat_natCast],by simp only [I_i,L_l,Int.toNat_natCast]⟩).trans ?_
    rw [← h]
    rfl
   ·show ((w.L.length:Int) - ((k + 1:Nat):Int)).toNat < (q.I - i.I).toNat
    omega
  ·rw [← h]
   have e:k = w.L.length:=by omega
   subst e
   rfl
 ·cases h
theorem ok72 (n:Nat):FnOKW C (n + 2) 72 (mkFW s72 G72):=by
 refine fn_ofW hC (sp:=sp72) (lp:=lp72) (sw:=sw72) ⟨ok115 n,ok85 n,trivial⟩ trivial (by kernel_rfl) [3] (by kernel_rfl) (by kernel_rfl) (fun k hk L hL=>by simp at hk; subst hk; cases hL; exact ok72_3 n) fun ds rr h=>?_
 unfold G72 at h
 split at h
 ·rename_i c f w ch lo m du
  obtain ⟨hp,h⟩:=need_some h
  rw [yes_iff] at hp
  obtain ⟨hp,hc,h1,h2,hdu⟩:=hp
  refine (congrArg T.run (t72 c f w ch lo m du)).trans ?_
  obtain ⟨p0,p1,-⟩:=plan_of hp
  rw [← h]
  simp only [Int.toNat_natCast]
  refine go_yes ⟨fun e=>by rw [e] at hc; simp at hc; omega,by omega⟩ (go_yes ⟨by trivial,hp,by omega,by omega,by trivial,by trivial,by trivial,hdu,by omega,by omega,by trivial⟩ rfl)
 ·cases h
noncomputable def it26_7:ItL:=[(111,mkFY s111 G111)]
noncomputable def sp26:SpL:=[(69,mkF s69 G69),(71,mkF s71 G71)]
noncomputable def lp26:LpL:=[]
noncomputable def sw26:SwL:=[(70,mkFW s70 G70),(72,mkFW s72 G72)]
noncomputable def rg26:LpL:=[(7,rangeS 0 [1,2,3,5,16] (rangeOf C.P 26 7).1 it26_7 h26_7 G26_7)]
noncomputable def tab26:Tab:=mkTabR sp26 lp26 sw26 rg26
set_option linter.unusedVariables false
set_option maxRecDepth 100000
theorem t26 (a b c:D):fnT C tab26 26 s26 [a,b,c] =
 T.ite ((if planB a.I b.I c.L = true then (0:Int) else (2:Int)) != (0:Int)) (T.leaf [D.i 0,D.i (if planB a.I b.I c.L = true then (0:Int) else (2:Int))]) (T.need (yes (planB a.I b.I c.L = true ∧ fewC c.L)) (T.need (yes ((↑0:Int) = (0:Int) ∧ planB a.I b.I c.L = true ∧ (∀ (x:List D),x ∈ allC c.L (prodF c.L c.L.length) (firstC c.L) → yOK c.L x) ∧ (0:Int) ≤ (0:Int) ∧ (0:Int) ≤ (20000:Int))) (T.ite (decide ((pickF a.I b.I c.L (allC c.L (prodF c.L c.L.length) (firstC c.L)) (0:Int)).fst = (0:Int))) (T.leaf [D.i 1,D.i 1,D.i (↑(Int.toNat (↑(c.L.length + 1):Int)):Int),D.i (↑(Int.toNat (c.L.length:Int)):Int),D.i (↑(Int.toNat (c.L.length:Int)):Int),D.i (↑(Int.toNat (c.L.length:Int)):Int),D.i 0,D.l (rowP a.I b.I c.L (pickF a.I b.I c.L (allC c.L (prodF c.L c.L.length) (firstC c.L)) (0:Int)).snd.fst),D.l (clR a.I b.I c.L (pickF a.I b.I c.L (allC c.L (prodF c.L c.L.length) (firstC c.L)) (0:Int)).snd.fst),D.l (opR a.I b.I c.L (pickF a.I b.I c.L (allC c.L (prodF c.L c.L.length) (firstC c.L)) (0:Int)).snd.fst),D.l (pickF a.I b.I c.L (allC c.L (prodF c.L c.L.length) (firstC c.L)) (0:Int)).snd.fst]) (T.ite (decide ((pickF a.I b.I c.L (allC c.L (prodF c.L c.L.length) (firstC c.L)) (0:Int)).fst = (9:Int))) (T.leaf [D.i 0,D.i 9]) (T.leaf [D.i 0,D.i 5]))))):=by kernel_rfl
theorem t26_r7_0 (a b c d e f g:D):roundRT C tab26 26 (rangeOf C.P 26 7) 0 5 [1,2,3,5,16] h26_7 y111 [.i 0,a,b,c,d,e] [f,g] =
 T.ite (e.I == (20000:Int)) (T.leaf (Rd.out Ex.ret [D.i 0,D.i a.I,D.i b.I,D.l c.L,D.i 9,D.i e.I],[D.i (f.I.toNat:Int),D.l g.L])) (T.need (decide (f.I.toNat ≤ g.L.length)) (T.need (yes (planB a.I b.I c.L = true ∧ chOK c.L (List.take f.I.toNat g.L))) (T.ite (duesOk a.I b.I c.L (List.take f.I.toNat g.L)) (T.ite true (T.need (decide (f.I.toNat ≤ g.L.length)) (T.need (yes (planB a.I b.I c.L = true ∧ List.length (List.take f.I.toNat g.L) = c.L.length ∧ (↑(Int.toNat (1:Int)):Int) = (1:Int) ∧ (↑(Int.toNat (↑(c.L.length + 1):Int)):Int) = (c.L.length:Int) + (1:Int) ∧ duOK c.L (pushP true a.I b.I c.L (List.take f.I.toNat g.L)).fst)) (T.leaf (Rd.out Ex.ret [D.i 1,D.i a.I,D.i b.I,D.l c.L,D.i 1,D.i (↑(Int.toNat (↑(c.L.length + 1):Int)):Int),D.i (↑(Int.toNat (c.L.length:Int)):Int),D.i (↑(Int.toNat (c.L.length:Int)):Int),D.i (↑(Int.toNat (↑(List.length (List.take f.I.toNat g.L)):Int)):Int),D.i 0,D.i (IntKind.i64.wrap (e.I + (1:Int))),D.l (pushP true a.I b.I c.L (List.take f.I.toNat g.L)).fst,D.l (rowF (clG c.L (duF (pushP true a.I b.I c.L (List.take f.I.toNat g.L)).fst)) 0 c.L.length),D.l (rowF (opG a.I c.L (duF (pushP true a.I b.I c.L (List.take f.I.toNat g.L)).fst)) 0 c.L.length),D.l (List.take f.I.toNat g.L)],[D.i (f.I.toNat:Int),D.l g.L])))) (T.leaf (Rd.again [D.i 0,D.i a.I,D.i b.I,D.l c.L,D.i d.I,D.i (IntKind.i64.wrap (e.I + (1:Int)))],[D.i (f.I.toNat:Int),D.l g.L]))) (T.ite false (T.need (decide (f.I.toNat ≤ g.L.length)) T.fail) (T.leaf (Rd.again [D.i 0,D.i a.I,D.i b.I,D.l c.L,D.i d.I,D.i (IntKind.i64.wrap (e.I + (1:Int)))],[D.i (f.I.toNat:Int),D.l g.L])))))):=by kernel_rfl
set_option maxRecDepth 100000
section
variable {c f:Int} {w:List (List D)}
theorem all_ok:∀ (n:Nat) {ch:List (List D)},carOK w ch → ∀ x ∈ allC w n ch,yOK w x
 | 0,_,_,x,hx=>by cases hx
 | n + 1,ch,h,x,hx=>by
   simp only [allC,List.mem_cons] at hx
   rcases hx with rfl | hx
   ·refine ⟨?_,h⟩
    show [D.i ch.length,D.l ch] = _
    rw [h.1.1]
    rfl
   ·split at hx
    ·cases hx
    ·exact all_ok n (step_ok h (by omega)) x hx
theorem pick_make:∀ (k:Nat) {ch:List (List D)} {t:Int},carOK w ch → t = 20000 - k → (pickF c f w (allC w (restC w ch) ch) t).1 = (makeF c f w k ch).1 ∧ ((makeF c f w k ch).1 = 0 → (pickF c f w (allC w (restC w ch) ch) t).2.1 = (makeF c f w k ch).2)
 | 0, ch,t,h,ht=>by
   rw [all_rest h]
   simp only [pickF,makeF]
   rw [if_pos (by omega)]
   exact ⟨rfl,fun h=>by simp at h⟩
 | k + 1,ch,t,h,ht=>by
   rw [all_rest h]
   have e:chY [.i ch.length,.l ch] = ch:=rfl
   simp only [pickF,makeF,e]
   rw [if_neg (by omega)]
   by_cases hd:duesOk c f w ch = true
   ·rw [if_pos hd,if_pos hd]
    exact ⟨rfl,fun _=>rfl⟩
   ·rw [if_neg hd,if_neg hd]
    by_cases hn:(carryF w w.length ch).2 < 0
    ·rw [if_pos hn,if_pos hn]
     simp only [pickF]
     exact ⟨by trivial,fun h=>by simp at h⟩
    ·rw [if_neg hn,if_neg hn]
     exact pick_make k (step_ok h (by omega)) (by omega)
theorem make_ok:∀ (k:Nat) {ch:List (List D)},carOK w ch → (makeF c f w k ch).1 = 0 ∧ carOK w (makeF c f w k ch).2 ∧ duesOk c f w (makeF c f w k ch).2 = true ∨ (makeF c f w k ch).1 = 5 ∨ (makeF c f w k ch).1 = 9
 | 0,ch,h=>.inr (.inr rfl)
 | k + 1,ch,h=>by
   simp only [makeF]
   by_cases hd:duesOk c f w ch = true
   ·rw [if_pos hd]
    exact .inl ⟨rfl,h,hd⟩
   ·rw [if_neg hd]
    by_cases hn:(carryF w w.length ch).2 < 0
    ·rw [if_pos hn]
     exact .inr (.inl rfl)
    ·rw [if_neg hn]
     exact make_ok k (step_ok h (by omega))
theorem row_dues {ch:List (List D)} (hp:planB c f w = true) (hc:chOK w ch) (hd:duesOk c f w ch = true):duOK w (rowP c f w ch) ∧ (rowP c f w ch).drop 1 = dueL c f w ch ∧ rowF (clG w (duF (rowP c f w ch))) 0 w.length = clR c f w ch ∧ rowF (opG c w (duF (rowP c f w ch))) 0 w.length = opR c f w ch:=by
 have hr:(pushP true c f w ch).2.2 < 0:=by
  unfold duesOk at hd
  rw [Bool.and_eq_true,decide_eq_true_eq] at hd
  exact hd.2
 have he:=(push_ends hp hc).2 hr
 obtain ⟨q1,q2,q3,-⟩:=push_plan true hp hc hr
 obtain ⟨-,-,-,d4,-⟩:=due_least (f:=f) hp hc
 have g:∀ j,duF (rowP c f w ch) j = rg (dueL c f w ch) j:=fun j=>by
  unfold duF rowP
  rw [← he,rg_drop,Nat.add_comm]
 refine ⟨⟨q3,fun j=>⟨q2 j,?_⟩⟩,he,rowF_ext _ _ fun j _ _=>?_,rowF_ext _ _ fun j _ _=>?_⟩
 ·cases j with
  | zero=>
    have:rg (rowP c f w ch) 0 = 0:=q1
    omega
  | succ j=>
    have:=g j
    unfold duF at this
    have:=d4 j
    omega
 ·unfold clG
  rw [g]
 ·unfold opG
  rw [g]
end
theorem fold23 (L:List (List D)):∀ (ds:List D) (rr:Ex × List D),(G26_7 L ds).run = some rr → FoldR (fun ds el=>(roundRT C tab26 26 (rangeOf C.P 26 7) 0 5 [1,2,3,5,16] h26_7 y111 ds el).run) y111.give (fun a b=>headA h26_7 a = headA h26_7 b) ds L rr.1 rr.2:=by
 induction L with
 | nil=>
   intro ds rr h
   unfold G26_7 at h
   split at h
   ·rename_i z c f w e t
    obtain ⟨hp,h⟩:=need_some h
    rw [yes_iff] at hp
    simp only [pickF] at h
    rw [run_ite,if_neg (by simp),run_ite,if_neg (by simp)] at h
    cases h
    exact .nil (by rw [headA_head _ hp.1 (by decide)]; rfl)
   ·cases h
 | cons x L ih=>
   intro ds rr h
   unfold G26_7 at h
   split at h
   ·rename_i z c f w e t
    obtain ⟨hp,h⟩:=need_some h
    rw [yes_iff] at hp
    obtain ⟨hz,hp,hy,ht0,ht1⟩:=hp
    have hx:=hy x List.mem_cons_self
    have hxs:∀ x ∈ L,yOK w.L x:=fun y hy'=>hy y (List.mem_cons_of_mem _ hy')
    obtain ⟨hxe,hxc⟩:=hx
    generalize hch:chY x = ch at hxe hxc
    have hcl:=hxc.1.1
    obtain ⟨p0,p1,-⟩:=plan_of hp
    have htk:ch.take w.L.length = ch:=List.take_of_length_le (by omega)
    have e0:roundRT C tab26 26 (rangeOf C.P 26 7) 0 5 [1,2,3,5,16] h26_7 y111 [z,c,f,w,e,t] x = roundRT C tab26 26 (rangeOf C.P 26 7) 0 5 [1,2,3,5,16] h26_7 y111 [.i 0,c,f,w,e,t] [.i w.L.length,.l ch]:=by
     rw [roundRT_head _ _ hz (by decide),hxe]
    have hround:=congrArg T.run (e0.trans (t26_r7_0 c f w e t (.i w.L.length) (.l ch)))
    simp only [I_i,L_l,Int.toNat_natCast,htk] at hround
    simp only [pickF,hch] at h
    by_cases h20:t.I = 20000
    ·rw [if_pos h20] at h
     rw [run_ite,if_neg (by simp),run_ite,if_pos (by simp)] at h
     cases h
     refine .out (x':=x) ?_ (fun _=>rfl) (by simp)
     refine hround.trans ?_
     rw [run_ite,if_pos (by simp [h20]),hxe]
     rfl
    ·rw [if_neg h20] at h
     rw [wrap_id (x:=t.I + 1) (by omega) (by omega)] at hround
     by_cases hd:duesOk c.I f.I w.L ch = true
     ·rw [if_pos hd] at h
      rw [run_ite,if_pos (by simp)] at h
      cases h
      obtain ⟨r1,r2,r3,r4⟩:=row_dues hp hxc.1 hd
      refine .out (x':=x) ?_ (fun _=>rfl) (by simp)
      refine hround.trans ?_
      have z1:(Int.toNat 1:Int) = 1:=rfl
      have e1:(pushP true c.I f.I w.L ch).1 = rowP c.I f.I w.L ch:=rfl
      simp only [e1,r3,r4]
      refine go_false (by simp [h20]) (go_dec (by omega) (go_yes ⟨hp,hxc.1⟩ (go_true hd (go_true rfl (go_dec (by omega) (go_yes ⟨hp,hcl,z1,by omega,r1⟩ ?_))))))
      rw [hxe,hcl]
      rfl
     ·rw [if_neg hd] at h
      have hd:duesOk c.I f.I w.L ch = false:=by simpa using hd
      refine .again (x':=x) (ds':=[.i 0,.i c.I,.i f.I,.l w.L,.i e.I,.i (t.I + 1)]) ?_ (fun _=>rfl) (ih _ _ ?_)
      ·refine hround.trans ?_
       refine go_false (by simp [h20]) (go_dec (by omega) (go_yes ⟨hp,hxc.1⟩ (go_false hd (go_false rfl ?_))))
       rw [hxe]
       rfl
      ·refine (need_yes ⟨rfl,hp,hxs,by simp only [I_i]; omega,by simp only [I_i]; omega⟩).trans ?_
       exact h
   ·cases h
theorem ok26_7 (n:Nat):CodeSim C (n + 6) 0 26 (rangeOf C.P 26 7).code none 0 (rangeS 0 [1,2,3,5,16] (rangeOf C.P 26 7).1 it26_7 h26_7 G26_7):=
 range_of hC (sp:=sp26) (lp:=lp26) (sw:=sw26) (rg:=rg26) (Y:=y111) (yOK_mk _ _ _) ⟨ok69 n,ok71 (n + 3),trivial⟩ ⟨ok70 (n + 5),ok72 (n + 4),trivial⟩ 7 0 5 [] (by kernel_rfl) rfl (by kernel_rfl) (by exact ⟨by kernel_rfl,by kernel_rfl⟩) (fun k hk=>by cases hk)
  (by kernel_rfl) (by kernel_rfl) (it:=it26_7) ⟨ok111 (n + 5),trivial⟩ fun L ds rr h=>fold23 L ds rr h
theorem ok26 (n:Nat):FnOK C (n + 7) 26 (mkF s26 G26):=by
 refine fn_ofR hC (sp:=sp26) (lp:=lp26) (sw:=sw26) (rg:=rg26) ⟨ok69 n,ok71 (n + 3),trivial⟩ ⟨ok70 (n + 5),ok72 (n + 4),trivial⟩ (by kernel_rfl) [] [7] (by kernel_rfl) rfl (by kernel_rfl) (by kernel_rfl) (fun k hk=>by cases hk) (fun k hk L hL=>by
  simp at hk; subst hk; cases hL; exact ok26_7 n) fun ds r h=>?_
 unfold G26 at h
 split at h
 ·rename_i c f w
  refine (congrArg T.run (t26 c f w)).trans ?_
  cases hp:planB c.I f.I w.L with
  | false=>
    rw [hp] at h
    exact h
  | true=>
    rw [hp] at h
    obtain ⟨hf,h⟩:=need_some (show (T.need _ _).run = some r from h)
    rw [yes_iff] at hf
    have hall:=all_ok (w:=w.L) (prodF w.L w.L.length) first_ok
    rw [← rest_first] at hall ⊢
    have hpm:=pick_make (c:=c.I) (f:=f.I) (w:=w.L) 20000 (ch:=firstC w.L) (t:=0) first_ok (by decide)
    have hmk:makeF c.I f.I w.L 20000 (firstC w.L) = foundC c.I f.I w.L:=rfl
    rw [hmk] at hpm
    have hcs:=make_ok (c:=c.I) (f:=f.I) (w:=w.L) 20000 (ch:=firstC w.L) first_ok
    rw [hmk] at hcs
    generalize pickF c.I f.I w.L (allC w.L (restC w.L (firstC w.L)) (firstC w.L)) 0 = pk at hpm ⊢
    obtain ⟨k1,k2⟩:=hpm
    simp only [k1,Int.toNat_natCast,if_true]
    refine go_false rfl (go_yes ⟨by trivial,hf⟩ (go_yes ⟨by trivial,by trivial,hall,by omega,by omega⟩ ?_))
    rcases hcs with ⟨h0,-,-⟩ | h5 | h9
    ·rw [h0,k2 h0]
     rw [h0] at h
     exact h
    ·rw [h5]
     rw [h5] at h
     exact h
    ·rw [h9]
     rw [h9] at h
     exact h
 ·cases h
set_option maxRecDepth 100000
theorem fn_mono {n f:Nat} {s:Sig} {G G':List D → T (List D)} (h:FnOK C n f (mkF s G)) (hw:∀ ds r,(G' ds).run = some r → (G ds).run = some r):FnOK C n f (mkF s G'):=h.mono fun args v hb hr=>by
 unfold mkF at hr ⊢
 split
 ·rename_i ds hds
  simp only [hds,T.run_map,Option.map_eq_some_iff] at hr ⊢
  obtain ⟨r,h1,h2⟩:=hr
  exact ⟨r,hw _ _ h1,h2⟩
 ·rename_i hds
  simp only [hds] at hr
  cases hr
theorem ok2026 (n:Nat):FnOK C (n + 7) 26 (mkF s26 G2026):=fn_mono (ok26 n) fun ds r h=>by
 unfold G2026 at h
 split at h
 ·rename_i c f w
  obtain ⟨hp,h⟩:=need_some h
  rw [yes_iff] at hp
  refine go_true hp.1 (go_yes hp.2 ?_)
  have hcs:=make_ok (c:=c.I) (f:=f.I) (w:=w.L) triesN (ch:=firstC w.L) first_ok
  have e:makeF c.I f.I w.L triesN (firstC w.L) = foundC c.I f.I w.L:=rfl
  rw [e] at hcs
  rcases hcs with ⟨h0,-,-⟩ | h5 | h9
  ·rw [h0] at h ⊢
   exact h
  ·rw [h5] at h ⊢
   exact h
  ·rw [h9] at h ⊢
   exact h
 ·cases h
section
variable {c f:Int} {w du cl op ch:List (List D)} {lo n n1 n2 n3:Int}
theorem fnd_of (h:fndT c f w du cl op ch lo n n1 n2 n3):du.length = w.length + 2 ∧ cl.length = w.length ∧ op.length = w.length ∧ ch.length = w.length ∧ du.drop 1 = dueL c f w ch ∧ (dueL c f w ch).length = w.length + 1 ∧
    (∀ j,rg du (j + 1) = rg (dueL c f w ch) j) ∧ (∀ j,j < w.length → rg cl j = rg (dueL c f w ch) j - ix (w.getD j []) 1 ∧ rg op j = rg (dueL c f w ch) j + busyF c (w.getD j [])) ∧ (∀ j,0 ≤ rg (dueL c f w ch) j ∧ rg (dueL c f w ch) j ≤ 2000000) ∧ solD c f w ch (rg (dueL c f w ch)) ∧ endsD c w ch (rg (dueL c f w ch)):=by
 obtain ⟨hp,hc,hd,rfl,rfl,rfl,-⟩:=h
 obtain ⟨r1,r2,-,-⟩:=row_dues hp hc.1 hd
 obtain ⟨d1,-,d3,d4,-⟩:=due_least (f:=f) hp hc.1
 refine ⟨r1.1,len_rowF _ _ _,len_rowF _ _ _,hc.1.1,r2,d1,fun j=>?_,fun j hj=>⟨?_,?_⟩,fun j=>⟨d3.2.1 j,d4 j⟩,d3,?_⟩
 ·rw [← r2,rg_drop,Nat.add_comm]
 ·unfold clR
  rw [rg_rowF hj,Nat.zero_add]
  rfl
 ·unfold opR
  rw [rg_rowF hj,Nat.zero_add]
  rfl
 ·unfold duesOk at hd
  rw [Bool.and_eq_true,decide_eq_true_eq] at hd
  exact (push_ends hp hc.1).1.1 hd.2
end
theorem prod_le {w:List (List D)} (h:∀ j,hoursN w j ≤ 10):∀ k,prodF w k ≤ 10 ^ k
 | 0=>Nat.le_refl _
 | k + 1=>by
   have a:=prod_le h k
   have b:=h k
   simp only [prodF,Nat.pow_succ]
   exact Nat.mul_le_mul a (by omega)
section
variable {c f:Int} {w:List (List D)}
theorem found_ok (h:(foundC c f w).1 = 0):carOK w (foundC c f w).2 ∧ duesOk c f w (foundC c f w).2 = true:=by
 have hcs:=make_ok (c:=c) (f:=f) (w:=w) triesN (ch:=firstC w) first_ok
 have e:makeF c f w triesN (firstC w) = foundC c f w:=rfl
 rw [e] at hcs
 rcases hcs with h0 | h5 | h9
 ·exact h0.2
 ·omega
 ·omega
theorem found_fnd (hp:planB c f w = true) {ch:List (List D)} (hc:carOK w ch) (hd:duesOk c f w ch = true):fndT c f w (rowP c f w ch) (clR c f w ch) (opR c f w ch) ch 1 ((w.length + 1:Nat):Int) w.length w.length w.length:=
 ⟨hp,hc,hd,rfl,rfl,rfl,rfl,by omega,rfl,rfl,rfl⟩
theorem found_lent (hp:planB c f w = true) {ch:List (List D)} (hc:carOK w ch) (hd:duesOk c f w ch = true):(rowP c f w ch).length = w.length + 2 ∧ (clR c f w ch).length = w.length ∧ (opR c f w ch).length = w.length ∧ ch.length = w.length ∧
    ((rowP c f w ch).drop 1).take (w.length + 1) = dueL c f w ch ∧ (clR c f w ch).take w.length = clR c f w ch ∧ (opR c f w ch).take w.length = opR c f w ch ∧ ch.take w.length = ch ∧ (dueL c f w ch).length = w.length + 1:=by
 obtain ⟨l1,l2,l3,l4,hdr,l5,-⟩:=fnd_of (found_fnd hp hc hd)
 refine ⟨l1,l2,l3,l4,?_,List.take_of_length_le (by omega),List.take_of_length_le (by omega),List.take_of_length_le (by omega),l5⟩
 rw [hdr]
 exact List.take_of_length_le (by omega)
end
theorem few_plan {c f:Int} {w:List (List D)} (h:planS c f w = true):planB c f w = true ∧ fewC w ∧ w.length ≤ 6:=by
 unfold planS at h
 rw [Bool.and_eq_true,Bool.and_eq_true,decide_eq_true_eq] at h
 obtain ⟨⟨h6,-⟩,hp⟩:=h
 refine ⟨hp,?_,h6⟩
 have h:∀ j,hoursN w j ≤ 10:=fun j=>by
  by_cases hj:j < w.length
  ·have:=(wayC_of (way_of hp hj).1).2.2.2.2.2.2
   unfold hoursN
   omega
  ·unfold hoursN
   rw [List.getD_eq_getElem?_getD,List.getElem?_eq_none (by omega)]
   show ((([]:List (List D)).length:Nat):Int) ≤ 10
   decide
 unfold fewC
 exact Nat.le_trans (prod_le h _) (Nat.le_trans (Nat.pow_le_pow_right (by decide) h6) (by decide))
theorem due_ok {c f:Int} {w du cl op ch:List (List D)} {lo n n1 n2 n3:Int} (h:fndT c f w du cl op ch lo n n1 n2 n3) {k:Int} {q:Nat} (k0:0 ≤ k) (k1:k ≤ c - 1) (hq:q < w.length):dueB c f w (dueL c f w ch) k q = true:=by
 obtain ⟨-,-,-,-,-,l5,-,-,gd,-⟩:=fnd_of h
 unfold dueB
 rw [h.1,timed_mk (by rw [l5]; rfl) (fun i _=>by have:=gd i; omega),Bool.true_and,Bool.true_and,decide_eq_true_eq]
 omega
noncomputable def sp36:SpL:=[]
noncomputable def lp36:LpL:=[(3,mkLK 4 l36_3 G36_3)]
noncomputable def sw36:SwL:=[]
noncomputable def tab36:Tab:=mkTab sp36 lp36 sw36
set_option linter.unusedVariables false
set_option maxRecDepth 100000
theorem t36 (a b c d e f g h i j k l m n:D):(fnTW C tab36 36 s36 [a,b,c,d,e,f,g,h,i,j,k,l,m,n]).run =
 T.run (T.need (yes ((↑0:Int) = (0:Int) ∧ cutP c.L i.L j.L l.L m.L ∧ (f.I.toNat:Int) = (c.L.length:Int) ∧ (g.I.toNat:Int) = (c.L.length:Int) ∧ (0:Int) = (0:Int))) (T.leaf [D.i (IntKind.i64.wrap ((c.L.length:Int) + (1:Int))),D.i (↑(Int.toNat (↑(List.length (cutN i.L j.L l.L m.L c.L.length)):Int)):Int),D.l k.L,D.l l.L,D.l m.L,D.l n.L,D.l (cutN i.L j.L l.L m.L c.L.length)])):=by kernel_rfl
theorem t36_3_0 (a b c d e f g h i j k l m n o p q:D):(roundTK C tab36 36 (loopOf C.P 36 3) 4 l36_3 [.i 0,a,b,c,d,e,f,g,h,i,j,k,l,m,n,o,p,q]).run =
 T.run (T.ite (decide (c.I < (j.L.length:Int))) (T.need (decide ((0:Int) ≤ c.I ∧ c.I < (a.L.length:Int))) (T.need (decide ((0:Int) ≤ c.I ∧ c.I < (m.I.toNat:Int))) (T.need (decide (c.I.toNat < e.L.length)) (T.need (decide ((0:Int) ≤ c.I ∧ c.I < (n.I.toNat:Int))) (T.need (decide (c.I.toNat < f.L.length)) (T.need (decide ((0:Int) ≤ c.I ∧ c.I < (b.L.length:Int))) (T.ite (decide (D.I (List.getD (List.getD b.L c.I.toNat []) 0 default) > (0:Int))) (T.need (decide ((0:Int) ≤ c.I ∧ c.I < (b.L.length:Int))) (T.need (decide ((0:Int) ≤ c.I ∧ c.I < (b.L.length:Int))) (T.leaf (Rd.again [D.i 1,D.l a.L,D.l b.L,D.i (IntKind.i64.wrap (c.I + (1:Int))),D.l d.L,D.l e.L,D.l f.L,D.l g.L,D.i h.I,D.i i.I,D.l j.L,D.i (k.I.toNat:Int),D.i (l.I.toNat:Int),D.i (m.I.toNat:Int),D.i (n.I.toNat:Int),D.i (o.I.toNat:Int),D.i p.I,D.i q.I,D.i 3,D.l [[D.i c.I,D.i (IntKind.i64.wrap (c.I + (1:Int))),D.i (D.I (List.getD (List.getD a.L c.I.toNat []) 0 default)),D.l [[D.i (IntKind.i64.wrap ((60:Int) * D.I (List.getD (List.getD e.L c.I.toNat []) 0 default))),D.i (IntKind.i64.wrap ((60:Int) * D.I (List.getD (List.getD f.L c.I.toNat []) 0 default)))]]],[D.i c.I,D.i (IntKind.i64.wrap (c.I + (1:Int))),D.i (D.I (List.getD (List.getD b.L c.I.toNat []) 0 default)),D.l []],[D.i (IntKind.i64.wrap (c.I + (1:Int))),D.i c.I,D.i (D.I (List.getD (List.getD b.L c.I.toNat []) 0 default)),D.l []]]])))) (T.leaf (Rd.again [D.i 1,D.l a.L,D.l b.L,D.i (IntKind.i64.wrap (c.I + (1:Int))),D.l d.L,D.l e.L,D.l f.L,D.l g.L,D.i h.I,D.i i.I,D.l j.L,D.i (k.I.toNat:Int),D.i (l.I.toNat:Int),D.i (m.I.toNat:Int),D.i (n.I.toNat:Int),D.i (o.I.toNat:Int),D.i p.I,D.i q.I,D.i 1,D.l [[D.i c.I,D.i (IntKind.i64.wrap (c.I + (1:Int))),D.i (D.I (List.getD (List.getD a.L c.I.toNat []) 0 default)),D.l [[D.i (IntKind.i64.wrap ((60:Int) * D.I (List.getD (List.getD e.L c.I.toNat []) 0 default))),D.i (IntKind.i64.wrap ((60:Int) * D.I (List.getD (List.getD f.L c.I.toNat []) 0 default)))]]]]]))))))))) (T.leaf (Rd.out (Ex.exit 0) [D.i 0,D.l d.L,D.l e.L,D.l f.L,D.l g.L,D.i p.I,D.i q.I]))):=by kernel_rfl
theorem t36_3_1 (a b c d e f g h i j k l m n o p q r s:D):(roundTK C tab36 36 (loopOf C.P 36 3) 4 l36_3 [.i 1,a,b,c,d,e,f,g,h,i,j,k,l,m,n,o,p,q,r,s]).run =
 T.run (T.ite (decide (c.I < (j.L.length:Int))) (T.need (decide ((0:Int) ≤ c.I ∧ c.I < (a.L.length:Int))) (T.need (decide ((0:Int) ≤ c.I ∧ c.I < (m.I.toNat:Int))) (T.need (decide (c.I.toNat < e.L.length)) (T.need (decide ((0:Int) ≤ c.I ∧ c.I < (n.I.toNat:Int))) (T.need (decide (c.I.toNat < f.L.length)) (T.need (decide (r.I.toNat ≤ s.L.length ∧ r.I.toNat + 1 ≤ 2 ^ 62 ∧ (r.I.toNat + 1) * Try.prog.types[84].bytes ≤ 2 ^ 47)) (T.need (decide ((0:Int) ≤ c.I ∧ c.I < (b.L.length:Int))) (T.ite (decide (D.I (List.getD (List.getD b.L c.I.toNat []) 0 default) > (0:Int))) (T.need (decide ((0:Int) ≤ c.I ∧ c.I < (b.L.length:Int))) (T.need (decide ((0:Int) ≤ c.I ∧ c.I < (b.L.length:Int))) (T.need (decide (r.I.toNat + 1 ≤ List.length (List.take r.I.toNat s.L ++ List.take (List.length [[D.i c.I,D.i (IntKind.i64.wrap (c.I + (1:Int))),D.i (D.I (List.getD (List.getD a.L c.I.toNat []) 0 default)),D.l (List.take (List.length [[D.i (IntKind.i64.wrap ((60:Int) * D.I (List.getD (List.getD e.L c.I.toNat []) 0 default))),D.i (IntKind.i64.wrap ((60:Int) * D.I (List.getD (List.getD f.L c.I.toNat []) 0 default)))]]) [[D.i (IntKind.i64.wrap ((60:Int) * D.I (List.getD (List.getD e.L c.I.toNat []) 0 default))),D.i (IntKind.i64.wrap ((60:Int) * D.I (List.getD (List.getD f.L c.I.toNat []) 0 default)))]])]]) [[D.i c.I,D.i (IntKind.i64.wrap (c.I + (1:Int))),D.i (D.I (List.getD (List.getD a.L c.I.toNat []) 0 default)),D.l (List.take (List.length [[D.i (IntKind.i64.wrap ((60:Int) * D.I (List.getD (List.getD e.L c.I.toNat []) 0 default))),D.i (IntKind.i64.wrap ((60:Int) * D.I (List.getD (List.getD f.L c.I.toNat []) 0 default)))]]) [[D.i (IntKind.i64.wrap ((60:Int) * D.I (List.getD (List.getD e.L c.I.toNat []) 0 default))),D.i (IntKind.i64.wrap ((60:Int) * D.I (List.getD (List.getD f.L c.I.toNat []) 0 default)))]])]]) ∧ r.I.toNat + 1 + 2 ≤ 2 ^ 62 ∧ (r.I.toNat + 1 + 2) * Try.prog.types[84].bytes ≤ 2 ^ 47)) (T.leaf (Rd.again [D.i 1,D.l a.L,D.l b.L,D.i (IntKind.i64.wrap (c.I + (1:Int))),D.l d.L,D.l e.L,D.l f.L,D.l g.L,D.i h.I,D.i i.I,D.l j.L,D.i (k.I.toNat:Int),D.i (l.I.toNat:Int),D.i (m.I.toNat:Int),D.i (n.I.toNat:Int),D.i (o.I.toNat:Int),D.i p.I,D.i q.I,D.i (↑(r.I.toNat + 1 + 2):Int),D.l (List.take (r.I.toNat + 1) (List.take r.I.toNat s.L ++ List.take (List.length [[D.i c.I,D.i (IntKind.i64.wrap (c.I + (1:Int))),D.i (D.I (List.getD (List.getD a.L c.I.toNat []) 0 default)),D.l (List.take (List.length [[D.i (IntKind.i64.wrap ((60:Int) * D.I (List.getD (List.getD e.L c.I.toNat []) 0 default))),D.i (IntKind.i64.wrap ((60:Int) * D.I (List.getD (List.getD f.L c.I.toNat []) 0 default)))]]) [[D.i (IntKind.i64.wrap ((60:Int) * D.I (List.getD (List.getD e.L c.I.toNat []) 0 default))),D.i (IntKind.i64.wrap ((60:Int) * D.I (List.getD (List.getD f.L c.I.toNat []) 0 default)))]])]]) [[D.i c.I,D.i (IntKind.i64.wrap (c.I + (1:Int))),D.i (D.I (List.getD (List.getD a.L c.I.toNat []) 0 default)),D.l (List.take (List.length [[D.i (IntKind.i64.wrap ((60:Int) * D.I (List.getD (List.getD e.L c.I.toNat []) 0 default))),D.i (IntKind.i64.wrap ((60:Int) * D.I (List.getD (List.getD f.L c.I.toNat []) 0 default)))]]) [[D.i (IntKind.i64.wrap ((60:Int) * D.I (List.getD (List.getD e.L c.I.toNat []) 0 default))),D.i (IntKind.i64.wrap ((60:Int) * D.I (List.getD (List.getD f.L c.I.toNat []) 0 default)))]])]]) ++ List.take (List.length [[D.i c.I,D.i (IntKind.i64.wrap (c.I + (1:Int))),D.i (D.I (List.getD (List.getD b.L c.I.toNat []) 0 default)),D.l []],[D.i (IntKind.i64.wrap (c.I + (1:Int))),D.i c.I,D.i (D.I (List.getD (List.getD b.L c.I.toNat []) 0 default)),D.l []]]) [[D.i c.I,D.i (IntKind.i64.wrap (c.I + (1:Int))),D.i (D.I (List.getD (List.getD b.L c.I.toNat []) 0 default)),D.l []],[D.i (IntKind.i64.wrap (c.I + (1:Int))),D.i c.I,D.i (D.I (List.getD (List.getD b.L c.I.toNat []) 0 default)),D.l []]])]))))) (T.leaf (Rd.again [D.i 1,D.l a.L,D.l b.L,D.i (IntKind.i64.wrap (c.I + (1:Int))),D.l d.L,D.l e.L,D.l f.L,D.l g.L,D.i h.I,D.i i.I,D.l j.L,D.i (k.I.toNat:Int),D.i (l.I.toNat:Int),D.i (m.I.toNat:Int),D.i (n.I.toNat:Int),D.i (o.I.toNat:Int),D.i p.I,D.i q.I,D.i (↑(r.I.toNat + 1):Int),D.l (List.take r.I.toNat s.L ++ List.take (List.length [[D.i c.I,D.i (IntKind.i64.wrap (c.I + (1:Int))),D.i (D.I (List.getD (List.getD a.L c.I.toNat []) 0 default)),D.l (List.take (List.length [[D.i (IntKind.i64.wrap ((60:Int) * D.I (List.getD (List.getD e.L c.I.toNat []) 0 default))),D.i (IntKind.i64.wrap ((60:Int) * D.I (List.getD (List.getD f.L c.I.toNat []) 0 default)))]]) [[D.i (IntKind.i64.wrap ((60:Int) * D.I (List.getD (List.getD e.L c.I.toNat []) 0 default))),D.i (IntKind.i64.wrap ((60:Int) * D.I (List.getD (List.getD f.L c.I.toNat []) 0 default)))]])]]) [[D.i c.I,D.i (IntKind.i64.wrap (c.I + (1:Int))),D.i (D.I (List.getD (List.getD a.L c.I.toNat []) 0 default)),D.l (List.take (List.length [[D.i (IntKind.i64.wrap ((60:Int) * D.I (List.getD (List.getD e.L c.I.toNat []) 0 default))),D.i (IntKind.i64.wrap ((60:Int) * D.I (List.getD (List.getD f.L c.I.toNat []) 0 default)))]]) [[D.i (IntKind.i64.wrap ((60:Int) * D.I (List.getD (List.getD e.L c.I.toNat []) 0 default))),D.i (IntKind.i64.wrap ((60:Int) * D.I (List.getD (List.getD f.L c.I.toNat []) 0 default)))]])]])])))))))))) (T.leaf (Rd.out (Ex.exit 0) [D.i 1,D.l d.L,D.l e.L,D.l f.L,D.l g.L,D.i p.I,D.i q.I,D.i (r.I.toNat:Int),D.l s.L]))):=by kernel_rfl
set_option maxRecDepth 100000
theorem getD_set {l:List (List D)} {k:Nat} {x:List D} (hk:k < l.length):(l.set k x).getD k [] = x:=by simp [List.getD_eq_getElem?_getD,hk]
noncomputable def sp3:SpL:=[(8,mkF s8 G8),(9,mkF s9 G9),(10,mkF s10 G10),(11,mkF s11 G11),(12,mkF s12 G12w),(13,mkF s13 G13),(14,mkF s14 G14w)]
noncomputable def lp3:LpL:=[(5,mkL l3_5 G3_5),(13,mkL l3_13 G3_13),(31,mkL l3_31 G3_31)]
noncomputable def sw3:SwL:=[]
noncomputable def tab3:Tab:=mkTab sp3 lp3 sw3
set_option maxRecDepth 100000
theorem fn_weak {n f:Nat} {s:Sig} {G G':List D → T (List D)} (h:FnOK C n f (mkF s G)) (hw:∀ ds r,(G' ds).run = some r → (G ds).run = some r):FnOK C n f (mkF s G'):=h.mono fun args v hb hr=>by
 unfold mkF at hr ⊢
 split
 ·rename_i ds hds
  simp only [hds,T.run_map,Option.map_eq_some_iff] at hr ⊢
  obtain ⟨r,h1,h2⟩:=hr
  exact ⟨r,hw _ _ h1,h2⟩
 ·rename_i hds
  simp only [hds] at hr
  cases hr
end Go.Proofs.Ytgoedfonmocafaa
namespace Go.Proofs.Ytgoedfonmocafaa.Rs
open Go.Lite
noncomputable def sp83:SpL:=[]
noncomputable def lp83:LpL:=[]
noncomputable def sw83:SwL:=[]
noncomputable def tab83:Tab:=mkTab sp83 lp83 sw83
noncomputable def sp87:SpL:=[]
noncomputable def lp87:LpL:=[(2,mkL l87_2 G87_2)]
noncomputable def sw87:SwL:=[]
noncomputable def tab87:Tab:=mkTab sp87 lp87 sw87
noncomputable def sp168:SpL:=[]
noncomputable def lp168:LpL:=[]
noncomputable def sw168:SwL:=[]
noncomputable def tab168:Tab:=mkTab sp168 lp168 sw168
noncomputable def sp169:SpL:=[]
noncomputable def lp169:LpL:=[]
noncomputable def sw169:SwL:=[]
noncomputable def tab169:Tab:=mkTab sp169 lp169 sw169
noncomputable def sp171:SpL:=[]
noncomputable def lp171:LpL:=[]
noncomputable def sw171:SwL:=[]
noncomputable def tab171:Tab:=mkTab sp171 lp171 sw171
noncomputable def sp176:SpL:=[]
noncomputable def lp176:LpL:=[]
noncomputable def sw176:SwL:=[]
noncomputable def tab176:Tab:=mkTab sp176 lp176 sw176
noncomputable def sp170:SpL:=[]
noncomputable def lp170:LpL:=[]
noncomputable def sw170:SwL:=[]
noncomputable def tab170:Tab:=mkTab sp170 lp170 sw170
noncomputable def sp145:SpL:=[(169,mkF s169 G169)]
noncomputable def lp145:LpL:=[(0,mkLK 2 l145_0 G145_0)]
noncomputable def sw145:SwL:=[(171,mkFW s171 G171)]
noncomputable def tab145:Tab:=mkTab sp145 lp145 sw145
noncomputable def sp174:SpL:=[(169,mkF s169 G169)]
noncomputable def lp174:LpL:=[(2,mkLK 2 l174_2 G174_2)]
noncomputable def sw174:SwL:=[(171,mkFW s171 G171)]
noncomputable def tab174:Tab:=mkTab sp174 lp174 sw174
noncomputable def sp141:SpL:=[(168,mkF s168 G168)]
noncomputable def lp141:LpL:=[]
noncomputable def sw141:SwL:=[(145,mkFW s145 G145),(170,mkFW s170 G170)]
noncomputable def tab141:Tab:=mkTab sp141 lp141 sw141
noncomputable def sp173:SpL:=[(168,mkF s168 G168)]
noncomputable def lp173:LpL:=[]
noncomputable def sw173:SwL:=[(174,mkFW s174 G174),(171,mkFW s171 G171),(176,mkFW s176 G176)]
noncomputable def tab173:Tab:=mkTab sp173 lp173 sw173
noncomputable def sp172:SpL:=[]
noncomputable def lp172:LpL:=[]
noncomputable def sw172:SwL:=[(173,mkFW s173 G173)]
noncomputable def tab172:Tab:=mkTab sp172 lp172 sw172
noncomputable def sp120:SpL:=[]
noncomputable def lp120:LpL:=[]
noncomputable def sw120:SwL:=[]
noncomputable def tab120:Tab:=mkTab sp120 lp120 sw120
noncomputable def sp121:SpL:=[(87,mkF s87 G87)]
noncomputable def lp121 (q:Nat):LpL:=[(1,mkLY 2 l121_1 (G121_1 q))]
noncomputable def sw121:SwL:=[]
noncomputable def tab121 (q:Nat):Tab:=mkTabY sp121 (lp121 q) sw121 y121 q
set_option linter.unusedVariables false
set_option maxRecDepth 100000
theorem t83 (a b c:D):fnT C tab83 83 s83 [a,b,c] =
 T.ite (decide (a.I ≥ b.I)) (T.leaf [D.b (decide (a.I ≤ c.I))]) (T.leaf [D.b false]):=by kernel_rfl
theorem t87 (a b c d e:D):fnT C tab87 87 s87 [a,b,c,d,e] =
 T.need (yes (okT c.I ∧ okS e.I ∧ okC d.L ∧ (d.L.length:Int) = (d.L.length:Int) ∧ (0:Int) ≤ (0:Int) ∧ (0:Int) ≤ (d.L.length:Int))) (T.leaf [D.i (entF d.L c.I (Int.toNat (0:Int)) (d.L.length - Int.toNat (0:Int)) e.I)]):=by kernel_rfl
theorem t87_2 (a b c d e f g h:D):roundT C tab87 87 (loopOf C.P 87 2) l87_2 [a,b,c,d,e,f,g,h] =
 T.ite (decide (d.I < c.I)) (T.need (decide ((0:Int) ≤ d.I ∧ d.I < (b.L.length:Int))) (T.ite (decide (IntKind.i64.wrap (a.I + g.I) > D.I (List.getD (List.getD b.L d.I.toNat []) 0 default))) (T.ite (decide (a.I < D.I (List.getD (List.getD b.L d.I.toNat []) (0 + 1) default))) (T.leaf (Rd.again [D.i (D.I (List.getD (List.getD b.L d.I.toNat []) (0 + 1) default)),D.l b.L,D.i c.I,D.i (IntKind.i64.wrap (d.I + (1:Int))),D.i e.I,D.i f.I,D.i g.I,D.l h.L])) (T.leaf (Rd.again [D.i a.I,D.l b.L,D.i c.I,D.i (IntKind.i64.wrap (d.I + (1:Int))),D.i e.I,D.i f.I,D.i g.I,D.l h.L]))) (T.leaf (Rd.again [D.i a.I,D.l b.L,D.i c.I,D.i (IntKind.i64.wrap (d.I + (1:Int))),D.i e.I,D.i f.I,D.i g.I,D.l h.L])))) (T.leaf (Rd.out (Ex.exit 0) [D.i a.I])):=by kernel_rfl
theorem t168 (a:D):fnT C tab168 168 s168 [a] =
 T.leaf [D.i (a.L.length:Int)]:=by kernel_rfl
theorem t169 (a b c:D):fnT C tab169 169 s169 [a,b,c] =
 T.need (decide ((0:Int) ≤ b.I ∧ b.I < (a.L.length:Int))) (T.need (decide ((0:Int) ≤ c.I ∧ c.I < (a.L.length:Int))) (T.leaf [D.b (decide (D.I (List.getD (List.getD a.L b.I.toNat []) (0 + 1) default) < D.I (List.getD (List.getD a.L c.I.toNat []) (0 + 1) default)))])):=by kernel_rfl
theorem t171 (a b c d:D):fnTW C tab171 171 s171 [a,b,c,d] =
 T.need (decide ((0:Int) ≤ c.I ∧ c.I < (a.I.toNat:Int))) (T.need (decide (c.I.toNat < d.L.length)) (T.need (decide ((0:Int) ≤ b.I ∧ b.I < (a.I.toNat:Int))) (T.need (decide (b.I.toNat < d.L.length)) (T.need (decide ((0:Int) ≤ b.I ∧ b.I < (a.I.toNat:Int))) (T.need (decide (b.I.toNat < d.L.length)) (T.need (decide ((0:Int) ≤ c.I ∧ c.I < (a.I.toNat:Int))) (T.need (decide (c.I.toNat < List.length (List.set d.L b.I.toNat (updC (List.getD d.L b.I.toNat []) [D.i (D.I (List.getD (List.getD d.L c.I.toNat []) 0 default)),D.i (D.I (List.getD (List.getD d.L c.I.toNat []) (0 + 1) default))] 0 0 (List.length [K.int IntKind.i64,K.int IntKind.i64]))))) (T.leaf [D.l (List.set (List.set d.L b.I.toNat (updC (List.getD d.L b.I.toNat []) [D.i (D.I (List.getD (List.getD d.L c.I.toNat []) 0 default)),D.i (D.I (List.getD (List.getD d.L c.I.toNat []) (0 + 1) default))] 0 0 (List.length [K.int IntKind.i64,K.int IntKind.i64]))) c.I.toNat (updC (List.getD (List.set d.L b.I.toNat (updC (List.getD d.L b.I.toNat []) [D.i (D.I (List.getD (List.getD d.L c.I.toNat []) 0 default)),D.i (D.I (List.getD (List.getD d.L c.I.toNat []) (0 + 1) default))] 0 0 (List.length [K.int IntKind.i64,K.int IntKind.i64]))) c.I.toNat []) [D.i (D.I (List.getD (List.getD d.L b.I.toNat []) 0 default)),D.i (D.I (List.getD (List.getD d.L b.I.toNat []) (0 + 1) default))] 0 0 (List.length [K.int IntKind.i64,K.int IntKind.i64])))])))))))):=by kernel_rfl
theorem t176 (a b:D):fnTW C tab176 176 s176 [a,b] =
 T.need (decide ((0:Int) ≤ IntKind.i64.wrap ((a.I.toNat:Int) - (1:Int)) ∧ IntKind.i64.wrap ((a.I.toNat:Int) - (1:Int)) < (a.I.toNat:Int))) (T.need (decide (Int.toNat (IntKind.i64.wrap ((a.I.toNat:Int) - (1:Int))) < b.L.length)) (T.need (decide ((0:Int) ≤ IntKind.i64.wrap ((a.I.toNat:Int) - (1:Int)) ∧ IntKind.i64.wrap ((a.I.toNat:Int) - (1:Int)) ≤ (a.I.toNat:Int))) (T.leaf [D.i (D.I (List.getD (List.getD b.L (Int.toNat (IntKind.i64.wrap ((a.I.toNat:Int) - (1:Int)))) []) 0 default)),D.i (D.I (List.getD (List.getD b.L (Int.toNat (IntKind.i64.wrap ((a.I.toNat:Int) - (1:Int)))) []) (0 + 1) default)),D.i (↑(Int.toNat (IntKind.i64.wrap ((a.I.toNat:Int) - (1:Int)))):Int),D.l b.L]))):=by kernel_rfl
theorem t170 (a b c d:D):fnTW C tab170 170 s170 [a,b,c,d] =
 T.need true (T.ite false T.fail (T.need (decide (c.I.toNat ≤ d.L.length ∧ c.I.toNat + List.length (List.take (List.length [[D.i a.I,D.i b.I]]) [[D.i a.I,D.i b.I]]) ≤ 2 ^ 62 ∧ (c.I.toNat + List.length (List.take (List.length [[D.i a.I,D.i b.I]]) [[D.i a.I,D.i b.I]])) * Try.prog.types[169].bytes ≤ 2 ^ 47)) (T.leaf [D.i (↑(c.I.toNat + List.length (List.take (List.length [[D.i a.I,D.i b.I]]) [[D.i a.I,D.i b.I]])):Int),D.l (List.take c.I.toNat d.L ++ List.take (List.length [[D.i a.I,D.i b.I]]) [[D.i a.I,D.i b.I]])]))):=by kernel_rfl
theorem t145 (a b c:D):fnTW C tab145 145 s145 [a,b,c] =
 T.need (yes ((0:Int) ≤ a.I ∧ a.I < (↑(Int.toNat (b.I.toNat:Int)):Int) ∧ Int.toNat (b.I.toNat:Int) ≤ c.L.length ∧ Int.toNat (b.I.toNat:Int) < 2199023255552)) (T.leaf [D.i (↑(Int.toNat (↑(Int.toNat (b.I.toNat:Int)):Int)):Int),D.l (upF (a.I.toNat + 1) c.L a.I.toNat)]):=by kernel_rfl
theorem t145_0 (a b c:D):roundTK C tab145 145 (loopOf C.P 145 0) 2 l145_0 [a,b,c] =
 T.need true (T.ite (IntKind.i64.wrap (Int.tdiv (IntKind.i64.wrap (a.I - (1:Int))) (2:Int)) == a.I) (T.leaf (Rd.out (Ex.exit 0) [D.i (b.I.toNat:Int),D.l c.L])) (T.need (decide (b.I.toNat ≤ c.L.length)) (T.need (yes (((0:Int) ≤ a.I ∧ a.I < (↑(List.length (List.take b.I.toNat c.L)):Int)) ∧ (0:Int) ≤ IntKind.i64.wrap (Int.tdiv (IntKind.i64.wrap (a.I - (1:Int))) (2:Int)) ∧ IntKind.i64.wrap (Int.tdiv (IntKind.i64.wrap (a.I - (1:Int))) (2:Int)) < (↑(List.length (List.take b.I.toNat c.L)):Int))) (T.ite (!decide (atR (List.take b.I.toNat c.L) a.I.toNat < atR (List.take b.I.toNat c.L) (Int.toNat (IntKind.i64.wrap (Int.tdiv (IntKind.i64.wrap (a.I - (1:Int))) (2:Int)))))) (T.leaf (Rd.out (Ex.exit 0) [D.i (b.I.toNat:Int),D.l c.L])) (T.need (yes (((0:Int) ≤ IntKind.i64.wrap (Int.tdiv (IntKind.i64.wrap (a.I - (1:Int))) (2:Int)) ∧ IntKind.i64.wrap (Int.tdiv (IntKind.i64.wrap (a.I - (1:Int))) (2:Int)) < (↑(Int.toNat (b.I.toNat:Int)):Int)) ∧ ((0:Int) ≤ a.I ∧ a.I < (↑(Int.toNat (b.I.toNat:Int)):Int)) ∧ Int.toNat (b.I.toNat:Int) ≤ c.L.length)) (T.leaf (Rd.again [D.i (IntKind.i64.wrap (Int.tdiv (IntKind.i64.wrap (a.I - (1:Int))) (2:Int))),D.i (b.I.toNat:Int),D.l (swapR c.L (Int.toNat (IntKind.i64.wrap (Int.tdiv (IntKind.i64.wrap (a.I - (1:Int))) (2:Int)))) a.I.toNat)]))))))):=by kernel_rfl
theorem t174 (a b c d:D):fnTW C tab174 174 s174 [a,b,c,d] =
 T.need (yes ((0:Int) ≤ a.I ∧ a.I ≤ b.I ∧ b.I ≤ (↑(Int.toNat (c.I.toNat:Int)):Int) ∧ Int.toNat (c.I.toNat:Int) ≤ d.L.length ∧ Int.toNat (c.I.toNat:Int) < 2199023255552)) (T.leaf [D.b (decide ((↑(downF (b.I.toNat + 1) d.L b.I.toNat a.I.toNat).snd:Int) > a.I)),D.i (↑(Int.toNat (↑(Int.toNat (c.I.toNat:Int)):Int)):Int),D.l (downF (b.I.toNat + 1) d.L b.I.toNat a.I.toNat).fst]):=by kernel_rfl
theorem t174_2 (a b c d e:D):roundTK C tab174 174 (loopOf C.P 174 2) 2 l174_2 [a,b,c,d,e] =
 T.ite (decide (IntKind.i64.wrap (IntKind.i64.wrap ((2:Int) * c.I) + (1:Int)) ≥ b.I)) (T.leaf (Rd.out (Ex.exit 0) [D.i a.I,D.i c.I,D.i (d.I.toNat:Int),D.l e.L])) (T.ite (decide (IntKind.i64.wrap (IntKind.i64.wrap ((2:Int) * c.I) + (1:Int)) < (0:Int))) (T.leaf (Rd.out (Ex.exit 0) [D.i a.I,D.i c.I,D.i (d.I.toNat:Int),D.l e.L])) (T.ite (decide (IntKind.i64.wrap (IntKind.i64.wrap (IntKind.i64.wrap ((2:Int) * c.I) + (1:Int)) + (1:Int)) < b.I)) (T.need (decide (d.I.toNat ≤ e.L.length)) (T.need (yes (((0:Int) ≤ IntKind.i64.wrap (IntKind.i64.wrap (IntKind.i64.wrap ((2:Int) * c.I) + (1:Int)) + (1:Int)) ∧ IntKind.i64.wrap (IntKind.i64.wrap (IntKind.i64.wrap ((2:Int) * c.I) + (1:Int)) + (1:Int)) < (↑(List.length (List.take d.I.toNat e.L)):Int)) ∧ (0:Int) ≤ IntKind.i64.wrap (IntKind.i64.wrap ((2:Int) * c.I) + (1:Int)) ∧ IntKind.i64.wrap (IntKind.i64.wrap ((2:Int) * c.I) + (1:Int)) < (↑(List.length (List.take d.I.toNat e.L)):Int))) (T.ite (decide (atR (List.take d.I.toNat e.L) (Int.toNat (IntKind.i64.wrap (IntKind.i64.wrap (IntKind.i64.wrap ((2:Int) * c.I) + (1:Int)) + (1:Int)))) < atR (List.take d.I.toNat e.L) (Int.toNat (IntKind.i64.wrap (IntKind.i64.wrap ((2:Int) * c.I) + (1:Int)))))) (T.need (decide (d.I.toNat ≤ e.L.length)) (T.need (yes (((0:Int) ≤ IntKind.i64.wrap (IntKind.i64.wrap (IntKind.i64.wrap ((2:Int) * c.I) + (1:Int)) + (1:Int)) ∧ IntKind.i64.wrap (IntKind.i64.wrap (IntKind.i64.wrap ((2:Int) * c.I) + (1:Int)) + (1:Int)) < (↑(List.length (List.take d.I.toNat e.L)):Int)) ∧ (0:Int) ≤ c.I ∧ c.I < (↑(List.length (List.take d.I.toNat e.L)):Int))) (T.ite (!decide (atR (List.take d.I.toNat e.L) (Int.toNat (IntKind.i64.wrap (IntKind.i64.wrap (IntKind.i64.wrap ((2:Int) * c.I) + (1:Int)) + (1:Int)))) < atR (List.take d.I.toNat e.L) c.I.toNat)) (T.leaf (Rd.out (Ex.exit 0) [D.i a.I,D.i c.I,D.i (d.I.toNat:Int),D.l e.L])) (T.need (yes (((0:Int) ≤ c.I ∧ c.I < (↑(Int.toNat (d.I.toNat:Int)):Int)) ∧ ((0:Int) ≤ IntKind.i64.wrap (IntKind.i64.wrap (IntKind.i64.wrap ((2:Int) * c.I) + (1:Int)) + (1:Int)) ∧ IntKind.i64.wrap (IntKind.i64.wrap (IntKind.i64.wrap ((2:Int) * c.I) + (1:Int)) + (1:Int)) < (↑(Int.toNat (d.I.toNat:Int)):Int)) ∧ Int.toNat (d.I.toNat:Int) ≤ e.L.length)) (T.leaf (Rd.again [D.i a.I,D.i b.I,D.i (IntKind.i64.wrap (IntKind.i64.wrap (IntKind.i64.wrap ((2:Int) * c.I) + (1:Int)) + (1:Int))),D.i (d.I.toNat:Int),D.l (swapR e.L c.I.toNat (Int.toNat (IntKind.i64.wrap (IntKind.i64.wrap (IntKind.i64.wrap ((2:Int) * c.I) + (1:Int)) + (1:Int)))))])))))) (T.need (decide (d.I.toNat ≤ e.L.length)) (T.need (yes (((0:Int) ≤ IntKind.i64.wrap (IntKind.i64.wrap ((2:Int) * c.I) + (1:Int)) ∧ IntKind.i64.wrap (IntKind.i64.wrap ((2:Int) * c.I) + (1:Int)) < (↑(List.length (List.take d.I.toNat e.L)):Int)) ∧ (0:Int) ≤ c.I ∧ c.I < (↑(List.length (List.take d.I.toNat e.L)):Int))) (T.ite (!decide (atR (List.take d.I.toNat e.L) (Int.toNat (IntKind.i64.wrap (IntKind.i64.wrap ((2:Int) * c.I) + (1:Int)))) < atR (List.take d.I.toNat e.L) c.I.toNat)) (T.leaf (Rd.out (Ex.exit 0) [D.i a.I,D.i c.I,D.i (d.I.toNat:Int),D.l e.L])) (T.need (yes (((0:Int) ≤ c.I ∧ c.I < (↑(Int.toNat (d.I.toNat:Int)):Int)) ∧ ((0:Int) ≤ IntKind.i64.wrap (IntKind.i64.wrap ((2:Int) * c.I) + (1:Int)) ∧ IntKind.i64.wrap (IntKind.i64.wrap ((2:Int) * c.I) + (1:Int)) < (↑(Int.toNat (d.I.toNat:Int)):Int)) ∧ Int.toNat (d.I.toNat:Int) ≤ e.L.length)) (T.leaf (Rd.again [D.i a.I,D.i b.I,D.i (IntKind.i64.wrap (IntKind.i64.wrap ((2:Int) * c.I) + (1:Int))),D.i (d.I.toNat:Int),D.l (swapR e.L c.I.toNat (Int.toNat (IntKind.i64.wrap (IntKind.i64.wrap ((2:Int) * c.I) + (1:Int)))))]))))))))) (T.need (decide (d.I.toNat ≤ e.L.length)) (T.need (yes (((0:Int) ≤ IntKind.i64.wrap (IntKind.i64.wrap ((2:Int) * c.I) + (1:Int)) ∧ IntKind.i64.wrap (IntKind.i64.wrap ((2:Int) * c.I) + (1:Int)) < (↑(List.length (List.take d.I.toNat e.L)):Int)) ∧ (0:Int) ≤ c.I ∧ c.I < (↑(List.length (List.take d.I.toNat e.L)):Int))) (T.ite (!decide (atR (List.take d.I.toNat e.L) (Int.toNat (IntKind.i64.wrap (IntKind.i64.wrap ((2:Int) * c.I) + (1:Int)))) < atR (List.take d.I.toNat e.L) c.I.toNat)) (T.leaf (Rd.out (Ex.exit 0) [D.i a.I,D.i c.I,D.i (d.I.toNat:Int),D.l e.L])) (T.need (yes (((0:Int) ≤ c.I ∧ c.I < (↑(Int.toNat (d.I.toNat:Int)):Int)) ∧ ((0:Int) ≤ IntKind.i64.wrap (IntKind.i64.wrap ((2:Int) * c.I) + (1:Int)) ∧ IntKind.i64.wrap (IntKind.i64.wrap ((2:Int) * c.I) + (1:Int)) < (↑(Int.toNat (d.I.toNat:Int)):Int)) ∧ Int.toNat (d.I.toNat:Int) ≤ e.L.length)) (T.leaf (Rd.again [D.i a.I,D.i b.I,D.i (IntKind.i64.wrap (IntKind.i64.wrap ((2:Int) * c.I) + (1:Int))),D.i (d.I.toNat:Int),D.l (swapR e.L c.I.toNat (Int.toNat (IntKind.i64.wrap (IntKind.i64.wrap ((2:Int) * c.I) + (1:Int)))))])))))))):=by kernel_rfl
theorem t141 (a b c d:D):fnTW C tab141 141 s141 [a,b,c,d] =
 T.need (yes (Int.toNat (c.I.toNat:Int) ≤ d.L.length ∧ Int.toNat (c.I.toNat:Int) < 1099511627776)) (T.need (decide (Int.toNat (↑(Int.toNat (c.I.toNat:Int) + 1):Int) ≤ List.length (List.take (Int.toNat (c.I.toNat:Int)) d.L ++ [[D.i a.I,D.i b.I]]))) (T.need (yes ((0:Int) ≤ IntKind.i64.wrap ((↑(List.length (List.take (Int.toNat (↑(Int.toNat (c.I.toNat:Int) + 1):Int)) (List.take (Int.toNat (c.I.toNat:Int)) d.L ++ [[D.i a.I,D.i b.I]]))):Int) - (1:Int)) ∧ IntKind.i64.wrap ((↑(List.length (List.take (Int.toNat (↑(Int.toNat (c.I.toNat:Int) + 1):Int)) (List.take (Int.toNat (c.I.toNat:Int)) d.L ++ [[D.i a.I,D.i b.I]]))):Int) - (1:Int)) < (↑(Int.toNat (↑(Int.toNat (↑(Int.toNat (c.I.toNat:Int) + 1):Int)):Int)):Int) ∧ Int.toNat (↑(Int.toNat (↑(Int.toNat (c.I.toNat:Int) + 1):Int)):Int) ≤ List.length (List.take (Int.toNat (c.I.toNat:Int)) d.L ++ [[D.i a.I,D.i b.I]]) ∧ Int.toNat (↑(Int.toNat (↑(Int.toNat (c.I.toNat:Int) + 1):Int)):Int) < 2199023255552)) (T.leaf [D.i (↑(Int.toNat (↑(Int.toNat (↑(Int.toNat (↑(Int.toNat (c.I.toNat:Int) + 1):Int)):Int)):Int)):Int),D.l (upF (Int.toNat (IntKind.i64.wrap ((↑(List.length (List.take (Int.toNat (↑(Int.toNat (c.I.toNat:Int) + 1):Int)) (List.take (Int.toNat (c.I.toNat:Int)) d.L ++ [[D.i a.I,D.i b.I]]))):Int) - (1:Int))) + 1) (List.take (Int.toNat (c.I.toNat:Int)) d.L ++ [[D.i a.I,D.i b.I]]) (Int.toNat (IntKind.i64.wrap ((↑(List.length (List.take (Int.toNat (↑(Int.toNat (c.I.toNat:Int) + 1):Int)) (List.take (Int.toNat (c.I.toNat:Int)) d.L ++ [[D.i a.I,D.i b.I]]))):Int) - (1:Int)))))]))):=by kernel_rfl
theorem t173 (a b:D):fnTW C tab173 173 s173 [a,b] =
 T.need (decide (a.I.toNat ≤ b.L.length)) (T.need (yes (((0:Int) ≤ (0:Int) ∧ (0:Int) < (↑(Int.toNat (a.I.toNat:Int)):Int)) ∧ ((0:Int) ≤ IntKind.i64.wrap ((↑(List.length (List.take a.I.toNat b.L)):Int) - (1:Int)) ∧ IntKind.i64.wrap ((↑(List.length (List.take a.I.toNat b.L)):Int) - (1:Int)) < (↑(Int.toNat (a.I.toNat:Int)):Int)) ∧ Int.toNat (a.I.toNat:Int) ≤ b.L.length)) (T.need (yes ((0:Int) ≤ (0:Int) ∧ (0:Int) ≤ IntKind.i64.wrap ((↑(List.length (List.take a.I.toNat b.L)):Int) - (1:Int)) ∧ IntKind.i64.wrap ((↑(List.length (List.take a.I.toNat b.L)):Int) - (1:Int)) ≤ (↑(Int.toNat (a.I.toNat:Int)):Int) ∧ Int.toNat (a.I.toNat:Int) ≤ List.length (swapR b.L (Int.toNat (0:Int)) (Int.toNat (IntKind.i64.wrap ((↑(List.length (List.take a.I.toNat b.L)):Int) - (1:Int))))) ∧ Int.toNat (a.I.toNat:Int) < 2199023255552)) (T.need (yes (1 ≤ Int.toNat (↑(Int.toNat (↑(Int.toNat (a.I.toNat:Int)):Int)):Int) ∧ Int.toNat (↑(Int.toNat (↑(Int.toNat (a.I.toNat:Int)):Int)):Int) ≤ List.length (downF (Int.toNat (IntKind.i64.wrap ((↑(List.length (List.take a.I.toNat b.L)):Int) - (1:Int))) + 1) (swapR b.L (Int.toNat (0:Int)) (Int.toNat (IntKind.i64.wrap ((↑(List.length (List.take a.I.toNat b.L)):Int) - (1:Int))))) (Int.toNat (IntKind.i64.wrap ((↑(List.length (List.take a.I.toNat b.L)):Int) - (1:Int)))) (Int.toNat (0:Int))).fst ∧ Int.toNat (↑(Int.toNat (↑(Int.toNat (a.I.toNat:Int)):Int)):Int) < 1099511627776)) (T.leaf [D.i (ix (List.getD (downF (Int.toNat (IntKind.i64.wrap ((↑(List.length (List.take a.I.toNat b.L)):Int) - (1:Int))) + 1) (swapR b.L (Int.toNat (0:Int)) (Int.toNat (IntKind.i64.wrap ((↑(List.length (List.take a.I.toNat b.L)):Int) - (1:Int))))) (Int.toNat (IntKind.i64.wrap ((↑(List.length (List.take a.I.toNat b.L)):Int) - (1:Int)))) (Int.toNat (0:Int))).fst (Int.toNat (↑(Int.toNat (↑(Int.toNat (a.I.toNat:Int)):Int)):Int) - 1) []) 0),D.i (ix (List.getD (downF (Int.toNat (IntKind.i64.wrap ((↑(List.length (List.take a.I.toNat b.L)):Int) - (1:Int))) + 1) (swapR b.L (Int.toNat (0:Int)) (Int.toNat (IntKind.i64.wrap ((↑(List.length (List.take a.I.toNat b.L)):Int) - (1:Int))))) (Int.toNat (IntKind.i64.wrap ((↑(List.length (List.take a.I.toNat b.L)):Int) - (1:Int)))) (Int.toNat (0:Int))).fst (Int.toNat (↑(Int.toNat (↑(Int.toNat (a.I.toNat:Int)):Int)):Int) - 1) []) 1),D.i (↑(Int.toNat (↑(Int.toNat (↑(Int.toNat (↑(Int.toNat (a.I.toNat:Int)):Int)):Int) - 1):Int)):Int),D.l (downF (Int.toNat (IntKind.i64.wrap ((↑(List.length (List.take a.I.toNat b.L)):Int) - (1:Int))) + 1) (swapR b.L (Int.toNat (0:Int)) (Int.toNat (IntKind.i64.wrap ((↑(List.length (List.take a.I.toNat b.L)):Int) - (1:Int))))) (Int.toNat (IntKind.i64.wrap ((↑(List.length (List.take a.I.toNat b.L)):Int) - (1:Int)))) (Int.toNat (0:Int))).fst])))):=by kernel_rfl
theorem t172 (a b:D):fnTW C tab172 172 s172 [a,b] =
 T.need (yes (1 ≤ Int.toNat (a.I.toNat:Int) ∧ Int.toNat (a.I.toNat:Int) ≤ b.L.length ∧ Int.toNat (a.I.toNat:Int) < 1099511627776)) (T.leaf [D.i (ix (List.getD (popR b.L (Int.toNat (a.I.toNat:Int))) (Int.toNat (a.I.toNat:Int) - 1) []) 0),D.i (ix (List.getD (popR b.L (Int.toNat (a.I.toNat:Int))) (Int.toNat (a.I.toNat:Int) - 1) []) 1),D.i (↑(Int.toNat (↑(Int.toNat (a.I.toNat:Int) - 1):Int)):Int),D.l (popR b.L (Int.toNat (a.I.toNat:Int)))]):=by kernel_rfl
theorem t120 (a b c d:D):fnTW C tab120 120 s120 [a,b,c,d] =
 T.leaf [D.i c.I,D.l d.L,D.i a.I,D.i b.I]:=by kernel_rfl
theorem t121 (q:Nat) (a b c d:D):fnTY C (tab121 q) 121 s121 [a,b,c,d] =
 T.need (yes (okR b.L ∧ okS d.I ∧ (b.L.length:Int) = (b.L.length:Int) ∧ (0:Int) ≤ (0:Int) ∧ (0:Int) ≤ (b.L.length:Int) ∧ List.length ([]:List (List D)) ≤ q)) (T.ite (decide (q < List.length ([]:List (List D)) + List.length (nextF b.L c.I d.I (Int.toNat (0:Int)) (b.L.length - Int.toNat (0:Int))))) (T.leaf ([] ++ List.take (q + 1 - List.length ([]:List (List D))) (nextF b.L c.I d.I (Int.toNat (0:Int)) (b.L.length - Int.toNat (0:Int))))) (T.leaf ([] ++ nextF b.L c.I d.I (Int.toNat (0:Int)) (b.L.length - Int.toNat (0:Int))))):=by kernel_rfl
theorem t121_1 (q:Nat) (a b c d e f:D):roundTY C (tab121 q) 121 (loopOf C.P 121 1) 2 l121_1 [a,b,c,d,e,f] =
 T.ite (decide (d.I < c.I)) (T.need (decide ((0:Int) ≤ d.I ∧ d.I < (b.L.length:Int))) (T.ite (D.I (List.getD (List.getD b.L d.I.toNat []) 0 default) == e.I) (T.need (yes (okT (D.I (List.getD (List.getD b.L d.I.toNat []) (0 + 1 + 1) default)) ∧ okS f.I ∧ okC (D.L (List.getD (List.getD b.L d.I.toNat []) (0 + 1 + 1 + 1) default)))) (T.ite (!!a.L.length == (tab121 q).q) (T.leaf (Rd.out Ex.ret [D.l (a.L ++ [[D.i (D.I (List.getD (List.getD b.L d.I.toNat []) (0 + 1) default))] ++ ([D.i (IntKind.i64.wrap (entF (D.L (List.getD (List.getD b.L d.I.toNat []) (0 + 1 + 1 + 1) default)) (D.I (List.getD (List.getD b.L d.I.toNat []) (0 + 1 + 1) default)) 0 (List.length (D.L (List.getD (List.getD b.L d.I.toNat []) (0 + 1 + 1 + 1) default))) f.I + D.I (List.getD (List.getD b.L d.I.toNat []) (0 + 1 + 1) default)))] ++ []) ++ [] ++ []]),D.i e.I,D.i f.I])) (T.leaf (Rd.again [D.l (a.L ++ [[D.i (D.I (List.getD (List.getD b.L d.I.toNat []) (0 + 1) default))] ++ ([D.i (IntKind.i64.wrap (entF (D.L (List.getD (List.getD b.L d.I.toNat []) (0 + 1 + 1 + 1) default)) (D.I (List.getD (List.getD b.L d.I.toNat []) (0 + 1 + 1) default)) 0 (List.length (D.L (List.getD (List.getD b.L d.I.toNat []) (0 + 1 + 1 + 1) default))) f.I + D.I (List.getD (List.getD b.L d.I.toNat []) (0 + 1 + 1) default)))] ++ []) ++ [] ++ []]),D.l b.L,D.i c.I,D.i (IntKind.i64.wrap (d.I + (1:Int))),D.i e.I,D.i f.I])))) (T.leaf (Rd.again [D.l a.L,D.l b.L,D.i c.I,D.i (IntKind.i64.wrap (d.I + (1:Int))),D.i e.I,D.i f.I])))) (T.leaf (Rd.out (Ex.exit 0) [D.l a.L,D.i e.I,D.i f.I])):=by kernel_rfl
set_option maxRecDepth 100000
theorem ok83 (n:Nat):FnOK C (n + 1) 83 (mkF s83 G83):=by
 refine fn_ofS hC (sp:=sp83) (lp:=lp83) (sw:=sw83) trivial trivial (by kernel_rfl) [] (by kernel_rfl) rfl (fun k hk=>by cases hk) fun ds r h=>?_
 unfold G83 at h
 split at h
 ·rename_i a b c
  cases h
  refine (congrArg T.run (t83 a b c)).trans (go_if (fun h1=>?_) fun h1=>?_)
  ·rw [within_dec]
   simp only [run_leaf,show (b.I ≤ a.I ∧ a.I ≤ c.I) ↔ a.I ≤ c.I from ⟨fun h=>h.2,fun h=>⟨h1,h⟩⟩]
  ·rw [within_dec,decide_eq_false (fun h=>h1 h.1)]
   rfl
 ·cases h
theorem entF_step {l:List (List D)} {c s:Int} {j:Nat} (hj:j < l.length):entF l c j (l.length - j) s = entF l c (j + 1) (l.length - (j + 1)) (if s + c > ix (l.getD j []) 0 ∧ s < ix (l.getD j []) 1 then ix (l.getD j []) 1 else s):=by
 rw [show l.length - j = (l.length - (j + 1)) + 1 by omega]
 rfl
theorem okS_of {l:List (List D)} {j:Nat} (h:okC l):okS (ix (l.getD j []) 1):=by
 have:=h.2 j
 unfold okS
 omega
theorem ok87_2 (n:Nat):LoopSim C n 87 (loopOf C.P 87 2) (mkL l87_2 G87_2):=by
 refine loop_ofK hC (sp:=sp87) (lp:=lp87) (sw:=sw87) trivial trivial 0 [] (by kernel_rfl) rfl (fun k hk=>by cases hk) (by kernel_rfl) (fun ds=>((ds.getD 2 default).I - (ds.getD 3 default).I).toNat) fun ds rr h=>?_
 unfold G87_2 at h
 split at h
 ·rename_i s l m i a b c l2
  obtain ⟨hp,h⟩:=need_some h
  rw [yes_iff] at hp
  obtain ⟨hc,hs,hl,hm,hi0,hi1⟩:=hp
  have hb:=big_eq
  have hll:=hl.1
  refine ⟨by rw [fuelC]; simp; omega,?_⟩
  rw [show roundTK C (mkTab sp87 lp87 sw87) 87 (loopOf C.P 87 2) 0 l87_2 [s,l,m,i,a,b,c,l2] = _ from t87_2 s l m i a b c l2]
  obtain ⟨j,hj⟩:∃ j:Nat,i.I = j:=⟨i.I.toNat,by omega⟩
  simp only [hj,hm,Int.toNat_natCast,ix_def] at h hi0 hi1 ⊢
  have hcj:=hl.2 j
  unfold okS at hs
  unfold okT at hc
  refine rd_if (fun hlt=>?_) fun hge=>?_
  ·rw [entF_step (by omega)] at h
   rw [wrap_id (by omega) (by omega),wrap_succ (by omega)]
   refine rd_dec (by omega) (rd_if (fun c1=>rd_if (fun c2=>?_) fun c2=>?_) fun c1=>?_)
   ·rw [if_pos ⟨c1,c2⟩] at h
    refine rd_again ((need_yes ⟨hc,okS_of hl,hl,by simp only [I_i,L_l],by simp only [I_i]; omega,by simp only [I_i,L_l]; omega⟩).trans ?_) ?_
    ·exact h
    ·show ((l.L.length:Int) - ((j + 1:Nat):Int)).toNat < (m.I - i.I).toNat
     rw [hj,hm]; omega
   ·rw [if_neg (fun h=>c2 h.2)] at h
    refine rd_again ((need_yes ⟨hc,hs,hl,by simp only [I_i,L_l],by simp only [I_i]; omega,by simp only [I_i,L_l]; omega⟩).trans ?_) ?_
    ·exact h
    ·show ((l.L.length:Int) - ((j + 1:Nat):Int)).toNat < (m.I - i.I).toNat
     rw [hj,hm]; omega
   ·rw [if_neg (fun h=>c1 h.1)] at h
    refine rd_again ((need_yes ⟨hc,hs,hl,by simp only [I_i,L_l],by simp only [I_i]; omega,by simp only [I_i,L_l]; omega⟩).trans ?_) ?_
    ·exact h
    ·show ((l.L.length:Int) - ((j + 1:Nat):Int)).toNat < (m.I - i.I).toNat
     rw [hj,hm]; omega
  ·rw [show l.L.length - j = 0 by omega] at h
   exact rd_out h
 ·cases h
theorem ok87 (n:Nat):FnOK C (n + 1) 87 (mkF s87 G87):=by
 refine fn_ofS hC (sp:=sp87) (lp:=lp87) (sw:=sw87) trivial trivial (by kernel_rfl) [2] (by kernel_rfl) (by kernel_rfl) (fun k hk L hL=>by
  simp at hk; subst hk; cases hL; exact ok87_2 n) fun ds r h=>?_
 unfold G87 at h
 split at h
 ·rename_i a b c l s
  obtain ⟨hp,h⟩:=need_some h
  rw [yes_iff] at hp
  obtain ⟨hc,hs,hl⟩:=hp
  refine (congrArg T.run (t87 a b c l s)).trans (go_yes ⟨hc,hs,hl,rfl,by omega,by omega⟩ ?_)
  exact h
 ·cases h
theorem ok168 (n:Nat):FnOK C (n + 1) 168 (mkF s168 G168):=by
 refine fn_ofS hC (sp:=sp168) (lp:=lp168) (sw:=sw168) trivial trivial (by kernel_rfl) [] (by kernel_rfl) rfl (fun k hk=>by cases hk) fun ds r h=>?_
 unfold G168 at h
 split at h
 ·rename_i l
  exact (congrArg T.run (t168 l)).trans h
 ·cases h
theorem ok169 (n:Nat):FnOK C (n + 1) 169 (mkF s169 G169):=by
 refine fn_ofS hC (sp:=sp169) (lp:=lp169) (sw:=sw169) trivial trivial (by kernel_rfl) [] (by kernel_rfl) rfl (fun k hk=>by cases hk) fun ds r h=>?_
 unfold G169 at h
 split at h
 ·rename_i l i j
  obtain ⟨hp,h⟩:=need_some h
  rw [yes_iff] at hp
  exact (congrArg T.run (t169 l i j)).trans (go_dec hp.1 (go_dec hp.2 h))
 ·cases h
theorem len_swap (l:List (List D)) (i j:Nat):(swapR l i j).length = l.length:=by simp [swapR]
theorem getD_set {l:List (List D)} {i k:Nat} {c:List D} (hi:i < l.length):(l.set i c).getD k [] = if k = i then c else l.getD k []:=by
 simp only [List.getD_eq_getElem?_getD,List.getElem?_set]
 by_cases e:k = i
 ·subst e; simp [hi]
 ·rw [if_neg (fun h=>e h.symm),if_neg e]
theorem ok171 (n:Nat):FnOKW C (n + 1) 171 (mkFW s171 G171):=by
 refine fn_ofW hC (sp:=sp171) (lp:=lp171) (sw:=sw171) trivial trivial (by kernel_rfl) [] (by kernel_rfl) rfl (fun k hk=>by cases hk) fun ds r h=>?_
 unfold G171 at h
 split at h
 ·rename_i m i j l
  obtain ⟨hp,h⟩:=need_some h
  rw [yes_iff] at hp
  obtain ⟨h1,h2,h3⟩:=hp
  refine (congrArg T.run (t171 m i j l)).trans (go_dec h2 (go_dec (by omega) (go_dec h1 (go_dec (by omega) (go_dec h1 (go_dec (by omega) (go_dec h2 (go_dec (by rw [List.length_set]; omega) ?_))))))))
  simp only [upd2]
  exact h
 ·cases h
theorem ok176 (n:Nat):FnOKW C (n + 1) 176 (mkFW s176 G176):=by
 refine fn_ofW hC (sp:=sp176) (lp:=lp176) (sw:=sw176) trivial trivial (by kernel_rfl) [] (by kernel_rfl) rfl (fun k hk=>by cases hk) fun ds r h=>?_
 unfold G176 at h
 split at h
 ·rename_i m l
  obtain ⟨hp,h⟩:=need_some h
  rw [yes_iff] at hp
  obtain ⟨h1,h2,h3⟩:=hp
  refine (congrArg T.run (t176 m l)).trans ?_
  rw [wrap_id (by omega) (by omega),show ((m.I.toNat:Int) - 1) = ((m.I.toNat - 1:Nat):Int) by omega]
  simp only [Int.toNat_natCast]
  exact go_need (by simp; omega) (go_need (by simp; omega) (go_need (by simp; omega) h))
 ·cases h
theorem ok170 (n:Nat):FnOKW C (n + 1) 170 (mkFW s170 G170):=by
 have hby:Try.prog.types[169].bytes = 16:=by kernel_rfl
 refine fn_ofW hC (sp:=sp170) (lp:=lp170) (sw:=sw170) trivial trivial (by kernel_rfl) [] (by kernel_rfl) rfl (fun k hk=>by cases hk) fun ds r h=>?_
 unfold G170 at h
 split at h
 ·rename_i v t m l
  obtain ⟨hp,h⟩:=need_some h
  rw [yes_iff] at hp
  obtain ⟨h1,h2⟩:=hp
  refine (congrArg T.run (t170 v t m l)).trans (go_need rfl (go_false rfl (go_dec ⟨h1,by simp; omega,by rw [hby]; simp; omega⟩ h)))
 ·cases h
theorem ok120 (n:Nat):FnOKW C (n + 1) 120 (mkFW s120 G120):=by
 refine fn_ofW hC (sp:=sp120) (lp:=lp120) (sw:=sw120) trivial trivial (by kernel_rfl) [] (by kernel_rfl) rfl (fun k hk=>by cases hk) fun ds r h=>?_
 unfold G120 at h
 split at h
 ·rename_i v t m l
  exact (congrArg T.run (t120 v t m l)).trans h
 ·cases h
theorem upF_more:∀ (j f:Nat) (l:List (List D)),j + 1 ≤ f → upF f l j = upF (j + 1) l j:=by
 intro j
 induction j using Nat.strongRecOn with
 | _ j ih=>
   intro f l hf
   obtain ⟨f,rfl⟩:∃ g,f = g + 1:=⟨f - 1,by omega⟩
   simp only [upF]
   split
   ·rfl
   ·rename_i hc
    rw [not_or] at hc
    have hlt:(j - 1) / 2 < j:=by omega
    rw [ih _ hlt f _ (by omega),ih _ hlt j _ (by omega)]
theorem half_eq {j:Nat} (hj:j < 2199023255552):IntKind.wrap .i64 (Int.tdiv (IntKind.wrap .i64 ((j:Int) - 1)) 2) = (((j - 1) / 2:Nat):Int):=by
 rw [wrap_id (x:=(j:Int) - 1) (by omega) (by omega)]
 cases j with
 | zero=>rfl
 | succ j=>
   rw [show ((j + 1:Nat):Int) - 1 = (j:Int) by omega,show j + 1 - 1 = j by omega,Int.tdiv_eq_ediv_of_nonneg (by omega)]
   rw [wrap_id (by omega) (by omega)]
   omega
theorem at_take {l:List (List D)} {n i:Nat} (hi:i < n):atR (l.take n) i = atR l i:=by
 unfold atR
 simp only [List.getD_eq_getElem?_getD,List.getElem?_take,if_pos hi]
theorem ok145_0 (n:Nat):LoopSimK C (n + 1) 2 145 (loopOf C.P 145 0) (mkLK 2 l145_0 G145_0):=by
 refine loop_ofK hC (sp:=sp145) (lp:=lp145) (sw:=sw145) ⟨ok169 n,trivial⟩ ⟨ok171 n,trivial⟩ 2 [] (by kernel_rfl) rfl (fun k hk=>by cases hk) (by kernel_rfl) (fun ds=>(ds.getD 0 default).I.toNat) fun ds rr h=>?_
 unfold G145_0 at h
 split at h
 ·rename_i i m l
  obtain ⟨hp,h⟩:=need_some h
  rw [yes_iff] at hp
  obtain ⟨h0,h1,h2,h3⟩:=hp
  refine ⟨by rw [fuelC]; simp; omega,?_⟩
  rw [show roundTK C (mkTab sp145 lp145 sw145) 145 (loopOf C.P 145 0) 2 l145_0 [i,m,l] = _ from t145_0 i m l]
  obtain ⟨j,hj⟩:∃ j:Nat,i.I = j:=⟨i.I.toNat,by omega⟩
  rw [hj,half_eq (by omega)]
  simp only [hj,Int.toNat_natCast] at h h1 ⊢
  have ht:(l.L.take m.I.toNat).length = m.I.toNat:=by rw [List.length_take]; omega
  have hl1:j < m.I.toNat:=by omega
  have hl2:(j - 1) / 2 < m.I.toNat:=by omega
  simp only [at_take hl1,at_take hl2]
  simp only [upF] at h
  refine rd_need rfl (rd_ite (fun c1=>?_) fun c1=>?_)
  ·rw [beq_iff_eq] at c1
   rw [if_pos (.inl (by omega))] at h
   exact rd_out h
  ·rw [beq_eq_false_iff_ne] at c1
   refine rd_dec h2 (rd_yes (by rw [ht]; omega) (rd_not (fun c2=>?_) fun c2=>?_))
   ·have c2:=of_decide_eq_false c2
    rw [if_pos (.inr c2)] at h
    exact rd_out h
   ·have c2:=of_decide_eq_true c2
    rw [if_neg (by rw [not_or]; exact ⟨by omega,fun h=>h c2⟩)] at h
    refine rd_yes ⟨by omega,by omega,h2⟩ (rd_again ((need_yes ⟨by simp only [I_i]; omega,by simp only [I_i,Int.toNat_natCast]; omega,by simp only [I_i,L_l,Int.toNat_natCast,len_swap]; omega,by simp only [I_i,Int.toNat_natCast]; omega⟩).trans ?_) ?_)
    ·simp only [I_i,L_l,Int.toNat_natCast]
     rw [← upF_more _ j _ (by omega)]
     exact h
    ·simp only [List.getD_cons_zero,I_i,hj]; omega
 ·cases h
theorem ok145 (n:Nat):FnOKW C (n + 2) 145 (mkFW s145 G145):=by
 refine fn_ofW hC (sp:=sp145) (lp:=lp145) (sw:=sw145) ⟨ok169 n,trivial⟩ ⟨ok171 n,trivial⟩ (by kernel_rfl) [0] (by kernel_rfl) (by kernel_rfl) (fun k hk L hL=>by
  simp at hk; subst hk; cases hL; exact ok145_0 n) fun ds r h=>?_
 unfold G145 at h
 split at h
 ·rename_i j m l
  obtain ⟨hp,h⟩:=need_some h
  rw [yes_iff] at hp
  refine (congrArg T.run (t145 j m l)).trans ?_
  simp only [Int.toNat_natCast]
  exact go_yes hp h
 ·cases h
theorem downF_more (m:Nat):∀ (d i f:Nat) (l:List (List D)),m - i ≤ d → d + 1 ≤ f → downF f l m i = downF (d + 1) l m i
 | 0, i,f,l,hd,hf=>by
   obtain ⟨f,rfl⟩:∃ g,f = g + 1:=⟨f - 1,by omega⟩
   simp only [downF]
   rw [if_pos (.inl (by omega)),if_pos (.inl (by omega))]
 | d + 1,i,f,l,hd,hf=>by
   obtain ⟨f,rfl⟩:∃ g,f = g + 1:=⟨f - 1,by omega⟩
   show downF (f + 1) l m i = downF ((d + 1) + 1) l m i
   rw [downF,downF]
   split
   ·rfl
   ·rename_i hc
    rw [not_or] at hc
    have:kidR l m i = 2 * i + 1 ∨ kidR l m i = 2 * i + 2:=by unfold kidR; split <;> simp
    exact downF_more m d _ f _ (by omega) (by omega)
theorem kid_lt {l:List (List D)} {m i:Nat} (h:2 * i + 1 < m):kidR l m i < m ∧ i < kidR l m i:=by
 unfold kidR
 split
 ·rename_i hc; omega
 ·omega
theorem ok174_2 (n:Nat):LoopSimK C (n + 1) 2 174 (loopOf C.P 174 2) (mkLK 2 l174_2 G174_2):=by
 refine loop_ofK hC (sp:=sp174) (lp:=lp174) (sw:=sw174) ⟨ok169 n,trivial⟩ ⟨ok171 n,trivial⟩ 2 [] (by kernel_rfl) rfl (fun k hk=>by cases hk) (by kernel_rfl) (fun ds=>((ds.getD 1 default).I - (ds.getD 2 default).I).toNat) fun ds rr h=>?_
 unfold G174_2 at h
 split at h
 ·rename_i s m i n' l
  obtain ⟨hp,h⟩:=need_some h
  rw [yes_iff] at hp
  obtain ⟨h0,h1,h2,h3,h4⟩:=hp
  refine ⟨by rw [fuelC]; simp; omega,?_⟩
  rw [show roundTK C (mkTab sp174 lp174 sw174) 174 (loopOf C.P 174 2) 2 l174_2 [s,m,i,n',l] = _ from t174_2 s m i n' l]
  obtain ⟨j,hj⟩:∃ j:Nat,i.I = j:=⟨i.I.toNat,by omega⟩
  obtain ⟨k,hk⟩:∃ k:Nat,m.I = k:=⟨m.I.toNat,by omega⟩
  have e1:IntKind.wrap .i64 (2 * (j:Int)) = ((2 * j:Nat):Int):=by rw [wrap_id (by omega) (by omega)]; omega
  have e2:IntKind.wrap .i64 (((2 * j:Nat):Int) + 1) = ((2 * j + 1:Nat):Int):=wrap_succ (by omega)
  have e3:IntKind.wrap .i64 (((2 * j + 1:Nat):Int) + 1) = ((2 * j + 2:Nat):Int):=wrap_succ (by omega)
  simp only [hj,hk,Int.toNat_natCast] at h h1 h2
  simp only [hj,hk,e1,e2,e3,Int.toNat_natCast]
  have ht:(l.L.take n'.I.toNat).length = n'.I.toNat:=by rw [List.length_take]; omega
  rw [downF] at h
  refine rd_if (fun c1=>?_) fun c1=>rd_if (fun c2=>absurd c2 (by omega)) fun _=>?_
  ·rw [if_pos (.inl (by omega))] at h
   exact rd_out h
  ·have hstep:∀ q:Nat,kidR l.L k j = q → q < k → j < q → (atR l.L q < atR l.L j → (G174_2 [D.i s.I,D.i (k:Int),D.i (q:Int),D.i (n'.I.toNat:Int),D.l (swapR l.L j q)]).run = some rr) ∧ (¬ atR l.L q < atR l.L j → some (Ex.exit 0,[D.i s.I,D.i (j:Int),D.i (n'.I.toNat:Int),D.l l.L]) = some rr):=by
    intro q hq hqk hjq
    rw [hq] at h
    refine ⟨fun c=>?_,fun c=>?_⟩
    ·rw [if_neg (by rw [not_or]; exact ⟨by omega,fun h=>h c⟩)] at h
     refine (need_yes ⟨by simp only [I_i]; omega,by simp only [I_i]; omega,by simp only [I_i,Int.toNat_natCast]; omega,by simp only [I_i,L_l,Int.toNat_natCast,len_swap]; omega,by simp only [I_i,Int.toNat_natCast]; omega⟩).trans ?_
     simp only [I_i,L_l,Int.toNat_natCast]
     rw [downF_more k (k - 1) q (k + 1) _ (by omega) (by omega),show k - 1 + 1 = k by omega]
     exact h
    ·rw [if_pos (.inr c)] at h
     exact h
   have hend:∀ q:Nat,q < k → j < q → (((k:Int)) - (q:Int)).toNat < (m.I - i.I).toNat:=fun q h1 h2=>by rw [hj,hk]; omega
   refine rd_if (fun c3=>?_) fun c3=>?_
   ·simp only [at_take (show 2 * j + 2 < n'.I.toNat by omega),at_take (show 2 * j + 1 < n'.I.toNat by omega),at_take (show j < n'.I.toNat by omega)]
    refine rd_dec h3 (rd_yes (by rw [ht]; omega) (rd_ite (fun c4=>?_) fun c4=>?_))
    ·have c4:=of_decide_eq_true c4
     obtain ⟨z1,z2⟩:=hstep (2 * j + 2) (by unfold kidR; rw [if_pos ⟨by omega,c4⟩]) (by omega) (by omega)
     refine rd_dec h3 (rd_yes (by rw [ht]; omega) (rd_not (fun c5=>rd_out (z2 (of_decide_eq_false c5))) fun c5=>rd_yes ⟨by omega,by omega,h3⟩ (rd_again (z1 (of_decide_eq_true c5)) (hend _ (by omega) (by omega)))))
    ·have c4:=of_decide_eq_false c4
     obtain ⟨z1,z2⟩:=hstep (2 * j + 1) (by unfold kidR; rw [if_neg (fun h=>c4 h.2)]) (by omega) (by omega)
     refine rd_dec h3 (rd_yes (by rw [ht]; omega) (rd_not (fun c5=>rd_out (z2 (of_decide_eq_false c5))) fun c5=>rd_yes ⟨by omega,by omega,h3⟩ (rd_again (z1 (of_decide_eq_true c5)) (hend _ (by omega) (by omega)))))
   ·simp only [at_take (show 2 * j + 1 < n'.I.toNat by omega),at_take (show j < n'.I.toNat by omega)]
    obtain ⟨z1,z2⟩:=hstep (2 * j + 1) (by unfold kidR; rw [if_neg (fun h=>c3 (by omega))]) (by omega) (by omega)
    refine rd_dec h3 (rd_yes (by rw [ht]; omega) (rd_not (fun c5=>rd_out (z2 (of_decide_eq_false c5))) fun c5=>rd_yes ⟨by omega,by omega,h3⟩ (rd_again (z1 (of_decide_eq_true c5)) (hend _ (by omega) (by omega)))))
 ·cases h
theorem ok174 (n:Nat):FnOKW C (n + 2) 174 (mkFW s174 G174):=by
 refine fn_ofW hC (sp:=sp174) (lp:=lp174) (sw:=sw174) ⟨ok169 n,trivial⟩ ⟨ok171 n,trivial⟩ (by kernel_rfl) [2] (by kernel_rfl) (by kernel_rfl) (fun k hk L hL=>by
  simp at hk; subst hk; cases hL; exact ok174_2 n) fun ds r h=>?_
 unfold G174 at h
 split at h
 ·rename_i s m k l
  obtain ⟨hp,h⟩:=need_some h
  rw [yes_iff] at hp
  refine (congrArg T.run (t174 s m k l)).trans ?_
  simp only [Int.toNat_natCast]
  exact go_yes hp h
 ·cases h
theorem len_down (m:Nat):∀ (f:Nat) (l:List (List D)) (i:Nat),(downF f l m i).1.length = l.length
 | 0,_,_=>rfl
 | f + 1,l,i=>by
   simp only [downF]
   split
   ·rfl
   ·rw [len_down m f,len_swap]
theorem len_up:∀ (f:Nat) (l:List (List D)) (j:Nat),(upF f l j).length = l.length
 | 0,_,_=>rfl
 | f + 1,l,j=>by
   simp only [upF]
   split
   ·rfl
   ·rw [len_up f,len_swap]
theorem len_pop (l:List (List D)) (n:Nat):(popR l n).length = l.length:=by rw [popR,len_down,len_swap]
theorem ok141 (n:Nat):FnOKW C (n + 3) 141 (mkFW s141 G141):=by
 refine fn_ofW hC (sp:=sp141) (lp:=lp141) (sw:=sw141) ⟨ok168 (n + 1),trivial⟩ ⟨ok145 n,ok170 (n + 1),trivial⟩ (by kernel_rfl) [] (by kernel_rfl) rfl (fun k hk=>by cases hk) fun ds r h=>?_
 unfold G141 at h
 split at h
 ·rename_i v t m l
  obtain ⟨hp,h⟩:=need_some h
  rw [yes_iff] at hp
  obtain ⟨h1,h2⟩:=hp
  refine (congrArg T.run (t141 v t m l)).trans ?_
  simp only [Int.toNat_natCast]
  have hlen:(l.L.take m.I.toNat ++ [[D.i v.I,D.i t.I]]).length = m.I.toNat + 1:=by rw [List.length_append,List.length_take]; simp; omega
  have ht:(List.take (m.I.toNat + 1) (l.L.take m.I.toNat ++ [[D.i v.I,D.i t.I]])).length = m.I.toNat + 1:=by rw [List.length_take,hlen]; omega
  simp only [ht,hlen]
  rw [wrap_id (by omega) (by omega),show ((m.I.toNat + 1:Nat):Int) - 1 = (m.I.toNat:Int) by omega]
  simp only [Int.toNat_natCast]
  exact go_yes ⟨h1,h2⟩ (go_need (by simp) (go_yes ⟨by omega,by omega,by omega,by omega⟩ h))
 ·cases h
theorem ok173 (n:Nat):FnOKW C (n + 3) 173 (mkFW s173 G173):=by
 refine fn_ofW hC (sp:=sp173) (lp:=lp173) (sw:=sw173) ⟨ok168 (n + 1),trivial⟩ ⟨ok174 n,ok171 (n + 1),ok176 (n + 1),trivial⟩ (by kernel_rfl) [] (by kernel_rfl) rfl (fun k hk=>by cases hk) fun ds r h=>?_
 unfold G173 at h
 split at h
 ·rename_i m l
  obtain ⟨hp,h⟩:=need_some h
  rw [yes_iff] at hp
  obtain ⟨h1,h2,h3⟩:=hp
  refine (congrArg T.run (t173 m l)).trans ?_
  simp only [Int.toNat_natCast]
  have ht:(List.take m.I.toNat l.L).length = m.I.toNat:=by rw [List.length_take]; omega
  simp only [ht]
  rw [wrap_id (by omega) (by omega),show (m.I.toNat:Int) - 1 = ((m.I.toNat - 1:Nat):Int) by omega]
  simp only [Int.toNat_natCast]
  have hm:m.I.toNat - 1 + 1 = m.I.toNat:=by omega
  simp only [hm]
  refine go_need (by simp; omega) (go_yes ⟨by omega,by omega,h2⟩ (go_yes ⟨by omega,by omega,by omega,by rw [len_swap]; omega,by omega⟩ (go_yes ⟨h1,by rw [len_down,len_swap]; omega,h3⟩ ?_)))
  exact h
 ·cases h
theorem ok172 (n:Nat):FnOKW C (n + 4) 172 (mkFW s172 G172):=by
 refine fn_ofW hC (sp:=sp172) (lp:=lp172) (sw:=sw172) trivial ⟨ok173 n,trivial⟩ (by kernel_rfl) [] (by kernel_rfl) rfl (fun k hk=>by cases hk) fun ds r h=>?_
 unfold G172 G173 at h
 split at h
 ·rename_i m l
  obtain ⟨hp,h⟩:=need_some h
  rw [yes_iff] at hp
  refine (congrArg T.run (t172 m l)).trans ?_
  simp only [Int.toNat_natCast]
  exact go_yes hp h
 ·cases h
set_option maxRecDepth 100000
theorem entF_okS {l:List (List D)} {c:Int} (hl:okC l):∀ (k i:Nat) (s:Int),okS s → okS (entF l c i k s)
 | 0,_,_,h=>h
 | k + 1,i,s,h=>by
   simp only [entF]
   split
   ·exact entF_okS hl k _ _ (okS_of hl)
   ·exact entF_okS hl k _ _ h
theorem nextF_step {r:List (List D)} {v t:Int} {j:Nat} (hj:j < r.length):nextF r v t j (r.length - j) = if ix (r.getD j []) 0 = v then [.i (ix (r.getD j []) 1),.i (entW (r.getD j []) t + ix (r.getD j []) 2)] :: nextF r v t (j + 1) (r.length - (j + 1)) else nextF r v t (j + 1) (r.length - (j + 1)):=by
 rw [show r.length - j = (r.length - (j + 1)) + 1 by omega]
 rfl
theorem ok121_1 (q n:Nat):LoopSimY C (n + 1) 2 121 (loopOf C.P 121 1) (some y121) q (mkLY 2 l121_1 (G121_1 q)):=by
 refine loop_ofY hC (sp:=sp121) (lp:=lp121 q) (sw:=sw121) (Y:=y121) (yOK_mk _ _ _) ⟨ok87 n,trivial⟩ trivial 2 [] (by kernel_rfl) rfl (by kernel_rfl) (fun k hk=>by cases hk) (by kernel_rfl) (fun ds=>((ds.getD 2 default).I - (ds.getD 3 default).I).toNat) fun ds rr h=>?_
 unfold G121_1 at h
 split at h
 ·rename_i g r m i v t
  obtain ⟨hp,h⟩:=need_some h
  rw [yes_iff] at hp
  obtain ⟨hr,ht,hm,hi0,hi1,hg⟩:=hp
  have hrl:=hr.1
  refine ⟨by rw [fuelC]; simp; omega,?_⟩
  rw [show roundTY C (mkTabY sp121 (lp121 q) sw121 y121 q) 121 (loopOf C.P 121 1) 2 l121_1 [g,r,m,i,v,t] = _ from t121_1 q g r m i v t]
  obtain ⟨j,hj⟩:∃ j:Nat,i.I = j:=⟨i.I.toNat,by omega⟩
  have hq:(tab121 q).q = q:=rfl
  simp only [hj,hm,Int.toNat_natCast,ix_def,lx_def,Nat.reduceAdd,hq] at h hi0 hi1 ⊢
  have hnext:∀ {G':List (List D)},G'.length ≤ q → ((T.ite (decide (q < G'.length + (nextF r.L v.I t.I (j + 1) (r.L.length - (j + 1))).length)) (T.leaf (Ex.ret,[D.l (G' ++ (nextF r.L v.I t.I (j + 1) (r.L.length - (j + 1))).take (q + 1 - G'.length)),D.i v.I,D.i t.I]))
      (T.leaf (Ex.exit 0,[D.l (G' ++ nextF r.L v.I t.I (j + 1) (r.L.length - (j + 1))),D.i v.I,D.i t.I]))).run = some rr) → j < r.L.length → (G121_1 q [D.l G',D.l r.L,D.i (r.L.length:Int),D.i ((j + 1:Nat):Int),D.i v.I,D.i t.I]).run = some rr:=fun {G'} hG' h hlt=>by
   refine (need_yes ⟨hr,ht,by simp only [I_i,L_l],by simp only [I_i]; omega,by simp only [I_i,L_l]; omega,hG'⟩).trans ?_
   simp only [I_i,L_l,Int.toNat_natCast]
   exact h
  have hmu:j < r.L.length → ((r.L.length:Int) - ((j + 1:Nat):Int)).toNat < (m.I - i.I).toNat:=fun _=>by rw [hj,hm]; omega
  refine rd_if (fun hlt=>?_) fun hge=>?_
  ·have hlt:j < r.L.length:=by omega
   rw [nextF_step hlt] at h
   obtain ⟨hs,hc⟩:=hr.2 j hlt
   have he:=entF_okS (c:=ix (r.L.getD j []) 2) hc (lx (r.L.getD j []) 3).length 0 t.I ht
   unfold okS okT at *
   rw [wrap_succ (by omega)]
   refine rd_dec (by omega) (rd_ite (fun c1=>?_) fun c1=>?_)
   ·rw [beq_iff_eq] at c1
    rw [if_pos c1] at h
    simp only [List.length_cons] at h
    rw [wrap_id (by omega) (by omega)]
    refine rd_yes ⟨hs,ht,hc⟩ (rd_ite (fun c2=>?_) fun c2=>?_)
    ·rw [Bool.not_not] at c2
     have c2:g.L.length = q:=by simpa using c2
     rw [run_ite,if_pos (by simp; omega)] at h
     rw [show q + 1 - g.L.length = 1 by omega] at h
     exact rd_out h
    ·rw [Bool.not_not] at c2
     have c2:g.L.length ≠ q:=by
      have:¬ (g.L.length == q) = true:=by rw [show (g.L.length == q) = false from c2]; simp
      simpa using this
     refine rd_again (hnext (by simp; omega) ?_ hlt) (hmu hlt)
     simp only [List.length_append,List.length_cons,List.length_nil,List.append_nil,List.append_assoc,List.cons_append,List.nil_append]
     rw [show q + 1 - g.L.length = (q + 1 - (g.L.length + (0 + 1))) + 1 by omega,List.take_succ_cons] at h
     rw [show g.L.length + (0 + 1) + (nextF r.L v.I t.I (j + 1) (r.L.length - (j + 1))).length = g.L.length + ((nextF r.L v.I t.I (j + 1) (r.L.length - (j + 1))).length + 1) by omega]
     exact h
   ·rw [beq_eq_false_iff_ne] at c1
    rw [if_neg c1] at h
    exact rd_again (hnext hg h hlt) (hmu hlt)
  ·rw [show r.L.length - j = 0 by omega] at h
   simp only [nextF,List.length_nil,List.append_nil] at h
   rw [run_ite] at h
   split at h
   ·rename_i hc
    have:=of_decide_eq_true hc
    omega
   ·exact rd_out h
 ·cases h
theorem ok121 (n:Nat):IterOK C (n + 2) 121 y121 (mkFY s121 G121):=by
 refine iter_of hC (sp:=sp121) (lp:=lp121) (sw:=sw121) (Y:=y121) (yOK_mk _ _ _) ⟨ok87 n,trivial⟩ trivial (by kernel_rfl) [1] (by kernel_rfl) (by kernel_rfl) (by kernel_rfl) (fun q k hk L hL=>by
  simp at hk; subst hk; cases hL; exact ok121_1 q n) fun ds L h q=>?_
 unfold G121 at h
 split at h
 ·rename_i n' r v t
  obtain ⟨hp,h⟩:=need_some h
  rw [yes_iff] at hp
  cases h
  refine (congrArg T.run (t121 q n' r v t)).trans (go_yes ⟨hp.1,hp.2,rfl,by omega,by omega,by simp⟩ (go_if (fun c=>?_) fun c=>?_))
  ·simp only [List.nil_append,List.length_nil,Nat.sub_zero,run_leaf]
   rfl
  ·have c:¬ q < (nextF r.L v.I t.I 0 r.L.length).length:=fun h=>c (by simpa using h)
   simp only [List.nil_append,run_leaf]
   rw [List.take_of_length_le (by omega)]
   rfl
 ·cases h
noncomputable def it119_14:ItL:=[(121,mkFY s121 G121)]
noncomputable def sp119:SpL:=[(168,mkF s168 G168)]
noncomputable def lp119:LpL:=[(3,mkL l119_3 G119_3),(9,mkL l119_9 G119_9)]
noncomputable def sw119:SwL:=[(141,mkFW s141 G141),(120,mkFW s120 G120),(172,mkFW s172 G172)]
noncomputable def rg119:LpL:=[(14,rangeS 0 [2,6,7,9,51] (rangeOf C.P 119 14).1 it119_14 h119_14 G119_14)]
noncomputable def tab119:Tab:=mkTabR sp119 lp119 sw119 rg119
noncomputable def sp84:SpL:=[(119,mkF s119 G119)]
noncomputable def lp84:LpL:=[(3,mkL l84_3 G84_3)]
noncomputable def sw84:SwL:=[(120,mkFW s120 G120)]
noncomputable def tab84:Tab:=mkTab sp84 lp84 sw84
set_option linter.unusedVariables false
set_option maxRecDepth 100000
theorem t119 (a b c d e:D):fnT C tab119 119 s119 [a,b,c,d,e] =
 T.need (decide ((0:Int) ≤ a.I ∧ a.I = a.I ∧ a.I ≤ (2:Int) ^ 40 ∧ (↑Try.prog.types[3].bytes:Int) * a.I ≤ (2:Int) ^ 46)) (T.need (yes ((↑(List.length (List.replicate a.I.toNat [D.i 0])):Int) = (↑(Int.toNat (↑(List.length (List.replicate a.I.toNat [D.i 0])):Int)):Int) ∧ Int.toNat (↑(List.length (List.replicate a.I.toNat [D.i 0])):Int) ≤ List.length (List.replicate a.I.toNat [D.i 0]) ∧ (0:Int) ≤ (0:Int) ∧ (0:Int) ≤ (↑(List.length (List.replicate a.I.toNat [D.i 0])):Int) ∧ (↑(List.length (List.replicate a.I.toNat [D.i 0])):Int) < (1099511627776:Int))) (T.need (decide ((0:Int) ≤ b.I ∧ b.I < (↑(Int.toNat (↑(Int.toNat (↑(List.length (List.replicate a.I.toNat [D.i 0])):Int)):Int)):Int))) (T.need (decide (b.I.toNat < List.length (fillF (9223372036854775807:Int) (Int.toNat (0:Int)) (Int.toNat (↑(List.length (List.replicate a.I.toNat [D.i 0])):Int) - Int.toNat (0:Int)) (List.replicate a.I.toNat [D.i 0])))) (T.need (yes (haltS (Int.toNat (↑(Int.toNat (↑(Int.toNat (↑(List.length (List.replicate a.I.toNat [D.i 0])):Int)):Int)):Int)) e.L (mkSr (D.l (List.set (fillF (9223372036854775807:Int) (Int.toNat (0:Int)) (Int.toNat (↑(List.length (List.replicate a.I.toNat [D.i 0])):Int) - Int.toNat (0:Int)) (List.replicate a.I.toNat [D.i 0])) b.I.toNat (updC (List.getD (fillF (9223372036854775807:Int) (Int.toNat (0:Int)) (Int.toNat (↑(List.length (List.replicate a.I.toNat [D.i 0])):Int) - Int.toNat (0:Int)) (List.replicate a.I.toNat [D.i 0])) b.I.toNat []) [D.i c.I] 0 0 (List.length [K.int IntKind.i64])))) (D.i (↑(List.length [[D.i b.I,D.i c.I]]):Int)) (D.l [[D.i b.I,D.i c.I]])))) (T.leaf [D.i (↑(Int.toNat (↑(Int.toNat (↑(Int.toNat (↑(Int.toNat (↑(List.length (List.replicate a.I.toNat [D.i 0])):Int)):Int)):Int)):Int)):Int),D.l (resS (Int.toNat (↑(Int.toNat (↑(Int.toNat (↑(List.length (List.replicate a.I.toNat [D.i 0])):Int)):Int)):Int)) e.L (mkSr (D.l (List.set (fillF (9223372036854775807:Int) (Int.toNat (0:Int)) (Int.toNat (↑(List.length (List.replicate a.I.toNat [D.i 0])):Int) - Int.toNat (0:Int)) (List.replicate a.I.toNat [D.i 0])) b.I.toNat (updC (List.getD (fillF (9223372036854775807:Int) (Int.toNat (0:Int)) (Int.toNat (↑(List.length (List.replicate a.I.toNat [D.i 0])):Int) - Int.toNat (0:Int)) (List.replicate a.I.toNat [D.i 0])) b.I.toNat []) [D.i c.I] 0 0 (List.length [K.int IntKind.i64])))) (D.i (↑(List.length [[D.i b.I,D.i c.I]]):Int)) (D.l [[D.i b.I,D.i c.I]])))]))))):=by kernel_rfl
theorem t119_3 (a b c d e f g h:D):roundT C tab119 119 (loopOf C.P 119 3) l119_3 [a,b,c,d,e,f,g,h] =
 T.ite (decide (d.I < c.I)) (T.need (decide ((0:Int) ≤ d.I ∧ d.I < (g.I.toNat:Int))) (T.need (decide (d.I.toNat < h.L.length)) (T.leaf (Rd.again [D.i a.I,D.l b.L,D.i c.I,D.i (IntKind.i64.wrap (d.I + (1:Int))),D.i e.I,D.i f.I,D.i (g.I.toNat:Int),D.l (List.set h.L d.I.toNat (updC (List.getD h.L d.I.toNat []) [D.i 9223372036854775807] 0 0 (List.length [K.int IntKind.i64])))])))) (T.leaf (Rd.out (Ex.exit 0) [D.i a.I,D.l b.L,D.i e.I,D.i f.I,D.i (g.I.toNat:Int),D.l h.L])):=by kernel_rfl
theorem t119_9 (a b c d e f:D):roundT C tab119 119 (loopOf C.P 119 9) l119_9 [a,b,c,d,e,f] =
 T.need (decide (e.I.toNat ≤ f.L.length)) (T.ite (decide ((↑(List.length (List.take e.I.toNat f.L)):Int) > (0:Int))) (T.need (yes (1 ≤ Int.toNat (e.I.toNat:Int) ∧ Int.toNat (e.I.toNat:Int) ≤ f.L.length ∧ Int.toNat (e.I.toNat:Int) < 1099511627776)) (T.need (decide ((0:Int) ≤ ix (List.getD (popR f.L (Int.toNat (e.I.toNat:Int))) (Int.toNat (e.I.toNat:Int) - 1) []) 0 ∧ ix (List.getD (popR f.L (Int.toNat (e.I.toNat:Int))) (Int.toNat (e.I.toNat:Int) - 1) []) 0 < (c.I.toNat:Int))) (T.need (decide (Int.toNat (ix (List.getD (popR f.L (Int.toNat (e.I.toNat:Int))) (Int.toNat (e.I.toNat:Int) - 1) []) 0) < d.L.length)) (T.ite (decide (ix (List.getD (popR f.L (Int.toNat (e.I.toNat:Int))) (Int.toNat (e.I.toNat:Int) - 1) []) 1 > D.I (List.getD (List.getD d.L (Int.toNat (ix (List.getD (popR f.L (Int.toNat (e.I.toNat:Int))) (Int.toNat (e.I.toNat:Int) - 1) []) 0)) []) 0 default))) (T.leaf (Rd.again [D.i a.I,D.l b.L,D.i (c.I.toNat:Int),D.l d.L,D.i (↑(Int.toNat (↑(Int.toNat (e.I.toNat:Int) - 1):Int)):Int),D.l (popR f.L (Int.toNat (e.I.toNat:Int)))])) (T.need (yes (okR b.L ∧ okS (ix (List.getD (popR f.L (Int.toNat (e.I.toNat:Int))) (Int.toNat (e.I.toNat:Int) - 1) []) 1))) (T.need (yes (Int.toNat (c.I.toNat:Int) ≤ d.L.length ∧ Int.toNat (↑(Int.toNat (↑(Int.toNat (e.I.toNat:Int) - 1):Int)):Int) ≤ List.length (popR f.L (Int.toNat (e.I.toNat:Int))) ∧ Int.toNat (↑(Int.toNat (↑(Int.toNat (e.I.toNat:Int) - 1):Int)):Int) + List.length (nextF b.L (ix (List.getD (popR f.L (Int.toNat (e.I.toNat:Int))) (Int.toNat (e.I.toNat:Int) - 1) []) 0) (ix (List.getD (popR f.L (Int.toNat (e.I.toNat:Int))) (Int.toNat (e.I.toNat:Int) - 1) []) 1) 0 b.L.length) < 549755813888 ∧ ∀ (e_1:List D),e_1 ∈ nextF b.L (ix (List.getD (popR f.L (Int.toNat (e.I.toNat:Int))) (Int.toNat (e.I.toNat:Int) - 1) []) 0) (ix (List.getD (popR f.L (Int.toNat (e.I.toNat:Int))) (Int.toNat (e.I.toNat:Int) - 1) []) 1) 0 b.L.length → (0:Int) ≤ ix e_1 0 ∧ ix e_1 0 < (↑(Int.toNat (c.I.toNat:Int)):Int))) (T.leaf (Rd.again [D.i a.I,D.l b.L,D.i (↑(Int.toNat (↑(Int.toNat (c.I.toNat:Int)):Int)):Int),D.l (relF (nextF b.L (ix (List.getD (popR f.L (Int.toNat (e.I.toNat:Int))) (Int.toNat (e.I.toNat:Int) - 1) []) 0) (ix (List.getD (popR f.L (Int.toNat (e.I.toNat:Int))) (Int.toNat (e.I.toNat:Int) - 1) []) 1) 0 b.L.length) (mkSr (D.l d.L) (D.i (↑(Int.toNat (↑(Int.toNat (e.I.toNat:Int) - 1):Int)):Int)) (D.l (popR f.L (Int.toNat (e.I.toNat:Int)))))).o,D.i (↑(Int.toNat (↑(relF (nextF b.L (ix (List.getD (popR f.L (Int.toNat (e.I.toNat:Int))) (Int.toNat (e.I.toNat:Int) - 1) []) 0) (ix (List.getD (popR f.L (Int.toNat (e.I.toNat:Int))) (Int.toNat (e.I.toNat:Int) - 1) []) 1) 0 b.L.length) (mkSr (D.l d.L) (D.i (↑(Int.toNat (↑(Int.toNat (e.I.toNat:Int) - 1):Int)):Int)) (D.l (popR f.L (Int.toNat (e.I.toNat:Int)))))).k:Int)):Int),D.l (relF (nextF b.L (ix (List.getD (popR f.L (Int.toNat (e.I.toNat:Int))) (Int.toNat (e.I.toNat:Int) - 1) []) 0) (ix (List.getD (popR f.L (Int.toNat (e.I.toNat:Int))) (Int.toNat (e.I.toNat:Int) - 1) []) 1) 0 b.L.length) (mkSr (D.l d.L) (D.i (↑(Int.toNat (↑(Int.toNat (e.I.toNat:Int) - 1):Int)):Int)) (D.l (popR f.L (Int.toNat (e.I.toNat:Int)))))).q])))))))) (T.leaf (Rd.out (Ex.exit 2) [D.i (c.I.toNat:Int),D.l d.L]))):=by kernel_rfl
theorem t119_r14 (a b c d e f g h i j:D):roundRT C tab119 119 (rangeOf C.P 119 14) 0 5 [2,6,7,9,51] h119_14 y121 [a,b,c,d,e,f,g,h] [i,j] =
 T.need (decide ((0:Int) ≤ i.I ∧ i.I < (e.I.toNat:Int))) (T.need (decide (i.I.toNat < f.L.length)) (T.ite (decide (j.I < D.I (List.getD (List.getD f.L i.I.toNat []) 0 default))) (T.need (decide ((0:Int) ≤ i.I ∧ i.I < (e.I.toNat:Int))) (T.need (decide (i.I.toNat < f.L.length)) (T.need (yes (Int.toNat (g.I.toNat:Int) ≤ h.L.length ∧ Int.toNat (g.I.toNat:Int) < 1099511627776)) (T.leaf (Rd.again [D.i a.I,D.l b.L,D.i c.I,D.l d.L,D.i (e.I.toNat:Int),D.l (List.set f.L i.I.toNat (updC (List.getD f.L i.I.toNat []) [D.i j.I] 0 0 (List.length [K.int IntKind.i64]))),D.i (↑(Int.toNat (↑(Int.toNat (g.I.toNat:Int) + 1):Int)):Int),D.l (pushR h.L (Int.toNat (g.I.toNat:Int)) i.I j.I)],[]))))) (T.leaf (Rd.again [D.i a.I,D.l b.L,D.i c.I,D.l d.L,D.i (e.I.toNat:Int),D.l f.L,D.i (g.I.toNat:Int),D.l h.L],[])))):=by kernel_rfl
theorem t84 (a b c d:D):fnT C tab84 84 s84 [a,b,c,d] =
 T.need (yes ((0:Int) ≤ a.I ∧ a.I < (1099511627776:Int) ∧ (0:Int) ≤ c.I ∧ c.I < a.I ∧ haltS a.I.toNat b.L (startS a.I c.I d.I))) (T.need (yes ((a.I.toNat:Int) = (↑(Int.toNat (a.I.toNat:Int)):Int) ∧ Int.toNat (a.I.toNat:Int) = Int.toNat (a.I.toNat:Int) ∧ Int.toNat (a.I.toNat:Int) ≤ List.length (resS a.I.toNat b.L (startS a.I c.I d.I)) ∧ (0:Int) ≤ (0:Int) ∧ (0:Int) ≤ (a.I.toNat:Int) ∧ (a.I.toNat:Int) < (1099511627776:Int))) (T.leaf [D.i (↑(Int.toNat (↑(Int.toNat (a.I.toNat:Int)):Int)):Int),D.l (noneF (Int.toNat (0:Int)) (Int.toNat (a.I.toNat:Int) - Int.toNat (0:Int)) (resS a.I.toNat b.L (startS a.I c.I d.I)))])):=by kernel_rfl
theorem t84_3 (a b c d e:D):roundT C tab84 84 (loopOf C.P 84 3) l84_3 [a,b,c,d,e] =
 T.ite (decide (d.I < c.I)) (T.need (decide ((0:Int) ≤ d.I ∧ d.I < (b.I.toNat:Int))) (T.need (decide (d.I.toNat < e.L.length)) (T.ite (D.I (List.getD (List.getD e.L d.I.toNat []) 0 default) == (9223372036854775807:Int)) (T.need (decide ((0:Int) ≤ d.I ∧ d.I < (a.I.toNat:Int))) (T.need (decide (d.I.toNat < e.L.length)) (T.leaf (Rd.again [D.i (a.I.toNat:Int),D.i (b.I.toNat:Int),D.i c.I,D.i (IntKind.i64.wrap (d.I + (1:Int))),D.l (List.set e.L d.I.toNat (updC (List.getD e.L d.I.toNat []) [D.i (-1:Int)] 0 0 (List.length [K.int IntKind.i64])))])))) (T.leaf (Rd.again [D.i (a.I.toNat:Int),D.i (b.I.toNat:Int),D.i c.I,D.i (IntKind.i64.wrap (d.I + (1:Int))),D.l e.L]))))) (T.leaf (Rd.out (Ex.exit 0) [D.i (a.I.toNat:Int),D.l e.L])):=by kernel_rfl
set_option maxRecDepth 100000
theorem ok119_3 (n:Nat):LoopSim C (n + 4) 119 (loopOf C.P 119 3) (mkL l119_3 G119_3):=by
 refine loop_ofR hC (sp:=sp119) (lp:=lp119) (sw:=sw119) (rg:=rg119) ⟨ok168 (n + 3),trivial⟩ ⟨ok141 (n + 1),ok120 (n + 3),ok172 n,trivial⟩ 0 [] [] (by kernel_rfl) rfl (by kernel_rfl) rfl (fun k hk=>by cases hk) (fun k hk=>by cases hk) (by kernel_rfl) (fun ds=>((ds.getD 2 default).I - (ds.getD 3 default).I).toNat) fun ds rr h=>?_
 unfold G119_3 at h
 split at h
 ·rename_i a r m i x y k l
  obtain ⟨hp,h⟩:=need_some h
  rw [yes_iff] at hp
  obtain ⟨hm,hk,hi0,hi1,hm2⟩:=hp
  refine ⟨by rw [fuelC]; simp; omega,?_⟩
  rw [show roundTK C (mkTabR sp119 lp119 sw119 rg119) 119 (loopOf C.P 119 3) 0 l119_3 [a,r,m,i,x,y,k,l] = _ from t119_3 a r m i x y k l]
  obtain ⟨j,hj⟩:∃ j:Nat,i.I = j:=⟨i.I.toNat,by omega⟩
  simp only [hj,hm,Int.toNat_natCast,upd1,rs_def] at h hi0 hi1 hm2 ⊢
  refine rd_if (fun hlt=>?_) fun hge=>?_
  ·rw [wrap_succ (by omega)]
   rw [show k.I.toNat - j = (k.I.toNat - (j + 1)) + 1 by omega] at h
   refine rd_dec (by omega) (rd_dec (by omega) (rd_again ((need_yes ⟨by simp only [I_i,Int.toNat_natCast],by simp only [I_i,L_l,Int.toNat_natCast,len_rs]; exact hk,by simp only [I_i]; omega,by simp only [I_i]; omega,by simp only [I_i]; omega⟩).trans ?_) ?_))
   ·simp only [I_i,L_l,Int.toNat_natCast]
    exact h
   ·show ((k.I.toNat:Int) - ((j + 1:Nat):Int)).toNat < (m.I - i.I).toNat
    rw [hj,hm]; omega
  ·rw [show k.I.toNat - j = 0 by omega] at h
   exact rd_out h
 ·cases h
theorem rel_len:∀ (L:List (List D)) (s:Sr),(relF L s).o.length = s.o.length
 | [],_=>rfl
 | e :: es,s=>by
   simp only [relF]
   split
   ·rw [rel_len es,len_rs]
   ·exact rel_len es s
theorem len_push (l:List (List D)) {n:Nat} (v t:Int) (h:n ≤ l.length):(pushR l n v t).length = n + 1:=by
 unfold pushR
 rw [len_up,List.length_append,List.length_take]
 simp
 omega
theorem head75 (e:List D):y121.head e = y121.head [e.getD 0 default,e.getD 1 default]:=by
 match e with
 | []=>rfl
 | [_]=>rfl
 | _ :: _ :: _=>rfl
theorem fold73 (L:List (List D)):∀ (ds:List D) (rr:Ex × List D),(G119_14 L ds).run = some rr → FoldR (fun ds el=>(roundRT C tab119 119 (rangeOf C.P 119 14) 0 5 [2,6,7,9,51] h119_14 y121 ds el).run) y121.give (fun a b=>headA h119_14 a = headA h119_14 b) ds L rr.1 rr.2:=by
 induction L with
 | nil=>
   intro ds rr h
   unfold G119_14 at h
   split at h
   ·rename_i a r a' r' m o k q
    obtain ⟨-,h⟩:=need_some h
    cases h
    exact .nil (by rfl)
   ·cases h
 | cons e es ih=>
   intro ds rr h
   unfold G119_14 at h
   split at h
   ·rename_i a r a' r' m o k q
    obtain ⟨hp,h⟩:=need_some h
    rw [yes_iff] at hp
    obtain ⟨h1,h2,h3,h4⟩:=hp
    simp only [List.length_cons] at h3
    obtain ⟨e1,e2⟩:=h4 e List.mem_cons_self
    have h5:∀ x ∈ es,0 ≤ ix x 0 ∧ ix x 0 < (m.I.toNat:Int):=fun x hx=>h4 x (List.mem_cons_of_mem _ hx)
    have key:∀ (i j:D),i.I = ix e 0 → j.I = ix e 1 → ∃ ds',(roundRT C tab119 119 (rangeOf C.P 119 14) 0 5 [2,6,7,9,51] h119_14 y121 [a,r,a',r',m,o,k,q] [i,j]).run = some (.again ds',[]) ∧ (G119_14 es ds').run = some rr:=by
     intro i j hi hj
     have ht:=congrArg T.run (t119_r14 a r a' r' m o k q i j)
     rw [ht]
     simp only [hi,hj,Int.toNat_natCast,upd1,rs_def,rg_def]
     by_cases hc:ix e 1 < rg o.L (ix e 0).toNat
     ·have hrel:relF (e :: es) (mkSr o k q) = relF es ⟨rs o.L (ix e 0).toNat (ix e 1),k.I.toNat + 1,pushR q.L k.I.toNat (ix e 0) (ix e 1)⟩:=by
       simp only [relF]
       exact if_pos hc
      rw [hrel] at h
      refine ⟨_,go_dec ⟨e1,e2⟩ (go_dec (by omega) (go_pos hc (go_dec ⟨e1,e2⟩ (go_dec (by omega) (go_yes ⟨h2,by omega⟩ rfl))))),?_⟩
      refine (need_yes ⟨by simp only [I_i,L_l,Int.toNat_natCast,len_rs]; exact h1,by simp only [I_i,L_l,Int.toNat_natCast]; rw [len_push _ _ _ h2]; exact Nat.le_refl _,by simp only [I_i,Int.toNat_natCast]; omega,by simp only [I_i,Int.toNat_natCast]; exact h5⟩).trans ?_
      simp only [mkSr,I_i,L_l,Int.toNat_natCast]
      exact h
     ·have hrel:relF (e :: es) (mkSr o k q) = relF es (mkSr o k q):=by
       simp only [relF]
       exact if_neg hc
      rw [hrel] at h
      refine ⟨_,go_dec ⟨e1,e2⟩ (go_dec (by omega) (go_neg hc rfl)),?_⟩
      refine (need_yes ⟨by simp only [I_i,L_l,Int.toNat_natCast]; exact h1,by simp only [I_i,L_l,Int.toNat_natCast]; exact h2,by simp only [I_i,Int.toNat_natCast]; omega,by simp only [I_i,Int.toNat_natCast]; exact h5⟩).trans ?_
      simp only [mkSr,I_i,L_l,Int.toNat_natCast] at h ⊢
      exact h
    obtain ⟨ds',k1,k2⟩:=key (e.getD 0 default) (e.getD 1 default) rfl rfl
    refine .again (x':=[]) (ds':=ds') ?_ (fun h=>by cases h) (ih _ _ k2)
    have:roundRT C tab119 119 (rangeOf C.P 119 14) 0 5 [2,6,7,9,51] h119_14 y121 [a,r,a',r',m,o,k,q] e = roundRT C tab119 119 (rangeOf C.P 119 14) 0 5 [2,6,7,9,51] h119_14 y121 [a,r,a',r',m,o,k,q] [e.getD 0 default,e.getD 1 default]:=by
     unfold roundRT
     rw [head75 e]
    rw [this]
    exact k1
   ·cases h
theorem ok119_14 (n:Nat):CodeSim C (n + 4) 0 119 (rangeOf C.P 119 14).code none 0 (rangeS 0 [2,6,7,9,51] (rangeOf C.P 119 14).1 it119_14 h119_14 G119_14):=
 range_of hC (sp:=sp119) (lp:=lp119) (sw:=sw119) (rg:=rg119) (Y:=y121) (yOK_mk _ _ _) ⟨ok168 (n + 3),trivial⟩ ⟨ok141 (n + 1),ok120 (n + 3),ok172 n,trivial⟩ 14 0 5 [] (by kernel_rfl) rfl (by kernel_rfl) (by exact ⟨by kernel_rfl,by kernel_rfl⟩) (fun k hk=>by cases hk)
  (by kernel_rfl) (by kernel_rfl) (it:=it119_14) ⟨ok121 (n + 2),trivial⟩ fun L ds rr h=>fold73 L ds rr h
theorem ends_uniq {m:Nat} {r:List (List D)}:∀ {f g:Nat} {s:Sr},endsS m r f s → endsS m r g s → f = g
 | 0,0,_,_,_=>rfl
 | 0,g + 1,s,h,h'=>absurd h h'.1
 | f + 1,0,s,h,h'=>absurd h' h.1
 | f + 1,g + 1,s,h,h'=>by rw [ends_uniq h.2.2 h'.2.2]
theorem lenS_eq {m:Nat} {r:List (List D)} {f:Nat} {s:Sr} (h:endsS m r f s):lenS m r s = f:=ends_uniq (Classical.epsilon_spec (p:=fun f=>endsS m r f s) ⟨f,h⟩) h
theorem resS_eq {m:Nat} {r:List (List D)} {f:Nat} {s:Sr} (h:endsS m r f s):resS m r s = runSr r f s:=by unfold resS; rw [lenS_eq h]
theorem halt_zero {m:Nat} {r:List (List D)} {s:Sr} (hk:s.k = 0):resS m r s = s.o ∧ lenS m r s = 0:=by
 have:endsS m r 0 s:=hk
 exact ⟨resS_eq this,lenS_eq this⟩
theorem halt_step {m:Nat} {r:List (List D)} {s:Sr} (h:haltS m r s) (hk:s.k ≠ 0):needS m r s ∧ haltS m r (stepS r s) ∧ resS m r s = resS m r (stepS r s) ∧ lenS m r (stepS r s) < lenS m r s ∧ lenS m r s < 9223372036854775808:=by
 obtain ⟨f,hf,he⟩:=h
 cases f with
 | zero=>exact absurd he hk
 | succ f=>
   have he':=he
   obtain ⟨-,h1,h2⟩:=he
   exact ⟨h1,⟨f,by omega,h2⟩,by rw [resS_eq he',resS_eq h2]; rfl,by rw [lenS_eq he',lenS_eq h2]; omega,by rw [lenS_eq he']; exact hf⟩
theorem next_mem {r:List (List D)} {v t:Int}:∀ (k i:Nat) {e:List D},e ∈ nextF r v t i k → ∃ j,i ≤ j ∧ j < i + k ∧ ix e 0 = ix (r.getD j []) 1 ∧ ix (r.getD j []) 0 = v ∧ ix e 1 = entW (r.getD j []) t + ix (r.getD j []) 2
 | 0,_,_,h=>by cases h
 | k + 1,i,e,h=>by
   simp only [nextF] at h
   split at h
   ·rename_i hc
    rcases List.mem_cons.1 h with rfl | h
    ·exact ⟨i,Nat.le_refl _,by omega,rfl,hc,rfl⟩
    ·obtain ⟨j,h1,h2,h3⟩:=next_mem k (i + 1) h
     exact ⟨j,by omega,by omega,h3⟩
   ·obtain ⟨j,h1,h2,h3⟩:=next_mem k (i + 1) h
    exact ⟨j,by omega,by omega,h3⟩
theorem next_len {r:List (List D)} {v t:Int}:∀ (k i:Nat),(nextF r v t i k).length ≤ k
 | 0,_=>Nat.le_refl _
 | k + 1,i=>by
   simp only [nextF]
   have:=next_len (r:=r) (v:=v) (t:=t) k (i + 1)
   split
   ·simp only [List.length_cons]; omega
   ·omega
theorem ok119_9 (n:Nat):LoopSim C (n + 4) 119 (loopOf C.P 119 9) (mkL l119_9 G119_9):=by
 refine loop_ofR hC (sp:=sp119) (lp:=lp119) (sw:=sw119) (rg:=rg119) ⟨ok168 (n + 3),trivial⟩ ⟨ok141 (n + 1),ok120 (n + 3),ok172 n,trivial⟩ 0 [] [14] (by kernel_rfl) rfl (by kernel_rfl) (by kernel_rfl) (fun k hk=>by cases hk)
  (fun k hk L hL=>by simp at hk; subst hk; cases hL; exact ok119_14 n) (by kernel_rfl) (fun ds=>lenS (ds.getD 2 default).I.toNat (ds.getD 1 default).L (mkSr (ds.getD 3 default) (ds.getD 4 default) (ds.getD 5 default))) fun ds rr h=>?_
 unfold G119_9 at h
 split at h
 ·rename_i a r m o k q
  obtain ⟨hp,h⟩:=need_some h
  rw [yes_iff] at hp
  have hlt:lenS m.I.toNat r.L (mkSr o k q) < 9223372036854775808:=by
   by_cases hk:(mkSr o k q).k = 0
   ·rw [(halt_zero hk).2]; omega
   ·exact (halt_step hp hk).2.2.2.2
  refine ⟨by rw [fuelC]; exact Nat.lt_trans hlt (by omega),?_⟩
  rw [show roundTK C (mkTabR sp119 lp119 sw119 rg119) 119 (loopOf C.P 119 9) 0 l119_9 [a,r,m,o,k,q] = _ from t119_9 a r m o k q]
  simp only [Int.toNat_natCast,rg_def]
  by_cases hk:k.I.toNat = 0
  ·rw [(halt_zero (m:=m.I.toNat) (r:=r.L) (s:=mkSr o k q) hk).1] at h
   refine rd_dec (by omega) (rd_neg (by rw [hk]; simp) (rd_out h))
  ·obtain ⟨hN,h1,h2,h3,-⟩:=halt_step hp hk
   obtain ⟨n1,n2,n3,n4,n5,n6,n7,n8⟩:=hN
   rw [h2] at h
   generalize hS:mkSr o k q = S at *
   have hSk:S.k = k.I.toNat:=by rw [← hS]; rfl
   have hSq:S.q = q.L:=by rw [← hS]; rfl
   have hSo:S.o = o.L:=by rw [← hS]; rfl
   have hV:ix ((popR q.L k.I.toNat).getD (k.I.toNat - 1) []) 0 = takeV S:=by unfold takeV; rw [hSk,hSq]
   have hT:ix ((popR q.L k.I.toNat).getD (k.I.toNat - 1) []) 1 = takeT S:=by unfold takeT; rw [hSk,hSq]
   simp only [hV,hT]
   rw [hSq,hSk] at n1
   rw [hSk] at n2
   rw [hSo] at n3
   have hlt1:(List.take k.I.toNat q.L).length = k.I.toNat:=by rw [List.length_take]; omega
   refine rd_dec n1 (rd_pos (by rw [hlt1]; omega) (rd_yes ⟨by omega,n1,by omega⟩ (rd_dec n4 (rd_dec (by omega) (rd_if (fun c=>?_) fun c=>?_)))))
   ·have hst:stepS r.L S = mkSr (D.l o.L) (D.i ((k.I.toNat - 1:Nat):Int)) (D.l (popR q.L k.I.toNat)):=by
     unfold stepS
     rw [if_pos (by rw [hSo]; exact c),hSo,hSk,hSq]
     rfl
    refine rd_again ((need_yes (by rw [← hst]; exact h1)).trans ?_) (by
     show lenS m.I.toNat r.L (mkSr (D.l o.L) (D.i ((k.I.toNat - 1:Nat):Int)) (D.l (popR q.L k.I.toNat))) < lenS m.I.toNat r.L (mkSr o k q)
     rw [← hst,hS]; exact h3)
    rw [← hst]
    exact h
   ·have hst:stepS r.L S = relF (nextF r.L (takeV S) (takeT S) 0 r.L.length) (mkSr (D.l o.L) (D.i ((k.I.toNat - 1:Nat):Int)) (D.l (popR q.L k.I.toNat))):=by
     unfold stepS
     rw [if_neg (by rw [hSo]; exact c),hSo,hSk,hSq]
     rfl
    have hnl:=next_len (r:=r.L) (v:=takeV S) (t:=takeT S) r.L.length 0
    refine rd_yes ⟨n6,n5⟩ (rd_yes ⟨n3,by rw [len_pop]; omega,by omega,fun e he=>?_⟩ ?_)
    ·obtain ⟨j,-,hj,e1,-⟩:=next_mem _ _ he
     rw [e1]
     exact n8 j (by omega)
    ·have hmk:∀ s:Sr,mkSr (D.l s.o) (D.i (s.k:Int)) (D.l s.q) = s:=fun s=>by simp only [mkSr,I_i,L_l,Int.toNat_natCast]
     rw [← hst]
     refine rd_again ((need_yes (by simp only [I_i,L_l,Int.toNat_natCast,hmk]; exact h1)).trans ?_) (by
      show lenS m.I.toNat r.L (mkSr (D.l (stepS r.L S).o) (D.i ((stepS r.L S).k:Int)) (D.l (stepS r.L S).q)) < lenS m.I.toNat r.L (mkSr o k q)
      rw [hmk,hS]; exact h3)
     simp only [I_i,L_l,Int.toNat_natCast,hmk]
     exact h
 ·cases h
theorem fill_app (v:Int):∀ (k:Nat) (a:List (List D)),fillF v a.length k (a ++ List.replicate k [.i 0]) = a ++ List.replicate k [.i v]
 | 0,a=>by simp [fillF]
 | k + 1,a=>by
   simp only [fillF]
   have:rs (a ++ List.replicate (k + 1) [D.i 0]) a.length v = (a ++ [[D.i v]]) ++ List.replicate k [D.i 0]:=by
    unfold rs
    rw [List.replicate_succ,List.set_append_right _ _ (Nat.le_refl _),Nat.sub_self,List.set_cons_zero,List.append_assoc]
    rfl
   rw [this]
   have h2:=fill_app v k (a ++ [[D.i v]])
   rw [List.length_append,List.length_singleton] at h2
   rw [h2,List.replicate_succ,List.append_assoc]
   rfl
theorem fill_all (v:Int) (n:Nat):fillF v 0 n (List.replicate n [.i 0]) = List.replicate n [.i v]:=by
 have:=fill_app v n []
 simpa using this
theorem ok119 (n:Nat):FnOK C (n + 5) 119 (mkF s119 G119):=by
 have hby:Try.prog.types[3].bytes = 8:=by kernel_rfl
 refine fn_ofR hC (sp:=sp119) (lp:=lp119) (sw:=sw119) (rg:=rg119) ⟨ok168 (n + 3),trivial⟩ ⟨ok141 (n + 1),ok120 (n + 3),ok172 n,trivial⟩ (by kernel_rfl) [3,9] [] (by kernel_rfl) (by kernel_rfl) (by kernel_rfl) rfl (fun k hk L hL=>by
  simp at hk; rcases hk with rfl | rfl <;> cases hL
  ·exact ok119_3 n
  ·exact ok119_9 n) (fun k hk=>by cases hk) fun ds r h=>?_
 unfold G119 at h
 split at h
 ·rename_i m v t a r'
  obtain ⟨hp,h⟩:=need_some h
  rw [yes_iff] at hp
  obtain ⟨h0,h1,h2,h3,h4⟩:=hp
  refine (congrArg T.run (t119 m v t a r')).trans ?_
  have hz:(0:Int).toNat = 0:=rfl
  simp only [List.length_replicate,Int.toNat_natCast,hz,Nat.sub_zero,fill_all,upd1,rs_def]
  have hm:(m.I.toNat:Int) = m.I:=by omega
  refine go_need (by rw [hby]; simp; omega) (go_yes ⟨trivial,Nat.le_refl _,by omega,by omega,by omega⟩ (go_dec (by omega) (go_need (by simp; omega) (go_yes h4 ?_))))
  rw [hm]
  exact h
 ·cases h
theorem run_len {r:List (List D)}:∀ (f:Nat) (s:Sr),(runSr r f s).length = s.o.length
 | 0,_=>rfl
 | f + 1,s=>by
   simp only [runSr]
   rw [run_len f]
   unfold stepS
   split
   ·rfl
   ·exact rel_len _ _
theorem none_len:∀ (k i:Nat) (l:List (List D)),(noneF i k l).length = l.length
 | 0,_,_=>rfl
 | k + 1,i,l=>by
   simp only [noneF]
   rw [none_len k]
   split
   ·exact len_rs _ _ _
   ·rfl
theorem ok84_3 (n:Nat):LoopSim C (n + 5) 84 (loopOf C.P 84 3) (mkL l84_3 G84_3):=by
 refine loop_ofK hC (sp:=sp84) (lp:=lp84) (sw:=sw84) ⟨ok119 n,trivial⟩ ⟨ok120 (n + 4),trivial⟩ 0 [] (by kernel_rfl) rfl (fun k hk=>by cases hk) (by kernel_rfl) (fun ds=>((ds.getD 2 default).I - (ds.getD 3 default).I).toNat) fun ds rr h=>?_
 unfold G84_3 at h
 split at h
 ·rename_i m m2 k i l
  obtain ⟨hp,h⟩:=need_some h
  rw [yes_iff] at hp
  obtain ⟨h1,h2,h3,hi0,hi1,h4⟩:=hp
  refine ⟨by rw [fuelC]; simp; omega,?_⟩
  rw [show roundTK C (mkTab sp84 lp84 sw84) 84 (loopOf C.P 84 3) 0 l84_3 [m,m2,k,i,l] = _ from t84_3 m m2 k i l]
  obtain ⟨j,hj⟩:∃ j:Nat,i.I = j:=⟨i.I.toNat,by omega⟩
  simp only [hj,h1,h2,Int.toNat_natCast,upd1,rs_def,rg_def] at h hi0 hi1 h4 ⊢
  refine rd_if (fun hlt=>?_) fun hge=>?_
  ·rw [wrap_succ (by omega)]
   rw [show m.I.toNat - j = (m.I.toNat - (j + 1)) + 1 by omega] at h
   simp only [noneF] at h
   have hmu:((m.I.toNat:Int) - ((j + 1:Nat):Int)).toNat < (k.I - i.I).toNat:=by rw [hj,h1]; omega
   refine rd_dec (by omega) (rd_dec (by omega) (rd_ite (fun c=>?_) fun c=>?_))
   ·rw [beq_iff_eq] at c
    rw [if_pos c] at h
    refine rd_dec (by omega) (rd_dec (by omega) (rd_again ((need_yes ⟨by simp only [I_i,Int.toNat_natCast],by simp only [I_i,Int.toNat_natCast],by simp only [I_i,L_l,Int.toNat_natCast,len_rs]; exact h3,by simp only [I_i]; omega,by simp only [I_i]; omega,by simp only [I_i]; omega⟩).trans ?_) hmu))
    simp only [I_i,L_l,Int.toNat_natCast]
    exact h
   ·rw [beq_eq_false_iff_ne] at c
    rw [if_neg c] at h
    refine rd_again ((need_yes ⟨by simp only [I_i,Int.toNat_natCast],by simp only [I_i,Int.toNat_natCast],by simp only [I_i,L_l,Int.toNat_natCast]; exact h3,by simp only [I_i]; omega,by simp only [I_i]; omega,by simp only [I_i]; omega⟩).trans ?_) hmu
    simp only [I_i,L_l,Int.toNat_natCast]
    exact h
  ·rw [show m.I.toNat - j = 0 by omega] at h
   exact rd_out h
 ·cases h
theorem len_start (n v t:Int):(startS n v t).o.length = n.toNat:=by simp [startS,len_rs]
theorem res_len {m:Nat} {r:List (List D)} {s:Sr}:(resS m r s).length = s.o.length:=run_len _ _
theorem ok84 (n:Nat):FnOK C (n + 6) 84 (mkF s84 G84):=by
 refine fn_ofS hC (sp:=sp84) (lp:=lp84) (sw:=sw84) ⟨ok119 n,trivial⟩ ⟨ok120 (n + 4),trivial⟩ (by kernel_rfl) [3] (by kernel_rfl) (by kernel_rfl) (fun k hk L hL=>by
  simp at hk; subst hk; cases hL; exact ok84_3 n) fun ds r h=>?_
 unfold G84 at h
 split at h
 ·rename_i m r' v t
  obtain ⟨hp,h⟩:=need_some h
  rw [yes_iff] at hp
  obtain ⟨h0,h1,h2,h3,h4⟩:=hp
  refine (congrArg T.run (t84 m r' v t)).trans ?_
  have hz:(0:Int).toNat = 0:=rfl
  simp only [Int.toNat_natCast,hz,Nat.sub_zero]
  have hm:(m.I.toNat:Int) = m.I:=by omega
  refine go_yes ⟨h0,h1,h2,h3,h4⟩ (go_yes ⟨trivial,trivial,by rw [res_len,len_start]; exact Nat.le_refl _,by omega,by omega,by omega⟩ ?_)
  rw [hm]
  exact h
 ·cases h
noncomputable def sp38:SpL:=[(83,mkF s83 G83)]
noncomputable def lp38:LpL:=[(4,mkL l38_4 G38_4),(10,mkL l38_10 G38_10)]
noncomputable def sw38:SwL:=[]
noncomputable def tab38:Tab:=mkTab sp38 lp38 sw38
noncomputable def sp33:SpL:=[(38,mkF s38 G38),(83,mkF s83 G83),(84,mkF s84 G84)]
noncomputable def lp33:LpL:=[]
noncomputable def sw33:SwL:=[]
noncomputable def tab33:Tab:=mkTab sp33 lp33 sw33
noncomputable def lp3:LpL:=[]
noncomputable def sw3:SwL:=[]
set_option linter.unusedVariables false
set_option maxRecDepth 100000
theorem t38 (a b:D):fnT C tab38 38 s38 [a,b] =
 T.ite (!within a.I (1:Int) (200:Int)) (T.leaf [D.i 2]) (T.ite (decide ((b.L.length:Int) > (1000:Int))) (T.leaf [D.i 2]) (T.need (yes (((1:Int) ≤ a.I ∧ a.I ≤ (200:Int)) ∧ b.L.length ≤ 1000 ∧ (b.L.length:Int) = (b.L.length:Int) ∧ (0:Int) ≤ (0:Int) ∧ (0:Int) ≤ (b.L.length:Int))) (T.ite (allFrom (fun j=>roadB a.I (List.getD b.L j [])) (Int.toNat (0:Int)) (b.L.length - Int.toNat (0:Int))) (T.leaf [D.i 0]) (T.leaf [D.i 2])))):=by kernel_rfl
theorem t38_4 (a b c d e:D):roundT C tab38 38 (loopOf C.P 38 4) l38_4 [a,b,c,d,e] =
 T.ite (decide (c.I < b.I)) (T.need (decide ((0:Int) ≤ c.I ∧ c.I < (a.L.length:Int))) (T.ite (!within (D.I (List.getD (List.getD a.L c.I.toNat []) 0 default)) (0:Int) (IntKind.i64.wrap (d.I - (1:Int)))) (T.leaf (Rd.out Ex.ret [D.i 2])) (T.ite (!within (D.I (List.getD (List.getD a.L c.I.toNat []) (0 + 1) default)) (0:Int) (IntKind.i64.wrap (d.I - (1:Int)))) (T.leaf (Rd.out Ex.ret [D.i 2])) (T.ite (D.I (List.getD (List.getD a.L c.I.toNat []) 0 default) == D.I (List.getD (List.getD a.L c.I.toNat []) (0 + 1) default)) (T.leaf (Rd.out Ex.ret [D.i 2])) (T.ite (!within (D.I (List.getD (List.getD a.L c.I.toNat []) (0 + 1 + 1) default)) (1:Int) (10000:Int)) (T.leaf (Rd.out Ex.ret [D.i 2])) (T.ite (decide ((↑(List.length (D.L (List.getD (List.getD a.L c.I.toNat []) (0 + 1 + 1 + 1) default))):Int) > (20:Int))) (T.leaf (Rd.out Ex.ret [D.i 2])) (T.need (yes (List.length (D.L (List.getD (List.getD a.L c.I.toNat []) (0 + 1 + 1 + 1) default)) ≤ 20 ∧ (↑(List.length (D.L (List.getD (List.getD a.L c.I.toNat []) (0 + 1 + 1 + 1) default))):Int) = (↑(List.length (D.L (List.getD (List.getD a.L c.I.toNat []) (0 + 1 + 1 + 1) default))):Int) ∧ (0:Int) ≤ (0:Int) ∧ (0:Int) ≤ (↑(List.length (D.L (List.getD (List.getD a.L c.I.toNat []) (0 + 1 + 1 + 1) default))):Int) ∧ (-1:Int) = if (0:Int) = (0:Int) then (-1:Int) else ix (List.getD (D.L (List.getD (List.getD a.L c.I.toNat []) (0 + 1 + 1 + 1) default)) (Int.toNat (0:Int) - 1) []) 1)) (T.ite (allFrom (clB (D.L (List.getD (List.getD a.L c.I.toNat []) (0 + 1 + 1 + 1) default))) (Int.toNat (0:Int)) (List.length (D.L (List.getD (List.getD a.L c.I.toNat []) (0 + 1 + 1 + 1) default)) - Int.toNat (0:Int))) (T.leaf (Rd.again [D.l a.L,D.i b.I,D.i (IntKind.i64.wrap (c.I + (1:Int))),D.i d.I,D.l e.L])) (T.leaf (Rd.out Ex.ret [D.i 2])))))))))) (T.leaf (Rd.out (Ex.exit 0) [])):=by kernel_rfl
theorem t38_10 (a b c d e f g h i:D):roundT C tab38 38 (loopOf C.P 38 10) l38_10 [a,b,c,d,e,f,g,h,i] =
 T.ite (decide (g.I < f.I)) (T.need (decide ((0:Int) ≤ g.I ∧ g.I < (e.L.length:Int))) (T.ite (decide (D.I (List.getD (List.getD e.L g.I.toNat []) 0 default) ≤ a.I)) (T.leaf (Rd.out Ex.ret [D.i 2])) (T.ite (decide (D.I (List.getD (List.getD e.L g.I.toNat []) 0 default) < (0:Int))) (T.leaf (Rd.out Ex.ret [D.i 2])) (T.ite (decide (D.I (List.getD (List.getD e.L g.I.toNat []) 0 default) ≥ D.I (List.getD (List.getD e.L g.I.toNat []) (0 + 1) default))) (T.leaf (Rd.out Ex.ret [D.i 2])) (T.ite (decide (D.I (List.getD (List.getD e.L g.I.toNat []) (0 + 1) default) > (100000:Int))) (T.leaf (Rd.out Ex.ret [D.i 2])) (T.leaf (Rd.again [D.i (D.I (List.getD (List.getD e.L g.I.toNat []) (0 + 1) default)),D.l b.L,D.i c.I,D.i d.I,D.l e.L,D.i f.I,D.i (IntKind.i64.wrap (g.I + (1:Int))),D.i h.I,D.l i.L]))))))) (T.leaf (Rd.out (Ex.exit 2) [D.l b.L,D.i c.I,D.i d.I,D.i h.I,D.l i.L])):=by kernel_rfl
end Go.Proofs.Ytgoedfonmocafaa.Rs
