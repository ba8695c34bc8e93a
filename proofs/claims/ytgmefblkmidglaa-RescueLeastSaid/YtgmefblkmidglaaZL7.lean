/-
 What the claim rescue_least rests on,part 7.
-/
import Derived.Test.YtgmefblkmidglaaZL6
namespace Go.Proofs.Ytgmefblkmidglaa
open Go.Lite
noncomputable section
def vehB (n:Int) (c:List D):Bool:=decide ((0 ≤ ix c 0 ∧ ix c 0 < n) ∧ (0 ≤ ix c 1 ∧ ix c 1 ≤ 65535) ∧ (0 ≤ ix c 2 ∧ ix c 2 ≤ ix c 3) ∧ ix c 3 ≤ 100000)
def zonB (n:Int) (c:List D):Bool:=decide ((0 ≤ ix c 0 ∧ ix c 0 < n) ∧ (0 ≤ ix c 1 ∧ ix c 1 ≤ 65535) ∧ 0 ≤ ix c 2 ∧ ix c 2 ≤ 10000)
def mk4 (a b c d:D):List D:=[.i a.I,.i b.I,.i c.I,.i d.I]
def mk3 (a b c:D):List D:=[.i a.I,.i b.I,.i c.I]
def vehL (n:Int) (v:List (List D)) (i:Nat):Bool:=vehB n (v.getD i [])
def zonL (n:Int) (z:List (List D)) (i:Nat):Bool:=zonB n (z.getD i [])
def vehs (n:Int) (v:List (List D)):Bool:=allFrom (vehL n v) 0 v.length
def zons (n:Int) (z:List (List D)):Bool:=allFrom (zonL n z) 0 z.length
def coverB (n:Int) (r v:List (List D)) (most:Int) (z:List (List D)) (h:Int):Bool:=netB n r && decide ((v.length:Int) ≤ most ∧ z.length ≤ 100 ∧ 0 ≤ h ∧ h ≤ 100000) && vehs n v && zons n z
def G78 (ds:List D):T (List D):=match ds with
 | [x]=>.leaf [.b (within x.I 0 65535)]
 | _=>.fail
def G77 (ds:List D):T (List D):=match ds with
 | [a,b,c,d,n,_]=>.need (yes (1 ≤ n.I ∧ n.I ≤ 200)) (.leaf [.b (!vehB n.I (mk4 a b c d))])
 | _=>.fail
def G80 (ds:List D):T (List D):=match ds with
 | [a,b,c,n,_]=>.need (yes (1 ≤ n.I ∧ n.I ≤ 200)) (.leaf [.b (!zonB n.I (mk3 a b c))])
 | _=>.fail
def G94 (ds:List D):T (List D):=match ds with
 | [l,n,_]=>.need (yes ((1 ≤ n.I ∧ n.I ≤ 200) ∧ l.L.length < big)) (.leaf [.i (firstFrom (fun j=>!vehL n.I l.L j) 0 l.L.length)])
 | _=>.fail
def G94_2 (ds:List D):T (Ex × List D):=match ds with
 | [l, n,_,m,i]=>.need (yes ((1 ≤ n.I ∧ n.I ≤ 200) ∧ l.L.length < big ∧ m.I = l.L.length ∧ 0 ≤ i.I ∧ i.I ≤ l.L.length))
     (.ite (decide (firstFrom (fun j=>!vehL n.I l.L j) i.I.toNat (l.L.length - i.I.toNat) ≥ 0)) (.leaf (.ret,[.i (firstFrom (fun j=>!vehL n.I l.L j) i.I.toNat (l.L.length - i.I.toNat))])) (.leaf (.exit 0,[])))
 | _=>.fail
def G95 (ds:List D):T (List D):=match ds with
 | [l,n,_]=>.need (yes ((1 ≤ n.I ∧ n.I ≤ 200) ∧ l.L.length < big)) (.leaf [.i (firstFrom (fun j=>!zonL n.I l.L j) 0 l.L.length)])
 | _=>.fail
def G95_2 (ds:List D):T (Ex × List D):=match ds with
 | [l, n,_,m,i]=>.need (yes ((1 ≤ n.I ∧ n.I ≤ 200) ∧ l.L.length < big ∧ m.I = l.L.length ∧ 0 ≤ i.I ∧ i.I ≤ l.L.length))
     (.ite (decide (firstFrom (fun j=>!zonL n.I l.L j) i.I.toNat (l.L.length - i.I.toNat) ≥ 0)) (.leaf (.ret,[.i (firstFrom (fun j=>!zonL n.I l.L j) i.I.toNat (l.L.length - i.I.toNat))])) (.leaf (.exit 0,[])))
 | _=>.fail
def G76 (ds:List D):T (List D):=match ds with
 | [l,n,_]=>.need (yes ((1 ≤ n.I ∧ n.I ≤ 200) ∧ l.L.length < big)) (.leaf [.b (!vehs n.I l.L)])
 | _=>.fail
def G79 (ds:List D):T (List D):=match ds with
 | [l,n,_]=>.need (yes ((1 ≤ n.I ∧ n.I ≤ 200) ∧ l.L.length < big)) (.leaf [.b (!zons n.I l.L)])
 | _=>.fail
def G52 (ds:List D):T (List D):=match ds with
 | [n,r,v,most,z,h]=>.need (yes (most.I ≤ 1000)) (.leaf [.b (coverB n.I r.L v.L most.I z.L h.I)])
 | _=>.fail
def G28 (ds:List D):T (List D):=match ds with
 | [n,v]=>.need (yes ((1 ≤ n.I ∧ n.I ≤ 200) ∧ v.L.length < big)) (.leaf [.b (vehs n.I v.L)])
 | _=>.fail
def G28_2 (ds:List D):T (Ex × List D):=match ds with
 | [n,v,i]=>.need (yes ((1 ≤ n.I ∧ n.I ≤ 200) ∧ v.L.length < big ∧ 0 ≤ i.I ∧ i.I ≤ v.L.length)) (.ite (allFrom (vehL n.I v.L) i.I.toNat (v.L.length - i.I.toNat)) (.leaf (.exit 0,[])) (.leaf (.ret,[.b false])))
 | _=>.fail
def G29 (ds:List D):T (List D):=match ds with
 | [n,z]=>.need (yes ((1 ≤ n.I ∧ n.I ≤ 200) ∧ z.L.length < big)) (.leaf [.b (zons n.I z.L && decide (z.L.length ≤ 100))])
 | _=>.fail
def G29_2 (ds:List D):T (Ex × List D):=match ds with
 | [n,z,i]=>.need (yes ((1 ≤ n.I ∧ n.I ≤ 200) ∧ z.L.length < big ∧ 0 ≤ i.I ∧ i.I ≤ z.L.length)) (.ite (allFrom (zonL n.I z.L) i.I.toNat (z.L.length - i.I.toNat)) (.leaf (.exit 0,[.l z.L])) (.leaf (.ret,[.b false])))
 | _=>.fail
def fewC (v z h most:Int):Bool:=decide ((v ≤ 6 ∨ most < v ∧ v < 200) ∧ (z ≤ 5 ∨ 100 < z ∧ z < 200) ∧ (h ≤ 40 ∨ 100000 < h))
def G26 (ds:List D):T (List D):=match ds with
 | [v,z,h,most]=>.leaf [.b (fewC v.L.length z.L.length h.I most.I)]
 | _=>.fail
end
noncomputable section
def backY (l:List (List D)):Nat → List (List D)
 | 0=>[]
 | k + 1=>[.i k,.i (ix (l.getD k []) 0),.i (ix (l.getD k []) 1)] :: backY l k
def leavG (c:Int):List (List D) → Int → Int
 | [],s=>s
 | e :: es,s=>leavG c es (if s + c > ix e 1 ∧ s < ix e 2 then ix e 1 - c else s)
def okY (L:List (List D)):Prop:=∀ e ∈ L,(-1099511627776 ≤ ix e 1 ∧ ix e 1 ≤ 1099511627776) ∧ -1099511627776 ≤ ix e 2 ∧ ix e 2 ≤ 1099511627776
def okU (s:Int):Prop:=-576460752303423488 ≤ s ∧ s ≤ 576460752303423488
def needB (n:Nat) (r:List (List D)) (s:Sr):Prop:=s.k ≤ s.q.length ∧ s.k < 274877906944 ∧ n ≤ s.o.length ∧ (0 ≤ takeV s ∧ takeV s < n) ∧ okU (takeT s) ∧ okR r ∧ r.length < 274877906944 ∧ ∀ i,i < r.length → 0 ≤ ix (r.getD i []) 0 ∧ ix (r.getD i []) 0 < n
def endsB (n:Nat) (r:List (List D)) (f:Nat) (s:Sr):Prop:=endsG (needB n r) (stepG (nxB r)) f s
def lenB (n:Nat) (r:List (List D)) (s:Sr):Nat:=Classical.epsilon fun f=>endsB n r f s
def resB (n:Nat) (r:List (List D)) (s:Sr):List (List D):=runG (stepG (nxB r)) (lenB n r s) s
def haltB (n:Nat) (r:List (List D)) (s:Sr):Prop:=∃ f,f < 9223372036854775808 ∧ endsB n r f s
def negF:Nat → Nat → List (List D) → List (List D)
 | _,0,l=>l
 | i,k + 1,l=>negF (i + 1) k (rs l i (-(rg l i)))
def okN (l:List (List D)):Prop:=∀ u,-9223372036854775807 ≤ rg l u ∧ rg l u ≤ 9223372036854775807
def G106 (ds:List D):T (List (List D)):=match ds with
 | [l]=>.need (yes (l.L.length < big)) (.leaf (backY l.L l.L.length))
 | _=>.fail
def G106_1 (q:Nat) (ds:List D):T (Ex × List D):=match ds with
 | [g, i,l]=>.need (yes (l.L.length < big ∧ -1 ≤ i.I ∧ i.I < l.L.length ∧ g.L.length ≤ q))
     (.ite (decide (q < g.L.length + (i.I + 1).toNat)) (.leaf (.ret,[.l (g.L ++ (backY l.L (i.I + 1).toNat).take (q + 1 - g.L.length)),.l l.L])) (.leaf (.exit 0,[.l (g.L ++ backY l.L (i.I + 1).toNat),.l l.L])))
 | _=>.fail
def G105 (ds:List D):T (List D):=match ds with
 | [l]=>.leaf [.l l.L]
 | _=>.fail
def G104 (ds:List D):T (List D):=match ds with
 | [_,_,c,l,s]=>.need (yes (okT c.I ∧ okS s.I ∧ okC l.L)) (.leaf [.i (leavF l.L c.I l.L.length s.I)])
 | _=>.fail
def G104_3 (L:List (List D)) (ds:List D):T (Ex × List D):=match ds with
 | [z,a,b,c,l,s]=>.need (yes (okT c.I ∧ okS s.I ∧ okY L)) (.leaf (.normal,[.i z.I,.i a.I,.i b.I,.i c.I,.l l.L,.i (leavG c.I L s.I)]))
 | _=>.fail
def G103 (ds:List D):T (List (List D)):=match ds with
 | [_,r,v,t]=>.need (yes (okR r.L ∧ okU t.I)) (.leaf (backF r.L v.I t.I 0 r.L.length))
 | _=>.fail
def G103_1 (q:Nat) (ds:List D):T (Ex × List D):=match ds with
 | [g, r,m,i,v,t]=>.need (yes (okR r.L ∧ okU t.I ∧ m.I = r.L.length ∧ 0 ≤ i.I ∧ i.I ≤ r.L.length ∧ g.L.length ≤ q))
     (.ite (decide (q < g.L.length + (backF r.L v.I t.I i.I.toNat (r.L.length - i.I.toNat)).length))
      (.leaf (.ret,[.l (g.L ++ (backF r.L v.I t.I i.I.toNat (r.L.length - i.I.toNat)).take (q + 1 - g.L.length)),.i v.I,.i t.I]))
      (.leaf (.exit 0,[.l (g.L ++ backF r.L v.I t.I i.I.toNat (r.L.length - i.I.toNat)),.i v.I,.i t.I])))
 | _=>.fail
def G102 (ds:List D):T (List D):=match ds with
 | [v,t,n,r]=>.leaf [.i n.I,.l r.L,.i v.I,.i t.I]
 | _=>.fail
def G1073_3:List D → T (Ex × List D):=G73_3
def G1073_9 (ds:List D):T (Ex × List D):=match ds with
 | [_,r,n,o,k,q]=>.need (yes (haltB n.I.toNat r.L (mkSr o k q))) (.leaf (.exit 2,[.i (n.I.toNat:Int),.l (resB n.I.toNat r.L (mkSr o k q))]))
 | _=>.fail
def G1073_14:List (List D) → List D → T (Ex × List D):=G73_14
def G1073 (ds:List D):T (List D):=match ds with
 | [n,v,t,_,r]=>.need (yes (0 ≤ n.I ∧ n.I < 1099511627776 ∧ 0 ≤ v.I ∧ v.I < n.I ∧ haltB n.I.toNat r.L (startS n.I v.I t.I))) (.leaf [.i n.I,.l (resB n.I.toNat r.L (startS n.I v.I t.I))])
 | _=>.fail
def latF (n:Int) (r:List (List D)) (v t:Int):List (List D):=negF 0 n.toNat (resB n.toNat r (startS n v (-t)))
def G97_3 (ds:List D):T (Ex × List D):=match ds with
 | [n,m,i,l]=>.need (yes (m.I = (n.I.toNat:Int) ∧ n.I.toNat ≤ l.L.length ∧ 0 ≤ i.I ∧ i.I ≤ m.I ∧ m.I < 1099511627776 ∧ okN l.L)) (.leaf (.exit 0,[.i (n.I.toNat:Int),.l (negF i.I.toNat (n.I.toNat - i.I.toNat) l.L)]))
 | _=>.fail
def G97 (ds:List D):T (List D):=match ds with
 | [n,r,v,t]=>.need (yes (netB n.I r.L = true ∧ (0 ≤ v.I ∧ v.I < n.I) ∧ 0 ≤ t.I ∧ t.I ≤ 1000000)) (.leaf [.i n.I,.l (latF n.I r.L v.I t.I)])
 | _=>.fail
end
noncomputable section
def andI (a b:Int):Int:=IntKind.i64.wrap (BitVec.ofInt IntKind.i64.bits a &&& BitVec.ofInt IntKind.i64.bits b).toNat
def ableB (x z:List D):Bool:=andI (ix x 1) (ix z 1) == ix z 1
def covB (n:Int) (r:List (List D)) (x z:List D) (t:Int):Bool:=
 decide (ix x 2 ≤ t ∧ t < ix x 3) && ableB x z && decide (0 ≤ docA n r (ix x 0) t (ix z 0) ∧ docA n r (ix x 0) t (ix z 0) ≤ t + ix z 2)
def anyC (n:Int) (r v:List (List D)) (z:List D) (t:Int) (k m:Nat):Bool:=!allFrom (fun j=>!covB n r (v.getD j []) z t) k m
def setTo (g:List (List D)) (x:Int):List (List D):=g.set (g.length - 1) [(g.getD (g.length - 1) []).getD 0 default,(g.getD (g.length - 1) []).getD 1 default,.i x]
def gapT (i t:Int) (c:Bool) (s:List (List D) × Bool):List (List D) × Bool:=if c then (s.1,false) else if s.2 then (setTo s.1 (t + 1),true) else (s.1 ++ [[.i i,.i t,.i (t + 1)]],true)
def refT (p:Int → Bool) (i:Int):Nat → Int → List (List D) × Bool → List (List D) × Bool
 | 0,_,s=>s
 | k + 1,t,s=>refT p i k (t + 1) (gapT i t (p t) s)
def secsF (n:Int) (r v:List (List D)) (z:List D) (t:Int):Bool:=anyC n r v z t 0 v.length
def refZ (n:Int) (r v z:List (List D)) (h:Int):Nat → Nat → List (List D) → List (List D)
 | _,0,g=>g
 | i,k + 1,g=>refZ n r v z h (i + 1) k (refT (secsF n r v (z.getD i [])) i h.toNat 0 (g,false)).1
def okG (n:Int) (r v z:List (List D)) (h:Int):Prop:=netB n r = true ∧ vehs n v = true ∧ zons n z = true ∧ v.length ≤ 1000 ∧ z.length ≤ 100 ∧ 0 ≤ h ∧ h ≤ 100000
def G54 (ds:List D):T (List D):=match ds with
 | [n,r,a,b,c,d,e,f,g,t]=>.need (yes (netB n.I r.L = true ∧ vehB n.I (mk4 a b c d) = true ∧ zonB n.I (mk3 e f g) = true ∧ 0 ≤ t.I ∧ t.I ≤ 100000)) (.leaf [.b (covB n.I r.L (mk4 a b c d) (mk3 e f g) t.I)])
 | _=>.fail
def G30 (ds:List D):T (List D):=match ds with
 | [n,r,v,z,h]=>.need (yes (okG n.I r.L v.L z.L h.I)) (.ite (refZ n.I r.L v.L z.L h.I 0 z.L.length []).isEmpty (.leaf [.i 0]) (.leaf [.i 1,.i (refZ n.I r.L v.L z.L h.I 0 z.L.length []).length,.l (refZ n.I r.L v.L z.L h.I 0 z.L.length [])]))
 | _=>.fail
def G30_3 (ds:List D):T (Ex × List D):=match ds with
 | [j, v,z,h,i,n,r]=>.need (yes (j.I = 0 ∧ okG n.I r.L v.L z.L h.I ∧ 0 ≤ i.I ∧ i.I ≤ z.L.length))
     (.ite (refZ n.I r.L v.L z.L h.I i.I.toNat (z.L.length - i.I.toNat) []).isEmpty (.leaf (.exit 0,[.i 0])) (.leaf (.exit 0,[.i 1,.i (refZ n.I r.L v.L z.L h.I i.I.toNat (z.L.length - i.I.toNat) []).length,.l (refZ n.I r.L v.L z.L h.I i.I.toNat (z.L.length - i.I.toNat) [])])))
 | [j, v,z,h,m,i,n,r,g]=>.need (yes (j.I = 1 ∧ okG n.I r.L v.L z.L h.I ∧ (0 ≤ i.I ∧ i.I ≤ z.L.length) ∧ m.I = g.L.length ∧ 0 < g.L.length ∧ m.I ≤ 100000 * i.I))
     (.leaf (.exit 0,[.i 1,.i (refZ n.I r.L v.L z.L h.I i.I.toNat (z.L.length - i.I.toNat) g.L).length,.l (refZ n.I r.L v.L z.L h.I i.I.toNat (z.L.length - i.I.toNat) g.L)]))
 | _=>.fail
def G30_7 (ds:List D):T (Ex × List D):=match ds with
 | [j, v,z,h,i,o,t,n,r]=>.need (yes (j.I = 0 ∧ okG n.I r.L v.L z.L h.I ∧ (0 ≤ i.I ∧ i.I < z.L.length) ∧ (0 ≤ t.I ∧ t.I ≤ h.I) ∧ o.B = false))
     (.ite (refT (secsF n.I r.L v.L (z.L.getD i.I.toNat [])) i.I (h.I.toNat - t.I.toNat) t.I ([],false)).1.isEmpty (.leaf (.exit 2,[.i 0,.l v.L,.l z.L,.i h.I,.i i.I,.i n.I,.l r.L]))
      (.leaf (.exit 2,[.i 1,.l v.L,.l z.L,.i h.I,.i (refT (secsF n.I r.L v.L (z.L.getD i.I.toNat [])) i.I (h.I.toNat - t.I.toNat) t.I ([],false)).1.length,.i i.I,.i n.I,.l r.L,.l (refT (secsF n.I r.L v.L (z.L.getD i.I.toNat [])) i.I (h.I.toNat - t.I.toNat) t.I ([],false)).1])))
 | [j, v,z,h,m,i,o,t,n,r,g]=>.need (yes (j.I = 1 ∧ okG n.I r.L v.L z.L h.I ∧ (0 ≤ i.I ∧ i.I < z.L.length) ∧ (0 ≤ t.I ∧ t.I ≤ h.I) ∧ m.I = g.L.length ∧ 0 < g.L.length ∧ m.I ≤ 100000 * i.I + t.I))
     (.leaf (.exit 2,[.i 1,.l v.L,.l z.L,.i h.I,.i (refT (secsF n.I r.L v.L (z.L.getD i.I.toNat [])) i.I (h.I.toNat - t.I.toNat) t.I (g.L,o.B)).1.length,.i i.I,.i n.I,.l r.L,.l (refT (secsF n.I r.L v.L (z.L.getD i.I.toNat [])) i.I (h.I.toNat - t.I.toNat) t.I (g.L,o.B)).1]))
 | _=>.fail
def G30_11 (ds:List D):T (Ex × List D):=match ds with
 | [j, v,z,h,i,o,t,c,k,n,r]=>.need (yes (j.I = 0 ∧ okG n.I r.L v.L z.L h.I ∧ (0 ≤ i.I ∧ i.I < z.L.length) ∧ (0 ≤ t.I ∧ t.I ≤ h.I) ∧ 0 ≤ k.I ∧ k.I ≤ v.L.length))
     (.leaf (.exit 4,[.i 0,.l v.L,.l z.L,.i h.I,.i i.I,.b o.B,.i t.I,.b (c.B || anyC n.I r.L v.L (z.L.getD i.I.toNat []) t.I k.I.toNat (v.L.length - k.I.toNat)),.i n.I,.l r.L]))
 | [j, v,z,h,m,i,o,t,c,k,n,r,g]=>.need (yes (j.I = 1 ∧ okG n.I r.L v.L z.L h.I ∧ (0 ≤ i.I ∧ i.I < z.L.length) ∧ (0 ≤ t.I ∧ t.I ≤ h.I) ∧ (0 ≤ k.I ∧ k.I ≤ v.L.length) ∧ m.I = g.L.length))
     (.leaf (.exit 4,[.i 1,.l v.L,.l z.L,.i h.I,.i g.L.length,.i i.I,.b o.B,.i t.I,.b (c.B || anyC n.I r.L v.L (z.L.getD i.I.toNat []) t.I k.I.toNat (v.L.length - k.I.toNat)),.i n.I,.l r.L,.l g.L]))
 | _=>.fail
def mn (a b:Int):Int:=if b < a then b else a
def mx (a b:Int):Int:=if b > a then b else a
structure Pv where
 c : Bool
 to:Int
 nx:Int
def latU (n:Int) (r:List (List D)) (z:List D) (t u:Int):Int:=rg (latF n r (ix z 0) (t + ix z 2)) u.toNat
def stV (n:Int) (r:List (List D)) (z:List D) (t:Int) (x:List D) (s:Pv):Pv:=
 if ableB x z = false ∨ ix x 3 ≤ t then s
 else if t < ix x 2 then ⟨s.c,s.to,mn s.nx (ix x 2)⟩
 else if t ≤ latU n r z t (ix x 0) then ⟨true,mx s.to (mn (latU n r z t (ix x 0) + 1) (ix x 3)),s.nx⟩
 else if 0 ≤ bestF n r (ix x 0) t (ix z 0) then ⟨s.c,s.to,mn s.nx (mx (t + 1) (bestF n r (ix x 0) t (ix z 0) - ix z 2))⟩ else s
def runV (n:Int) (r v:List (List D)) (z:List D) (t:Int):Nat → Nat → Pv → Pv
 | _,0,s=>s
 | i,k + 1,s=>runV n r v z t (i + 1) k (stV n r z t (v.getD i []) s)
def pvAt (n:Int) (r v:List (List D)) (z:List D) (h t:Int):Pv:=runV n r v z t 0 v.length ⟨false,t,h⟩
def toP (n:Int) (r v:List (List D)) (z:List D) (h t:Int):Int:=mn (if (pvAt n r v z h t).c then (pvAt n r v z h t).to else mx (t + 1) (pvAt n r v z h t).nx) h
def pieceL (n:Int) (r v:List (List D)) (z:List D) (h:Int):Nat → Int → List (List D)
 | 0,_=>[]
 | f + 1,t=>if t < h then [.i t,.i (toP n r v z h t),.b (pvAt n r v z h t).c] :: pieceL n r v z h f (toP n r v z h t) else []
def okP (n:Int) (r v:List (List D)) (z:List D) (h:Int):Prop:=netB n r = true ∧ vehs n v = true ∧ zonB n z = true ∧ v.length ≤ 1000 ∧ 0 ≤ h ∧ h ≤ 100000
def G96 (ds:List D):T (List (List D)):=match ds with
 | [h,n,r,a,b,c,v]=>.need (yes (okP n.I r.L v.L (mk3 a b c) h.I)) (.leaf (pieceL n.I r.L v.L (mk3 a b c) h.I h.I.toNat 0))
 | _=>.fail
def G96_1 (q:Nat) (ds:List D):T (Ex × List D):=match ds with
 | [g, t,h,n,r,a,b,c,v]=>.need (yes (okP n.I r.L v.L (mk3 a b c) h.I ∧ 0 ≤ t.I ∧ t.I ≤ h.I ∧ g.L.length ≤ q))
     (.ite (decide (q < g.L.length + (pieceL n.I r.L v.L (mk3 a b c) h.I (h.I - t.I).toNat t.I).length))
      (.leaf (.ret,[.l (g.L ++ (pieceL n.I r.L v.L (mk3 a b c) h.I (h.I - t.I).toNat t.I).take (q + 1 - g.L.length)),.i h.I,.i n.I,.l r.L,.i a.I,.i b.I,.i c.I,.l v.L]))
      (.leaf (.exit 0,[.l (g.L ++ pieceL n.I r.L v.L (mk3 a b c) h.I (h.I - t.I).toNat t.I),.i h.I,.i n.I,.l r.L,.i a.I,.i b.I,.i c.I,.l v.L])))
 | _=>.fail
def pvOf (c to nx:D):Pv:=⟨c.B,to.I,nx.I⟩
def okPv (t h:Int) (s:Pv):Prop:=(s.c = true → t + 1 ≤ s.to) ∧ (t ≤ s.to ∧ s.to ≤ 100000) ∧ 0 ≤ s.nx ∧ s.nx ≤ h
def G96_6 (_:Nat) (ds:List D):T (Ex × List D):=match ds with
 | [g, t,m,nx,v',q,i,h,n,r,a,b,c,v,l,pf,pt,pc]=>.need (yes (okP n.I r.L v.L (mk3 a b c) h.I ∧ (0 ≤ t.I ∧ t.I < h.I) ∧ l.L = latF n.I r.L a.I (t.I + c.I) ∧ m.I = n.I ∧ v'.L = v.L ∧ q.I = v.L.length ∧ (0 ≤ i.I ∧ i.I ≤ v.L.length) ∧ okPv t.I h.I (pvOf pc pt nx)))
     (.leaf (.exit 2,[.l g.L,.i t.I,.i (runV n.I r.L v.L (mk3 a b c) t.I i.I.toNat (v.L.length - i.I.toNat) (pvOf pc pt nx)).nx,.i h.I,.i n.I,.l r.L,.i a.I,.i b.I,.i c.I,.l v.L,.i pf.I,.i (runV n.I r.L v.L (mk3 a b c) t.I i.I.toNat (v.L.length - i.I.toNat) (pvOf pc pt nx)).to,.b (runV n.I r.L v.L (mk3 a b c) t.I i.I.toNat (v.L.length - i.I.toNat) (pvOf pc pt nx)).c]))
 | _=>.fail
def G81 (ds:List D):T (List D):=match ds with
 | [n,r,v,a,b,c,h]=>.leaf [.i h.I,.i n.I,.l r.L,.i a.I,.i b.I,.i c.I,.l v.L]
 | _=>.fail
def gapP (i:Int) (e:List D) (s:List (List D) × Bool):List (List D) × Bool:=if bx e 2 then (s.1,false) else if s.2 then (setTo s.1 (ix e 1),true) else (s.1 ++ [[.i i,.i (ix e 0),.i (ix e 1)]],true)
def gapsF (i:Int):List (List D) → List (List D) × Bool → List (List D) × Bool
 | [],s=>s
 | e :: es,s=>gapsF i es (gapP i e s)
def G53_10 (L:List (List D)) (ds:List D):T (Ex × List D):=match ds with
 | [j, v,h,z,q,i,n,r,i',o]=>.need (yes (j.I = 0 ∧ o.B = false ∧ L.length ≤ 1000000))
     (.ite (gapsF i'.I L ([],false)).1.isEmpty (.leaf (.normal,[.i 0,.l v.L,.i h.I,.l z.L,.i q.I,.i i.I,.i n.I,.l r.L,.i i'.I,.b false]))
      (.leaf (.normal,[.i 1,.l v.L,.i h.I,.l z.L,.i q.I,.i i.I,.i n.I,.l r.L,.i (gapsF i'.I L ([],false)).1.length,.i i'.I,.b (gapsF i'.I L ([],false)).2,.l (gapsF i'.I L ([],false)).1])))
 | [j, v,h,z,q,i,n,r,m,i',o,g]=>.need (yes (j.I = 1 ∧ m.I = g.L.length ∧ 0 < g.L.length ∧ L.length ≤ 1000000 ∧ m.I + L.length ≤ 1000000000))
     (.leaf (.normal,[.i 1,.l v.L,.i h.I,.l z.L,.i q.I,.i i.I,.i n.I,.l r.L,.i (gapsF i'.I L (g.L,o.B)).1.length,.i i'.I,.b (gapsF i'.I L (g.L,o.B)).2,.l (gapsF i'.I L (g.L,o.B)).1]))
 | _=>.fail
def gapsZ (n:Int) (r v z:List (List D)) (h:Int):Nat → Nat → List (List D) → List (List D)
 | _,0,g=>g
 | i,k + 1,g=>gapsZ n r v z h (i + 1) k (gapsF i (pieceL n r v (mk3 (.i (ix (z.getD i []) 0)) (.i (ix (z.getD i []) 1)) (.i (ix (z.getD i []) 2))) h h.toNat 0) (g,false)).1
def G53_3 (ds:List D):T (Ex × List D):=match ds with
 | [j, v,h,z,q,i,n,r]=>.need (yes (j.I = 0 ∧ okG n.I r.L v.L z.L h.I ∧ q.I = z.L.length ∧ 0 ≤ i.I ∧ i.I ≤ z.L.length))
     (.ite (gapsZ n.I r.L v.L z.L h.I i.I.toNat (z.L.length - i.I.toNat) []).isEmpty (.leaf (.exit 0,[.i 0])) (.leaf (.exit 0,[.i 1,.i (gapsZ n.I r.L v.L z.L h.I i.I.toNat (z.L.length - i.I.toNat) []).length,.l (gapsZ n.I r.L v.L z.L h.I i.I.toNat (z.L.length - i.I.toNat) [])])))
 | [j, v,h,z,q,i,n,r,m,g]=>.need (yes (j.I = 1 ∧ okG n.I r.L v.L z.L h.I ∧ q.I = z.L.length ∧ (0 ≤ i.I ∧ i.I ≤ z.L.length) ∧ m.I = g.L.length ∧ 0 < g.L.length ∧ m.I ≤ 100000 * i.I))
     (.leaf (.exit 0,[.i 1,.i (gapsZ n.I r.L v.L z.L h.I i.I.toNat (z.L.length - i.I.toNat) g.L).length,.l (gapsZ n.I r.L v.L z.L h.I i.I.toNat (z.L.length - i.I.toNat) g.L)]))
 | _=>.fail
def gapsA (n:Int) (r v z:List (List D)) (h:Int):List (List D):=gapsZ n r v z h 0 z.length []
def G53 (ds:List D):T (List D):=match ds with
 | [n,r,v,z,h]=>.need (yes (okG n.I r.L v.L z.L h.I)) (.ite (gapsA n.I r.L v.L z.L h.I).isEmpty (.leaf [.i 0]) (.leaf [.i 1,.i (gapsA n.I r.L v.L z.L h.I).length,.l (gapsA n.I r.L v.L z.L h.I)]))
 | _=>.fail
end
def s57:SigW:=⟨[.k (.int .i64),.k (.int .i64),.k (.int .i64)],[],[(.nils,[]),(.sl 0 1,[.row [.ro [.int .i64]]])]⟩
def l57_5:LSig:=mkLS [0,1,7,8] [(43,[(0,.k (.int .i64)),(1,.k (.int .i64)),(7,.nils),(8,.k (.int .i64))],[]),(43,[(0,.k (.int .i64)),(1,.k (.int .i64)),(7,.sl 0 1),(8,.k (.int .i64))],[.row [.ro [.int .i64]]])] [(.exit 0,[7],[(43,[(7,.nils)],[]),(43,[(7,.sl 0 1)],[.row [.ro [.int .i64]]])])]
def l57_9:LSig:=mkLS [0,1,7,8,9,10] [(43,[(0,.k (.int .i64)),(1,.k (.int .i64)),(7,.nils),(8,.k (.int .i64)),(9,.nils),(10,.k (.int .i64))],[]),(43,[(0,.k (.int .i64)),(1,.k (.int .i64)),(7,.nils),(8,.k (.int .i64)),(9,.sl 0 1),(10,.k (.int .i64))],[.row [.ro [.int .i64]]]),(43,[(0,.k (.int .i64)),(1,.k (.int .i64)),(7,.sl 0 1),(8,.k (.int .i64)),(9,.sl 1 1),(10,.k (.int .i64))],[.row [.ro [.int .i64]],.row [.ro [.int .i64]]]),(43,[(0,.k (.int .i64)),(1,.k (.int .i64)),(7,.sl 0 1),(8,.k (.int .i64)),(9,.nils),(10,.k (.int .i64))],[.row [.ro [.int .i64]]])] [(.exit 2,[0,1,7,8],[(43,[(0,.k (.int .i64)),(1,.k (.int .i64)),(7,.nils),(8,.k (.int .i64))],[]),(43,[(0,.k (.int .i64)),(1,.k (.int .i64)),(7,.sl 0 1),(8,.k (.int .i64))],[.row [.ro [.int .i64]]])])]
noncomputable section
def chC (i:Int) (c:List D):List D:=[.l ([.i i] :: lx c 0)]
def chW (ch:Nat → List (List D)):Nat → Nat → List (List D)
 | _,0=>[]
 | i,k + 1=>(ch (i + 1)).map (chC (i:Nat)) ++ chW ch (i + 1) k
def chF (n:Nat):Nat → Nat → List (List D)
 | 0,_=>[[.l []]]
 | m + 1,i=>chW (chF n m) i (n - i)
def chP (n m i:Int):Prop:=(0 ≤ n ∧ n ≤ 12) ∧ (0 ≤ m ∧ m ≤ 12) ∧ 0 ≤ i ∧ i ≤ n
def G57 (q:Nat) (ds:List D):T (List D):=match ds with
 | [n,m,i]=>.need (yes (chP n.I m.I i.I ∧ m.I ≤ q)) (.ite (chF n.I.toNat m.I.toNat i.I.toNat).isEmpty (.leaf [.i 0]) (.leaf [.i 1,.i (chF n.I.toNat m.I.toNat i.I.toNat).length,.l (chF n.I.toNat m.I.toNat i.I.toNat)]))
 | _=>.fail
def chR (n m i:Int):List (List D):=chW (chF n.toNat (m - 1).toNat) i.toNat (n - i).toNat
def G57_5 (q:Nat) (ds:List D):T (Ex × List D):=match ds with
 | [z,n,m,i]=>.need (yes (z.I = 0 ∧ chP n.I m.I i.I ∧ 1 ≤ m.I ∧ m.I ≤ q + 1)) (.ite (chR n.I m.I i.I).isEmpty (.leaf (.exit 0,[.i 0])) (.leaf (.exit 0,[.i 1,.i (chR n.I m.I i.I).length,.l (chR n.I m.I i.I)])))
 | [z,n,m,s,i,o]=>.need (yes (z.I = 1 ∧ chP n.I m.I i.I ∧ 1 ≤ m.I ∧ m.I ≤ q + 1 ∧ s.I = o.L.length ∧ 0 < s.I ∧ s.I ≤ 4096 * i.I)) (.leaf (.exit 0,[.i 1,.i (o.L ++ chR n.I m.I i.I).length,.l (o.L ++ chR n.I m.I i.I)]))
 | _=>.fail
def consR (i:Int) (l:List (List D)) (j:Int):List (List D):=(l.drop j.toNat).map (chC i)
def chS (l:List (List D)):Prop:=l.length ≤ 4096 ∧ ∀ k,k < l.length → (lx (l.getD k []) 0).length ≤ 12
def chI (n i:Int):Prop:=(0 ≤ n ∧ n ≤ 12) ∧ 0 ≤ i ∧ i < n
def G57_9 (_:Nat) (ds:List D):T (Ex × List D):=match ds with
 | [z,n,m,i,j]=>.need (yes (z.I = 0 ∧ 0 ≤ j.I)) (.leaf (.exit 2,[.i 0,.i n.I,.i m.I,.i i.I]))
 | [z, n,m,x,y,j,l]=>.ite (decide (z.I = 1))
     (.need (yes (z.I = 1 ∧ chI n.I x.I ∧ y.I = l.L.length ∧ chS l.L ∧ 0 ≤ j.I ∧ j.I ≤ y.I)) (.ite (consR x.I l.L j.I).isEmpty (.leaf (.exit 2,[.i 0,.i n.I,.i m.I,.i x.I])) (.leaf (.exit 2,[.i 1,.i n.I,.i m.I,.i (consR x.I l.L j.I).length,.i x.I,.l (consR x.I l.L j.I)]))))
     (.need (yes (z.I = 3 ∧ 0 ≤ x.I ∧ 0 ≤ j.I)) (.leaf (.exit 2,[.i 1,.i n.I,.i m.I,.i x.I,.i y.I,.l l.L])))
 | [z,n,m,s,i,t,j,o,l]=>.need (yes (z.I = 2 ∧ chI n.I i.I ∧ (s.I = o.L.length ∧ s.I + t.I ≤ 100000 + j.I) ∧ t.I = l.L.length ∧ chS l.L ∧ 0 ≤ j.I ∧ j.I ≤ t.I)) (.leaf (.exit 2,[.i 1,.i n.I,.i m.I,.i (o.L ++ consR i.I l.L j.I).length,.i i.I,.l (o.L ++ consR i.I l.L j.I)]))
 | _=>.fail
end
def s33:SigW:=⟨[.agg [.k (.int .i64),.k (.ro [.int .i64,.int .i64,.int .i64,.ro [.int .i64,.int .i64]])],.k (.ro [.int .i64,.int .i64,.int .i64,.int .i64]),.k (.ro [.int .i64,.int .i64,.int .i64]),.k (.int .i64)],[],[(.tup [.nils,.k .bool],[]),(.tup [.k (.ro [.int .i64]),.k .bool],[])]⟩
def l33_2:LSig:=mkLS [1,2,3,4,10] [(64,[(1,.k (.ro [.int .i64,.int .i64,.int .i64,.int .i64])),(2,.k (.ro [.int .i64,.int .i64,.int .i64])),(3,.k (.int .i64)),(4,.ptr 0 2 0 0),(10,.k (.int .i64))],[.box [.k (.int .i64),.k (.ro [.int .i64,.int .i64,.int .i64,.ro [.int .i64,.int .i64]])]])] [(.exit 0,[],[(64,[],[])]),(.ret,[8,9],[(64,[(8,.k (.ro [.int .i64])),(9,.k .bool)],[])])]
def l33_6:LSig:=mkLS [1,2,3,4,10,11,12] [(64,[(1,.k (.ro [.int .i64,.int .i64,.int .i64,.int .i64])),(2,.k (.ro [.int .i64,.int .i64,.int .i64])),(3,.k (.int .i64)),(4,.ptr 0 2 0 0),(10,.k (.int .i64)),(11,.nils),(12,.k (.int .i64))],[.box [.k (.int .i64),.k (.ro [.int .i64,.int .i64,.int .i64,.ro [.int .i64,.int .i64]])]]),(64,[(1,.k (.ro [.int .i64,.int .i64,.int .i64,.int .i64])),(2,.k (.ro [.int .i64,.int .i64,.int .i64])),(3,.k (.int .i64)),(4,.ptr 0 2 0 0),(10,.k (.int .i64)),(11,.sl 1 1),(12,.k (.int .i64))],[.box [.k (.int .i64),.k (.ro [.int .i64,.int .i64,.int .i64,.ro [.int .i64,.int .i64]])],.row [.ro [.int .i64]]])] [(.exit 2,[1,2,3,4,10],[(64,[(1,.k (.ro [.int .i64,.int .i64,.int .i64,.int .i64])),(2,.k (.ro [.int .i64,.int .i64,.int .i64])),(3,.k (.int .i64)),(4,.ptr 0 2 0 0),(10,.k (.int .i64))],[.box [.k (.int .i64),.k (.ro [.int .i64,.int .i64,.int .i64,.ro [.int .i64,.int .i64]])]])]),(.ret,[8,9],[(64,[(8,.k (.ro [.int .i64])),(9,.k .bool)],[])])]
def l33_10:LSig:=mkLS [1,2,3,4,10,11,12,13,14] [(64,[(1,.k (.ro [.int .i64,.int .i64,.int .i64,.int .i64])),(2,.k (.ro [.int .i64,.int .i64,.int .i64])),(3,.k (.int .i64)),(4,.ptr 0 2 0 0),(10,.k (.int .i64)),(11,.nils),(12,.k (.int .i64)),(13,.nils),(14,.k (.int .i64))],[.box [.k (.int .i64),.k (.ro [.int .i64,.int .i64,.int .i64,.ro [.int .i64,.int .i64]])]]),(64,[(1,.k (.ro [.int .i64,.int .i64,.int .i64,.int .i64])),(2,.k (.ro [.int .i64,.int .i64,.int .i64])),(3,.k (.int .i64)),(4,.ptr 0 2 0 0),(10,.k (.int .i64)),(11,.sl 1 1),(12,.k (.int .i64)),(13,.nils),(14,.k (.int .i64))],[.box [.k (.int .i64),.k (.ro [.int .i64,.int .i64,.int .i64,.ro [.int .i64,.int .i64]])],.row [.ro [.int .i64]]]),(64,[(1,.k (.ro [.int .i64,.int .i64,.int .i64,.int .i64])),(2,.k (.ro [.int .i64,.int .i64,.int .i64])),(3,.k (.int .i64)),(4,.ptr 0 2 0 0),(10,.k (.int .i64)),(11,.sl 1 1),(12,.k (.int .i64)),(13,.sl 2 4),(14,.k (.int .i64))],[.box [.k (.int .i64),.k (.ro [.int .i64,.int .i64,.int .i64,.ro [.int .i64,.int .i64]])],.row [.ro [.int .i64]],.row [.int .i64,.int .i64,.int .i64,.int .i64]])] [(.exit 4,[1,2,3,4,10,11,12,13],[(64,[(1,.k (.ro [.int .i64,.int .i64,.int .i64,.int .i64])),(2,.k (.ro [.int .i64,.int .i64,.int .i64])),(3,.k (.int .i64)),(4,.ptr 0 2 0 0),(10,.k (.int .i64)),(11,.sl 1 1),(12,.k (.int .i64)),(13,.nils)],[.box [.k (.int .i64),.k (.ro [.int .i64,.int .i64,.int .i64,.ro [.int .i64,.int .i64]])],.row [.ro [.int .i64]]]),(64,[(1,.k (.ro [.int .i64,.int .i64,.int .i64,.int .i64])),(2,.k (.ro [.int .i64,.int .i64,.int .i64])),(3,.k (.int .i64)),(4,.ptr 0 2 0 0),(10,.k (.int .i64)),(11,.sl 1 1),(12,.k (.int .i64)),(13,.sl 2 4)],[.box [.k (.int .i64),.k (.ro [.int .i64,.int .i64,.int .i64,.ro [.int .i64,.int .i64]])],.row [.ro [.int .i64]],.row [.int .i64,.int .i64,.int .i64,.int .i64]])])]
noncomputable section
def vehR (c:List D):List D:=[.i (ix c 0),.i (ix c 1),.i (ix c 2),.i (ix c 3)]
def teamL (v:List (List D)) (l:List (List D)):List (List D):=l.map fun x=>vehR (v.getD (ix x 0).toNat [])
def teamF (v:List (List D)) (c:List D):List (List D):=teamL v (lx c 0)
def chV (v ch:List (List D)):Prop:=chS ch ∧ ∀ k,k < ch.length → ∀ j,j < (lx (ch.getD k []) 0).length → 0 ≤ ix ((lx (ch.getD k []) 0).getD j []) 0 ∧ ix ((lx (ch.getD k []) 0).getD j []) 0 < v.length
def cov (n:Int) (r v z:List (List D)) (h:Int) (c:List D):Bool:=(refZ n r (teamF v c) z h 0 z.length []).isEmpty
def teamsOk (n:Int) (r v z:List (List D)) (h:Int) (ch:List (List D)):Prop:=∀ k,k < ch.length → okG n r (teamF v (ch.getD k [])) z h
def firstC (n:Int) (r v z:List (List D)) (h:Int) (ch:List (List D)):Option (List D):=ch.find? (cov n r v z h)
def leastN (n:Int) (r v z:List (List D)) (h:Int):Nat → Nat → Option (List D)
 | _,0=>none
 | m, k + 1=>match firstC n r v z h (chF v.length m 0) with
   | some c=>some c
   | none=>leastN n r v z h (m + 1) k
def theC (o:Option (List D)):List (List D):=lx (o.getD []) 0
def restC (ch:List (List D)) (i j:Int):List (List D):=(lx (ch.getD i.toNat []) 0).drop j.toNat
def G33 (ds:List D):T (List D):=match ds with
 | [nn,r,v,z,h]=>.need (yes (okG nn.I r.L v.L z.L h.I ∧ v.L.length ≤ 12)) (.ite (leastN nn.I r.L v.L z.L h.I 0 (v.L.length + 1)).isSome (.leaf [.i 1,.l (theC (leastN nn.I r.L v.L z.L h.I 0 (v.L.length + 1))),.b true]) (.leaf [.i 0,.b false]))
 | _=>.fail
def G33_2 (ds:List D):T (Ex × List D):=match ds with
 | [v, z,h,n,nn,r]=>.need (yes (okG nn.I r.L v.L z.L h.I ∧ v.L.length ≤ 12 ∧ 0 ≤ n.I ∧ n.I ≤ v.L.length + 1))
     (.ite (leastN nn.I r.L v.L z.L h.I n.I.toNat (v.L.length + 1 - n.I.toNat)).isSome (.leaf (.ret,[.l (theC (leastN nn.I r.L v.L z.L h.I n.I.toNat (v.L.length + 1 - n.I.toNat))),.b true])) (.leaf (.exit 0,[])))
 | _=>.fail
def G33_6 (ds:List D):T (Ex × List D):=match ds with
 | [q,v,z,h,n,i,nn,r]=>.need (yes (q.I = 0 ∧ 0 ≤ i.I)) (.leaf (.exit 2,[.l v.L,.l z.L,.i h.I,.i n.I,.i nn.I,.l r.L]))
 | [q, v,z,h,n,s,i,nn,r,ch]=>.need (yes (q.I = 1 ∧ chV v.L ch.L ∧ teamsOk nn.I r.L v.L z.L h.I ch.L ∧ s.I = ch.L.length ∧ 0 ≤ i.I ∧ i.I ≤ s.I))
     (.ite (firstC nn.I r.L v.L z.L h.I (ch.L.drop i.I.toNat)).isSome (.leaf (.ret,[.l (theC (firstC nn.I r.L v.L z.L h.I (ch.L.drop i.I.toNat))),.b true])) (.leaf (.exit 2,[.l v.L,.l z.L,.i h.I,.i n.I,.i nn.I,.l r.L])))
 | _=>.fail
def G33_10 (ds:List D):T (Ex × List D):=match ds with
 | [q, v,z,h,n,s,i,j,nn,r,ch]=>.need (yes (q.I = 1 ∧ chV v.L ch.L ∧ s.I = ch.L.length ∧ (0 ≤ i.I ∧ i.I < s.I) ∧ 0 ≤ j.I ∧ j.I ≤ (lx (ch.L.getD i.I.toNat []) 0).length))
     (.ite (restC ch.L i.I j.I).isEmpty (.leaf (.exit 4,[.i 0,.l v.L,.l z.L,.i h.I,.i n.I,.i s.I,.i i.I,.i nn.I,.l r.L,.l ch.L]))
      (.leaf (.exit 4,[.i 1,.l v.L,.l z.L,.i h.I,.i n.I,.i s.I,.i i.I,.i (teamL v.L (restC ch.L i.I j.I)).length,.i nn.I,.l r.L,.l ch.L,.l (teamL v.L (restC ch.L i.I j.I))])))
 | [q, v,z,h,n,s,i,t,j,nn,r,ch,o]=>.need (yes (q.I = 2 ∧ chV v.L ch.L ∧ s.I = ch.L.length ∧ (0 ≤ i.I ∧ i.I < s.I) ∧ (0 ≤ j.I ∧ j.I ≤ (lx (ch.L.getD i.I.toNat []) 0).length) ∧ t.I = o.L.length ∧ t.I ≤ j.I))
     (.leaf (.exit 4,[.i 1,.l v.L,.l z.L,.i h.I,.i n.I,.i s.I,.i i.I,.i (o.L ++ teamL v.L (restC ch.L i.I j.I)).length,.i nn.I,.l r.L,.l ch.L,.l (o.L ++ teamL v.L (restC ch.L i.I j.I))]))
 | _=>.fail
end
def s56:Sig:=⟨[.k (.ro [.int .i64])],[(.sl 0 1,[.row [.int .i64]]),(.emp 1,[])]⟩
def s1055:SigW:=⟨[.sl 0 1,.k (.int .i64),.k (.int .i64),.ptr 1 1 0 0,.ptr 2 1 0 0,.ptr 3 2 0 0,.ptr 4 1 0 0,.ptr 5 1 0 0,.ptr 6 1 0 0],[.row [.int .i64],.box [.k (.ro [.int .i64,.int .i64,.int .i64,.int .i64])],.box [.k (.ro [.int .i64])],.box [.k (.int .i64),.k (.ro [.int .i64,.int .i64,.int .i64,.ro [.int .i64,.int .i64]])],.box [.k (.ro [.int .i64,.int .i64,.int .i64])],.box [.k (.int .i64)],.box [.fn 55 [] [.ptr 1 1 0 0,.ptr 2 1 0 0,.ptr 3 2 0 0,.ptr 4 1 0 0,.ptr 5 1 0 0,.ptr 6 1 0 0]]],[(.k .bool,[.none,.box [.k (.ro [.int .i64,.int .i64,.int .i64,.int .i64])],.box [.k (.ro [.int .i64])],.box [.k (.int .i64),.k (.ro [.int .i64,.int .i64,.int .i64,.ro [.int .i64,.int .i64]])],.box [.k (.ro [.int .i64,.int .i64,.int .i64])],.box [.k (.int .i64)],.box [.fn 55 [] [.ptr 1 1 0 0,.ptr 2 1 0 0,.ptr 3 2 0 0,.ptr 4 1 0 0,.ptr 5 1 0 0,.ptr 6 1 0 0]]])]⟩
def l1055_4:LSig:=mkLS [0,3,4,5,6,7,13,22,23,24] [(73,[(0,.k (.ro [.int .i64])),(3,.ptr 1 1 0 0),(4,.ptr 2 1 0 0),(5,.ptr 3 2 0 0),(6,.ptr 4 1 0 0),(7,.ptr 5 1 0 0),(13,.nils),(22,.k (.ro [.int .i64])),(23,.k (.int .i64)),(24,.k (.int .i64))],[.none,.box [.k (.ro [.int .i64,.int .i64,.int .i64,.int .i64])],.box [.k (.ro [.int .i64])],.box [.k (.int .i64),.k (.ro [.int .i64,.int .i64,.int .i64,.ro [.int .i64,.int .i64]])],.box [.k (.ro [.int .i64,.int .i64,.int .i64])],.box [.k (.int .i64)],.box [.fn 55 [] [.ptr 1 1 0 0,.ptr 2 1 0 0,.ptr 3 2 0 0,.ptr 4 1 0 0,.ptr 5 1 0 0,.ptr 6 1 0 0]]]),(73,[(0,.k (.ro [.int .i64])),(3,.ptr 1 1 0 0),(4,.ptr 2 1 0 0),(5,.ptr 3 2 0 0),(6,.ptr 4 1 0 0),(7,.ptr 5 1 0 0),(13,.sl 7 4),(22,.k (.ro [.int .i64])),(23,.k (.int .i64)),(24,.k (.int .i64))],[.none,.box [.k (.ro [.int .i64,.int .i64,.int .i64,.int .i64])],.box [.k (.ro [.int .i64])],.box [.k (.int .i64),.k (.ro [.int .i64,.int .i64,.int .i64,.ro [.int .i64,.int .i64]])],.box [.k (.ro [.int .i64,.int .i64,.int .i64])],.box [.k (.int .i64)],.box [.fn 55 [] [.ptr 1 1 0 0,.ptr 2 1 0 0,.ptr 3 2 0 0,.ptr 4 1 0 0,.ptr 5 1 0 0,.ptr 6 1 0 0]],.row [.int .i64,.int .i64,.int .i64,.int .i64]])] [(.exit 0,[0,4,5,6,7,13],[(73,[(0,.k (.ro [.int .i64])),(4,.ptr 2 1 0 0),(5,.ptr 3 2 0 0),(6,.ptr 4 1 0 0),(7,.ptr 5 1 0 0),(13,.nils)],[.none,.box [.k (.ro [.int .i64,.int .i64,.int .i64,.int .i64])],.box [.k (.ro [.int .i64])],.box [.k (.int .i64),.k (.ro [.int .i64,.int .i64,.int .i64,.ro [.int .i64,.int .i64]])],.box [.k (.ro [.int .i64,.int .i64,.int .i64])],.box [.k (.int .i64)],.box [.fn 55 [] [.ptr 1 1 0 0,.ptr 2 1 0 0,.ptr 3 2 0 0,.ptr 4 1 0 0,.ptr 5 1 0 0,.ptr 6 1 0 0]]]),(73,[(0,.k (.ro [.int .i64])),(4,.ptr 2 1 0 0),(5,.ptr 3 2 0 0),(6,.ptr 4 1 0 0),(7,.ptr 5 1 0 0),(13,.sl 7 4)],[.none,.box [.k (.ro [.int .i64,.int .i64,.int .i64,.int .i64])],.box [.k (.ro [.int .i64])],.box [.k (.int .i64),.k (.ro [.int .i64,.int .i64,.int .i64,.ro [.int .i64,.int .i64]])],.box [.k (.ro [.int .i64,.int .i64,.int .i64])],.box [.k (.int .i64)],.box [.fn 55 [] [.ptr 1 1 0 0,.ptr 2 1 0 0,.ptr 3 2 0 0,.ptr 4 1 0 0,.ptr 5 1 0 0,.ptr 6 1 0 0]],.row [.int .i64,.int .i64,.int .i64,.int .i64]])])]
def l1055_11:LSig:=mkLS [16,42,43,44] [(73,[(16,.mp 7),(42,.nils),(43,.k (.int .i64)),(44,.k (.int .i64))],[.none,.box [.k (.ro [.int .i64,.int .i64,.int .i64,.int .i64])],.box [.k (.ro [.int .i64])],.box [.k (.int .i64),.k (.ro [.int .i64,.int .i64,.int .i64,.ro [.int .i64,.int .i64]])],.box [.k (.ro [.int .i64,.int .i64,.int .i64])],.box [.k (.int .i64)],.box [.fn 55 [] [.ptr 1 1 0 0,.ptr 2 1 0 0,.ptr 3 2 0 0,.ptr 4 1 0 0,.ptr 5 1 0 0,.ptr 6 1 0 0]],.map false [.int .i64] .bool]),(73,[(16,.mp 7),(42,.sl 8 3),(43,.k (.int .i64)),(44,.k (.int .i64))],[.none,.box [.k (.ro [.int .i64,.int .i64,.int .i64,.int .i64])],.box [.k (.ro [.int .i64])],.box [.k (.int .i64),.k (.ro [.int .i64,.int .i64,.int .i64,.ro [.int .i64,.int .i64]])],.box [.k (.ro [.int .i64,.int .i64,.int .i64])],.box [.k (.int .i64)],.box [.fn 55 [] [.ptr 1 1 0 0,.ptr 2 1 0 0,.ptr 3 2 0 0,.ptr 4 1 0 0,.ptr 5 1 0 0,.ptr 6 1 0 0]],.map false [.int .i64] .bool,.row [.int .i64,.int .i64,.int .i64]])] [(.exit 2,[16],[(73,[(16,.mp 7)],[.none,.box [.k (.ro [.int .i64,.int .i64,.int .i64,.int .i64])],.box [.k (.ro [.int .i64])],.box [.k (.int .i64),.k (.ro [.int .i64,.int .i64,.int .i64,.ro [.int .i64,.int .i64]])],.box [.k (.ro [.int .i64,.int .i64,.int .i64])],.box [.k (.int .i64)],.box [.fn 55 [] [.ptr 1 1 0 0,.ptr 2 1 0 0,.ptr 3 2 0 0,.ptr 4 1 0 0,.ptr 5 1 0 0,.ptr 6 1 0 0]],.map false [.int .i64] .bool])])]
def l1055_17:LSig:=mkLS [0,2,3,8,19] [(73,[(0,.k (.ro [.int .i64])),(2,.k (.int .i64)),(3,.ptr 1 1 0 0),(8,.ptr 6 1 0 0),(19,.k (.int .i64))],[.none,.box [.k (.ro [.int .i64,.int .i64,.int .i64,.int .i64])],.box [.k (.ro [.int .i64])],.box [.k (.int .i64),.k (.ro [.int .i64,.int .i64,.int .i64,.ro [.int .i64,.int .i64]])],.box [.k (.ro [.int .i64,.int .i64,.int .i64])],.box [.k (.int .i64)],.box [.fn 55 [] [.ptr 1 1 0 0,.ptr 2 1 0 0,.ptr 3 2 0 0,.ptr 4 1 0 0,.ptr 5 1 0 0,.ptr 6 1 0 0]]])] [(.ret,[12],[(73,[(12,.k .bool)],[.none,.box [.k (.ro [.int .i64,.int .i64,.int .i64,.int .i64])],.box [.k (.ro [.int .i64])],.box [.k (.int .i64),.k (.ro [.int .i64,.int .i64,.int .i64,.ro [.int .i64,.int .i64]])],.box [.k (.ro [.int .i64,.int .i64,.int .i64])],.box [.k (.int .i64)],.box [.fn 55 [] [.ptr 1 1 0 0,.ptr 2 1 0 0,.ptr 3 2 0 0,.ptr 4 1 0 0,.ptr 5 1 0 0,.ptr 6 1 0 0]]])]),(.exit 4,[],[(73,[],[.none,.box [.k (.ro [.int .i64,.int .i64,.int .i64,.int .i64])],.box [.k (.ro [.int .i64])],.box [.k (.int .i64),.k (.ro [.int .i64,.int .i64,.int .i64,.ro [.int .i64,.int .i64]])],.box [.k (.ro [.int .i64,.int .i64,.int .i64])],.box [.k (.int .i64)],.box [.fn 55 [] [.ptr 1 1 0 0,.ptr 2 1 0 0,.ptr 3 2 0 0,.ptr 4 1 0 0,.ptr 5 1 0 0,.ptr 6 1 0 0]]])])]
def s55:SigW:=⟨[.k (.ro [.int .i64]),.k (.int .i64),.k (.int .i64),.ptr 0 1 0 0,.ptr 1 1 0 0,.ptr 2 2 0 0,.ptr 3 1 0 0,.ptr 4 1 0 0,.ptr 5 1 0 0],[.box [.k (.ro [.int .i64,.int .i64,.int .i64,.int .i64])],.box [.k (.ro [.int .i64])],.box [.k (.int .i64),.k (.ro [.int .i64,.int .i64,.int .i64,.ro [.int .i64,.int .i64]])],.box [.k (.ro [.int .i64,.int .i64,.int .i64])],.box [.k (.int .i64)],.box [.fn 55 [] [.ptr 0 1 0 0,.ptr 1 1 0 0,.ptr 2 2 0 0,.ptr 3 1 0 0,.ptr 4 1 0 0,.ptr 5 1 0 0]]],[(.k .bool,[.box [.k (.ro [.int .i64,.int .i64,.int .i64,.int .i64])],.box [.k (.ro [.int .i64])],.box [.k (.int .i64),.k (.ro [.int .i64,.int .i64,.int .i64,.ro [.int .i64,.int .i64]])],.box [.k (.ro [.int .i64,.int .i64,.int .i64])],.box [.k (.int .i64)],.box [.fn 55 [] [.ptr 0 1 0 0,.ptr 1 1 0 0,.ptr 2 2 0 0,.ptr 3 1 0 0,.ptr 4 1 0 0,.ptr 5 1 0 0]]])]⟩
def l55_4:LSig:=mkLS [0,3,4,5,6,7,13,22,23,24] [(73,[(0,.k (.ro [.int .i64])),(3,.ptr 0 1 0 0),(4,.ptr 1 1 0 0),(5,.ptr 2 2 0 0),(6,.ptr 3 1 0 0),(7,.ptr 4 1 0 0),(13,.nils),(22,.k (.ro [.int .i64])),(23,.k (.int .i64)),(24,.k (.int .i64))],[.box [.k (.ro [.int .i64,.int .i64,.int .i64,.int .i64])],.box [.k (.ro [.int .i64])],.box [.k (.int .i64),.k (.ro [.int .i64,.int .i64,.int .i64,.ro [.int .i64,.int .i64]])],.box [.k (.ro [.int .i64,.int .i64,.int .i64])],.box [.k (.int .i64)],.box [.fn 55 [] [.ptr 0 1 0 0,.ptr 1 1 0 0,.ptr 2 2 0 0,.ptr 3 1 0 0,.ptr 4 1 0 0,.ptr 5 1 0 0]]]),(73,[(0,.k (.ro [.int .i64])),(3,.ptr 0 1 0 0),(4,.ptr 1 1 0 0),(5,.ptr 2 2 0 0),(6,.ptr 3 1 0 0),(7,.ptr 4 1 0 0),(13,.sl 6 4),(22,.k (.ro [.int .i64])),(23,.k (.int .i64)),(24,.k (.int .i64))],[.box [.k (.ro [.int .i64,.int .i64,.int .i64,.int .i64])],.box [.k (.ro [.int .i64])],.box [.k (.int .i64),.k (.ro [.int .i64,.int .i64,.int .i64,.ro [.int .i64,.int .i64]])],.box [.k (.ro [.int .i64,.int .i64,.int .i64])],.box [.k (.int .i64)],.box [.fn 55 [] [.ptr 0 1 0 0,.ptr 1 1 0 0,.ptr 2 2 0 0,.ptr 3 1 0 0,.ptr 4 1 0 0,.ptr 5 1 0 0]],.row [.int .i64,.int .i64,.int .i64,.int .i64]])] [(.exit 0,[0,4,5,6,7,13],[(73,[(0,.k (.ro [.int .i64])),(4,.ptr 1 1 0 0),(5,.ptr 2 2 0 0),(6,.ptr 3 1 0 0),(7,.ptr 4 1 0 0),(13,.nils)],[.box [.k (.ro [.int .i64,.int .i64,.int .i64,.int .i64])],.box [.k (.ro [.int .i64])],.box [.k (.int .i64),.k (.ro [.int .i64,.int .i64,.int .i64,.ro [.int .i64,.int .i64]])],.box [.k (.ro [.int .i64,.int .i64,.int .i64])],.box [.k (.int .i64)],.box [.fn 55 [] [.ptr 0 1 0 0,.ptr 1 1 0 0,.ptr 2 2 0 0,.ptr 3 1 0 0,.ptr 4 1 0 0,.ptr 5 1 0 0]]]),(73,[(0,.k (.ro [.int .i64])),(4,.ptr 1 1 0 0),(5,.ptr 2 2 0 0),(6,.ptr 3 1 0 0),(7,.ptr 4 1 0 0),(13,.sl 6 4)],[.box [.k (.ro [.int .i64,.int .i64,.int .i64,.int .i64])],.box [.k (.ro [.int .i64])],.box [.k (.int .i64),.k (.ro [.int .i64,.int .i64,.int .i64,.ro [.int .i64,.int .i64]])],.box [.k (.ro [.int .i64,.int .i64,.int .i64])],.box [.k (.int .i64)],.box [.fn 55 [] [.ptr 0 1 0 0,.ptr 1 1 0 0,.ptr 2 2 0 0,.ptr 3 1 0 0,.ptr 4 1 0 0,.ptr 5 1 0 0]],.row [.int .i64,.int .i64,.int .i64,.int .i64]])])]
def l55_11:LSig:=mkLS [16,42,43,44] [(73,[(16,.mp 6),(42,.nils),(43,.k (.int .i64)),(44,.k (.int .i64))],[.box [.k (.ro [.int .i64,.int .i64,.int .i64,.int .i64])],.box [.k (.ro [.int .i64])],.box [.k (.int .i64),.k (.ro [.int .i64,.int .i64,.int .i64,.ro [.int .i64,.int .i64]])],.box [.k (.ro [.int .i64,.int .i64,.int .i64])],.box [.k (.int .i64)],.box [.fn 55 [] [.ptr 0 1 0 0,.ptr 1 1 0 0,.ptr 2 2 0 0,.ptr 3 1 0 0,.ptr 4 1 0 0,.ptr 5 1 0 0]],.map false [.int .i64] .bool]),(73,[(16,.mp 6),(42,.sl 7 3),(43,.k (.int .i64)),(44,.k (.int .i64))],[.box [.k (.ro [.int .i64,.int .i64,.int .i64,.int .i64])],.box [.k (.ro [.int .i64])],.box [.k (.int .i64),.k (.ro [.int .i64,.int .i64,.int .i64,.ro [.int .i64,.int .i64]])],.box [.k (.ro [.int .i64,.int .i64,.int .i64])],.box [.k (.int .i64)],.box [.fn 55 [] [.ptr 0 1 0 0,.ptr 1 1 0 0,.ptr 2 2 0 0,.ptr 3 1 0 0,.ptr 4 1 0 0,.ptr 5 1 0 0]],.map false [.int .i64] .bool,.row [.int .i64,.int .i64,.int .i64]])] [(.exit 2,[16],[(73,[(16,.mp 6)],[.box [.k (.ro [.int .i64,.int .i64,.int .i64,.int .i64])],.box [.k (.ro [.int .i64])],.box [.k (.int .i64),.k (.ro [.int .i64,.int .i64,.int .i64,.ro [.int .i64,.int .i64]])],.box [.k (.ro [.int .i64,.int .i64,.int .i64])],.box [.k (.int .i64)],.box [.fn 55 [] [.ptr 0 1 0 0,.ptr 1 1 0 0,.ptr 2 2 0 0,.ptr 3 1 0 0,.ptr 4 1 0 0,.ptr 5 1 0 0]],.map false [.int .i64] .bool])])]
def l55_17:LSig:=mkLS [0,2,3,8,19] [(73,[(0,.k (.ro [.int .i64])),(2,.k (.int .i64)),(3,.ptr 0 1 0 0),(8,.ptr 5 1 0 0),(19,.k (.int .i64))],[.box [.k (.ro [.int .i64,.int .i64,.int .i64,.int .i64])],.box [.k (.ro [.int .i64])],.box [.k (.int .i64),.k (.ro [.int .i64,.int .i64,.int .i64,.ro [.int .i64,.int .i64]])],.box [.k (.ro [.int .i64,.int .i64,.int .i64])],.box [.k (.int .i64)],.box [.fn 55 [] [.ptr 0 1 0 0,.ptr 1 1 0 0,.ptr 2 2 0 0,.ptr 3 1 0 0,.ptr 4 1 0 0,.ptr 5 1 0 0]]])] [(.ret,[12],[(73,[(12,.k .bool)],[.box [.k (.ro [.int .i64,.int .i64,.int .i64,.int .i64])],.box [.k (.ro [.int .i64])],.box [.k (.int .i64),.k (.ro [.int .i64,.int .i64,.int .i64,.ro [.int .i64,.int .i64]])],.box [.k (.ro [.int .i64,.int .i64,.int .i64])],.box [.k (.int .i64)],.box [.fn 55 [] [.ptr 0 1 0 0,.ptr 1 1 0 0,.ptr 2 2 0 0,.ptr 3 1 0 0,.ptr 4 1 0 0,.ptr 5 1 0 0]]])]),(.exit 4,[],[(73,[],[.box [.k (.ro [.int .i64,.int .i64,.int .i64,.int .i64])],.box [.k (.ro [.int .i64])],.box [.k (.int .i64),.k (.ro [.int .i64,.int .i64,.int .i64,.ro [.int .i64,.int .i64]])],.box [.k (.ro [.int .i64,.int .i64,.int .i64])],.box [.k (.int .i64)],.box [.fn 55 [] [.ptr 0 1 0 0,.ptr 1 1 0 0,.ptr 2 2 0 0,.ptr 3 1 0 0,.ptr 4 1 0 0,.ptr 5 1 0 0]]])])]
noncomputable section
def chosOk (v cs:List (List D)):Prop:=cs.length ≤ 12 ∧ ∀ j,j < cs.length → 0 ≤ ix (cs.getD j []) 0 ∧ ix (cs.getD j []) 0 < v.length
def covT (n:Int) (r v z:List (List D)) (h:Int) (cs:List (List D)):Bool:=(gapsA n r (teamL v cs) z h).isEmpty
def candT (v cs:List (List D)) (m i:Nat):List (List (List D)):=(chF v.length m i).map fun c=>cs ++ lx c 0
def restT (v cs:List (List D)) (m k:Nat):List (List (List D)):=(chW (chF v.length (m - 1)) k (v.length - k)).map fun c=>cs ++ lx c 0
def findT (n:Int) (r v z:List (List D)) (h:Int) (l:List (List (List D))):Option (List (List D)):=l.find? (covT n r v z h)
def fndT (n:Int) (r v z:List (List D)) (h:Int) (f:List (List D)) (l:List (List (List D))):List (List D):=(findT n r v z h l).getD (l.getLastD f)
def openF (l g:List (List D)):List (List D):=g.foldl (fun l c=>msetD [.int .i64] [.i (ix c 0)] (.b true) l) l
def choP (q:Nat) (n:Int) (r v z:List (List D)) (h:Int) (cs:List (List D)) (i m:Int):Prop:=
 okG n r v z h ∧ v.length ≤ 12 ∧ chosOk v cs ∧ (0 ≤ i ∧ i ≤ v.length) ∧ (0 ≤ m ∧ m < q) ∧ cs.length + m ≤ 12
def G55 (q:Nat) (ds:List D):T (List D):=match ds with
 | [cs, i,m,v,f,n,r,z,h]=>.need (yes (choP q n.I r.L v.L z.L h.I cs.L i.I m.I))
     (.leaf [.b (findT n.I r.L v.L z.L h.I (candT v.L cs.L m.I.toNat i.I.toNat)).isSome,.l v.L,.l (fndT n.I r.L v.L z.L h.I f.L (candT v.L cs.L m.I.toNat i.I.toNat)),.i n.I,.l r.L,.l z.L,.i h.I])
 | _=>.fail
def G1055 (q:Nat) (ds:List D):T (List D):=match ds with
 | [s, i,m,cs,v,f,n,r,z,h]=>.need (yes (s.I = cs.L.length ∧ choP q n.I r.L v.L z.L h.I cs.L i.I m.I))
     (.leaf [.b (findT n.I r.L v.L z.L h.I (candT v.L cs.L m.I.toNat i.I.toNat)).isSome,.l v.L,.l (fndT n.I r.L v.L z.L h.I f.L (candT v.L cs.L m.I.toNat i.I.toNat)),.i n.I,.l r.L,.l z.L,.i h.I])
 | _=>.fail
def G55_4 (_:Nat) (ds:List D):T (Ex × List D):=match ds with
 | [y, cs,c2,m,i,v,f,n,r,z,h]=>.need (yes (y.I = 0 ∧ c2.L = cs.L ∧ m.I = cs.L.length ∧ chosOk v.L cs.L ∧ 0 ≤ i.I ∧ i.I ≤ m.I))
     (.ite (cs.L.drop i.I.toNat).isEmpty (.leaf (.exit 0,[.i 0,.l cs.L,.l v.L,.l f.L,.i n.I,.l r.L,.l z.L,.i h.I]))
      (.leaf (.exit 0,[.i 1,.l cs.L,.i (teamL v.L (cs.L.drop i.I.toNat)).length,.l v.L,.l f.L,.i n.I,.l r.L,.l z.L,.i h.I,.l (teamL v.L (cs.L.drop i.I.toNat))])))
 | [y, cs,t,c2,m,i,v,f,n,r,z,h,o]=>.need (yes (y.I = 1 ∧ c2.L = cs.L ∧ m.I = cs.L.length ∧ chosOk v.L cs.L ∧ (0 ≤ i.I ∧ i.I ≤ m.I) ∧ t.I = o.L.length ∧ t.I ≤ i.I))
     (.leaf (.exit 0,[.i 1,.l cs.L,.i (o.L ++ teamL v.L (cs.L.drop i.I.toNat)).length,.l v.L,.l f.L,.i n.I,.l r.L,.l z.L,.i h.I,.l (o.L ++ teamL v.L (cs.L.drop i.I.toNat))]))
 | _=>.fail
def G55_11 (_:Nat) (ds:List D):T (Ex × List D):=match ds with
 | [y,m,i,v,f,n,r,z,h,mp]=>.need (yes (y.I = 0 ∧ m.I ≤ i.I)) (.leaf (.exit 2,[.l v.L,.l f.L,.i n.I,.l r.L,.l z.L,.i h.I,.l mp.L]))
 | [y,s,m,i,v,f,n,r,z,h,mp,g]=>.need (yes (y.I = 1 ∧ s.I = g.L.length ∧ m.I = s.I ∧ s.I ≤ 1000000000 ∧ 0 ≤ i.I ∧ i.I ≤ m.I)) (.leaf (.exit 2,[.l v.L,.l f.L,.i n.I,.l r.L,.l z.L,.i h.I,.l (openF mp.L (g.L.drop i.I.toNat))]))
 | _=>.fail
def G55_17 (q:Nat) (ds:List D):T (Ex × List D):=match ds with
 | [cs, m,k,v,f,n,r,z,h]=>.need (yes (choP (q + 1) n.I r.L v.L z.L h.I cs.L k.I m.I ∧ 1 ≤ m.I))
     (.ite (findT n.I r.L v.L z.L h.I (restT v.L cs.L m.I.toNat k.I.toNat)).isSome (.leaf (.ret,[.b true,.l v.L,.l (fndT n.I r.L v.L z.L h.I f.L (restT v.L cs.L m.I.toNat k.I.toNat)),.i n.I,.l r.L,.l z.L,.i h.I]))
      (.leaf (.exit 4,[.l v.L,.l (fndT n.I r.L v.L z.L h.I f.L (restT v.L cs.L m.I.toNat k.I.toNat)),.i n.I,.l r.L,.l z.L,.i h.I])))
 | _=>.fail
end
noncomputable def sp33:SpL:=[(30,mkF s30 G30)]
noncomputable def lp33:LpL:=[(2,mkL l33_2 G33_2),(6,mkL l33_6 G33_6),(10,mkL l33_10 G33_10)]
noncomputable def sw33:SwL:=[(57,mkFW s57 (G57 12))]
noncomputable def tab33:Tab:=mkTab sp33 lp33 sw33
set_option linter.unusedVariables false
set_option maxRecDepth 100000
theorem t33 (a b c d e:D):(fnTW C tab33 33 s33 [a,b,c,d,e]).run =
 T.run (T.need (yes (okG a.I b.L c.L d.L e.I ∧ c.L.length ≤ 12 ∧ (0:Int) ≤ (0:Int) ∧ (0:Int) ≤ (c.L.length:Int) + (1:Int))) (T.ite (Option.isSome (leastN a.I b.L c.L d.L e.I (Int.toNat (0:Int)) (c.L.length + 1 - Int.toNat (0:Int)))) (T.leaf [D.i 1,D.l (theC (leastN a.I b.L c.L d.L e.I (Int.toNat (0:Int)) (c.L.length + 1 - Int.toNat (0:Int)))),D.b true]) (T.leaf [D.i 0,D.b false]))):=by kernel_rfl
theorem t33_2 (a b c d e f:D):(roundT C tab33 33 (loopOf C.P 33 2) l33_2 [a,b,c,d,e,f]).run =
 T.run (T.ite (decide (d.I ≤ (a.L.length:Int))) (T.need (yes (chP (a.L.length:Int) d.I (0:Int) ∧ d.I ≤ (↑12:Int))) (T.ite (List.isEmpty (chF (Int.toNat (a.L.length:Int)) d.I.toNat (Int.toNat (0:Int)))) (T.need (yes ((↑0:Int) = (0:Int) ∧ (0:Int) ≤ (0:Int))) (T.leaf (Rd.again [D.l a.L,D.l b.L,D.i c.I,D.i (IntKind.i64.wrap (d.I + (1:Int))),D.i e.I,D.l f.L]))) (T.need (yes ((↑(0 + 1):Int) = (1:Int) ∧ chV a.L (chF (Int.toNat (a.L.length:Int)) d.I.toNat (Int.toNat (0:Int))) ∧ teamsOk e.I f.L a.L b.L c.I (chF (Int.toNat (a.L.length:Int)) d.I.toNat (Int.toNat (0:Int))) ∧ (↑(Int.toNat (↑(List.length (chF (Int.toNat (a.L.length:Int)) d.I.toNat (Int.toNat (0:Int)))):Int)):Int) = (↑(List.length (chF (Int.toNat (a.L.length:Int)) d.I.toNat (Int.toNat (0:Int)))):Int) ∧ (0:Int) ≤ (0:Int) ∧ (0:Int) ≤ (↑(Int.toNat (↑(List.length (chF (Int.toNat (a.L.length:Int)) d.I.toNat (Int.toNat (0:Int)))):Int)):Int))) (T.ite (Option.isSome (firstC e.I f.L a.L b.L c.I (List.drop (Int.toNat (0:Int)) (chF (Int.toNat (a.L.length:Int)) d.I.toNat (Int.toNat (0:Int)))))) (T.leaf (Rd.out Ex.ret [D.l (theC (firstC e.I f.L a.L b.L c.I (List.drop (Int.toNat (0:Int)) (chF (Int.toNat (a.L.length:Int)) d.I.toNat (Int.toNat (0:Int)))))),D.b true])) (T.leaf (Rd.again [D.l a.L,D.l b.L,D.i c.I,D.i (IntKind.i64.wrap (d.I + (1:Int))),D.i e.I,D.l f.L])))))) (T.leaf (Rd.out (Ex.exit 0) []))):=by kernel_rfl
theorem t33_6_0 (a b c d e f g:D):(roundT C tab33 33 (loopOf C.P 33 6) l33_6 [.i 0,a,b,c,d,e,f,g]).run =
 T.run (T.ite (decide (e.I < (↑0:Int))) T.fail (T.leaf (Rd.out (Ex.exit 2) [D.l a.L,D.l b.L,D.i c.I,D.i d.I,D.i f.I,D.l g.L]))):=by kernel_rfl
theorem t33_6_1 (a b c d e f g h i:D):(roundT C tab33 33 (loopOf C.P 33 6) l33_6 [.i 1,a,b,c,d,e,f,g,h,i]).run =
 T.run (T.ite (decide (f.I < (e.I.toNat:Int))) (T.need (yes ((↑(0 + 1):Int) = (1:Int) ∧ chV a.L i.L ∧ (e.I.toNat:Int) = (i.L.length:Int) ∧ ((0:Int) ≤ f.I ∧ f.I < (e.I.toNat:Int)) ∧ (0:Int) ≤ (0:Int) ∧ (0:Int) ≤ (↑(List.length (lx (List.getD i.L f.I.toNat []) 0)):Int))) (T.ite (List.isEmpty (restC i.L f.I (0:Int))) (T.need (yes (okG g.I h.L [] b.L c.I)) (T.ite (List.isEmpty (refZ g.I h.L [] b.L c.I 0 b.L.length [])) (T.need (decide ((0:Int) ≤ f.I ∧ f.I < (↑(Int.toNat (e.I.toNat:Int)):Int))) (T.need (decide (f.I.toNat < i.L.length)) (T.leaf (Rd.out Ex.ret [D.l (D.L (List.getD (List.getD i.L f.I.toNat []) 0 default)),D.b true])))) (T.ite ((↑(Int.toNat (↑(List.length (refZ g.I h.L [] b.L c.I 0 b.L.length [])):Int)):Int) == (0:Int)) (T.need (decide ((0:Int) ≤ f.I ∧ f.I < (↑(Int.toNat (e.I.toNat:Int)):Int))) (T.need (decide (f.I.toNat < i.L.length)) (T.leaf (Rd.out Ex.ret [D.l (D.L (List.getD (List.getD i.L f.I.toNat []) 0 default)),D.b true])))) (T.leaf (Rd.again [D.i 1,D.l a.L,D.l b.L,D.i c.I,D.i d.I,D.i (↑(Int.toNat (e.I.toNat:Int)):Int),D.i (IntKind.i64.wrap (f.I + (1:Int))),D.i g.I,D.l h.L,D.l i.L]))))) (T.need (decide (Int.toNat (↑(List.length (teamL a.L (restC i.L f.I (0:Int)))):Int) ≤ List.length (teamL a.L (restC i.L f.I (0:Int))))) (T.need (yes (okG g.I h.L (List.take (Int.toNat (↑(List.length (teamL a.L (restC i.L f.I (0:Int)))):Int)) (teamL a.L (restC i.L f.I (0:Int)))) b.L c.I)) (T.ite (List.isEmpty (refZ g.I h.L (List.take (Int.toNat (↑(List.length (teamL a.L (restC i.L f.I (0:Int)))):Int)) (teamL a.L (restC i.L f.I (0:Int)))) b.L c.I 0 b.L.length [])) (T.need (decide ((0:Int) ≤ f.I ∧ f.I < (↑(Int.toNat (e.I.toNat:Int)):Int))) (T.need (decide (f.I.toNat < i.L.length)) (T.leaf (Rd.out Ex.ret [D.l (D.L (List.getD (List.getD i.L f.I.toNat []) 0 default)),D.b true])))) (T.ite ((↑(Int.toNat (↑(List.length (refZ g.I h.L (List.take (Int.toNat (↑(List.length (teamL a.L (restC i.L f.I (0:Int)))):Int)) (teamL a.L (restC i.L f.I (0:Int)))) b.L c.I 0 b.L.length [])):Int)):Int) == (0:Int)) (T.need (decide ((0:Int) ≤ f.I ∧ f.I < (↑(Int.toNat (e.I.toNat:Int)):Int))) (T.need (decide (f.I.toNat < i.L.length)) (T.leaf (Rd.out Ex.ret [D.l (D.L (List.getD (List.getD i.L f.I.toNat []) 0 default)),D.b true])))) (T.leaf (Rd.again [D.i 1,D.l a.L,D.l b.L,D.i c.I,D.i d.I,D.i (↑(Int.toNat (e.I.toNat:Int)):Int),D.i (IntKind.i64.wrap (f.I + (1:Int))),D.i g.I,D.l h.L,D.l i.L])))))))) (T.leaf (Rd.out (Ex.exit 2) [D.l a.L,D.l b.L,D.i c.I,D.i d.I,D.i g.I,D.l h.L]))):=by kernel_rfl
theorem t33_10_1 (a b c d e f g h i j:D):(roundT C tab33 33 (loopOf C.P 33 10) l33_10 [.i 1,a,b,c,d,e,f,g,h,i,j]).run =
 T.run (T.need (decide ((0:Int) ≤ f.I ∧ f.I < (e.I.toNat:Int))) (T.need (decide (f.I.toNat < j.L.length)) (T.ite (decide (g.I < (↑(List.length (D.L (List.getD (List.getD j.L f.I.toNat []) 0 default))):Int))) (T.need (decide ((0:Int) ≤ f.I ∧ f.I < (e.I.toNat:Int))) (T.need (decide (f.I.toNat < j.L.length)) (T.need (decide ((0:Int) ≤ g.I ∧ g.I < (↑(List.length (D.L (List.getD (List.getD j.L f.I.toNat []) 0 default))):Int))) (T.need (decide ((0:Int) ≤ D.I (List.getD (List.getD (D.L (List.getD (List.getD j.L f.I.toNat []) 0 default)) g.I.toNat []) 0 default) ∧ D.I (List.getD (List.getD (D.L (List.getD (List.getD j.L f.I.toNat []) 0 default)) g.I.toNat []) 0 default) < (a.L.length:Int))) (T.leaf (Rd.again [D.i 2,D.l a.L,D.l b.L,D.i c.I,D.i d.I,D.i (e.I.toNat:Int),D.i f.I,D.i 1,D.i (IntKind.i64.wrap (g.I + (1:Int))),D.i h.I,D.l i.L,D.l j.L,D.l [[D.i (D.I (List.getD (List.getD a.L (Int.toNat (D.I (List.getD (List.getD (D.L (List.getD (List.getD j.L f.I.toNat []) 0 default)) g.I.toNat []) 0 default))) []) 0 default)),D.i (D.I (List.getD (List.getD a.L (Int.toNat (D.I (List.getD (List.getD (D.L (List.getD (List.getD j.L f.I.toNat []) 0 default)) g.I.toNat []) 0 default))) []) (0 + 1) default)),D.i (D.I (List.getD (List.getD a.L (Int.toNat (D.I (List.getD (List.getD (D.L (List.getD (List.getD j.L f.I.toNat []) 0 default)) g.I.toNat []) 0 default))) []) (0 + 1 + 1) default)),D.i (D.I (List.getD (List.getD a.L (Int.toNat (D.I (List.getD (List.getD (D.L (List.getD (List.getD j.L f.I.toNat []) 0 default)) g.I.toNat []) 0 default))) []) (0 + 1 + 1 + 1) default))]]])))))) (T.leaf (Rd.out (Ex.exit 4) [D.i 0,D.l a.L,D.l b.L,D.i c.I,D.i d.I,D.i (e.I.toNat:Int),D.i f.I,D.i h.I,D.l i.L,D.l j.L]))))):=by kernel_rfl
theorem t33_10_2 (a b c d e f g h i j k l:D):(roundT C tab33 33 (loopOf C.P 33 10) l33_10 [.i 2,a,b,c,d,e,f,g,h,i,j,k,l]).run =
 T.run (T.need (decide ((0:Int) ≤ f.I ∧ f.I < (e.I.toNat:Int))) (T.need (decide (f.I.toNat < k.L.length)) (T.ite (decide (h.I < (↑(List.length (D.L (List.getD (List.getD k.L f.I.toNat []) 0 default))):Int))) (T.need (decide ((0:Int) ≤ f.I ∧ f.I < (e.I.toNat:Int))) (T.need (decide (f.I.toNat < k.L.length)) (T.need (decide ((0:Int) ≤ h.I ∧ h.I < (↑(List.length (D.L (List.getD (List.getD k.L f.I.toNat []) 0 default))):Int))) (T.need (decide ((0:Int) ≤ D.I (List.getD (List.getD (D.L (List.getD (List.getD k.L f.I.toNat []) 0 default)) h.I.toNat []) 0 default) ∧ D.I (List.getD (List.getD (D.L (List.getD (List.getD k.L f.I.toNat []) 0 default)) h.I.toNat []) 0 default) < (a.L.length:Int))) (T.need (decide (g.I.toNat ≤ l.L.length ∧ g.I.toNat + 1 ≤ 2 ^ 62 ∧ (g.I.toNat + 1) * Try.prog.types[60].bytes ≤ 2 ^ 47)) (T.leaf (Rd.again [D.i 2,D.l a.L,D.l b.L,D.i c.I,D.i d.I,D.i (e.I.toNat:Int),D.i f.I,D.i (↑(g.I.toNat + 1):Int),D.i (IntKind.i64.wrap (h.I + (1:Int))),D.i i.I,D.l j.L,D.l k.L,D.l (List.take g.I.toNat l.L ++ List.take (List.length [[D.i (D.I (List.getD (List.getD a.L (Int.toNat (D.I (List.getD (List.getD (D.L (List.getD (List.getD k.L f.I.toNat []) 0 default)) h.I.toNat []) 0 default))) []) 0 default)),D.i (D.I (List.getD (List.getD a.L (Int.toNat (D.I (List.getD (List.getD (D.L (List.getD (List.getD k.L f.I.toNat []) 0 default)) h.I.toNat []) 0 default))) []) (0 + 1) default)),D.i (D.I (List.getD (List.getD a.L (Int.toNat (D.I (List.getD (List.getD (D.L (List.getD (List.getD k.L f.I.toNat []) 0 default)) h.I.toNat []) 0 default))) []) (0 + 1 + 1) default)),D.i (D.I (List.getD (List.getD a.L (Int.toNat (D.I (List.getD (List.getD (D.L (List.getD (List.getD k.L f.I.toNat []) 0 default)) h.I.toNat []) 0 default))) []) (0 + 1 + 1 + 1) default))]]) [[D.i (D.I (List.getD (List.getD a.L (Int.toNat (D.I (List.getD (List.getD (D.L (List.getD (List.getD k.L f.I.toNat []) 0 default)) h.I.toNat []) 0 default))) []) 0 default)),D.i (D.I (List.getD (List.getD a.L (Int.toNat (D.I (List.getD (List.getD (D.L (List.getD (List.getD k.L f.I.toNat []) 0 default)) h.I.toNat []) 0 default))) []) (0 + 1) default)),D.i (D.I (List.getD (List.getD a.L (Int.toNat (D.I (List.getD (List.getD (D.L (List.getD (List.getD k.L f.I.toNat []) 0 default)) h.I.toNat []) 0 default))) []) (0 + 1 + 1) default)),D.i (D.I (List.getD (List.getD a.L (Int.toNat (D.I (List.getD (List.getD (D.L (List.getD (List.getD k.L f.I.toNat []) 0 default)) h.I.toNat []) 0 default))) []) (0 + 1 + 1 + 1) default))]])]))))))) (T.leaf (Rd.out (Ex.exit 4) [D.i 1,D.l a.L,D.l b.L,D.i c.I,D.i d.I,D.i (e.I.toNat:Int),D.i f.I,D.i (g.I.toNat:Int),D.i i.I,D.l j.L,D.l k.L,D.l l.L]))))):=by kernel_rfl
noncomputable def sp57:SpL:=[]
noncomputable def lp57 (q:Nat):LpL:=[(5,mkL l57_5 (G57_5 q)),(9,mkL l57_9 (G57_9 q))]
noncomputable def sw57 (q:Nat):SwL:=[(57,mkFW s57 (G57 q))]
noncomputable def tab57 (q:Nat):Tab:=mkTab sp57 (lp57 q) (sw57 q)
set_option linter.unusedVariables false
set_option maxRecDepth 100000
theorem t57 (q:Nat) (a b c:D):(fnTW C (tab57 q) 57 s57 [a,b,c]).run =
 T.run (T.ite (b.I == (0:Int)) (T.leaf [D.i 1,D.i 1,D.l [[D.l []]]]) (T.need (yes ((↑0:Int) = (0:Int) ∧ chP a.I b.I c.I ∧ (1:Int) ≤ b.I ∧ b.I ≤ (↑q:Int) + (1:Int))) (T.ite (List.isEmpty (chR a.I b.I c.I)) (T.leaf [D.i 0]) (T.leaf [D.i 1,D.i (↑(Int.toNat (↑(List.length (chR a.I b.I c.I)):Int)):Int),D.l (chR a.I b.I c.I)])))):=by kernel_rfl
theorem t57_5_0 (q:Nat) (a b c:D):(roundT C (tab57 q) 57 (loopOf C.P 57 5) l57_5 [.i 0,a,b,c]).run =
 T.run (T.ite (decide (c.I < a.I)) (T.need (yes (chP a.I (IntKind.i64.wrap (b.I - (1:Int))) (IntKind.i64.wrap (c.I + (1:Int))) ∧ IntKind.i64.wrap (b.I - (1:Int)) ≤ (↑q:Int))) (T.ite (List.isEmpty (chF a.I.toNat (Int.toNat (IntKind.i64.wrap (b.I - (1:Int)))) (Int.toNat (IntKind.i64.wrap (c.I + (1:Int)))))) (T.need (yes ((↑0:Int) = (0:Int) ∧ (0:Int) ≤ (0:Int))) (T.leaf (Rd.again [D.i 0,D.i a.I,D.i b.I,D.i (IntKind.i64.wrap (c.I + (1:Int)))]))) (T.need (yes ((↑(0 + 1):Int) = (1:Int) ∧ chI a.I c.I ∧ (↑(Int.toNat (↑(List.length (chF a.I.toNat (Int.toNat (IntKind.i64.wrap (b.I - (1:Int)))) (Int.toNat (IntKind.i64.wrap (c.I + (1:Int)))))):Int)):Int) = (↑(List.length (chF a.I.toNat (Int.toNat (IntKind.i64.wrap (b.I - (1:Int)))) (Int.toNat (IntKind.i64.wrap (c.I + (1:Int)))))):Int) ∧ chS (chF a.I.toNat (Int.toNat (IntKind.i64.wrap (b.I - (1:Int)))) (Int.toNat (IntKind.i64.wrap (c.I + (1:Int))))) ∧ (0:Int) ≤ (0:Int) ∧ (0:Int) ≤ (↑(Int.toNat (↑(List.length (chF a.I.toNat (Int.toNat (IntKind.i64.wrap (b.I - (1:Int)))) (Int.toNat (IntKind.i64.wrap (c.I + (1:Int)))))):Int)):Int))) (T.ite (List.isEmpty (consR c.I (chF a.I.toNat (Int.toNat (IntKind.i64.wrap (b.I - (1:Int)))) (Int.toNat (IntKind.i64.wrap (c.I + (1:Int))))) (0:Int))) (T.leaf (Rd.again [D.i 0,D.i a.I,D.i b.I,D.i (IntKind.i64.wrap (c.I + (1:Int)))])) (T.leaf (Rd.again [D.i 1,D.i a.I,D.i b.I,D.i (↑(Int.toNat (↑(List.length (consR c.I (chF a.I.toNat (Int.toNat (IntKind.i64.wrap (b.I - (1:Int)))) (Int.toNat (IntKind.i64.wrap (c.I + (1:Int))))) (0:Int))):Int)):Int),D.i (IntKind.i64.wrap (c.I + (1:Int))),D.l (consR c.I (chF a.I.toNat (Int.toNat (IntKind.i64.wrap (b.I - (1:Int)))) (Int.toNat (IntKind.i64.wrap (c.I + (1:Int))))) (0:Int))])))))) (T.leaf (Rd.out (Ex.exit 0) [D.i 0]))):=by kernel_rfl
theorem t57_5_1 (q:Nat) (a b c d e:D):(roundT C (tab57 q) 57 (loopOf C.P 57 5) l57_5 [.i 1,a,b,c,d,e]).run =
 T.run (T.ite (decide (d.I < a.I)) (T.need (yes (chP a.I (IntKind.i64.wrap (b.I - (1:Int))) (IntKind.i64.wrap (d.I + (1:Int))) ∧ IntKind.i64.wrap (b.I - (1:Int)) ≤ (↑q:Int))) (T.ite (List.isEmpty (chF a.I.toNat (Int.toNat (IntKind.i64.wrap (b.I - (1:Int)))) (Int.toNat (IntKind.i64.wrap (d.I + (1:Int)))))) (T.need (yes ((↑(0 + 1 + 1 + 1):Int) = (3:Int) ∧ (0:Int) ≤ (c.I.toNat:Int) ∧ (0:Int) ≤ (0:Int))) (T.leaf (Rd.again [D.i 1,D.i a.I,D.i b.I,D.i (↑(Int.toNat (c.I.toNat:Int)):Int),D.i (IntKind.i64.wrap (d.I + (1:Int))),D.l e.L]))) (T.need (yes ((↑(0 + 1 + 1):Int) = (2:Int) ∧ chI a.I d.I ∧ ((c.I.toNat:Int) = (e.L.length:Int) ∧ (c.I.toNat:Int) + (↑(Int.toNat (↑(List.length (chF a.I.toNat (Int.toNat (IntKind.i64.wrap (b.I - (1:Int)))) (Int.toNat (IntKind.i64.wrap (d.I + (1:Int)))))):Int)):Int) ≤ (100000:Int) + (0:Int)) ∧ (↑(Int.toNat (↑(List.length (chF a.I.toNat (Int.toNat (IntKind.i64.wrap (b.I - (1:Int)))) (Int.toNat (IntKind.i64.wrap (d.I + (1:Int)))))):Int)):Int) = (↑(List.length (chF a.I.toNat (Int.toNat (IntKind.i64.wrap (b.I - (1:Int)))) (Int.toNat (IntKind.i64.wrap (d.I + (1:Int)))))):Int) ∧ chS (chF a.I.toNat (Int.toNat (IntKind.i64.wrap (b.I - (1:Int)))) (Int.toNat (IntKind.i64.wrap (d.I + (1:Int))))) ∧ (0:Int) ≤ (0:Int) ∧ (0:Int) ≤ (↑(Int.toNat (↑(List.length (chF a.I.toNat (Int.toNat (IntKind.i64.wrap (b.I - (1:Int)))) (Int.toNat (IntKind.i64.wrap (d.I + (1:Int)))))):Int)):Int))) (T.leaf (Rd.again [D.i 1,D.i a.I,D.i b.I,D.i (↑(Int.toNat (↑(List.length (e.L ++ consR d.I (chF a.I.toNat (Int.toNat (IntKind.i64.wrap (b.I - (1:Int)))) (Int.toNat (IntKind.i64.wrap (d.I + (1:Int))))) (0:Int))):Int)):Int),D.i (IntKind.i64.wrap (d.I + (1:Int))),D.l (e.L ++ consR d.I (chF a.I.toNat (Int.toNat (IntKind.i64.wrap (b.I - (1:Int)))) (Int.toNat (IntKind.i64.wrap (d.I + (1:Int))))) (0:Int))]))))) (T.leaf (Rd.out (Ex.exit 0) [D.i 1,D.i (c.I.toNat:Int),D.l e.L]))):=by kernel_rfl
theorem t57_9_0 (q:Nat) (a b c d:D):(roundT C (tab57 q) 57 (loopOf C.P 57 9) l57_9 [.i 0,a,b,c,d]).run =
 T.run (T.ite (decide (d.I < (↑0:Int))) T.fail (T.leaf (Rd.out (Ex.exit 2) [D.i 0,D.i a.I,D.i b.I,D.i c.I]))):=by kernel_rfl
theorem t57_9_1 (q:Nat) (a b c d e f:D):(roundT C (tab57 q) 57 (loopOf C.P 57 9) l57_9 [.i 1,a,b,c,d,e,f]).run =
 T.run (T.ite (decide (e.I < (d.I.toNat:Int))) (T.need (decide ((0:Int) ≤ e.I ∧ e.I < (d.I.toNat:Int))) (T.need (decide (e.I.toNat < f.L.length)) (T.ite (List.isEmpty (D.L (List.getD (List.getD f.L e.I.toNat []) 0 default))) (T.leaf (Rd.again [D.i 2,D.i a.I,D.i b.I,D.i 1,D.i c.I,D.i (d.I.toNat:Int),D.i (IntKind.i64.wrap (e.I + (1:Int))),D.l [[D.l [[D.i c.I]]]],D.l f.L])) (T.need (decide (List.length [[D.i c.I]] ≤ List.length [[D.i c.I]] ∧ List.length [[D.i c.I]] + List.length (D.L (List.getD (List.getD f.L e.I.toNat []) 0 default)) ≤ 2 ^ 62 ∧ (List.length [[D.i c.I]] + List.length (D.L (List.getD (List.getD f.L e.I.toNat []) 0 default))) * Try.prog.types[3].bytes ≤ 2 ^ 47)) (T.need (decide (List.length [[D.i c.I]] + List.length (D.L (List.getD (List.getD f.L e.I.toNat []) 0 default)) ≤ List.length (List.take (List.length [[D.i c.I]]) [[D.i c.I]] ++ D.L (List.getD (List.getD f.L e.I.toNat []) 0 default)))) (T.leaf (Rd.again [D.i 2,D.i a.I,D.i b.I,D.i 1,D.i c.I,D.i (d.I.toNat:Int),D.i (IntKind.i64.wrap (e.I + (1:Int))),D.l [[D.l (List.take (List.length [[D.i c.I]] + List.length (D.L (List.getD (List.getD f.L e.I.toNat []) 0 default))) (List.take (List.length [[D.i c.I]]) [[D.i c.I]] ++ D.L (List.getD (List.getD f.L e.I.toNat []) 0 default)))]],D.l f.L]))))))) (T.leaf (Rd.out (Ex.exit 2) [D.i 0,D.i a.I,D.i b.I,D.i c.I]))):=by kernel_rfl
theorem t57_9_2 (q:Nat) (a b c d e f g h:D):(roundT C (tab57 q) 57 (loopOf C.P 57 9) l57_9 [.i 2,a,b,c,d,e,f,g,h]).run =
 T.run (T.ite (decide (f.I < (e.I.toNat:Int))) (T.need (decide ((0:Int) ≤ f.I ∧ f.I < (e.I.toNat:Int))) (T.need (decide (f.I.toNat < h.L.length)) (T.ite (List.isEmpty (D.L (List.getD (List.getD h.L f.I.toNat []) 0 default))) (T.need (decide (c.I.toNat ≤ g.L.length ∧ c.I.toNat + 1 ≤ 2 ^ 62 ∧ (c.I.toNat + 1) * Try.prog.types[27].bytes ≤ 2 ^ 47)) (T.leaf (Rd.again [D.i 2,D.i a.I,D.i b.I,D.i (↑(c.I.toNat + 1):Int),D.i d.I,D.i (e.I.toNat:Int),D.i (IntKind.i64.wrap (f.I + (1:Int))),D.l (List.take c.I.toNat g.L ++ List.take (List.length [[D.l (List.take (List.length [[D.i d.I]]) [[D.i d.I]])]]) [[D.l (List.take (List.length [[D.i d.I]]) [[D.i d.I]])]]),D.l h.L]))) (T.need (decide (List.length [[D.i d.I]] ≤ List.length [[D.i d.I]] ∧ List.length [[D.i d.I]] + List.length (D.L (List.getD (List.getD h.L f.I.toNat []) 0 default)) ≤ 2 ^ 62 ∧ (List.length [[D.i d.I]] + List.length (D.L (List.getD (List.getD h.L f.I.toNat []) 0 default))) * Try.prog.types[3].bytes ≤ 2 ^ 47)) (T.need (decide (List.length [[D.i d.I]] + List.length (D.L (List.getD (List.getD h.L f.I.toNat []) 0 default)) ≤ List.length (List.take (List.length [[D.i d.I]]) [[D.i d.I]] ++ D.L (List.getD (List.getD h.L f.I.toNat []) 0 default)))) (T.need (decide (c.I.toNat ≤ g.L.length ∧ c.I.toNat + 1 ≤ 2 ^ 62 ∧ (c.I.toNat + 1) * Try.prog.types[27].bytes ≤ 2 ^ 47)) (T.leaf (Rd.again [D.i 2,D.i a.I,D.i b.I,D.i (↑(c.I.toNat + 1):Int),D.i d.I,D.i (e.I.toNat:Int),D.i (IntKind.i64.wrap (f.I + (1:Int))),D.l (List.take c.I.toNat g.L ++ List.take (List.length [[D.l (List.take (List.length [[D.i d.I]] + List.length (D.L (List.getD (List.getD h.L f.I.toNat []) 0 default))) (List.take (List.length [[D.i d.I]]) [[D.i d.I]] ++ D.L (List.getD (List.getD h.L f.I.toNat []) 0 default)))]]) [[D.l (List.take (List.length [[D.i d.I]] + List.length (D.L (List.getD (List.getD h.L f.I.toNat []) 0 default))) (List.take (List.length [[D.i d.I]]) [[D.i d.I]] ++ D.L (List.getD (List.getD h.L f.I.toNat []) 0 default)))]]),D.l h.L])))))))) (T.leaf (Rd.out (Ex.exit 2) [D.i 1,D.i a.I,D.i b.I,D.i (c.I.toNat:Int),D.i d.I,D.l g.L]))):=by kernel_rfl
theorem t57_9_3 (q:Nat) (a b c d e f:D):(roundT C (tab57 q) 57 (loopOf C.P 57 9) l57_9 [.i 3,a,b,c,d,e,f]).run =
 T.run (T.ite (decide (e.I < (↑0:Int))) T.fail (T.leaf (Rd.out (Ex.exit 2) [D.i 1,D.i a.I,D.i b.I,D.i (c.I.toNat:Int),D.i d.I,D.l f.L]))):=by kernel_rfl
noncomputable def sp78:SpL:=[(45,mkF s45 G45)]
noncomputable def lp78:LpL:=[]
noncomputable def sw78:SwL:=[]
noncomputable def tab78:Tab:=mkTab sp78 lp78 sw78
noncomputable def sp77:SpL:=[(45,mkF s45 G45),(78,mkF s78 G78)]
noncomputable def lp77:LpL:=[]
noncomputable def sw77:SwL:=[]
noncomputable def tab77:Tab:=mkTab sp77 lp77 sw77
noncomputable def sp80:SpL:=[(45,mkF s45 G45),(78,mkF s78 G78)]
noncomputable def lp80:LpL:=[]
noncomputable def sw80:SwL:=[]
noncomputable def tab80:Tab:=mkTab sp80 lp80 sw80
noncomputable def sp94:SpL:=[(77,mkF s77 G77)]
noncomputable def lp94:LpL:=[(2,mkL l94_2 G94_2)]
noncomputable def sw94:SwL:=[]
noncomputable def tab94:Tab:=mkTab sp94 lp94 sw94
noncomputable def sp95:SpL:=[(80,mkF s80 G80)]
noncomputable def lp95:LpL:=[(2,mkL l95_2 G95_2)]
noncomputable def sw95:SwL:=[]
noncomputable def tab95:Tab:=mkTab sp95 lp95 sw95
noncomputable def sp76:SpL:=[(94,mkF s94 G94),(77,mkF s77 G77)]
noncomputable def lp76:LpL:=[]
noncomputable def sw76:SwL:=[]
noncomputable def tab76:Tab:=mkTab sp76 lp76 sw76
noncomputable def sp79:SpL:=[(95,mkF s95 G95),(80,mkF s80 G80)]
noncomputable def lp79:LpL:=[]
noncomputable def sw79:SwL:=[]
noncomputable def tab79:Tab:=mkTab sp79 lp79 sw79
noncomputable def sp52:SpL:=[(18,mkF s18 G18),(45,mkF s45 G45),(76,mkF s76 G76),(79,mkF s79 G79),(77,mkF s77 G77),(80,mkF s80 G80)]
noncomputable def lp52:LpL:=[]
noncomputable def sw52:SwL:=[]
noncomputable def tab52:Tab:=mkTab sp52 lp52 sw52
noncomputable def sp28:SpL:=[(47,mkF s47 G47)]
noncomputable def lp28:LpL:=[(2,mkL l28_2 G28_2)]
noncomputable def sw28:SwL:=[]
noncomputable def tab28:Tab:=mkTab sp28 lp28 sw28
noncomputable def sp29:SpL:=[(47,mkF s47 G47)]
noncomputable def lp29:LpL:=[(2,mkL l29_2 G29_2)]
noncomputable def sw29:SwL:=[]
noncomputable def tab29:Tab:=mkTab sp29 lp29 sw29
noncomputable def sp26:SpL:=[]
noncomputable def lp26:LpL:=[]
noncomputable def sw26:SwL:=[]
noncomputable def tab26:Tab:=mkTab sp26 lp26 sw26
set_option linter.unusedVariables false
set_option maxRecDepth 100000
theorem t78 (a:D):fnT C tab78 78 s78 [a] =
 T.leaf [D.b (within a.I (0:Int) (65535:Int))]:=by kernel_rfl
theorem t77 (a b c d e f:D):fnT C tab77 77 s77 [a,b,c,d,e,f] =
 T.ite (!within a.I (0:Int) (IntKind.i64.wrap (e.I - (1:Int)))) (T.leaf [D.b true]) (T.ite (!within b.I (0:Int) (65535:Int)) (T.leaf [D.b true]) (T.ite (!within c.I (0:Int) d.I) (T.leaf [D.b true]) (T.leaf [D.b (decide (d.I > (100000:Int)))]))):=by kernel_rfl
theorem t80 (a b c d e:D):fnT C tab80 80 s80 [a,b,c,d,e] =
 T.ite (!within a.I (0:Int) (IntKind.i64.wrap (d.I - (1:Int)))) (T.leaf [D.b true]) (T.ite (!within b.I (0:Int) (65535:Int)) (T.leaf [D.b true]) (T.leaf [D.b !within c.I (0:Int) (10000:Int)])):=by kernel_rfl
theorem t94 (a b c:D):fnT C tab94 94 s94 [a,b,c] =
 T.need (yes (((1:Int) ≤ b.I ∧ b.I ≤ (200:Int)) ∧ a.L.length < big ∧ (a.L.length:Int) = (a.L.length:Int) ∧ (0:Int) ≤ (0:Int) ∧ (0:Int) ≤ (a.L.length:Int))) (T.ite (decide (firstFrom (fun j=>!vehL b.I a.L j) (Int.toNat (0:Int)) (a.L.length - Int.toNat (0:Int)) ≥ (0:Int))) (T.leaf [D.i (firstFrom (fun j=>!vehL b.I a.L j) (Int.toNat (0:Int)) (a.L.length - Int.toNat (0:Int)))]) (T.leaf [D.i (-1:Int)])):=by kernel_rfl
theorem t94_2 (a b c d e:D):roundT C tab94 94 (loopOf C.P 94 2) l94_2 [a,b,c,d,e] =
 T.ite (decide (e.I < d.I)) (T.need (decide ((0:Int) ≤ e.I ∧ e.I < (a.L.length:Int))) (T.need (yes ((1:Int) ≤ b.I ∧ b.I ≤ (200:Int))) (T.ite (!vehB b.I (mk4 (D.i (D.I (List.getD (List.getD a.L e.I.toNat []) 0 default))) (D.i (D.I (List.getD (List.getD a.L e.I.toNat []) (0 + 1) default))) (D.i (D.I (List.getD (List.getD a.L e.I.toNat []) (0 + 1 + 1) default))) (D.i (D.I (List.getD (List.getD a.L e.I.toNat []) (0 + 1 + 1 + 1) default))))) (T.leaf (Rd.out Ex.ret [D.i e.I])) (T.leaf (Rd.again [D.l a.L,D.i b.I,D.l c.L,D.i d.I,D.i (IntKind.i64.wrap (e.I + (1:Int)))]))))) (T.leaf (Rd.out (Ex.exit 0) [])):=by kernel_rfl
theorem t95 (a b c:D):fnT C tab95 95 s95 [a,b,c] =
 T.need (yes (((1:Int) ≤ b.I ∧ b.I ≤ (200:Int)) ∧ a.L.length < big ∧ (a.L.length:Int) = (a.L.length:Int) ∧ (0:Int) ≤ (0:Int) ∧ (0:Int) ≤ (a.L.length:Int))) (T.ite (decide (firstFrom (fun j=>!zonL b.I a.L j) (Int.toNat (0:Int)) (a.L.length - Int.toNat (0:Int)) ≥ (0:Int))) (T.leaf [D.i (firstFrom (fun j=>!zonL b.I a.L j) (Int.toNat (0:Int)) (a.L.length - Int.toNat (0:Int)))]) (T.leaf [D.i (-1:Int)])):=by kernel_rfl
theorem t95_2 (a b c d e:D):roundT C tab95 95 (loopOf C.P 95 2) l95_2 [a,b,c,d,e] =
 T.ite (decide (e.I < d.I)) (T.need (decide ((0:Int) ≤ e.I ∧ e.I < (a.L.length:Int))) (T.need (yes ((1:Int) ≤ b.I ∧ b.I ≤ (200:Int))) (T.ite (!zonB b.I (mk3 (D.i (D.I (List.getD (List.getD a.L e.I.toNat []) 0 default))) (D.i (D.I (List.getD (List.getD a.L e.I.toNat []) (0 + 1) default))) (D.i (D.I (List.getD (List.getD a.L e.I.toNat []) (0 + 1 + 1) default))))) (T.leaf (Rd.out Ex.ret [D.i e.I])) (T.leaf (Rd.again [D.l a.L,D.i b.I,D.l c.L,D.i d.I,D.i (IntKind.i64.wrap (e.I + (1:Int)))]))))) (T.leaf (Rd.out (Ex.exit 0) [])):=by kernel_rfl
theorem t76 (a b c:D):fnT C tab76 76 s76 [a,b,c] =
 T.need (yes (((1:Int) ≤ b.I ∧ b.I ≤ (200:Int)) ∧ a.L.length < big)) (T.leaf [D.b (decide (firstFrom (fun j=>!vehL b.I a.L j) 0 a.L.length ≥ (0:Int)))]):=by kernel_rfl
theorem t79 (a b c:D):fnT C tab79 79 s79 [a,b,c] =
 T.need (yes (((1:Int) ≤ b.I ∧ b.I ≤ (200:Int)) ∧ a.L.length < big)) (T.leaf [D.b (decide (firstFrom (fun j=>!zonL b.I a.L j) 0 a.L.length ≥ (0:Int)))]):=by kernel_rfl
theorem t52 (a b c d e f:D):fnT C tab52 52 s52 [a,b,c,d,e,f] =
 T.ite ((if netB a.I b.L = true then (0:Int) else (2:Int)) != (0:Int)) (T.leaf [D.b false]) (T.ite (decide ((c.L.length:Int) > d.I)) (T.leaf [D.b false]) (T.ite (decide ((e.L.length:Int) > (100:Int))) (T.leaf [D.b false]) (T.ite (!within f.I (0:Int) (100000:Int)) (T.leaf [D.b false]) (T.need (yes (((1:Int) ≤ a.I ∧ a.I ≤ (200:Int)) ∧ c.L.length < big)) (T.ite (!vehs a.I c.L) (T.leaf [D.b false]) (T.need (yes (((1:Int) ≤ a.I ∧ a.I ≤ (200:Int)) ∧ e.L.length < big)) (T.leaf [D.b !!zons a.I e.L]))))))):=by kernel_rfl
theorem t28 (a b:D):fnT C tab28 28 s28 [a,b] =
 T.need (yes (((1:Int) ≤ a.I ∧ a.I ≤ (200:Int)) ∧ b.L.length < big ∧ (0:Int) ≤ (0:Int) ∧ (0:Int) ≤ (b.L.length:Int))) (T.ite (allFrom (vehL a.I b.L) (Int.toNat (0:Int)) (b.L.length - Int.toNat (0:Int))) (T.leaf [D.b true]) (T.leaf [D.b false])):=by kernel_rfl
theorem t28_2 (a b c:D):roundT C tab28 28 (loopOf C.P 28 2) l28_2 [a,b,c] =
 T.ite (decide (c.I < (b.L.length:Int))) (T.need (decide ((0:Int) ≤ c.I ∧ c.I < (b.L.length:Int))) (T.ite (!within (D.I (List.getD (List.getD b.L c.I.toNat []) 0 default)) (0:Int) (IntKind.i64.wrap (a.I - (1:Int)))) (T.leaf (Rd.out Ex.ret [D.b false])) (T.ite (!within (D.I (List.getD (List.getD b.L c.I.toNat []) (0 + 1) default)) (0:Int) (65535:Int)) (T.leaf (Rd.out Ex.ret [D.b false])) (T.ite (decide (D.I (List.getD (List.getD b.L c.I.toNat []) (0 + 1 + 1) default) < (0:Int))) (T.leaf (Rd.out Ex.ret [D.b false])) (T.ite (decide (D.I (List.getD (List.getD b.L c.I.toNat []) (0 + 1 + 1) default) > D.I (List.getD (List.getD b.L c.I.toNat []) (0 + 1 + 1 + 1) default))) (T.leaf (Rd.out Ex.ret [D.b false])) (T.ite (decide (D.I (List.getD (List.getD b.L c.I.toNat []) (0 + 1 + 1 + 1) default) > (100000:Int))) (T.leaf (Rd.out Ex.ret [D.b false])) (T.leaf (Rd.again [D.i a.I,D.l b.L,D.i (IntKind.i64.wrap (c.I + (1:Int)))])))))))) (T.leaf (Rd.out (Ex.exit 0) [])):=by kernel_rfl
theorem t29 (a b:D):fnT C tab29 29 s29 [a,b] =
 T.need (yes (((1:Int) ≤ a.I ∧ a.I ≤ (200:Int)) ∧ b.L.length < big ∧ (0:Int) ≤ (0:Int) ∧ (0:Int) ≤ (b.L.length:Int))) (T.ite (allFrom (zonL a.I b.L) (Int.toNat (0:Int)) (b.L.length - Int.toNat (0:Int))) (T.leaf [D.b (decide ((b.L.length:Int) ≤ (100:Int)))]) (T.leaf [D.b false])):=by kernel_rfl
theorem t29_2 (a b c:D):roundT C tab29 29 (loopOf C.P 29 2) l29_2 [a,b,c] =
 T.ite (decide (c.I < (b.L.length:Int))) (T.need (decide ((0:Int) ≤ c.I ∧ c.I < (b.L.length:Int))) (T.ite (!within (D.I (List.getD (List.getD b.L c.I.toNat []) 0 default)) (0:Int) (IntKind.i64.wrap (a.I - (1:Int)))) (T.leaf (Rd.out Ex.ret [D.b false])) (T.ite (!within (D.I (List.getD (List.getD b.L c.I.toNat []) (0 + 1) default)) (0:Int) (65535:Int)) (T.leaf (Rd.out Ex.ret [D.b false])) (T.ite (!within (D.I (List.getD (List.getD b.L c.I.toNat []) (0 + 1 + 1) default)) (0:Int) (10000:Int)) (T.leaf (Rd.out Ex.ret [D.b false])) (T.leaf (Rd.again [D.i a.I,D.l b.L,D.i (IntKind.i64.wrap (c.I + (1:Int)))])))))) (T.leaf (Rd.out (Ex.exit 0) [D.l b.L])):=by kernel_rfl
theorem t26 (a b c d:D):fnT C tab26 26 s26 [a,b,c,d] =
 T.ite (decide ((a.L.length:Int) ≤ (6:Int))) (T.ite (decide ((b.L.length:Int) ≤ (5:Int))) (T.ite (decide (c.I ≤ (40:Int))) (T.leaf [D.b true]) (T.leaf [D.b (decide (c.I > (100000:Int)))])) (T.ite (decide ((b.L.length:Int) > (100:Int))) (T.ite (decide ((b.L.length:Int) < (200:Int))) (T.ite (decide (c.I ≤ (40:Int))) (T.leaf [D.b true]) (T.leaf [D.b (decide (c.I > (100000:Int)))])) (T.leaf [D.b false])) (T.leaf [D.b false]))) (T.ite (decide ((a.L.length:Int) > d.I)) (T.ite (decide ((a.L.length:Int) < (200:Int))) (T.ite (decide ((b.L.length:Int) ≤ (5:Int))) (T.ite (decide (c.I ≤ (40:Int))) (T.leaf [D.b true]) (T.leaf [D.b (decide (c.I > (100000:Int)))])) (T.ite (decide ((b.L.length:Int) > (100:Int))) (T.ite (decide ((b.L.length:Int) < (200:Int))) (T.ite (decide (c.I ≤ (40:Int))) (T.leaf [D.b true]) (T.leaf [D.b (decide (c.I > (100000:Int)))])) (T.leaf [D.b false])) (T.leaf [D.b false]))) (T.leaf [D.b false])) (T.leaf [D.b false])):=by kernel_rfl
set_option maxRecDepth 100000
set_option linter.unusedVariables false
theorem vehB_mk (n:Int) (a b c d:D):vehB n (mk4 a b c d) = decide ((0 ≤ a.I ∧ a.I < n) ∧ (0 ≤ b.I ∧ b.I ≤ 65535) ∧ (0 ≤ c.I ∧ c.I ≤ d.I) ∧ d.I ≤ 100000):=rfl
theorem zonB_mk (n:Int) (a b c:D):zonB n (mk3 a b c) = decide ((0 ≤ a.I ∧ a.I < n) ∧ (0 ≤ b.I ∧ b.I ≤ 65535) ∧ 0 ≤ c.I ∧ c.I ≤ 10000):=rfl
theorem vehL_mk (n:Int) (l:List (List D)) (j:Nat):vehB n (mk4 (.i (ix (l.getD j []) 0)) (.i (ix (l.getD j []) 1)) (.i (ix (l.getD j []) 2)) (.i (ix (l.getD j []) 3))) = vehL n l j:=rfl
theorem zonL_mk (n:Int) (l:List (List D)) (j:Nat):zonB n (mk3 (.i (ix (l.getD j []) 0)) (.i (ix (l.getD j []) 1)) (.i (ix (l.getD j []) 2))) = zonL n l j:=rfl
theorem ok78 (n:Nat):FnOK C (n + 2) 78 (mkF s78 G78):=by
 refine fn_ofS hC (sp:=sp78) (lp:=lp78) (sw:=sw78) ⟨ok45 n,trivial⟩ trivial (by kernel_rfl) [] (by kernel_rfl) rfl (fun k hk=>by cases hk) fun ds r h=>?_
 unfold G78 at h
 split at h
 ·rename_i a
  exact (congrArg T.run (t78 a)).trans h
 ·cases h
theorem ok77 (n:Nat):FnOK C (n + 3) 77 (mkF s77 G77):=by
 refine fn_ofS hC (sp:=sp77) (lp:=lp77) (sw:=sw77) ⟨ok45 (n + 1),ok78 n,trivial⟩ trivial (by kernel_rfl) [] (by kernel_rfl) rfl (fun k hk=>by cases hk) fun ds rr h=>?_
 unfold G77 at h
 split at h
 ·rename_i a b c d m r
  obtain ⟨hp,h⟩:=need_some h
  rw [yes_iff] at hp
  refine (congrArg T.run (t77 a b c d m r)).trans ?_
  rw [← h,vehB_mk,wrap_id (by omega) (by omega)]
  simp only [within_dec]
  refine go_not (fun c1=>?_) fun c1=>go_not (fun c2=>?_) fun c2=>go_not (fun c3=>?_) fun c3=>?_
  ·have c1:=of_decide_eq_false c1
   rw [decide_eq_false (by omega)]; rfl
  ·have c2:=of_decide_eq_false c2
   rw [decide_eq_false (by omega)]; rfl
  ·have c3:=of_decide_eq_false c3
   rw [decide_eq_false (by omega)]; rfl
  ·have c1:=of_decide_eq_true c1
   have c2:=of_decide_eq_true c2
   have c3:=of_decide_eq_true c3
   by_cases c4:d.I > 100000
   ·rw [decide_eq_true c4,decide_eq_false (by omega)]; rfl
   ·rw [decide_eq_false c4,decide_eq_true (by omega)]; rfl
 ·cases h
theorem ok80 (n:Nat):FnOK C (n + 3) 80 (mkF s80 G80):=by
 refine fn_ofS hC (sp:=sp80) (lp:=lp80) (sw:=sw80) ⟨ok45 (n + 1),ok78 n,trivial⟩ trivial (by kernel_rfl) [] (by kernel_rfl) rfl (fun k hk=>by cases hk) fun ds rr h=>?_
 unfold G80 at h
 split at h
 ·rename_i a b c m r
  obtain ⟨hp,h⟩:=need_some h
  rw [yes_iff] at hp
  refine (congrArg T.run (t80 a b c m r)).trans ?_
  rw [← h,zonB_mk,wrap_id (by omega) (by omega)]
  simp only [within_dec]
  refine go_not (fun c1=>?_) fun c1=>go_not (fun c2=>?_) fun c2=>?_
  ·have c1:=of_decide_eq_false c1
   rw [decide_eq_false (by omega)]; rfl
  ·have c2:=of_decide_eq_false c2
   rw [decide_eq_false (by omega)]; rfl
  ·have c1:=of_decide_eq_true c1
   have c2:=of_decide_eq_true c2
   by_cases c4:0 ≤ c.I ∧ c.I ≤ 10000
   ·rw [decide_eq_true c4,decide_eq_true (by omega)]
   ·rw [decide_eq_false c4,decide_eq_false (by omega)]
 ·cases h
theorem first_step' {p:Nat → Bool} {i len:Nat} {ro r:Ex × List D} (h:(T.ite (decide (firstFrom p i (len - i) ≥ 0)) (.leaf (.ret,[.i (firstFrom p i (len - i))])) (.leaf ro)).run = some r) (hlt:i < len) :
    (p i = true → some (Ex.ret,[D.i (i:Int)]) = some r) ∧ (p i = false → (T.ite (decide (firstFrom p (i + 1) (len - (i + 1)) ≥ 0)) (.leaf (.ret,[.i (firstFrom p (i + 1) (len - (i + 1)))])) (.leaf ro)).run = some r):=by
 rw [show len - i = (len - (i + 1)) + 1 by omega] at h
 simp only [firstFrom] at h
 refine ⟨fun hp=>?_,fun hp=>?_⟩
 ·simp only [hp,if_true,run_ite,run_leaf] at h
  rw [if_pos (by simp)] at h
  exact h
 ·simp only [hp,Bool.false_eq_true,if_false] at h
  exact h
theorem first_end' {p:Nat → Bool} {i len:Nat} {ro r:Ex × List D} (h:(T.ite (decide (firstFrom p i (len - i) ≥ 0)) (.leaf (.ret,[.i (firstFrom p i (len - i))])) (.leaf ro)).run = some r) (hge:¬ i < len):some ro = some r:=by
 rw [show len - i = 0 by omega] at h
 simp only [firstFrom,run_ite,run_leaf] at h
 rw [if_neg (by simp)] at h
 exact h
theorem ok94_2 (n:Nat):LoopSim C (n + 3) 94 (loopOf C.P 94 2) (mkL l94_2 G94_2):=by
 refine loop_ofK hC (sp:=sp94) (lp:=lp94) (sw:=sw94) ⟨ok77 n,trivial⟩ trivial 0 [] (by kernel_rfl) rfl (fun k hk=>by cases hk) (by kernel_rfl) (fun ds=>((ds.getD 3 default).I - (ds.getD 4 default).I).toNat) fun ds rr h=>?_
 unfold G94_2 at h
 split at h
 ·rename_i l m r q i
  obtain ⟨hp,h⟩:=need_some h
  rw [yes_iff] at hp
  obtain ⟨hm,hl,hq,hi0,hi1⟩:=hp
  have hb:=big_eq
  refine ⟨by rw [fuelC]; simp; omega,?_⟩
  rw [show roundTK C (mkTab sp94 lp94 sw94) 94 (loopOf C.P 94 2) 0 l94_2 [l,m,r,q,i] = _ from t94_2 l m r q i]
  obtain ⟨k,hk⟩:∃ k:Nat,i.I = k:=⟨i.I.toNat,by omega⟩
  simp only [hk,hq,Int.toNat_natCast,Nat.reduceAdd,ix_def,vehL_mk] at h hi0 hi1 ⊢
  refine rd_if (fun hlt=>?_) fun hge=>rd_out (first_end' h (by omega))
  obtain ⟨s1,s2⟩:=first_step' h (by omega:k < l.L.length)
  refine rd_dec (by omega) (rd_yes hm (rd_ite (fun c=>rd_out (s1 c)) fun c=>?_))
  rw [wrap_succ (by omega)]
  exact rd_again ((need_yes ⟨hm,hl,rfl,by simp only [I_i]; omega,by simp only [I_i,L_l]; omega⟩).trans (s2 c)) (show ((l.L.length:Int) - ((k + 1:Nat):Int)).toNat < (q.I - i.I).toNat by omega)
 ·cases h
theorem ok94 (n:Nat):FnOK C (n + 4) 94 (mkF s94 G94):=by
 refine fn_ofS hC (sp:=sp94) (lp:=lp94) (sw:=sw94) ⟨ok77 n,trivial⟩ trivial (by kernel_rfl) [2] (by kernel_rfl) (by kernel_rfl) (fun k hk L hL=>by simp at hk; subst hk; cases hL; exact ok94_2 n) fun ds rr h=>?_
 unfold G94 at h
 split at h
 ·rename_i l m r
  obtain ⟨hp,h⟩:=need_some h
  rw [yes_iff] at hp
  refine (congrArg T.run (t94 l m r)).trans ?_
  rw [← h]
  simp only [Int.toNat_zero,Nat.sub_zero]
  refine go_yes ⟨hp.1,hp.2,trivial,by omega,by omega⟩ (go_if (fun c=>rfl) fun c=>?_)
  rw [firstFrom_neg (by omega)]
 ·cases h
theorem ok95_2 (n:Nat):LoopSim C (n + 3) 95 (loopOf C.P 95 2) (mkL l95_2 G95_2):=by
 refine loop_ofK hC (sp:=sp95) (lp:=lp95) (sw:=sw95) ⟨ok80 n,trivial⟩ trivial 0 [] (by kernel_rfl) rfl (fun k hk=>by cases hk) (by kernel_rfl) (fun ds=>((ds.getD 3 default).I - (ds.getD 4 default).I).toNat) fun ds rr h=>?_
 unfold G95_2 at h
 split at h
 ·rename_i l m r q i
  obtain ⟨hp,h⟩:=need_some h
  rw [yes_iff] at hp
  obtain ⟨hm,hl,hq,hi0,hi1⟩:=hp
  have hb:=big_eq
  refine ⟨by rw [fuelC]; simp; omega,?_⟩
  rw [show roundTK C (mkTab sp95 lp95 sw95) 95 (loopOf C.P 95 2) 0 l95_2 [l,m,r,q,i] = _ from t95_2 l m r q i]
  obtain ⟨k,hk⟩:∃ k:Nat,i.I = k:=⟨i.I.toNat,by omega⟩
  simp only [hk,hq,Int.toNat_natCast,Nat.reduceAdd,ix_def,zonL_mk] at h hi0 hi1 ⊢
  refine rd_if (fun hlt=>?_) fun hge=>rd_out (first_end' h (by omega))
  obtain ⟨s1,s2⟩:=first_step' h (by omega:k < l.L.length)
  refine rd_dec (by omega) (rd_yes hm (rd_ite (fun c=>rd_out (s1 c)) fun c=>?_))
  rw [wrap_succ (by omega)]
  exact rd_again ((need_yes ⟨hm,hl,rfl,by simp only [I_i]; omega,by simp only [I_i,L_l]; omega⟩).trans (s2 c)) (show ((l.L.length:Int) - ((k + 1:Nat):Int)).toNat < (q.I - i.I).toNat by omega)
 ·cases h
theorem ok95 (n:Nat):FnOK C (n + 4) 95 (mkF s95 G95):=by
 refine fn_ofS hC (sp:=sp95) (lp:=lp95) (sw:=sw95) ⟨ok80 n,trivial⟩ trivial (by kernel_rfl) [2] (by kernel_rfl) (by kernel_rfl) (fun k hk L hL=>by simp at hk; subst hk; cases hL; exact ok95_2 n) fun ds rr h=>?_
 unfold G95 at h
 split at h
 ·rename_i l m r
  obtain ⟨hp,h⟩:=need_some h
  rw [yes_iff] at hp
  refine (congrArg T.run (t95 l m r)).trans ?_
  rw [← h]
  simp only [Int.toNat_zero,Nat.sub_zero]
  refine go_yes ⟨hp.1,hp.2,trivial,by omega,by omega⟩ (go_if (fun c=>rfl) fun c=>?_)
  rw [firstFrom_neg (by omega)]
 ·cases h
theorem ok76 (n:Nat):FnOK C (n + 5) 76 (mkF s76 G76):=by
 refine fn_ofS hC (sp:=sp76) (lp:=lp76) (sw:=sw76) ⟨ok94 n,ok77 (n + 1),trivial⟩ trivial (by kernel_rfl) [] (by kernel_rfl) rfl (fun k hk=>by cases hk) fun ds rr h=>?_
 unfold G76 at h
 split at h
 ·rename_i l m r
  obtain ⟨hp,h⟩:=need_some h
  rw [yes_iff] at hp
  refine (congrArg T.run (t76 l m r)).trans ?_
  rw [← h]
  refine go_yes hp ?_
  rw [firstFrom_all]
  simp only [Bool.not_not]
  rfl
 ·cases h
theorem ok79 (n:Nat):FnOK C (n + 5) 79 (mkF s79 G79):=by
 refine fn_ofS hC (sp:=sp79) (lp:=lp79) (sw:=sw79) ⟨ok95 n,ok80 (n + 1),trivial⟩ trivial (by kernel_rfl) [] (by kernel_rfl) rfl (fun k hk=>by cases hk) fun ds rr h=>?_
 unfold G79 at h
 split at h
 ·rename_i l m r
  obtain ⟨hp,h⟩:=need_some h
  rw [yes_iff] at hp
  refine (congrArg T.run (t79 l m r)).trans ?_
  rw [← h]
  refine go_yes hp ?_
  rw [firstFrom_all]
  simp only [Bool.not_not]
  rfl
 ·cases h
theorem ok52 (n:Nat):FnOK C (n + 6) 52 (mkF s52 G52):=by
 refine fn_ofS hC (sp:=sp52) (lp:=lp52) (sw:=sw52) ⟨ok18 (n + 3),ok45 (n + 4),ok76 n,ok79 n,ok77 (n + 2),ok80 (n + 2),trivial⟩ trivial (by kernel_rfl) [] (by kernel_rfl) rfl (fun k hk=>by cases hk) fun ds rr h=>?_
 unfold G52 at h
 split at h
 ·rename_i m r v q z t
  obtain ⟨hp,h⟩:=need_some h
  rw [yes_iff] at hp
  refine (congrArg T.run (t52 m r v q z t)).trans ?_
  rw [← h]
  unfold coverB
  have hb:=big_eq
  cases hN:netB m.I r.L with
  | false=>exact go_true rfl rfl
  | true=>
    obtain ⟨p1,p2,p3⟩:=net_parts hN
    rw [Bool.true_and]
    simp only [within_dec]
    refine go_false rfl (go_if (fun c1=>?_) fun c1=>go_if (fun c2=>?_) fun c2=>go_not (fun c3=>?_) fun c3=>?_)
    ·rw [decide_eq_false (by omega)]; rfl
    ·rw [decide_eq_false (by omega)]; rfl
    ·have c3:=of_decide_eq_false c3
     rw [decide_eq_false (by omega)]; rfl
    ·have c3:=of_decide_eq_true c3
     rw [decide_eq_true (by omega),Bool.true_and]
     refine go_yes ⟨p1,by omega⟩ (go_not (fun c4=>by rw [c4]; rfl) fun c4=>go_yes ⟨p1,by omega⟩ ?_)
     rw [c4,Bool.true_and,Bool.not_not]
 ·cases h
theorem ok28_2 (n:Nat):LoopSim C (n + 1) 28 (loopOf C.P 28 2) (mkL l28_2 G28_2):=by
 refine loop_ofK hC (sp:=sp28) (lp:=lp28) (sw:=sw28) ⟨ok47 n,trivial⟩ trivial 0 [] (by kernel_rfl) rfl (fun k hk=>by cases hk) (by kernel_rfl) (fun ds=>(((ds.getD 1 default).L.length:Int) - (ds.getD 2 default).I).toNat) fun ds rr h=>?_
 unfold G28_2 at h
 split at h
 ·rename_i m l i
  obtain ⟨hp,h⟩:=need_some h
  rw [yes_iff] at hp
  obtain ⟨hm,hl,hi0,hi1⟩:=hp
  have hb:=big_eq
  refine ⟨by rw [fuelC]; simp; omega,?_⟩
  rw [show roundTK C (mkTab sp28 lp28 sw28) 28 (loopOf C.P 28 2) 0 l28_2 [m,l,i] = _ from t28_2 m l i]
  obtain ⟨k,hk⟩:∃ k:Nat,i.I = k:=⟨i.I.toNat,by omega⟩
  simp only [hk,Int.toNat_natCast,Nat.reduceAdd,ix_def,within_dec] at h hi0 hi1 ⊢
  refine rd_if (fun hlt=>?_) fun hge=>rd_out (all_end h (by omega))
  obtain ⟨s1,s2⟩:=all_step h (by omega:k < l.L.length)
  have e0:vehL m.I l.L k = decide ((0 ≤ ix (l.L.getD k []) 0 ∧ ix (l.L.getD k []) 0 < m.I) ∧ (0 ≤ ix (l.L.getD k []) 1 ∧ ix (l.L.getD k []) 1 ≤ 65535) ∧ (0 ≤ ix (l.L.getD k []) 2 ∧ ix (l.L.getD k []) 2 ≤ ix (l.L.getD k []) 3) ∧ ix (l.L.getD k []) 3 ≤ 100000):=rfl
  rw [e0] at s1 s2
  rw [wrap_succ (by omega),wrap_id (by omega) (by omega)]
  refine rd_dec (by omega) (rd_not (fun c1=>rd_out (s1 ?_)) fun c1=>rd_not (fun c2=>rd_out (s1 ?_)) fun c2=>rd_if (fun c3=>rd_out (s1 (decide_eq_false (by omega)))) fun c3=>rd_if (fun c4=>rd_out (s1 (decide_eq_false (by omega)))) fun c4=>rd_if (fun c5=>rd_out (s1 (decide_eq_false (by omega)))) fun c5=>?_)
  ·have c1:=of_decide_eq_false c1
   exact decide_eq_false (by omega)
  ·have c2:=of_decide_eq_false c2
   exact decide_eq_false (by omega)
  ·have c1:=of_decide_eq_true c1
   have c2:=of_decide_eq_true c2
   exact rd_again ((need_yes ⟨hm,hl,by simp only [I_i]; omega,by simp only [I_i,L_l]; omega⟩).trans (s2 (decide_eq_true (by omega)))) (show ((l.L.length:Int) - ((k + 1:Nat):Int)).toNat < ((l.L.length:Int) - i.I).toNat by omega)
 ·cases h
theorem ok28 (n:Nat):FnOK C (n + 2) 28 (mkF s28 G28):=by
 refine fn_ofS hC (sp:=sp28) (lp:=lp28) (sw:=sw28) ⟨ok47 n,trivial⟩ trivial (by kernel_rfl) [2] (by kernel_rfl) (by kernel_rfl) (fun k hk L hL=>by simp at hk; subst hk; cases hL; exact ok28_2 n) fun ds rr h=>?_
 unfold G28 at h
 split at h
 ·rename_i m l
  obtain ⟨hp,h⟩:=need_some h
  rw [yes_iff] at hp
  refine (congrArg T.run (t28 m l)).trans ?_
  rw [← h]
  unfold vehs
  simp only [Int.toNat_zero,Nat.sub_zero]
  exact go_yes ⟨hp.1,hp.2,by omega,by omega⟩ (go_ite (fun c=>by rw [c]) fun c=>by rw [c])
 ·cases h
theorem ok29_2 (n:Nat):LoopSim C (n + 1) 29 (loopOf C.P 29 2) (mkL l29_2 G29_2):=by
 refine loop_ofK hC (sp:=sp29) (lp:=lp29) (sw:=sw29) ⟨ok47 n,trivial⟩ trivial 0 [] (by kernel_rfl) rfl (fun k hk=>by cases hk) (by kernel_rfl) (fun ds=>(((ds.getD 1 default).L.length:Int) - (ds.getD 2 default).I).toNat) fun ds rr h=>?_
 unfold G29_2 at h
 split at h
 ·rename_i m l i
  obtain ⟨hp,h⟩:=need_some h
  rw [yes_iff] at hp
  obtain ⟨hm,hl,hi0,hi1⟩:=hp
  have hb:=big_eq
  refine ⟨by rw [fuelC]; simp; omega,?_⟩
  rw [show roundTK C (mkTab sp29 lp29 sw29) 29 (loopOf C.P 29 2) 0 l29_2 [m,l,i] = _ from t29_2 m l i]
  obtain ⟨k,hk⟩:∃ k:Nat,i.I = k:=⟨i.I.toNat,by omega⟩
  simp only [hk,Int.toNat_natCast,Nat.reduceAdd,ix_def,within_dec] at h hi0 hi1 ⊢
  refine rd_if (fun hlt=>?_) fun hge=>rd_out (all_end h (by omega))
  obtain ⟨s1,s2⟩:=all_step h (by omega:k < l.L.length)
  have e0:zonL m.I l.L k = decide ((0 ≤ ix (l.L.getD k []) 0 ∧ ix (l.L.getD k []) 0 < m.I) ∧ (0 ≤ ix (l.L.getD k []) 1 ∧ ix (l.L.getD k []) 1 ≤ 65535) ∧ 0 ≤ ix (l.L.getD k []) 2 ∧ ix (l.L.getD k []) 2 ≤ 10000):=rfl
  rw [e0] at s1 s2
  rw [wrap_succ (by omega),wrap_id (by omega) (by omega)]
  refine rd_dec (by omega) (rd_not (fun c1=>rd_out (s1 ?_)) fun c1=>rd_not (fun c2=>rd_out (s1 ?_)) fun c2=>rd_not (fun c3=>rd_out (s1 ?_)) fun c3=>?_)
  ·have c1:=of_decide_eq_false c1
   exact decide_eq_false (by omega)
  ·have c2:=of_decide_eq_false c2
   exact decide_eq_false (by omega)
  ·have c3:=of_decide_eq_false c3
   exact decide_eq_false (by omega)
  ·have c1:=of_decide_eq_true c1
   have c2:=of_decide_eq_true c2
   have c3:=of_decide_eq_true c3
   exact rd_again ((need_yes ⟨hm,hl,by simp only [I_i]; omega,by simp only [I_i,L_l]; omega⟩).trans (s2 (decide_eq_true (by omega)))) (show ((l.L.length:Int) - ((k + 1:Nat):Int)).toNat < ((l.L.length:Int) - i.I).toNat by omega)
 ·cases h
theorem ok29 (n:Nat):FnOK C (n + 2) 29 (mkF s29 G29):=by
 refine fn_ofS hC (sp:=sp29) (lp:=lp29) (sw:=sw29) ⟨ok47 n,trivial⟩ trivial (by kernel_rfl) [2] (by kernel_rfl) (by kernel_rfl) (fun k hk L hL=>by simp at hk; subst hk; cases hL; exact ok29_2 n) fun ds rr h=>?_
 unfold G29 at h
 split at h
 ·rename_i m l
  obtain ⟨hp,h⟩:=need_some h
  rw [yes_iff] at hp
  refine (congrArg T.run (t29 m l)).trans ?_
  rw [← h]
  unfold zons
  simp only [Int.toNat_zero,Nat.sub_zero]
  refine go_yes ⟨hp.1,hp.2,by omega,by omega⟩ (go_ite (fun c=>?_) fun c=>by rw [c]; rfl)
  rw [c,Bool.true_and]
  by_cases c2:l.L.length ≤ 100
  ·rw [decide_eq_true c2,decide_eq_true (by omega)]
  ·rw [decide_eq_false c2,decide_eq_false (by omega)]
 ·cases h
theorem ok26 (n:Nat):FnOK C (n + 1) 26 (mkF s26 G26):=by
 refine fn_ofS hC (sp:=sp26) (lp:=lp26) (sw:=sw26) trivial trivial (by kernel_rfl) [] (by kernel_rfl) rfl (fun k hk=>by cases hk) fun ds rr h=>?_
 unfold G26 at h
 split at h
 ·rename_i v z t q
  refine (congrArg T.run (t26 v z t q)).trans ?_
  rw [← h]
  have f1:∀ p:Prop,((v.L.length:Int) ≤ 6 ∨ q.I < v.L.length ∧ (v.L.length:Int) < 200) ∧ ((z.L.length:Int) ≤ 5 ∨ 100 < (z.L.length:Int) ∧ (z.L.length:Int) < 200) ∧ (t.I ≤ 40 ∨ 100000 < t.I) → fewC v.L.length z.L.length t.I q.I = true:=fun _ c=>decide_eq_true c
  have f2:¬ (((v.L.length:Int) ≤ 6 ∨ q.I < v.L.length ∧ (v.L.length:Int) < 200) ∧ ((z.L.length:Int) ≤ 5 ∨ 100 < (z.L.length:Int) ∧ (z.L.length:Int) < 200) ∧ (t.I ≤ 40 ∨ 100000 < t.I)) → fewC v.L.length z.L.length t.I q.I = false:=fun c=>decide_eq_false c
  have last:(((v.L.length:Int) ≤ 6 ∨ q.I < v.L.length ∧ (v.L.length:Int) < 200) ∧ ((z.L.length:Int) ≤ 5 ∨ 100 < (z.L.length:Int) ∧ (z.L.length:Int) < 200)) → (T.ite (decide (t.I ≤ 40)) (T.leaf [D.b true]) (T.leaf [D.b (decide (t.I > 100000))])).run = (T.leaf [D.b (fewC v.L.length z.L.length t.I q.I)]).run:=fun c=>by
   refine go_if (fun c5=>by rw [f1 True (by omega)]) fun c5=>?_
   by_cases c6:t.I > 100000
   ·rw [f1 True (by omega),decide_eq_true c6]
   ·rw [f2 (by omega),decide_eq_false c6]
  exact go_if (fun c1=>go_if (fun c2=>last (by omega)) fun c2=>go_if (fun c3=>go_if (fun c4=>last (by omega)) fun c4=>by rw [f2 (by omega)]) fun c3=>by rw [f2 (by omega)])
   fun c1=>go_if (fun c2=>go_if (fun c3=>go_if (fun c4=>last (by omega)) fun c4=>go_if (fun c5=>go_if (fun c6=>last (by omega)) fun c6=>by rw [f2 (by omega)]) fun c5=>by rw [f2 (by omega)]) fun c3=>by rw [f2 (by omega)]) fun c2=>by rw [f2 (by omega)]
 ·cases h
theorem roundTK_head {C:Cfg} {tab:Tab} {f:FuncId} {b:Code} {k:Nat} {s:LSig} {j:D} {n:Int} {r:List D} (h:j.I = n) (hs:2 ≤ s.head.length):roundTK C tab f b k s (j :: r) = roundTK C tab f b k s (.i n :: r):=by
 obtain ⟨live,head,exits⟩:=s
 match head,hs with
 | a :: b :: c,_=>simp only [roundTK,roundTG,headL,headA,List.headD_cons,List.tail_cons,I_i,h]
theorem headA_head {hs:List Shp} {j:D} {n:Int} (r:List D) (h:j.I = n) (hl:2 ≤ hs.length):headA hs (j :: r) = headA hs (.i n :: r):=by
 match hs,hl with
 | a :: b :: c,_=>simp only [headA,List.headD_cons,List.tail_cons,I_i,h]
noncomputable def sp106:SpL:=[]
noncomputable def lp106 (q:Nat):LpL:=[(1,mkLY 1 l106_1 (G106_1 q))]
noncomputable def sw106:SwL:=[]
noncomputable def tab106 (q:Nat):Tab:=mkTabY sp106 (lp106 q) sw106 y106 q
noncomputable def sp105:SpL:=[]
noncomputable def lp105:LpL:=[]
noncomputable def sw105:SwL:=[]
noncomputable def tab105:Tab:=mkTab sp105 lp105 sw105
noncomputable def it104_3:ItL:=[(106,mkFY s106 G106)]
noncomputable def sp104:SpL:=[]
noncomputable def lp104:LpL:=[]
noncomputable def sw104:SwL:=[(105,mkFW s105 G105)]
noncomputable def rg104:LpL:=[(3,rangeS 0 [2,3,4,9] (rangeOf C.P 104 3).1 it104_3 h104_3 G104_3)]
noncomputable def tab104:Tab:=mkTabR sp104 lp104 sw104 rg104
noncomputable def sp103:SpL:=[(104,mkF s104 G104)]
noncomputable def lp103 (q:Nat):LpL:=[(1,mkLY 2 l103_1 (G103_1 q))]
noncomputable def sw103:SwL:=[]
noncomputable def tab103 (q:Nat):Tab:=mkTabY sp103 (lp103 q) sw103 y103 q
noncomputable def sp102:SpL:=[]
noncomputable def lp102:LpL:=[]
noncomputable def sw102:SwL:=[]
noncomputable def tab102:Tab:=mkTab sp102 lp102 sw102
noncomputable def it1073_14:ItL:=[(103,mkFY s103 G103)]
noncomputable def sp1073:SpL:=[(123,mkF s123 G123)]
noncomputable def lp1073:LpL:=[(3,mkL l1073_3 G1073_3),(9,mkL l1073_9 G1073_9)]
noncomputable def sw1073:SwL:=[(93,mkFW s93 G93),(102,mkFW s102 G102),(127,mkFW s127 G127)]
noncomputable def rg1073:LpL:=[(14,rangeS 0 [2,6,7,9,51] (rangeOf C.P 73 14).1 it1073_14 h1073_14 G1073_14)]
noncomputable def tab1073:Tab:=mkTabR sp1073 lp1073 sw1073 rg1073
noncomputable def sp97:SpL:=[(73,mkF s1073 G1073)]
noncomputable def lp97:LpL:=[(3,mkL l97_3 G97_3)]
noncomputable def sw97:SwL:=[(102,mkFW s102 G102)]
noncomputable def tab97:Tab:=mkTab sp97 lp97 sw97
noncomputable def sp54:SpL:=[(22,mkF s22 G22)]
noncomputable def lp54:LpL:=[]
noncomputable def sw54:SwL:=[]
noncomputable def tab54:Tab:=mkTab sp54 lp54 sw54
noncomputable def sp30:SpL:=[(54,mkF s54 G54)]
noncomputable def lp30:LpL:=[(3,mkL l30_3 G30_3),(7,mkL l30_7 G30_7),(11,mkL l30_11 G30_11)]
noncomputable def sw30:SwL:=[]
noncomputable def tab30:Tab:=mkTab sp30 lp30 sw30
noncomputable def sp96:SpL:=[(97,mkF s97 G97),(46,mkF s46 G46)]
noncomputable def lp96 (q:Nat):LpL:=[(1,mkLY 4 l96_1 (G96_1 q)),(6,mkLY 4 l96_6 (G96_6 q))]
noncomputable def sw96:SwL:=[]
noncomputable def tab96 (q:Nat):Tab:=mkTabY sp96 (lp96 q) sw96 y96 q
noncomputable def sp81:SpL:=[]
noncomputable def lp81:LpL:=[]
noncomputable def sw81:SwL:=[]
noncomputable def tab81:Tab:=mkTab sp81 lp81 sw81
noncomputable def it53_10:ItL:=[(96,mkFY s96 G96)]
noncomputable def sp53:SpL:=[]
noncomputable def lp53:LpL:=[(3,mkL l53_3 G53_3)]
noncomputable def sw53:SwL:=[(81,mkFW s81 G81)]
noncomputable def rg53:LpL:=[(10,rangeS 0 [1,3,4,8,9,10,12,14,15,16,25] (rangeOf C.P 53 10).1 it53_10 h53_10 G53_10)]
noncomputable def tab53:Tab:=mkTabR sp53 lp53 sw53 rg53
set_option linter.unusedVariables false
set_option maxRecDepth 100000
theorem t54 (a b c d e f g h i j:D):fnT C tab54 54 s54 [a,b,c,d,e,f,g,h,i,j] =
 T.ite (decide (j.I < e.I)) (T.leaf [D.b false]) (T.ite (decide (j.I ≥ f.I)) (T.leaf [D.b false]) (T.ite (IntKind.i64.wrap (↑(BitVec.toNat (BitVec.ofInt (IntKind.bits IntKind.i64) d.I &&& BitVec.ofInt (IntKind.bits IntKind.i64) h.I)):Int) != h.I) (T.leaf [D.b false]) (T.need (yes (netB a.I b.L = true ∧ ((0:Int) ≤ c.I ∧ c.I < a.I) ∧ (0:Int) ≤ j.I ∧ j.I ≤ (1099511627776:Int))) (T.need (decide ((0:Int) ≤ g.I ∧ g.I < (a.I.toNat:Int))) (T.need (decide (g.I.toNat < List.length (reachF b.L a.I.toNat (beginF a.I c.I j.I)))) (T.ite (decide (D.I (List.getD (List.getD (reachF b.L a.I.toNat (beginF a.I c.I j.I)) g.I.toNat []) 0 default) ≥ (0:Int))) (T.leaf [D.b (decide (D.I (List.getD (List.getD (reachF b.L a.I.toNat (beginF a.I c.I j.I)) g.I.toNat []) 0 default) ≤ IntKind.i64.wrap (j.I + i.I)))]) (T.leaf [D.b false]))))))):=by kernel_rfl
theorem t30 (a b c d e:D):fnT C tab30 30 s30 [a,b,c,d,e] =
 T.need (yes ((↑0:Int) = (0:Int) ∧ okG a.I b.L c.L d.L e.I ∧ (0:Int) ≤ (0:Int) ∧ (0:Int) ≤ (d.L.length:Int))) (T.ite (List.isEmpty (refZ a.I b.L c.L d.L e.I (Int.toNat (0:Int)) (d.L.length - Int.toNat (0:Int)) [])) (T.leaf [D.i 0]) (T.leaf [D.i 1,D.i (↑(Int.toNat (↑(List.length (refZ a.I b.L c.L d.L e.I (Int.toNat (0:Int)) (d.L.length - Int.toNat (0:Int)) [])):Int)):Int),D.l (refZ a.I b.L c.L d.L e.I (Int.toNat (0:Int)) (d.L.length - Int.toNat (0:Int)) [])])):=by kernel_rfl
theorem t30_3_0 (a b c d e f:D):roundT C tab30 30 (loopOf C.P 30 3) l30_3 [.i 0,a,b,c,d,e,f] =
 T.ite (decide (d.I < (b.L.length:Int))) (T.need (yes ((↑0:Int) = (0:Int) ∧ okG e.I f.L a.L b.L c.I ∧ ((0:Int) ≤ d.I ∧ d.I < (b.L.length:Int)) ∧ ((0:Int) ≤ (0:Int) ∧ (0:Int) ≤ c.I) ∧ false = false)) (T.ite (List.isEmpty (refT (secsF e.I f.L a.L (List.getD b.L d.I.toNat [])) d.I (c.I.toNat - Int.toNat (0:Int)) (0:Int) ([],false)).fst) (T.leaf (Rd.again [D.i 0,D.l a.L,D.l b.L,D.i c.I,D.i (IntKind.i64.wrap (d.I + (1:Int))),D.i e.I,D.l f.L])) (T.leaf (Rd.again [D.i 1,D.l a.L,D.l b.L,D.i c.I,D.i (↑(Int.toNat (↑(List.length (refT (secsF e.I f.L a.L (List.getD b.L d.I.toNat [])) d.I (c.I.toNat - Int.toNat (0:Int)) (0:Int) ([],false)).fst):Int)):Int),D.i (IntKind.i64.wrap (d.I + (1:Int))),D.i e.I,D.l f.L,D.l (refT (secsF e.I f.L a.L (List.getD b.L d.I.toNat [])) d.I (c.I.toNat - Int.toNat (0:Int)) (0:Int) ([],false)).fst])))) (T.leaf (Rd.out (Ex.exit 0) [D.i 0])):=by kernel_rfl
theorem t30_3_1 (a b c d e f g h:D):roundT C tab30 30 (loopOf C.P 30 3) l30_3 [.i 1,a,b,c,d,e,f,g,h] =
 T.ite (decide (e.I < (b.L.length:Int))) (T.need (yes ((↑(0 + 1):Int) = (1:Int) ∧ okG f.I g.L a.L b.L c.I ∧ ((0:Int) ≤ e.I ∧ e.I < (b.L.length:Int)) ∧ ((0:Int) ≤ (0:Int) ∧ (0:Int) ≤ c.I) ∧ (d.I.toNat:Int) = (h.L.length:Int) ∧ 0 < h.L.length ∧ (d.I.toNat:Int) ≤ (100000:Int) * e.I + (0:Int))) (T.leaf (Rd.again [D.i 1,D.l a.L,D.l b.L,D.i c.I,D.i (↑(Int.toNat (↑(List.length (refT (secsF f.I g.L a.L (List.getD b.L e.I.toNat [])) e.I (c.I.toNat - Int.toNat (0:Int)) (0:Int) (h.L,false)).fst):Int)):Int),D.i (IntKind.i64.wrap (e.I + (1:Int))),D.i f.I,D.l g.L,D.l (refT (secsF f.I g.L a.L (List.getD b.L e.I.toNat [])) e.I (c.I.toNat - Int.toNat (0:Int)) (0:Int) (h.L,false)).fst]))) (T.leaf (Rd.out (Ex.exit 0) [D.i 1,D.i (d.I.toNat:Int),D.l h.L])):=by kernel_rfl
theorem t30_7_0 (a b c d e f g h:D):roundT C tab30 30 (loopOf C.P 30 7) l30_7 [.i 0,a,b,c,d,e,f,g,h] =
 T.ite (decide (f.I < c.I)) (T.need (yes ((↑0:Int) = (0:Int) ∧ okG g.I h.L a.L b.L c.I ∧ ((0:Int) ≤ d.I ∧ d.I < (b.L.length:Int)) ∧ ((0:Int) ≤ f.I ∧ f.I ≤ c.I) ∧ (0:Int) ≤ (0:Int) ∧ (0:Int) ≤ (a.L.length:Int))) (T.ite (false || anyC g.I h.L a.L (List.getD b.L d.I.toNat []) f.I (Int.toNat (0:Int)) (a.L.length - Int.toNat (0:Int))) (T.leaf (Rd.again [D.i 0,D.l a.L,D.l b.L,D.i c.I,D.i d.I,D.b false,D.i (IntKind.i64.wrap (f.I + (1:Int))),D.i g.I,D.l h.L])) (T.ite (!e.B) (T.need true (T.ite false T.fail (T.need true (T.need true (T.need true (T.leaf (Rd.again [D.i 1,D.l a.L,D.l b.L,D.i c.I,D.i 1,D.i d.I,D.b true,D.i (IntKind.i64.wrap (f.I + (1:Int))),D.i g.I,D.l h.L,D.l [[D.i d.I,D.i f.I,D.i (IntKind.i64.wrap (f.I + (1:Int)))]]]))))))) T.fail))) (T.leaf (Rd.out (Ex.exit 2) [D.i 0,D.l a.L,D.l b.L,D.i c.I,D.i d.I,D.i g.I,D.l h.L])):=by kernel_rfl
theorem t30_7_1 (a b c d e f g h i j:D):roundT C tab30 30 (loopOf C.P 30 7) l30_7 [.i 1,a,b,c,d,e,f,g,h,i,j] =
 T.ite (decide (g.I < c.I)) (T.need (yes ((↑(0 + 1):Int) = (1:Int) ∧ okG h.I i.L a.L b.L c.I ∧ ((0:Int) ≤ e.I ∧ e.I < (b.L.length:Int)) ∧ ((0:Int) ≤ g.I ∧ g.I ≤ c.I) ∧ ((0:Int) ≤ (0:Int) ∧ (0:Int) ≤ (a.L.length:Int)) ∧ (d.I.toNat:Int) = (j.L.length:Int))) (T.ite (false || anyC h.I i.L a.L (List.getD b.L e.I.toNat []) g.I (Int.toNat (0:Int)) (a.L.length - Int.toNat (0:Int))) (T.leaf (Rd.again [D.i 1,D.l a.L,D.l b.L,D.i c.I,D.i (↑(Int.toNat (j.L.length:Int)):Int),D.i e.I,D.b false,D.i (IntKind.i64.wrap (g.I + (1:Int))),D.i h.I,D.l i.L,D.l j.L])) (T.ite (!f.B) (T.need true (T.ite false (T.need (decide ((0:Int) ≤ IntKind.i64.wrap ((↑(Int.toNat (j.L.length:Int)):Int) - (1:Int)) ∧ IntKind.i64.wrap ((↑(Int.toNat (j.L.length:Int)):Int) - (1:Int)) < (↑(Int.toNat (j.L.length:Int)):Int))) (T.need (decide (Int.toNat (IntKind.i64.wrap ((↑(Int.toNat (j.L.length:Int)):Int) - (1:Int))) < j.L.length)) (T.leaf (Rd.again [D.i 1,D.l a.L,D.l b.L,D.i c.I,D.i (↑(Int.toNat (j.L.length:Int)):Int),D.i e.I,D.b true,D.i (IntKind.i64.wrap (g.I + (1:Int))),D.i h.I,D.l i.L,D.l (List.set j.L (Int.toNat (IntKind.i64.wrap ((↑(Int.toNat (j.L.length:Int)):Int) - (1:Int)))) (updC (List.getD j.L (Int.toNat (IntKind.i64.wrap ((↑(Int.toNat (j.L.length:Int)):Int) - (1:Int)))) []) [D.i (IntKind.i64.wrap (g.I + (1:Int)))] (0 + 2) 0 (List.length [K.int IntKind.i64,K.int IntKind.i64,K.int IntKind.i64])))])))) (T.need (decide (Int.toNat (j.L.length:Int) ≤ j.L.length ∧ Int.toNat (j.L.length:Int) + List.length (List.take (List.length [[D.i e.I,D.i g.I,D.i 0]]) [[D.i e.I,D.i g.I,D.i 0]]) ≤ 2 ^ 62 ∧ (Int.toNat (j.L.length:Int) + List.length (List.take (List.length [[D.i e.I,D.i g.I,D.i 0]]) [[D.i e.I,D.i g.I,D.i 0]])) * Try.prog.types[57].bytes ≤ 2 ^ 47)) (T.need (decide ((0:Int) ≤ IntKind.i64.wrap ((↑(Int.toNat (j.L.length:Int) + List.length (List.take (List.length [[D.i e.I,D.i g.I,D.i 0]]) [[D.i e.I,D.i g.I,D.i 0]])):Int) - (1:Int)) ∧ IntKind.i64.wrap ((↑(Int.toNat (j.L.length:Int) + List.length (List.take (List.length [[D.i e.I,D.i g.I,D.i 0]]) [[D.i e.I,D.i g.I,D.i 0]])):Int) - (1:Int)) < (↑(Int.toNat (j.L.length:Int) + List.length (List.take (List.length [[D.i e.I,D.i g.I,D.i 0]]) [[D.i e.I,D.i g.I,D.i 0]])):Int))) (T.need (decide (Int.toNat (IntKind.i64.wrap ((↑(Int.toNat (j.L.length:Int) + List.length (List.take (List.length [[D.i e.I,D.i g.I,D.i 0]]) [[D.i e.I,D.i g.I,D.i 0]])):Int) - (1:Int))) < List.length (List.take (Int.toNat (j.L.length:Int)) j.L ++ List.take (List.length [[D.i e.I,D.i g.I,D.i 0]]) [[D.i e.I,D.i g.I,D.i 0]]))) (T.leaf (Rd.again [D.i 1,D.l a.L,D.l b.L,D.i c.I,D.i (↑(Int.toNat (j.L.length:Int) + List.length (List.take (List.length [[D.i e.I,D.i g.I,D.i 0]]) [[D.i e.I,D.i g.I,D.i 0]])):Int),D.i e.I,D.b true,D.i (IntKind.i64.wrap (g.I + (1:Int))),D.i h.I,D.l i.L,D.l (List.set (List.take (Int.toNat (j.L.length:Int)) j.L ++ List.take (List.length [[D.i e.I,D.i g.I,D.i 0]]) [[D.i e.I,D.i g.I,D.i 0]]) (Int.toNat (IntKind.i64.wrap ((↑(Int.toNat (j.L.length:Int) + List.length (List.take (List.length [[D.i e.I,D.i g.I,D.i 0]]) [[D.i e.I,D.i g.I,D.i 0]])):Int) - (1:Int)))) (updC (List.getD (List.take (Int.toNat (j.L.length:Int)) j.L ++ List.take (List.length [[D.i e.I,D.i g.I,D.i 0]]) [[D.i e.I,D.i g.I,D.i 0]]) (Int.toNat (IntKind.i64.wrap ((↑(Int.toNat (j.L.length:Int) + List.length (List.take (List.length [[D.i e.I,D.i g.I,D.i 0]]) [[D.i e.I,D.i g.I,D.i 0]])):Int) - (1:Int)))) []) [D.i (IntKind.i64.wrap (g.I + (1:Int)))] (0 + 2) 0 (List.length ([K.int IntKind.i64] ++ ([K.int IntKind.i64] ++ ([K.int IntKind.i64] ++ []))))))]))))))) (T.need (decide ((0:Int) ≤ IntKind.i64.wrap ((↑(Int.toNat (j.L.length:Int)):Int) - (1:Int)) ∧ IntKind.i64.wrap ((↑(Int.toNat (j.L.length:Int)):Int) - (1:Int)) < (↑(Int.toNat (j.L.length:Int)):Int))) (T.need (decide (Int.toNat (IntKind.i64.wrap ((↑(Int.toNat (j.L.length:Int)):Int) - (1:Int))) < j.L.length)) (T.leaf (Rd.again [D.i 1,D.l a.L,D.l b.L,D.i c.I,D.i (↑(Int.toNat (j.L.length:Int)):Int),D.i e.I,D.b f.B,D.i (IntKind.i64.wrap (g.I + (1:Int))),D.i h.I,D.l i.L,D.l (List.set j.L (Int.toNat (IntKind.i64.wrap ((↑(Int.toNat (j.L.length:Int)):Int) - (1:Int)))) (updC (List.getD j.L (Int.toNat (IntKind.i64.wrap ((↑(Int.toNat (j.L.length:Int)):Int) - (1:Int)))) []) [D.i (IntKind.i64.wrap (g.I + (1:Int)))] (0 + 2) 0 (List.length [K.int IntKind.i64,K.int IntKind.i64,K.int IntKind.i64])))]))))))) (T.leaf (Rd.out (Ex.exit 2) [D.i 1,D.l a.L,D.l b.L,D.i c.I,D.i (d.I.toNat:Int),D.i e.I,D.i h.I,D.l i.L,D.l j.L])):=by kernel_rfl
theorem t30_11_0 (a b c d e f g h i j:D):roundT C tab30 30 (loopOf C.P 30 11) l30_11 [.i 0,a,b,c,d,e,f,g,h,i,j] =
 T.ite (decide (h.I < (a.L.length:Int))) (T.ite g.B (T.leaf (Rd.again [D.i 0,D.l a.L,D.l b.L,D.i c.I,D.i d.I,D.b e.B,D.i f.I,D.b true,D.i (IntKind.i64.wrap (h.I + (1:Int))),D.i i.I,D.l j.L])) (T.need (decide ((0:Int) ≤ h.I ∧ h.I < (a.L.length:Int))) (T.need (decide ((0:Int) ≤ d.I ∧ d.I < (b.L.length:Int))) (T.need (yes (netB i.I j.L = true ∧ vehB i.I (mk4 (D.i (D.I (List.getD (List.getD a.L h.I.toNat []) 0 default))) (D.i (D.I (List.getD (List.getD a.L h.I.toNat []) (0 + 1) default))) (D.i (D.I (List.getD (List.getD a.L h.I.toNat []) (0 + 1 + 1) default))) (D.i (D.I (List.getD (List.getD a.L h.I.toNat []) (0 + 1 + 1 + 1) default)))) = true ∧ zonB i.I (mk3 (D.i (D.I (List.getD (List.getD b.L d.I.toNat []) 0 default))) (D.i (D.I (List.getD (List.getD b.L d.I.toNat []) (0 + 1) default))) (D.i (D.I (List.getD (List.getD b.L d.I.toNat []) (0 + 1 + 1) default)))) = true ∧ (0:Int) ≤ f.I ∧ f.I ≤ (100000:Int))) (T.leaf (Rd.again [D.i 0,D.l a.L,D.l b.L,D.i c.I,D.i d.I,D.b e.B,D.i f.I,D.b (covB i.I j.L (mk4 (D.i (D.I (List.getD (List.getD a.L h.I.toNat []) 0 default))) (D.i (D.I (List.getD (List.getD a.L h.I.toNat []) (0 + 1) default))) (D.i (D.I (List.getD (List.getD a.L h.I.toNat []) (0 + 1 + 1) default))) (D.i (D.I (List.getD (List.getD a.L h.I.toNat []) (0 + 1 + 1 + 1) default)))) (mk3 (D.i (D.I (List.getD (List.getD b.L d.I.toNat []) 0 default))) (D.i (D.I (List.getD (List.getD b.L d.I.toNat []) (0 + 1) default))) (D.i (D.I (List.getD (List.getD b.L d.I.toNat []) (0 + 1 + 1) default)))) f.I),D.i (IntKind.i64.wrap (h.I + (1:Int))),D.i i.I,D.l j.L])))))) (T.leaf (Rd.out (Ex.exit 4) [D.i 0,D.l a.L,D.l b.L,D.i c.I,D.i d.I,D.b e.B,D.i f.I,D.b g.B,D.i i.I,D.l j.L])):=by kernel_rfl
theorem t30_11_1 (a b c d e f g h i j k l:D):roundT C tab30 30 (loopOf C.P 30 11) l30_11 [.i 1,a,b,c,d,e,f,g,h,i,j,k,l] =
 T.ite (decide (i.I < (a.L.length:Int))) (T.ite h.B (T.leaf (Rd.again [D.i 1,D.l a.L,D.l b.L,D.i c.I,D.i (d.I.toNat:Int),D.i e.I,D.b f.B,D.i g.I,D.b true,D.i (IntKind.i64.wrap (i.I + (1:Int))),D.i j.I,D.l k.L,D.l l.L])) (T.need (decide ((0:Int) ≤ i.I ∧ i.I < (a.L.length:Int))) (T.need (decide ((0:Int) ≤ e.I ∧ e.I < (b.L.length:Int))) (T.need (yes (netB j.I k.L = true ∧ vehB j.I (mk4 (D.i (D.I (List.getD (List.getD a.L i.I.toNat []) 0 default))) (D.i (D.I (List.getD (List.getD a.L i.I.toNat []) (0 + 1) default))) (D.i (D.I (List.getD (List.getD a.L i.I.toNat []) (0 + 1 + 1) default))) (D.i (D.I (List.getD (List.getD a.L i.I.toNat []) (0 + 1 + 1 + 1) default)))) = true ∧ zonB j.I (mk3 (D.i (D.I (List.getD (List.getD b.L e.I.toNat []) 0 default))) (D.i (D.I (List.getD (List.getD b.L e.I.toNat []) (0 + 1) default))) (D.i (D.I (List.getD (List.getD b.L e.I.toNat []) (0 + 1 + 1) default)))) = true ∧ (0:Int) ≤ g.I ∧ g.I ≤ (100000:Int))) (T.leaf (Rd.again [D.i 1,D.l a.L,D.l b.L,D.i c.I,D.i (d.I.toNat:Int),D.i e.I,D.b f.B,D.i g.I,D.b (covB j.I k.L (mk4 (D.i (D.I (List.getD (List.getD a.L i.I.toNat []) 0 default))) (D.i (D.I (List.getD (List.getD a.L i.I.toNat []) (0 + 1) default))) (D.i (D.I (List.getD (List.getD a.L i.I.toNat []) (0 + 1 + 1) default))) (D.i (D.I (List.getD (List.getD a.L i.I.toNat []) (0 + 1 + 1 + 1) default)))) (mk3 (D.i (D.I (List.getD (List.getD b.L e.I.toNat []) 0 default))) (D.i (D.I (List.getD (List.getD b.L e.I.toNat []) (0 + 1) default))) (D.i (D.I (List.getD (List.getD b.L e.I.toNat []) (0 + 1 + 1) default)))) g.I),D.i (IntKind.i64.wrap (i.I + (1:Int))),D.i j.I,D.l k.L,D.l l.L])))))) (T.leaf (Rd.out (Ex.exit 4) [D.i 1,D.l a.L,D.l b.L,D.i c.I,D.i (d.I.toNat:Int),D.i e.I,D.b f.B,D.i g.I,D.b h.B,D.i j.I,D.l k.L,D.l l.L])):=by kernel_rfl
theorem t96 (q:Nat) (a b c d e f g:D):fnTY C (tab96 q) 96 s96 [a,b,c,d,e,f,g] =
 T.need (yes (okP b.I c.L g.L (mk3 (D.i d.I) (D.i e.I) (D.i f.I)) a.I ∧ (0:Int) ≤ (0:Int) ∧ (0:Int) ≤ a.I ∧ List.length ([]:List (List D)) ≤ q)) (T.ite (decide (q < List.length ([]:List (List D)) + List.length (pieceL b.I c.L g.L (mk3 (D.i d.I) (D.i e.I) (D.i f.I)) a.I (Int.toNat (a.I - (0:Int))) (0:Int)))) (T.leaf ([] ++ List.take (q + 1 - List.length ([]:List (List D))) (pieceL b.I c.L g.L (mk3 (D.i d.I) (D.i e.I) (D.i f.I)) a.I (Int.toNat (a.I - (0:Int))) (0:Int)))) (T.leaf ([] ++ pieceL b.I c.L g.L (mk3 (D.i d.I) (D.i e.I) (D.i f.I)) a.I (Int.toNat (a.I - (0:Int))) (0:Int)))):=by kernel_rfl
theorem t96_1 (q:Nat) (a b c d e f g h i:D):roundTY C (tab96 q) 96 (loopOf C.P 96 1) 4 l96_1 [a,b,c,d,e,f,g,h,i] =
 T.ite (decide (b.I < c.I)) (T.need (yes (netB d.I e.L = true ∧ ((0:Int) ≤ f.I ∧ f.I < d.I) ∧ (0:Int) ≤ IntKind.i64.wrap (b.I + h.I) ∧ IntKind.i64.wrap (b.I + h.I) ≤ (1000000:Int))) (T.need (yes (okP d.I e.L i.L (mk3 (D.i f.I) (D.i g.I) (D.i h.I)) c.I ∧ ((0:Int) ≤ b.I ∧ b.I < c.I) ∧ latF d.I e.L f.I (IntKind.i64.wrap (b.I + h.I)) = latF d.I e.L f.I (b.I + h.I) ∧ (d.I.toNat:Int) = d.I ∧ i.L = i.L ∧ (i.L.length:Int) = (i.L.length:Int) ∧ ((0:Int) ≤ (0:Int) ∧ (0:Int) ≤ (i.L.length:Int)) ∧ okPv b.I c.I (pvOf (D.b false) (D.i b.I) (D.i c.I)))) (T.ite (!(runV d.I e.L i.L (mk3 (D.i f.I) (D.i g.I) (D.i h.I)) b.I (Int.toNat (0:Int)) (i.L.length - Int.toNat (0:Int)) (pvOf (D.b false) (D.i b.I) (D.i c.I))).c) (T.ite (!!a.L.length == (tab96 q).q) (T.leaf (Rd.out Ex.ret [D.l (a.L ++ [[D.i b.I] ++ ([D.i (if c.I < if (runV d.I e.L i.L (mk3 (D.i f.I) (D.i g.I) (D.i h.I)) b.I (Int.toNat (0:Int)) (i.L.length - Int.toNat (0:Int)) (pvOf (D.b false) (D.i b.I) (D.i c.I))).nx > IntKind.i64.wrap (b.I + (1:Int)) then (runV d.I e.L i.L (mk3 (D.i f.I) (D.i g.I) (D.i h.I)) b.I (Int.toNat (0:Int)) (i.L.length - Int.toNat (0:Int)) (pvOf (D.b false) (D.i b.I) (D.i c.I))).nx else IntKind.i64.wrap (b.I + (1:Int)) then c.I else if (runV d.I e.L i.L (mk3 (D.i f.I) (D.i g.I) (D.i h.I)) b.I (Int.toNat (0:Int)) (i.L.length - Int.toNat (0:Int)) (pvOf (D.b false) (D.i b.I) (D.i c.I))).nx > IntKind.i64.wrap (b.I + (1:Int)) then (runV d.I e.L i.L (mk3 (D.i f.I) (D.i g.I) (D.i h.I)) b.I (Int.toNat (0:Int)) (i.L.length - Int.toNat (0:Int)) (pvOf (D.b false) (D.i b.I) (D.i c.I))).nx else IntKind.i64.wrap (b.I + (1:Int)))] ++ ([D.b (runV d.I e.L i.L (mk3 (D.i f.I) (D.i g.I) (D.i h.I)) b.I (Int.toNat (0:Int)) (i.L.length - Int.toNat (0:Int)) (pvOf (D.b false) (D.i b.I) (D.i c.I))).c] ++ [])) ++ [] ++ []]),D.i c.I,D.i d.I,D.l e.L,D.i f.I,D.i g.I,D.i h.I,D.l i.L])) (T.leaf (Rd.again [D.l (a.L ++ [[D.i b.I] ++ ([D.i (if c.I < if (runV d.I e.L i.L (mk3 (D.i f.I) (D.i g.I) (D.i h.I)) b.I (Int.toNat (0:Int)) (i.L.length - Int.toNat (0:Int)) (pvOf (D.b false) (D.i b.I) (D.i c.I))).nx > IntKind.i64.wrap (b.I + (1:Int)) then (runV d.I e.L i.L (mk3 (D.i f.I) (D.i g.I) (D.i h.I)) b.I (Int.toNat (0:Int)) (i.L.length - Int.toNat (0:Int)) (pvOf (D.b false) (D.i b.I) (D.i c.I))).nx else IntKind.i64.wrap (b.I + (1:Int)) then c.I else if (runV d.I e.L i.L (mk3 (D.i f.I) (D.i g.I) (D.i h.I)) b.I (Int.toNat (0:Int)) (i.L.length - Int.toNat (0:Int)) (pvOf (D.b false) (D.i b.I) (D.i c.I))).nx > IntKind.i64.wrap (b.I + (1:Int)) then (runV d.I e.L i.L (mk3 (D.i f.I) (D.i g.I) (D.i h.I)) b.I (Int.toNat (0:Int)) (i.L.length - Int.toNat (0:Int)) (pvOf (D.b false) (D.i b.I) (D.i c.I))).nx else IntKind.i64.wrap (b.I + (1:Int)))] ++ ([D.b (runV d.I e.L i.L (mk3 (D.i f.I) (D.i g.I) (D.i h.I)) b.I (Int.toNat (0:Int)) (i.L.length - Int.toNat (0:Int)) (pvOf (D.b false) (D.i b.I) (D.i c.I))).c] ++ [])) ++ [] ++ []]),D.i (if c.I < if (runV d.I e.L i.L (mk3 (D.i f.I) (D.i g.I) (D.i h.I)) b.I (Int.toNat (0:Int)) (i.L.length - Int.toNat (0:Int)) (pvOf (D.b false) (D.i b.I) (D.i c.I))).nx > IntKind.i64.wrap (b.I + (1:Int)) then (runV d.I e.L i.L (mk3 (D.i f.I) (D.i g.I) (D.i h.I)) b.I (Int.toNat (0:Int)) (i.L.length - Int.toNat (0:Int)) (pvOf (D.b false) (D.i b.I) (D.i c.I))).nx else IntKind.i64.wrap (b.I + (1:Int)) then c.I else if (runV d.I e.L i.L (mk3 (D.i f.I) (D.i g.I) (D.i h.I)) b.I (Int.toNat (0:Int)) (i.L.length - Int.toNat (0:Int)) (pvOf (D.b false) (D.i b.I) (D.i c.I))).nx > IntKind.i64.wrap (b.I + (1:Int)) then (runV d.I e.L i.L (mk3 (D.i f.I) (D.i g.I) (D.i h.I)) b.I (Int.toNat (0:Int)) (i.L.length - Int.toNat (0:Int)) (pvOf (D.b false) (D.i b.I) (D.i c.I))).nx else IntKind.i64.wrap (b.I + (1:Int))),D.i c.I,D.i d.I,D.l e.L,D.i f.I,D.i g.I,D.i h.I,D.l i.L]))) (T.ite (!!a.L.length == (tab96 q).q) (T.leaf (Rd.out Ex.ret [D.l (a.L ++ [[D.i b.I] ++ ([D.i (if c.I < (runV d.I e.L i.L (mk3 (D.i f.I) (D.i g.I) (D.i h.I)) b.I (Int.toNat (0:Int)) (i.L.length - Int.toNat (0:Int)) (pvOf (D.b false) (D.i b.I) (D.i c.I))).to then c.I else (runV d.I e.L i.L (mk3 (D.i f.I) (D.i g.I) (D.i h.I)) b.I (Int.toNat (0:Int)) (i.L.length - Int.toNat (0:Int)) (pvOf (D.b false) (D.i b.I) (D.i c.I))).to)] ++ ([D.b (runV d.I e.L i.L (mk3 (D.i f.I) (D.i g.I) (D.i h.I)) b.I (Int.toNat (0:Int)) (i.L.length - Int.toNat (0:Int)) (pvOf (D.b false) (D.i b.I) (D.i c.I))).c] ++ [])) ++ [] ++ []]),D.i c.I,D.i d.I,D.l e.L,D.i f.I,D.i g.I,D.i h.I,D.l i.L])) (T.leaf (Rd.again [D.l (a.L ++ [[D.i b.I] ++ ([D.i (if c.I < (runV d.I e.L i.L (mk3 (D.i f.I) (D.i g.I) (D.i h.I)) b.I (Int.toNat (0:Int)) (i.L.length - Int.toNat (0:Int)) (pvOf (D.b false) (D.i b.I) (D.i c.I))).to then c.I else (runV d.I e.L i.L (mk3 (D.i f.I) (D.i g.I) (D.i h.I)) b.I (Int.toNat (0:Int)) (i.L.length - Int.toNat (0:Int)) (pvOf (D.b false) (D.i b.I) (D.i c.I))).to)] ++ ([D.b (runV d.I e.L i.L (mk3 (D.i f.I) (D.i g.I) (D.i h.I)) b.I (Int.toNat (0:Int)) (i.L.length - Int.toNat (0:Int)) (pvOf (D.b false) (D.i b.I) (D.i c.I))).c] ++ [])) ++ [] ++ []]),D.i (if c.I < (runV d.I e.L i.L (mk3 (D.i f.I) (D.i g.I) (D.i h.I)) b.I (Int.toNat (0:Int)) (i.L.length - Int.toNat (0:Int)) (pvOf (D.b false) (D.i b.I) (D.i c.I))).to then c.I else (runV d.I e.L i.L (mk3 (D.i f.I) (D.i g.I) (D.i h.I)) b.I (Int.toNat (0:Int)) (i.L.length - Int.toNat (0:Int)) (pvOf (D.b false) (D.i b.I) (D.i c.I))).to),D.i c.I,D.i d.I,D.l e.L,D.i f.I,D.i g.I,D.i h.I,D.l i.L])))))) (T.leaf (Rd.out (Ex.exit 0) [D.l a.L,D.i c.I,D.i d.I,D.l e.L,D.i f.I,D.i g.I,D.i h.I,D.l i.L])):=by kernel_rfl
theorem t96_6 (q:Nat) (a b c d e f g h i j k l m n o p q1 r:D):roundTY C (tab96 q) 96 (loopOf C.P 96 6) 4 l96_6 [a,b,c,d,e,f,g,h,i,j,k,l,m,n,o,p,q1,r] =
 T.ite (decide (g.I < f.I)) (T.need (decide ((0:Int) ≤ g.I ∧ g.I < (e.L.length:Int))) (T.ite (IntKind.i64.wrap (↑(BitVec.toNat (BitVec.ofInt (IntKind.bits IntKind.i64) (D.I (List.getD (List.getD e.L g.I.toNat []) (0 + 1) default)) &&& BitVec.ofInt (IntKind.bits IntKind.i64) l.I)):Int) != l.I) (T.leaf (Rd.again [D.l a.L,D.i b.I,D.i (c.I.toNat:Int),D.i d.I,D.l e.L,D.i f.I,D.i (IntKind.i64.wrap (g.I + (1:Int))),D.i h.I,D.i i.I,D.l j.L,D.i k.I,D.i l.I,D.i m.I,D.l n.L,D.l o.L,D.i p.I,D.i q1.I,D.b r.B])) (T.ite (decide (b.I ≥ D.I (List.getD (List.getD e.L g.I.toNat []) (0 + 1 + 1 + 1) default))) (T.leaf (Rd.again [D.l a.L,D.i b.I,D.i (c.I.toNat:Int),D.i d.I,D.l e.L,D.i f.I,D.i (IntKind.i64.wrap (g.I + (1:Int))),D.i h.I,D.i i.I,D.l j.L,D.i k.I,D.i l.I,D.i m.I,D.l n.L,D.l o.L,D.i p.I,D.i q1.I,D.b r.B])) (T.ite (decide (b.I < D.I (List.getD (List.getD e.L g.I.toNat []) (0 + 1 + 1) default))) (T.leaf (Rd.again [D.l a.L,D.i b.I,D.i (c.I.toNat:Int),D.i (if D.I (List.getD (List.getD e.L g.I.toNat []) (0 + 1 + 1) default) < d.I then D.I (List.getD (List.getD e.L g.I.toNat []) (0 + 1 + 1) default) else d.I),D.l e.L,D.i f.I,D.i (IntKind.i64.wrap (g.I + (1:Int))),D.i h.I,D.i i.I,D.l j.L,D.i k.I,D.i l.I,D.i m.I,D.l n.L,D.l o.L,D.i p.I,D.i q1.I,D.b r.B])) (T.need (decide ((0:Int) ≤ D.I (List.getD (List.getD e.L g.I.toNat []) 0 default) ∧ D.I (List.getD (List.getD e.L g.I.toNat []) 0 default) < (c.I.toNat:Int))) (T.need (decide (Int.toNat (D.I (List.getD (List.getD e.L g.I.toNat []) 0 default)) < o.L.length)) (T.ite (decide (D.I (List.getD (List.getD o.L (Int.toNat (D.I (List.getD (List.getD e.L g.I.toNat []) 0 default))) []) 0 default) ≥ b.I)) (T.need (decide ((0:Int) ≤ D.I (List.getD (List.getD e.L g.I.toNat []) 0 default) ∧ D.I (List.getD (List.getD e.L g.I.toNat []) 0 default) < (c.I.toNat:Int))) (T.need (decide (Int.toNat (D.I (List.getD (List.getD e.L g.I.toNat []) 0 default)) < o.L.length)) (T.leaf (Rd.again [D.l a.L,D.i b.I,D.i (c.I.toNat:Int),D.i d.I,D.l e.L,D.i f.I,D.i (IntKind.i64.wrap (g.I + (1:Int))),D.i h.I,D.i i.I,D.l j.L,D.i k.I,D.i l.I,D.i m.I,D.l n.L,D.l o.L,D.i p.I,D.i (if (if D.I (List.getD (List.getD e.L g.I.toNat []) (0 + 1 + 1 + 1) default) < IntKind.i64.wrap (D.I (List.getD (List.getD o.L (Int.toNat (D.I (List.getD (List.getD e.L g.I.toNat []) 0 default))) []) 0 default) + (1:Int)) then D.I (List.getD (List.getD e.L g.I.toNat []) (0 + 1 + 1 + 1) default) else IntKind.i64.wrap (D.I (List.getD (List.getD o.L (Int.toNat (D.I (List.getD (List.getD e.L g.I.toNat []) 0 default))) []) 0 default) + (1:Int))) > q1.I then if D.I (List.getD (List.getD e.L g.I.toNat []) (0 + 1 + 1 + 1) default) < IntKind.i64.wrap (D.I (List.getD (List.getD o.L (Int.toNat (D.I (List.getD (List.getD e.L g.I.toNat []) 0 default))) []) 0 default) + (1:Int)) then D.I (List.getD (List.getD e.L g.I.toNat []) (0 + 1 + 1 + 1) default) else IntKind.i64.wrap (D.I (List.getD (List.getD o.L (Int.toNat (D.I (List.getD (List.getD e.L g.I.toNat []) 0 default))) []) 0 default) + (1:Int)) else q1.I),D.b true])))) (T.need (yes ((0:Int) ≤ i.I ∧ i.I < (1099511627776:Int) ∧ (0:Int) ≤ D.I (List.getD (List.getD e.L g.I.toNat []) 0 default) ∧ D.I (List.getD (List.getD e.L g.I.toNat []) 0 default) < i.I ∧ haltS i.I.toNat j.L (startS i.I (D.I (List.getD (List.getD e.L g.I.toNat []) 0 default)) b.I))) (T.need (decide ((0:Int) ≤ k.I ∧ k.I < (i.I.toNat:Int))) (T.need (decide (k.I.toNat < List.length (arrF i.I j.L (D.I (List.getD (List.getD e.L g.I.toNat []) 0 default)) b.I))) (T.ite (decide (D.I (List.getD (List.getD (arrF i.I j.L (D.I (List.getD (List.getD e.L g.I.toNat []) 0 default)) b.I) k.I.toNat []) 0 default) ≥ (0:Int))) (T.leaf (Rd.again [D.l a.L,D.i b.I,D.i (c.I.toNat:Int),D.i (if (if IntKind.i64.wrap (D.I (List.getD (List.getD (arrF i.I j.L (D.I (List.getD (List.getD e.L g.I.toNat []) 0 default)) b.I) k.I.toNat []) 0 default) - m.I) > IntKind.i64.wrap (b.I + (1:Int)) then IntKind.i64.wrap (D.I (List.getD (List.getD (arrF i.I j.L (D.I (List.getD (List.getD e.L g.I.toNat []) 0 default)) b.I) k.I.toNat []) 0 default) - m.I) else IntKind.i64.wrap (b.I + (1:Int))) < d.I then if IntKind.i64.wrap (D.I (List.getD (List.getD (arrF i.I j.L (D.I (List.getD (List.getD e.L g.I.toNat []) 0 default)) b.I) k.I.toNat []) 0 default) - m.I) > IntKind.i64.wrap (b.I + (1:Int)) then IntKind.i64.wrap (D.I (List.getD (List.getD (arrF i.I j.L (D.I (List.getD (List.getD e.L g.I.toNat []) 0 default)) b.I) k.I.toNat []) 0 default) - m.I) else IntKind.i64.wrap (b.I + (1:Int)) else d.I),D.l e.L,D.i f.I,D.i (IntKind.i64.wrap (g.I + (1:Int))),D.i h.I,D.i i.I,D.l j.L,D.i k.I,D.i l.I,D.i m.I,D.l n.L,D.l o.L,D.i p.I,D.i q1.I,D.b r.B])) (T.leaf (Rd.again [D.l a.L,D.i b.I,D.i (c.I.toNat:Int),D.i d.I,D.l e.L,D.i f.I,D.i (IntKind.i64.wrap (g.I + (1:Int))),D.i h.I,D.i i.I,D.l j.L,D.i k.I,D.i l.I,D.i m.I,D.l n.L,D.l o.L,D.i p.I,D.i q1.I,D.b r.B]))))))))))))) (T.leaf (Rd.out (Ex.exit 2) [D.l a.L,D.i b.I,D.i d.I,D.i h.I,D.i i.I,D.l j.L,D.i k.I,D.i l.I,D.i m.I,D.l n.L,D.i p.I,D.i q1.I,D.b r.B])):=by kernel_rfl
theorem t81 (a b c d e f g:D):fnTW C tab81 81 s81 [a,b,c,d,e,f,g] =
 T.leaf [D.i g.I,D.i a.I,D.l b.L,D.i d.I,D.i e.I,D.i f.I,D.l c.L]:=by kernel_rfl
theorem t53 (a b c d e:D):fnT C tab53 53 s53 [a,b,c,d,e] =
 T.need (yes ((↑0:Int) = (0:Int) ∧ okG a.I b.L c.L d.L e.I ∧ (d.L.length:Int) = (d.L.length:Int) ∧ (0:Int) ≤ (0:Int) ∧ (0:Int) ≤ (d.L.length:Int))) (T.ite (List.isEmpty (gapsZ a.I b.L c.L d.L e.I (Int.toNat (0:Int)) (d.L.length - Int.toNat (0:Int)) [])) (T.leaf [D.i 0]) (T.leaf [D.i 1,D.i (↑(Int.toNat (↑(List.length (gapsZ a.I b.L c.L d.L e.I (Int.toNat (0:Int)) (d.L.length - Int.toNat (0:Int)) [])):Int)):Int),D.l (gapsZ a.I b.L c.L d.L e.I (Int.toNat (0:Int)) (d.L.length - Int.toNat (0:Int)) [])])):=by kernel_rfl
theorem t53_3_0 (a b c d e f g:D):roundT C tab53 53 (loopOf C.P 53 3) l53_3 [.i 0,a,b,c,d,e,f,g] =
 T.ite (decide (e.I < d.I)) (T.need (decide ((0:Int) ≤ e.I ∧ e.I < (c.L.length:Int))) (T.need (yes (okP f.I g.L a.L (mk3 (D.i (D.I (List.getD (List.getD c.L e.I.toNat []) 0 default))) (D.i (D.I (List.getD (List.getD c.L e.I.toNat []) (0 + 1) default))) (D.i (D.I (List.getD (List.getD c.L e.I.toNat []) (0 + 1 + 1) default)))) b.I)) (T.need (yes ((↑0:Int) = (0:Int) ∧ false = false ∧ List.length (pieceL f.I g.L a.L (mk3 (D.i (D.I (List.getD (List.getD c.L e.I.toNat []) 0 default))) (D.i (D.I (List.getD (List.getD c.L e.I.toNat []) (0 + 1) default))) (D.i (D.I (List.getD (List.getD c.L e.I.toNat []) (0 + 1 + 1) default)))) b.I b.I.toNat (0:Int)) ≤ 1000000)) (T.ite (List.isEmpty (gapsF e.I (pieceL f.I g.L a.L (mk3 (D.i (D.I (List.getD (List.getD c.L e.I.toNat []) 0 default))) (D.i (D.I (List.getD (List.getD c.L e.I.toNat []) (0 + 1) default))) (D.i (D.I (List.getD (List.getD c.L e.I.toNat []) (0 + 1 + 1) default)))) b.I b.I.toNat (0:Int)) ([],false)).fst) (T.leaf (Rd.again [D.i 0,D.l a.L,D.i b.I,D.l c.L,D.i d.I,D.i (IntKind.i64.wrap (e.I + (1:Int))),D.i f.I,D.l g.L])) (T.leaf (Rd.again [D.i 1,D.l a.L,D.i b.I,D.l c.L,D.i d.I,D.i (IntKind.i64.wrap (e.I + (1:Int))),D.i f.I,D.l g.L,D.i (↑(Int.toNat (↑(List.length (gapsF e.I (pieceL f.I g.L a.L (mk3 (D.i (D.I (List.getD (List.getD c.L e.I.toNat []) 0 default))) (D.i (D.I (List.getD (List.getD c.L e.I.toNat []) (0 + 1) default))) (D.i (D.I (List.getD (List.getD c.L e.I.toNat []) (0 + 1 + 1) default)))) b.I b.I.toNat (0:Int)) ([],false)).fst):Int)):Int),D.l (gapsF e.I (pieceL f.I g.L a.L (mk3 (D.i (D.I (List.getD (List.getD c.L e.I.toNat []) 0 default))) (D.i (D.I (List.getD (List.getD c.L e.I.toNat []) (0 + 1) default))) (D.i (D.I (List.getD (List.getD c.L e.I.toNat []) (0 + 1 + 1) default)))) b.I b.I.toNat (0:Int)) ([],false)).fst])))))) (T.leaf (Rd.out (Ex.exit 0) [D.i 0])):=by kernel_rfl
theorem t53_3_1 (a b c d e f g h i:D):roundT C tab53 53 (loopOf C.P 53 3) l53_3 [.i 1,a,b,c,d,e,f,g,h,i] =
 T.ite (decide (e.I < d.I)) (T.need (decide ((0:Int) ≤ e.I ∧ e.I < (c.L.length:Int))) (T.need (yes (okP f.I g.L a.L (mk3 (D.i (D.I (List.getD (List.getD c.L e.I.toNat []) 0 default))) (D.i (D.I (List.getD (List.getD c.L e.I.toNat []) (0 + 1) default))) (D.i (D.I (List.getD (List.getD c.L e.I.toNat []) (0 + 1 + 1) default)))) b.I)) (T.need (yes ((↑(0 + 1):Int) = (1:Int) ∧ (h.I.toNat:Int) = (i.L.length:Int) ∧ 0 < i.L.length ∧ List.length (pieceL f.I g.L a.L (mk3 (D.i (D.I (List.getD (List.getD c.L e.I.toNat []) 0 default))) (D.i (D.I (List.getD (List.getD c.L e.I.toNat []) (0 + 1) default))) (D.i (D.I (List.getD (List.getD c.L e.I.toNat []) (0 + 1 + 1) default)))) b.I b.I.toNat (0:Int)) ≤ 1000000 ∧ (h.I.toNat:Int) + (↑(List.length (pieceL f.I g.L a.L (mk3 (D.i (D.I (List.getD (List.getD c.L e.I.toNat []) 0 default))) (D.i (D.I (List.getD (List.getD c.L e.I.toNat []) (0 + 1) default))) (D.i (D.I (List.getD (List.getD c.L e.I.toNat []) (0 + 1 + 1) default)))) b.I b.I.toNat (0:Int))):Int) ≤ (1000000000:Int))) (T.leaf (Rd.again [D.i 1,D.l a.L,D.i b.I,D.l c.L,D.i d.I,D.i (IntKind.i64.wrap (e.I + (1:Int))),D.i f.I,D.l g.L,D.i (↑(Int.toNat (↑(List.length (gapsF e.I (pieceL f.I g.L a.L (mk3 (D.i (D.I (List.getD (List.getD c.L e.I.toNat []) 0 default))) (D.i (D.I (List.getD (List.getD c.L e.I.toNat []) (0 + 1) default))) (D.i (D.I (List.getD (List.getD c.L e.I.toNat []) (0 + 1 + 1) default)))) b.I b.I.toNat (0:Int)) (i.L,false)).fst):Int)):Int),D.l (gapsF e.I (pieceL f.I g.L a.L (mk3 (D.i (D.I (List.getD (List.getD c.L e.I.toNat []) 0 default))) (D.i (D.I (List.getD (List.getD c.L e.I.toNat []) (0 + 1) default))) (D.i (D.I (List.getD (List.getD c.L e.I.toNat []) (0 + 1 + 1) default)))) b.I b.I.toNat (0:Int)) (i.L,false)).fst]))))) (T.leaf (Rd.out (Ex.exit 0) [D.i 1,D.i (h.I.toNat:Int),D.l i.L])):=by kernel_rfl
theorem t53_r10_0 (a b c d e f g h i j k l:D):roundRT C tab53 53 (rangeOf C.P 53 10) 0 4 [1,3,4,8,9,10,12,14,15,16,25] h53_10 y96 [.i 0,a,b,c,d,e,f,g,h,i] [j,k,l] =
 T.ite l.B (T.leaf (Rd.again [D.i 0,D.l a.L,D.i b.I,D.l c.L,D.i d.I,D.i e.I,D.i f.I,D.l g.L,D.i h.I,D.b false],[])) (T.ite i.B T.fail (T.need true (T.ite false (T.leaf (Rd.again [D.i 0,D.l a.L,D.i b.I,D.l c.L,D.i d.I,D.i e.I,D.i f.I,D.l g.L,D.i h.I,D.b true],[])) (T.need true (T.leaf (Rd.again [D.i 1,D.l a.L,D.i b.I,D.l c.L,D.i d.I,D.i e.I,D.i f.I,D.l g.L,D.i 1,D.i h.I,D.b true,D.l [[D.i h.I,D.i j.I,D.i k.I]]],[])))))):=by kernel_rfl
theorem t53_r10_1 (a b c d e f g h i j k l m n:D):roundRT C tab53 53 (rangeOf C.P 53 10) 0 5 [1,3,4,8,9,10,12,14,15,16,25] h53_10 y96 [.i 1,a,b,c,d,e,f,g,h,i,j,k] [l,m,n] =
 T.ite n.B (T.leaf (Rd.again [D.i 1,D.l a.L,D.i b.I,D.l c.L,D.i d.I,D.i e.I,D.i f.I,D.l g.L,D.i (h.I.toNat:Int),D.i i.I,D.b false,D.l k.L],[])) (T.ite j.B (T.need (decide ((0:Int) ≤ IntKind.i64.wrap ((h.I.toNat:Int) - (1:Int)) ∧ IntKind.i64.wrap ((h.I.toNat:Int) - (1:Int)) < (h.I.toNat:Int))) (T.need (decide (Int.toNat (IntKind.i64.wrap ((h.I.toNat:Int) - (1:Int))) < k.L.length)) (T.leaf (Rd.again [D.i 1,D.l a.L,D.i b.I,D.l c.L,D.i d.I,D.i e.I,D.i f.I,D.l g.L,D.i (h.I.toNat:Int),D.i i.I,D.b j.B,D.l (List.set k.L (Int.toNat (IntKind.i64.wrap ((h.I.toNat:Int) - (1:Int)))) (updC (List.getD k.L (Int.toNat (IntKind.i64.wrap ((h.I.toNat:Int) - (1:Int)))) []) [D.i m.I] (0 + 2) 0 (List.length [K.int IntKind.i64,K.int IntKind.i64,K.int IntKind.i64])))],[])))) (T.need true (T.ite false (T.leaf (Rd.again [D.i 1,D.l a.L,D.i b.I,D.l c.L,D.i d.I,D.i e.I,D.i f.I,D.l g.L,D.i (h.I.toNat:Int),D.i i.I,D.b true,D.l k.L],[])) (T.need (decide (h.I.toNat ≤ k.L.length ∧ h.I.toNat + List.length (List.take (List.length [[D.i i.I,D.i l.I,D.i m.I]]) [[D.i i.I,D.i l.I,D.i m.I]]) ≤ 2 ^ 62 ∧ (h.I.toNat + List.length (List.take (List.length [[D.i i.I,D.i l.I,D.i m.I]]) [[D.i i.I,D.i l.I,D.i m.I]])) * Try.prog.types[57].bytes ≤ 2 ^ 47)) (T.leaf (Rd.again [D.i 1,D.l a.L,D.i b.I,D.l c.L,D.i d.I,D.i e.I,D.i f.I,D.l g.L,D.i (↑(h.I.toNat + List.length (List.take (List.length [[D.i i.I,D.i l.I,D.i m.I]]) [[D.i i.I,D.i l.I,D.i m.I]])):Int),D.i i.I,D.b true,D.l (List.take h.I.toNat k.L ++ List.take (List.length [[D.i i.I,D.i l.I,D.i m.I]]) [[D.i i.I,D.i l.I,D.i m.I]])],[])))))):=by kernel_rfl
set_option maxRecDepth 100000
set_option linter.unusedVariables false
theorem upd3 (c:List D) (d:D) (k1 k2 k3:K):updC c [d] 2 0 (List.length [k1,k2,k3]) = [c.getD 0 default,c.getD 1 default,d]:=by simp [updC]
theorem setTo_len (g:List (List D)) (x:Int):(setTo g x).length = g.length:=by simp [setTo]
theorem gapT_len (i t:Int) (c:Bool) (s:List (List D) × Bool):s.1.length ≤ (gapT i t c s).1.length ∧ (gapT i t c s).1.length ≤ s.1.length + 1:=by
 unfold gapT
 split
 ·exact ⟨Nat.le_refl _,Nat.le_succ _⟩
 ·split
  ·simp only [setTo_len]; omega
  ·simp only [List.length_append,List.length_cons,List.length_nil]; omega
theorem refT_len (p:Int → Bool) (i:Int):∀ (k:Nat) (t:Int) (s:List (List D) × Bool),s.1.length ≤ (refT p i k t s).1.length ∧ (refT p i k t s).1.length ≤ s.1.length + k
 | 0,_,_=>⟨Nat.le_refl _,Nat.le_refl _⟩
 | k + 1,t,s=>by
   have h1:=refT_len p i k (t + 1) (gapT i t (p t) s)
   have h2:=gapT_len i t (p t) s
   simp only [refT]
   omega
theorem empty_false {α:Type} {l:List α} (h:0 < l.length):l.isEmpty = false:=by
 cases l with
 | nil=>simp at h
 | cons a l=>rfl
theorem empty_nil {α:Type} {l:List α} (h:l.isEmpty = true):l = []:=List.isEmpty_iff.1 h
theorem upd3' (c:List D) (d:D) (k1 k2 k3:K):updC c [d] (0 + 2) 0 (List.length [k1,k2,k3]) = [c.getD 0 default,c.getD 1 default,d]:=upd3 c d k1 k2 k3
theorem get_last (g:List (List D)) (r:List D):(g ++ [r]).getD g.length [] = r:=by
 rw [List.getD_eq_getElem?_getD,List.getElem?_append_right (Nat.le_refl _),Nat.sub_self]
 rfl
theorem set_last (g:List (List D)) (r r':List D):(g ++ [r]).set g.length r' = g ++ [r']:=by
 rw [List.set_append_right _ _ (Nat.le_refl _),Nat.sub_self]
 rfl
theorem setTo_def (g:List (List D)) (x:Int):g.set (g.length - 1) [(g.getD (g.length - 1) []).getD 0 default,(g.getD (g.length - 1) []).getD 1 default,D.i x] = setTo g x:=rfl
theorem covB_mk (n:Int) (r:List (List D)) (a b c d e f g:D) (t:Int):covB n r (mk4 a b c d) (mk3 e f g) t = (decide (c.I ≤ t ∧ t < d.I) && (andI b.I f.I == f.I) && decide (0 ≤ docA n r a.I t e.I ∧ docA n r a.I t e.I ≤ t + g.I)):=rfl
theorem cov_mk (n:Int) (r:List (List D)) (x z:List D) (t:Int):covB n r (mk4 (.i (ix x 0)) (.i (ix x 1)) (.i (ix x 2)) (.i (ix x 3))) (mk3 (.i (ix z 0)) (.i (ix z 1)) (.i (ix z 2))) t = covB n r x z t:=rfl
theorem veh_of {n:Int} {v:List (List D)} (h:vehs n v = true) {k:Nat} (hk:k < v.length):vehL n v k = true:=allFrom_iff.1 h k (Nat.zero_le _) (by omega)
theorem zon_of {n:Int} {z:List (List D)} (h:zons n z = true) {k:Nat} (hk:k < z.length):zonL n z k = true:=allFrom_iff.1 h k (Nat.zero_le _) (by omega)
theorem any_stepC {n:Int} {r v:List (List D)} {z:List D} {t:Int} {k:Nat} (hk:k < v.length):anyC n r v z t k (v.length - k) = (covB n r (v.getD k []) z t || anyC n r v z t (k + 1) (v.length - (k + 1))):=by
 unfold anyC
 rw [show v.length - k = (v.length - (k + 1)) + 1 by omega]
 simp only [allFrom,Bool.not_and,Bool.not_not]
theorem ok54 (n:Nat):FnOK C (n + 4) 54 (mkF s54 G54):=by
 refine fn_ofS hC (sp:=sp54) (lp:=lp54) (sw:=sw54) ⟨ok22 n,trivial⟩ trivial (by kernel_rfl) [] (by kernel_rfl) rfl (fun k hk=>by cases hk) fun ds rr h=>?_
 unfold G54 at h
 split at h
 ·rename_i m r a b c d e f g t
  obtain ⟨hp,h⟩:=need_some h
  rw [yes_iff] at hp
  obtain ⟨hN,hv,hz,ht0,ht1⟩:=hp
  rw [vehB_mk,decide_eq_true_iff] at hv
  rw [zonB_mk,decide_eq_true_iff] at hz
  obtain ⟨p1,p2,p3⟩:=net_parts hN
  have hyl:=(yR_ok hN (v:=a.I) (t:=t.I) hv.1 (by omega) m.I.toNat).1
  refine (congrArg T.run (t54 m r a b c d e f g t)).trans ?_
  rw [← h,covB_mk]
  have hA:rg (reachF r.L m.I.toNat (beginF m.I a.I t.I)) e.I.toNat = docA m.I r.L a.I t.I e.I:=rfl
  rw [wrap_id (x:=t.I + g.I) (by omega) (by omega)]
  simp only [rg_def,hA]
  refine go_if (fun c1=>by rw [decide_eq_false (by omega)]; rfl) fun c1=>go_if (fun c2=>by rw [decide_eq_false (by omega)]; rfl) fun c2=>?_
  rw [decide_eq_true (show c.I ≤ t.I ∧ t.I < d.I by omega),Bool.true_and]
  refine go_ite (fun c3=>?_) fun c3=>?_
  ·have c3:(andI b.I f.I == f.I) = false:=beq_false_of_ne (bne_iff_ne.1 c3)
   rw [c3]; rfl
  ·have c3:(andI b.I f.I == f.I) = true:=by
    cases hx:(andI b.I f.I == f.I) with
    | true=>rfl
    | false=>
      have hx:andI b.I f.I ≠ f.I:=ne_of_beq_false hx
      have:(andI b.I f.I != f.I) = true:=bne_iff_ne.2 hx
      exact absurd (this.symm.trans c3) (by simp)
   rw [c3,Bool.true_and]
   refine go_yes ⟨hN,hv.1,by omega⟩ (go_dec (by omega) (go_dec (by omega) (go_if (fun c4=>?_) fun c4=>by rw [decide_eq_false (by omega)])))
   by_cases c5:docA m.I r.L a.I t.I e.I ≤ t.I + g.I
   ·rw [decide_eq_true c5,decide_eq_true (by omega)]
   ·rw [decide_eq_false c5,decide_eq_false (by omega)]
 ·cases h
def mu11:List D → Nat
 | [_,v,_,_,_,_,_,_,k,_,_]=>((v.L.length:Int) - k.I).toNat
 | [_,v,_,_,_,_,_,_,_,k,_,_,_]=>((v.L.length:Int) - k.I).toNat
 | _=>0
def mu7:List D → Nat
 | [_,_,_,h,_,_,t,_,_]=>(h.I - t.I).toNat
 | [_,_,_,h,_,_,_,t,_,_,_]=>(h.I - t.I).toNat
 | _=>0
def mu3:List D → Nat
 | [_,_,z,_,i,_,_]=>((z.L.length:Int) - i.I).toNat
 | [_,_,z,_,_,i,_,_,_]=>((z.L.length:Int) - i.I).toNat
 | _=>0
theorem ok30_11 (n:Nat):LoopSim C (n + 4) 30 (loopOf C.P 30 11) (mkL l30_11 G30_11):=by
 refine loop_ofK hC (sp:=sp30) (lp:=lp30) (sw:=sw30) ⟨ok54 n,trivial⟩ trivial 0 [] (by kernel_rfl) rfl (fun k hk=>by cases hk) (by kernel_rfl) mu11 fun ds rr hh=>?_
 unfold G30_11 at hh
 split at hh
 ·rename_i j v z h i o t c k' n' r
  obtain ⟨hp,hh⟩:=need_some hh
  rw [yes_iff] at hp
  obtain ⟨hj,hG,hi,ht,hk⟩:=hp
  have hG':=hG
  obtain ⟨hN,hv,hz,hvl,hzl,hh0,hh1⟩:=hG'
  refine ⟨by rw [fuelC]; show ((v.L.length:Int) - k'.I).toNat < _; omega,?_⟩
  rw [roundTK_head (j:=j) (n:=0) hj (by decide),show roundTK C (mkTab sp30 lp30 sw30) 30 (loopOf C.P 30 11) 0 l30_11 [.i 0,v,z,h,i,o,t,c,k',n',r] = _ from t30_11_0 v z h i o t c k' n' r]
  obtain ⟨k,hke⟩:∃ k:Nat,k'.I = k:=⟨k'.I.toNat,by omega⟩
  obtain ⟨i',hie⟩:∃ i':Nat,i.I = i':=⟨i.I.toNat,by omega⟩
  rw [hke] at hk
  simp only [hke,hie,Int.toNat_natCast,Nat.reduceAdd,ix_def,cov_mk,vehL_mk,zonL_mk] at hh hi ⊢
  have hmu:((v.L.length:Int) - ((k + 1:Nat):Int)).toNat < ((v.L.length:Int) - k'.I).toNat ∨ ¬ (k < v.L.length):=by omega
  refine rd_if (fun hlt=>?_) fun hge=>?_
  ·have hkl:k < v.L.length:=by omega
   have key:∀ x:Bool,(c.B || anyC n'.I r.L v.L (z.L.getD i' []) t.I k (v.L.length - k)) = (x || anyC n'.I r.L v.L (z.L.getD i' []) t.I (k + 1) (v.L.length - (k + 1))) → (G30_11 [.i 0,.l v.L,.l z.L,.i h.I,.i (i':Int),.b o.B,.i t.I,.b x,.i ((k + 1:Nat):Int),.i n'.I,.l r.L]).run = some rr:=fun x e=>by
    rw [e] at hh
    exact (need_yes ⟨rfl,hG,by simp only [I_i,L_l]; omega,ht,by simp only [I_i,L_l]; omega⟩).trans hh
   have hmu:((v.L.length:Int) - ((k + 1:Nat):Int)).toNat < ((v.L.length:Int) - k'.I).toNat:=by omega
   rw [wrap_succ (by omega)]
   refine rd_ite (fun c1=>rd_again (key true (by rw [c1]; simp)) hmu) fun c1=>?_
   exact rd_dec (by omega) (rd_dec (by omega) (rd_yes ⟨hN,veh_of hv hkl,zon_of hz (by omega),by omega,by omega⟩ (rd_again (key _ (by rw [c1,Bool.false_or,any_stepC hkl])) hmu)))
  ·rw [show v.L.length - k = 0 by omega] at hh
   have:anyC n'.I r.L v.L (z.L.getD i' []) t.I k 0 = false:=rfl
   rw [this,Bool.or_false] at hh
   exact rd_out hh
 ·rename_i j v z h m i o t c k' n' r g
  obtain ⟨hp,hh⟩:=need_some hh
  rw [yes_iff] at hp
  obtain ⟨hj,hG,hi,ht,hk,hm⟩:=hp
  have hG':=hG
  obtain ⟨hN,hv,hz,hvl,hzl,hh0,hh1⟩:=hG'
  refine ⟨by rw [fuelC]; show ((v.L.length:Int) - k'.I).toNat < _; omega,?_⟩
  rw [roundTK_head (j:=j) (n:=1) hj (by decide),show roundTK C (mkTab sp30 lp30 sw30) 30 (loopOf C.P 30 11) 0 l30_11 [.i 1,v,z,h,m,i,o,t,c,k',n',r,g] = _ from t30_11_1 v z h m i o t c k' n' r g]
  obtain ⟨k,hke⟩:∃ k:Nat,k'.I = k:=⟨k'.I.toNat,by omega⟩
  obtain ⟨i',hie⟩:∃ i':Nat,i.I = i':=⟨i.I.toNat,by omega⟩
  rw [hke] at hk
  simp only [hke,hie,hm,Int.toNat_natCast,Nat.reduceAdd,ix_def,cov_mk,vehL_mk,zonL_mk] at hh hi ⊢
  have hmu:((v.L.length:Int) - ((k + 1:Nat):Int)).toNat < ((v.L.length:Int) - k'.I).toNat ∨ ¬ (k < v.L.length):=by omega
  refine rd_if (fun hlt=>?_) fun hge=>?_
  ·have hkl:k < v.L.length:=by omega
   have key:∀ x:Bool,(c.B || anyC n'.I r.L v.L (z.L.getD i' []) t.I k (v.L.length - k)) = (x || anyC n'.I r.L v.L (z.L.getD i' []) t.I (k + 1) (v.L.length - (k + 1))) → (G30_11 [.i 1,.l v.L,.l z.L,.i h.I,.i g.L.length,.i (i':Int),.b o.B,.i t.I,.b x,.i ((k + 1:Nat):Int),.i n'.I,.l r.L,.l g.L]).run = some rr:=fun x e=>by
    rw [e] at hh
    exact (need_yes ⟨rfl,hG,by simp only [I_i,L_l]; omega,ht,by simp only [I_i,L_l]; omega,rfl⟩).trans hh
   have hmu:((v.L.length:Int) - ((k + 1:Nat):Int)).toNat < ((v.L.length:Int) - k'.I).toNat:=by omega
   rw [wrap_succ (by omega)]
   refine rd_ite (fun c1=>rd_again (key true (by rw [c1]; simp)) hmu) fun c1=>?_
   exact rd_dec (by omega) (rd_dec (by omega) (rd_yes ⟨hN,veh_of hv hkl,zon_of hz (by omega),by omega,by omega⟩ (rd_again (key _ (by rw [c1,Bool.false_or,any_stepC hkl])) hmu)))
  ·rw [show v.L.length - k = 0 by omega] at hh
   have:anyC n'.I r.L v.L (z.L.getD i' []) t.I k 0 = false:=rfl
   rw [this,Bool.or_false] at hh
   exact rd_out hh
 ·cases hh
theorem ok30_7 (n:Nat):LoopSim C (n + 4) 30 (loopOf C.P 30 7) (mkL l30_7 G30_7):=by
 have hby:Try.prog.types[57].bytes = 24:=by kernel_rfl
 refine loop_ofK hC (sp:=sp30) (lp:=lp30) (sw:=sw30) ⟨ok54 n,trivial⟩ trivial 0 [11] (by kernel_rfl) (by kernel_rfl) (fun k hk L hL=>by simp at hk; subst hk; cases hL; exact ok30_11 n) (by kernel_rfl) mu7 fun ds rr hh=>?_
 unfold G30_7 at hh
 split at hh
 ·rename_i j v z h i o t n' r
  obtain ⟨hp,hh⟩:=need_some hh
  rw [yes_iff] at hp
  obtain ⟨hj,hG,hi,ht,ho⟩:=hp
  have hG':=hG
  obtain ⟨hN,hv,hz,hvl,hzl,hh0,hh1⟩:=hG'
  refine ⟨by rw [fuelC]; show (h.I - t.I).toNat < _; omega,?_⟩
  rw [roundTK_head (j:=j) (n:=0) hj (by decide),show roundTK C (mkTab sp30 lp30 sw30) 30 (loopOf C.P 30 7) 0 l30_7 [.i 0,v,z,h,i,o,t,n',r] = _ from t30_7_0 v z h i o t n' r]
  obtain ⟨i',hie⟩:∃ i':Nat,i.I = i':=⟨i.I.toNat,by omega⟩
  simp only [hie,ho,Int.toNat_natCast,Int.toNat_zero,Nat.sub_zero,Bool.false_or] at hh hi ⊢
  refine rd_if (fun hlt=>?_) fun hge=>?_
  ·have hmu:(h.I - (t.I + 1)).toNat < (h.I - t.I).toNat:=by omega
   rw [wrap_id (x:=t.I + 1) (by omega) (by omega)]
   rw [show h.I.toNat - t.I.toNat = (h.I.toNat - (t.I + 1).toNat) + 1 by omega] at hh
   simp only [refT] at hh
   refine rd_yes ⟨trivial,hG,by omega,by omega,by omega,by omega⟩ (rd_ite (fun c1=>?_) fun c1=>?_)
   ·have e:gapT (i':Int) t.I (secsF n'.I r.L v.L (z.L.getD i' []) t.I) ([],false) = ([],false):=by
     have:secsF n'.I r.L v.L (z.L.getD i' []) t.I = true:=c1
     unfold gapT
     rw [this]; rfl
    rw [e] at hh
    refine rd_again ((need_yes ⟨rfl,hG,by simp only [I_i,L_l]; omega,by simp only [I_i]; omega,rfl⟩).trans ?_) hmu
    simp only [I_i,L_l,Int.toNat_natCast]
    exact hh
   ·have e:gapT (i':Int) t.I (secsF n'.I r.L v.L (z.L.getD i' []) t.I) ([],false) = ([[.i (i':Int),.i t.I,.i (t.I + 1)]],true):=by
     have:secsF n'.I r.L v.L (z.L.getD i' []) t.I = false:=c1
     unfold gapT
     rw [this]; rfl
    rw [e] at hh
    have hne:=(refT_len (secsF n'.I r.L v.L (z.L.getD i' [])) (i':Int) (h.I.toNat - (t.I + 1).toNat) (t.I + 1) ([[.i (i':Int),.i t.I,.i (t.I + 1)]],true)).1
    rw [empty_false (Nat.lt_of_lt_of_le (by simp) hne)] at hh
    refine rd_true rfl (rd_need rfl (rd_false rfl (rd_need rfl (rd_need rfl (rd_need rfl (rd_again ((need_yes ⟨rfl,hG,by simp only [I_i,L_l]; omega,by simp only [I_i]; omega,rfl,by simp only [L_l]; exact Nat.zero_lt_one,by simp only [I_i]; omega⟩).trans ?_) hmu))))))
    simp only [I_i,L_l,B_b,Int.toNat_natCast]
    exact hh
  ·rw [show h.I.toNat - t.I.toNat = 0 by omega] at hh
   exact rd_out hh
 ·rename_i j v z h m i o t n' r g
  obtain ⟨hp,hh⟩:=need_some hh
  rw [yes_iff] at hp
  obtain ⟨hj,hG,hi,ht,hm,hg0,hmb⟩:=hp
  have hG':=hG
  obtain ⟨hN,hv,hz,hvl,hzl,hh0,hh1⟩:=hG'
  refine ⟨by rw [fuelC]; show (h.I - t.I).toNat < _; omega,?_⟩
  rw [roundTK_head (j:=j) (n:=1) hj (by decide),show roundTK C (mkTab sp30 lp30 sw30) 30 (loopOf C.P 30 7) 0 l30_7 [.i 1,v,z,h,m,i,o,t,n',r,g] = _ from t30_7_1 v z h m i o t n' r g]
  obtain ⟨i',hie⟩:∃ i':Nat,i.I = i':=⟨i.I.toNat,by omega⟩
  rw [hm] at hmb
  simp only [hie,hm,Int.toNat_natCast,Int.toNat_zero,Nat.sub_zero,Bool.false_or,upd3'] at hh hi hmb ⊢
  refine rd_if (fun hlt=>?_) fun hge=>?_
  ·have hmu:(h.I - (t.I + 1)).toNat < (h.I - t.I).toNat:=by omega
   rw [wrap_id (x:=t.I + 1) (by omega) (by omega)]
   rw [show h.I.toNat - t.I.toNat = (h.I.toNat - (t.I + 1).toNat) + 1 by omega] at hh
   simp only [refT] at hh
   have hnext:∀ (x:List (List D)) (b:Bool),gapT (i':Int) t.I (secsF n'.I r.L v.L (z.L.getD i' []) t.I) (g.L,o.B) = (x,b) → (G30_7 [.i 1,.l v.L,.l z.L,.i h.I,.i x.length,.i (i':Int),.b b,.i (t.I + 1),.i n'.I,.l r.L,.l x]).run = some rr:=fun x b e=>by
    have h1:=gapT_len (i':Int) t.I (secsF n'.I r.L v.L (z.L.getD i' []) t.I) (g.L,o.B)
    rw [e] at hh h1
    simp only at h1
    refine (need_yes ⟨rfl,hG,by simp only [I_i,L_l]; omega,by simp only [I_i]; omega,rfl,by simp only [L_l]; omega,by simp only [I_i]; omega⟩).trans ?_
    simp only [I_i,L_l,B_b,Int.toNat_natCast]
    exact hh
   refine rd_yes ⟨rfl,hG,by omega,by omega,⟨by omega,by omega⟩,trivial⟩ (rd_ite (fun c1=>?_) fun c1=>?_)
   ·have hs:secsF n'.I r.L v.L (z.L.getD i' []) t.I = true:=c1
    exact rd_again (hnext _ _ (by unfold gapT; rw [hs]; rfl)) hmu
   ·have hs:secsF n'.I r.L v.L (z.L.getD i' []) t.I = false:=c1
    refine rd_not (fun c2=>?_) fun c2=>?_
    ·refine rd_need rfl (rd_false rfl ?_)
     simp only [List.take_length]
     simp only [List.length_cons,List.length_nil,Nat.zero_add]
     rw [show (((g.L.length + 1:Nat):Int) - 1) = (g.L.length:Int) by omega,wrap_id (x:=(g.L.length:Int)) (by omega) (by omega)]
     simp only [Int.toNat_natCast]
     rw [get_last,set_last]
     refine rd_dec (by rw [hby]; omega) (rd_dec (by omega) (rd_dec (by simp) (rd_again ?_ hmu)))
     have:=hnext (g.L ++ [[.i (i':Int),.i t.I,.i (t.I + 1)]]) true (by unfold gapT; rw [hs]; simp only [Bool.false_eq_true,if_false]; rw [if_neg (by rw [c2]; simp)])
     simp only [List.length_append,List.length_cons,List.length_nil,Nat.zero_add] at this
     exact this
    ·have hw:IntKind.i64.wrap ((g.L.length:Int) - 1) = (g.L.length:Int) - 1:=wrap_pred (by omega)
     simp only [hw,toNat_pred,setTo_def]
     refine rd_dec (by omega) (rd_dec (by omega) (rd_again ?_ hmu))
     have:=hnext (setTo g.L (t.I + 1)) o.B (by unfold gapT; rw [hs]; simp only [Bool.false_eq_true,if_false]; rw [if_pos c2,c2])
     rw [setTo_len] at this
     exact this
  ·rw [show h.I.toNat - t.I.toNat = 0 by omega] at hh
   exact rd_out hh
 ·cases hh
theorem refZ_len (n:Int) (r v z:List (List D)) (h:Int):∀ (k i:Nat) (g:List (List D)),g.length ≤ (refZ n r v z h i k g).length ∧ (refZ n r v z h i k g).length ≤ g.length + k * h.toNat
 | 0,_,g=>⟨Nat.le_refl _,by simp only [refZ]; omega⟩
 | k + 1,i,g=>by
   have h1:=refZ_len n r v z h k (i + 1) (refT (secsF n r v (z.getD i [])) i h.toNat 0 (g,false)).1
   have h2:=refT_len (secsF n r v (z.getD i [])) i h.toNat 0 (g,false)
   simp only [refZ]
   rw [Nat.succ_mul]
   simp only at h2
   omega
theorem ok30_3 (n:Nat):LoopSim C (n + 4) 30 (loopOf C.P 30 3) (mkL l30_3 G30_3):=by
 refine loop_ofK hC (sp:=sp30) (lp:=lp30) (sw:=sw30) ⟨ok54 n,trivial⟩ trivial 0 [7] (by kernel_rfl) (by kernel_rfl) (fun k hk L hL=>by simp at hk; subst hk; cases hL; exact ok30_7 n) (by kernel_rfl) mu3 fun ds rr hh=>?_
 unfold G30_3 at hh
 split at hh
 ·rename_i j v z h i n' r
  obtain ⟨hp,hh⟩:=need_some hh
  rw [yes_iff] at hp
  obtain ⟨hj,hG,hi0,hi1⟩:=hp
  have hG':=hG
  obtain ⟨hN,hv,hz,hvl,hzl,hh0,hh1⟩:=hG'
  refine ⟨by rw [fuelC]; show ((z.L.length:Int) - i.I).toNat < _; omega,?_⟩
  rw [roundTK_head (j:=j) (n:=0) hj (by decide),show roundTK C (mkTab sp30 lp30 sw30) 30 (loopOf C.P 30 3) 0 l30_3 [.i 0,v,z,h,i,n',r] = _ from t30_3_0 v z h i n' r]
  obtain ⟨k,hke⟩:∃ k:Nat,i.I = k:=⟨i.I.toNat,by omega⟩
  simp only [hke,Int.toNat_natCast,Int.toNat_zero,Nat.sub_zero] at hh hi0 hi1 ⊢
  refine rd_if (fun hlt=>?_) fun hge=>?_
  ·have hmu:((z.L.length:Int) - ((k + 1:Nat):Int)).toNat < ((z.L.length:Int) - i.I).toNat:=by omega
   rw [wrap_succ (by omega)]
   rw [show z.L.length - k = (z.L.length - (k + 1)) + 1 by omega] at hh
   simp only [refZ] at hh
   have hl:=(refT_len (secsF n'.I r.L v.L (z.L.getD k [])) (k:Int) h.I.toNat 0 ([],false)).2
   refine rd_yes ⟨trivial,hG,by omega,by omega,trivial⟩ (rd_ite (fun c=>?_) fun c=>?_)
   ·rw [empty_nil c] at hh
    exact rd_again ((need_yes ⟨rfl,hG,by simp only [I_i]; omega,by simp only [I_i,L_l]; omega⟩).trans hh) hmu
   ·have hpos:0 < (refT (secsF n'.I r.L v.L (z.L.getD k [])) (k:Int) h.I.toNat 0 ([],false)).1.length:=by
     rw [List.length_pos_iff]
     intro he
     rw [he] at c
     cases c
    rw [empty_false (Nat.lt_of_lt_of_le hpos (refZ_len n'.I r.L v.L z.L h.I _ _ _).1)] at hh
    simp only [List.length_nil,Nat.zero_add] at hl
    exact rd_again ((need_yes ⟨rfl,hG,by simp only [I_i,L_l]; omega,rfl,hpos,by simp only [I_i]; omega⟩).trans hh) hmu
  ·rw [show z.L.length - k = 0 by omega] at hh
   exact rd_out hh
 ·rename_i j v z h m i n' r g
  obtain ⟨hp,hh⟩:=need_some hh
  rw [yes_iff] at hp
  obtain ⟨hj,hG,hi,hm,hg0,hmb⟩:=hp
  have hG':=hG
  obtain ⟨hN,hv,hz,hvl,hzl,hh0,hh1⟩:=hG'
  refine ⟨by rw [fuelC]; show ((z.L.length:Int) - i.I).toNat < _; omega,?_⟩
  rw [roundTK_head (j:=j) (n:=1) hj (by decide),show roundTK C (mkTab sp30 lp30 sw30) 30 (loopOf C.P 30 3) 0 l30_3 [.i 1,v,z,h,m,i,n',r,g] = _ from t30_3_1 v z h m i n' r g]
  obtain ⟨k,hke⟩:∃ k:Nat,i.I = k:=⟨i.I.toNat,by omega⟩
  rw [hm] at hmb
  simp only [hke,hm,Int.toNat_natCast,Int.toNat_zero,Nat.sub_zero] at hh hi hmb ⊢
  refine rd_if (fun hlt=>?_) fun hge=>?_
  ·have hmu:((z.L.length:Int) - ((k + 1:Nat):Int)).toNat < ((z.L.length:Int) - i.I).toNat:=by omega
   rw [wrap_succ (by omega)]
   rw [show z.L.length - k = (z.L.length - (k + 1)) + 1 by omega] at hh
   simp only [refZ] at hh
   have hl:=refT_len (secsF n'.I r.L v.L (z.L.getD k [])) (k:Int) h.I.toNat 0 (g.L,false)
   simp only at hl
   refine rd_yes ⟨rfl,hG,by omega,by omega,trivial,hg0,by omega⟩ (rd_again ((need_yes ⟨rfl,hG,by simp only [I_i,L_l]; omega,rfl,by simp only [L_l]; omega,by simp only [I_i]; omega⟩).trans hh) hmu)
  ·rw [show z.L.length - k = 0 by omega] at hh
   exact rd_out hh
 ·cases hh
theorem ok30 (n:Nat):FnOK C (n + 5) 30 (mkF s30 G30):=by
 refine fn_ofS hC (sp:=sp30) (lp:=lp30) (sw:=sw30) ⟨ok54 n,trivial⟩ trivial (by kernel_rfl) [3] (by kernel_rfl) (by kernel_rfl) (fun k hk L hL=>by simp at hk; subst hk; cases hL; exact ok30_3 n) fun ds rr h=>?_
 unfold G30 at h
 split at h
 ·rename_i m r v z t
  obtain ⟨hp,h⟩:=need_some h
  rw [yes_iff] at hp
  refine (congrArg T.run (t30 m r v z t)).trans ?_
  rw [← h]
  simp only [Int.toNat_zero,Nat.sub_zero,Int.toNat_natCast]
  exact go_yes ⟨trivial,hp,by omega,by omega⟩ rfl
 ·cases h
set_option linter.unusedVariables false
set_option maxRecDepth 100000
theorem t106 (q:Nat) (a:D):fnTY C (tab106 q) 106 s106 [a] =
 T.need (yes (a.L.length < big ∧ (-1:Int) ≤ IntKind.i64.wrap ((a.L.length:Int) - (1:Int)) ∧ IntKind.i64.wrap ((a.L.length:Int) - (1:Int)) < (a.L.length:Int) ∧ List.length ([]:List (List D)) ≤ q)) (T.ite (decide (q < List.length ([]:List (List D)) + Int.toNat (IntKind.i64.wrap ((a.L.length:Int) - (1:Int)) + (1:Int)))) (T.leaf ([] ++ List.take (q + 1 - List.length ([]:List (List D))) (backY a.L (Int.toNat (IntKind.i64.wrap ((a.L.length:Int) - (1:Int)) + (1:Int)))))) (T.leaf ([] ++ backY a.L (Int.toNat (IntKind.i64.wrap ((a.L.length:Int) - (1:Int)) + (1:Int)))))):=by kernel_rfl
theorem t106_1 (q:Nat) (a b c:D):roundTY C (tab106 q) 106 (loopOf C.P 106 1) 1 l106_1 [a,b,c] =
 T.ite (decide (b.I ≥ (0:Int))) (T.need (decide ((0:Int) ≤ b.I ∧ b.I < (c.L.length:Int))) (T.ite (!!a.L.length == (tab106 q).q) (T.leaf (Rd.out Ex.ret [D.l (a.L ++ [[D.i b.I] ++ ([D.i (D.I (List.getD (List.getD c.L b.I.toNat []) 0 default))] ++ ([D.i (D.I (List.getD (List.getD c.L b.I.toNat []) (0 + 1) default))] ++ []) ++ []) ++ []]),D.l c.L])) (T.leaf (Rd.again [D.l (a.L ++ [[D.i b.I] ++ ([D.i (D.I (List.getD (List.getD c.L b.I.toNat []) 0 default))] ++ ([D.i (D.I (List.getD (List.getD c.L b.I.toNat []) (0 + 1) default))] ++ []) ++ []) ++ []]),D.i (IntKind.i64.wrap (b.I - (1:Int))),D.l c.L])))) (T.leaf (Rd.out (Ex.exit 0) [D.l a.L,D.l c.L])):=by kernel_rfl
theorem t105 (a:D):fnTW C tab105 105 s105 [a] =
 T.leaf [D.l a.L]:=by kernel_rfl
theorem t104 (a b c d e:D):fnT C tab104 104 s104 [a,b,c,d,e] =
 T.need (yes (d.L.length < big)) (T.need (yes (okT c.I ∧ okS e.I ∧ okY (backY d.L d.L.length))) (T.leaf [D.i (leavG c.I (backY d.L d.L.length) e.I)])):=by kernel_rfl
theorem t104_r3 (a b c d e f g h i:D):roundRT C tab104 104 (rangeOf C.P 104 3) 0 2 [2,3,4,9] h104_3 y106 [a,b,c,d,e,f] [g,h,i] =
 T.ite (decide (IntKind.i64.wrap (f.I + d.I) > h.I)) (T.ite (decide (f.I < i.I)) (T.leaf (Rd.again [D.i a.I,D.i b.I,D.i c.I,D.i d.I,D.l e.L,D.i (IntKind.i64.wrap (h.I - d.I))],[])) (T.leaf (Rd.again [D.i a.I,D.i b.I,D.i c.I,D.i d.I,D.l e.L,D.i f.I],[]))) (T.leaf (Rd.again [D.i a.I,D.i b.I,D.i c.I,D.i d.I,D.l e.L,D.i f.I],[])):=by kernel_rfl
theorem t103 (q:Nat) (a b c d:D):fnTY C (tab103 q) 103 s103 [a,b,c,d] =
 T.need (yes (okR b.L ∧ okU d.I ∧ (b.L.length:Int) = (b.L.length:Int) ∧ (0:Int) ≤ (0:Int) ∧ (0:Int) ≤ (b.L.length:Int) ∧ List.length ([]:List (List D)) ≤ q)) (T.ite (decide (q < List.length ([]:List (List D)) + List.length (backF b.L c.I d.I (Int.toNat (0:Int)) (b.L.length - Int.toNat (0:Int))))) (T.leaf ([] ++ List.take (q + 1 - List.length ([]:List (List D))) (backF b.L c.I d.I (Int.toNat (0:Int)) (b.L.length - Int.toNat (0:Int))))) (T.leaf ([] ++ backF b.L c.I d.I (Int.toNat (0:Int)) (b.L.length - Int.toNat (0:Int))))):=by kernel_rfl
theorem t103_1 (q:Nat) (a b c d e f:D):roundTY C (tab103 q) 103 (loopOf C.P 103 1) 2 l103_1 [a,b,c,d,e,f] =
 T.ite (decide (d.I < c.I)) (T.need (decide ((0:Int) ≤ d.I ∧ d.I < (b.L.length:Int))) (T.ite (D.I (List.getD (List.getD b.L d.I.toNat []) (0 + 1) default) == e.I) (T.need (yes (okT (D.I (List.getD (List.getD b.L d.I.toNat []) (0 + 1 + 1) default)) ∧ okS (IntKind.i64.wrap (IntKind.i64.wrap ((0:Int) - f.I) - D.I (List.getD (List.getD b.L d.I.toNat []) (0 + 1 + 1) default))) ∧ okC (D.L (List.getD (List.getD b.L d.I.toNat []) (0 + 1 + 1 + 1) default)))) (T.ite (!!a.L.length == (tab103 q).q) (T.leaf (Rd.out Ex.ret [D.l (a.L ++ [[D.i (D.I (List.getD (List.getD b.L d.I.toNat []) 0 default))] ++ ([D.i (IntKind.i64.wrap ((0:Int) - leavF (D.L (List.getD (List.getD b.L d.I.toNat []) (0 + 1 + 1 + 1) default)) (D.I (List.getD (List.getD b.L d.I.toNat []) (0 + 1 + 1) default)) (List.length (D.L (List.getD (List.getD b.L d.I.toNat []) (0 + 1 + 1 + 1) default))) (IntKind.i64.wrap (IntKind.i64.wrap ((0:Int) - f.I) - D.I (List.getD (List.getD b.L d.I.toNat []) (0 + 1 + 1) default)))))] ++ []) ++ [] ++ []]),D.i e.I,D.i f.I])) (T.leaf (Rd.again [D.l (a.L ++ [[D.i (D.I (List.getD (List.getD b.L d.I.toNat []) 0 default))] ++ ([D.i (IntKind.i64.wrap ((0:Int) - leavF (D.L (List.getD (List.getD b.L d.I.toNat []) (0 + 1 + 1 + 1) default)) (D.I (List.getD (List.getD b.L d.I.toNat []) (0 + 1 + 1) default)) (List.length (D.L (List.getD (List.getD b.L d.I.toNat []) (0 + 1 + 1 + 1) default))) (IntKind.i64.wrap (IntKind.i64.wrap ((0:Int) - f.I) - D.I (List.getD (List.getD b.L d.I.toNat []) (0 + 1 + 1) default)))))] ++ []) ++ [] ++ []]),D.l b.L,D.i c.I,D.i (IntKind.i64.wrap (d.I + (1:Int))),D.i e.I,D.i f.I])))) (T.leaf (Rd.again [D.l a.L,D.l b.L,D.i c.I,D.i (IntKind.i64.wrap (d.I + (1:Int))),D.i e.I,D.i f.I])))) (T.leaf (Rd.out (Ex.exit 0) [D.l a.L,D.i e.I,D.i f.I])):=by kernel_rfl
theorem t102 (a b c d:D):fnTW C tab102 102 s102 [a,b,c,d] =
 T.leaf [D.i c.I,D.l d.L,D.i a.I,D.i b.I]:=by kernel_rfl
theorem t1073 (a b c d e:D):fnT C tab1073 73 s1073 [a,b,c,d,e] =
 T.need (decide ((0:Int) ≤ a.I ∧ a.I = a.I ∧ a.I ≤ (2:Int) ^ 40 ∧ (↑Try.prog.types[3].bytes:Int) * a.I ≤ (2:Int) ^ 46)) (T.need (yes ((↑(List.length (List.replicate a.I.toNat [D.i 0])):Int) = (↑(Int.toNat (↑(List.length (List.replicate a.I.toNat [D.i 0])):Int)):Int) ∧ Int.toNat (↑(List.length (List.replicate a.I.toNat [D.i 0])):Int) ≤ List.length (List.replicate a.I.toNat [D.i 0]) ∧ (0:Int) ≤ (0:Int) ∧ (0:Int) ≤ (↑(List.length (List.replicate a.I.toNat [D.i 0])):Int) ∧ (↑(List.length (List.replicate a.I.toNat [D.i 0])):Int) < (1099511627776:Int))) (T.need (decide ((0:Int) ≤ b.I ∧ b.I < (↑(Int.toNat (↑(Int.toNat (↑(List.length (List.replicate a.I.toNat [D.i 0])):Int)):Int)):Int))) (T.need (decide (b.I.toNat < List.length (fillF (9223372036854775807:Int) (Int.toNat (0:Int)) (Int.toNat (↑(List.length (List.replicate a.I.toNat [D.i 0])):Int) - Int.toNat (0:Int)) (List.replicate a.I.toNat [D.i 0])))) (T.need (yes (haltB (Int.toNat (↑(Int.toNat (↑(Int.toNat (↑(List.length (List.replicate a.I.toNat [D.i 0])):Int)):Int)):Int)) e.L (mkSr (D.l (List.set (fillF (9223372036854775807:Int) (Int.toNat (0:Int)) (Int.toNat (↑(List.length (List.replicate a.I.toNat [D.i 0])):Int) - Int.toNat (0:Int)) (List.replicate a.I.toNat [D.i 0])) b.I.toNat (updC (List.getD (fillF (9223372036854775807:Int) (Int.toNat (0:Int)) (Int.toNat (↑(List.length (List.replicate a.I.toNat [D.i 0])):Int) - Int.toNat (0:Int)) (List.replicate a.I.toNat [D.i 0])) b.I.toNat []) [D.i c.I] 0 0 (List.length [K.int IntKind.i64])))) (D.i (↑(List.length [[D.i b.I,D.i c.I]]):Int)) (D.l [[D.i b.I,D.i c.I]])))) (T.leaf [D.i (↑(Int.toNat (↑(Int.toNat (↑(Int.toNat (↑(Int.toNat (↑(List.length (List.replicate a.I.toNat [D.i 0])):Int)):Int)):Int)):Int)):Int),D.l (resB (Int.toNat (↑(Int.toNat (↑(Int.toNat (↑(List.length (List.replicate a.I.toNat [D.i 0])):Int)):Int)):Int)) e.L (mkSr (D.l (List.set (fillF (9223372036854775807:Int) (Int.toNat (0:Int)) (Int.toNat (↑(List.length (List.replicate a.I.toNat [D.i 0])):Int) - Int.toNat (0:Int)) (List.replicate a.I.toNat [D.i 0])) b.I.toNat (updC (List.getD (fillF (9223372036854775807:Int) (Int.toNat (0:Int)) (Int.toNat (↑(List.length (List.replicate a.I.toNat [D.i 0])):Int) - Int.toNat (0:Int)) (List.replicate a.I.toNat [D.i 0])) b.I.toNat []) [D.i c.I] 0 0 (List.length [K.int IntKind.i64])))) (D.i (↑(List.length [[D.i b.I,D.i c.I]]):Int)) (D.l [[D.i b.I,D.i c.I]])))]))))):=by kernel_rfl
theorem t1073_3 (a b c d e f g h:D):roundT C tab1073 73 (loopOf C.P 73 3) l1073_3 [a,b,c,d,e,f,g,h] =
 T.ite (decide (d.I < c.I)) (T.need (decide ((0:Int) ≤ d.I ∧ d.I < (g.I.toNat:Int))) (T.need (decide (d.I.toNat < h.L.length)) (T.leaf (Rd.again [D.i a.I,D.l b.L,D.i c.I,D.i (IntKind.i64.wrap (d.I + (1:Int))),D.i e.I,D.i f.I,D.i (g.I.toNat:Int),D.l (List.set h.L d.I.toNat (updC (List.getD h.L d.I.toNat []) [D.i 9223372036854775807] 0 0 (List.length [K.int IntKind.i64])))])))) (T.leaf (Rd.out (Ex.exit 0) [D.i a.I,D.l b.L,D.i e.I,D.i f.I,D.i (g.I.toNat:Int),D.l h.L])):=by kernel_rfl
theorem t1073_9 (a b c d e f:D):roundT C tab1073 73 (loopOf C.P 73 9) l1073_9 [a,b,c,d,e,f] =
 T.need (decide (e.I.toNat ≤ f.L.length)) (T.ite (decide ((↑(List.length (List.take e.I.toNat f.L)):Int) > (0:Int))) (T.need (yes (1 ≤ Int.toNat (e.I.toNat:Int) ∧ Int.toNat (e.I.toNat:Int) ≤ f.L.length ∧ Int.toNat (e.I.toNat:Int) < 1099511627776)) (T.need (decide ((0:Int) ≤ ix (List.getD (popR f.L (Int.toNat (e.I.toNat:Int))) (Int.toNat (e.I.toNat:Int) - 1) []) 0 ∧ ix (List.getD (popR f.L (Int.toNat (e.I.toNat:Int))) (Int.toNat (e.I.toNat:Int) - 1) []) 0 < (c.I.toNat:Int))) (T.need (decide (Int.toNat (ix (List.getD (popR f.L (Int.toNat (e.I.toNat:Int))) (Int.toNat (e.I.toNat:Int) - 1) []) 0) < d.L.length)) (T.ite (decide (ix (List.getD (popR f.L (Int.toNat (e.I.toNat:Int))) (Int.toNat (e.I.toNat:Int) - 1) []) 1 > D.I (List.getD (List.getD d.L (Int.toNat (ix (List.getD (popR f.L (Int.toNat (e.I.toNat:Int))) (Int.toNat (e.I.toNat:Int) - 1) []) 0)) []) 0 default))) (T.leaf (Rd.again [D.i a.I,D.l b.L,D.i (c.I.toNat:Int),D.l d.L,D.i (↑(Int.toNat (↑(Int.toNat (e.I.toNat:Int) - 1):Int)):Int),D.l (popR f.L (Int.toNat (e.I.toNat:Int)))])) (T.need (yes (okR b.L ∧ okU (ix (List.getD (popR f.L (Int.toNat (e.I.toNat:Int))) (Int.toNat (e.I.toNat:Int) - 1) []) 1))) (T.need (yes (Int.toNat (c.I.toNat:Int) ≤ d.L.length ∧ Int.toNat (↑(Int.toNat (↑(Int.toNat (e.I.toNat:Int) - 1):Int)):Int) ≤ List.length (popR f.L (Int.toNat (e.I.toNat:Int))) ∧ Int.toNat (↑(Int.toNat (↑(Int.toNat (e.I.toNat:Int) - 1):Int)):Int) + List.length (backF b.L (ix (List.getD (popR f.L (Int.toNat (e.I.toNat:Int))) (Int.toNat (e.I.toNat:Int) - 1) []) 0) (ix (List.getD (popR f.L (Int.toNat (e.I.toNat:Int))) (Int.toNat (e.I.toNat:Int) - 1) []) 1) 0 b.L.length) < 549755813888 ∧ ∀ (e_1:List D),e_1 ∈ backF b.L (ix (List.getD (popR f.L (Int.toNat (e.I.toNat:Int))) (Int.toNat (e.I.toNat:Int) - 1) []) 0) (ix (List.getD (popR f.L (Int.toNat (e.I.toNat:Int))) (Int.toNat (e.I.toNat:Int) - 1) []) 1) 0 b.L.length → (0:Int) ≤ ix e_1 0 ∧ ix e_1 0 < (↑(Int.toNat (c.I.toNat:Int)):Int))) (T.leaf (Rd.again [D.i a.I,D.l b.L,D.i (↑(Int.toNat (↑(Int.toNat (c.I.toNat:Int)):Int)):Int),D.l (relF (backF b.L (ix (List.getD (popR f.L (Int.toNat (e.I.toNat:Int))) (Int.toNat (e.I.toNat:Int) - 1) []) 0) (ix (List.getD (popR f.L (Int.toNat (e.I.toNat:Int))) (Int.toNat (e.I.toNat:Int) - 1) []) 1) 0 b.L.length) (mkSr (D.l d.L) (D.i (↑(Int.toNat (↑(Int.toNat (e.I.toNat:Int) - 1):Int)):Int)) (D.l (popR f.L (Int.toNat (e.I.toNat:Int)))))).o,D.i (↑(Int.toNat (↑(relF (backF b.L (ix (List.getD (popR f.L (Int.toNat (e.I.toNat:Int))) (Int.toNat (e.I.toNat:Int) - 1) []) 0) (ix (List.getD (popR f.L (Int.toNat (e.I.toNat:Int))) (Int.toNat (e.I.toNat:Int) - 1) []) 1) 0 b.L.length) (mkSr (D.l d.L) (D.i (↑(Int.toNat (↑(Int.toNat (e.I.toNat:Int) - 1):Int)):Int)) (D.l (popR f.L (Int.toNat (e.I.toNat:Int)))))).k:Int)):Int),D.l (relF (backF b.L (ix (List.getD (popR f.L (Int.toNat (e.I.toNat:Int))) (Int.toNat (e.I.toNat:Int) - 1) []) 0) (ix (List.getD (popR f.L (Int.toNat (e.I.toNat:Int))) (Int.toNat (e.I.toNat:Int) - 1) []) 1) 0 b.L.length) (mkSr (D.l d.L) (D.i (↑(Int.toNat (↑(Int.toNat (e.I.toNat:Int) - 1):Int)):Int)) (D.l (popR f.L (Int.toNat (e.I.toNat:Int)))))).q])))))))) (T.leaf (Rd.out (Ex.exit 2) [D.i (c.I.toNat:Int),D.l d.L]))):=by kernel_rfl
theorem t1073_r14 (a b c d e f g h i j:D):roundRT C tab1073 73 (rangeOf C.P 73 14) 0 5 [2,6,7,9,51] h1073_14 y103 [a,b,c,d,e,f,g,h] [i,j] =
 T.need (decide ((0:Int) ≤ i.I ∧ i.I < (e.I.toNat:Int))) (T.need (decide (i.I.toNat < f.L.length)) (T.ite (decide (j.I < D.I (List.getD (List.getD f.L i.I.toNat []) 0 default))) (T.need (decide ((0:Int) ≤ i.I ∧ i.I < (e.I.toNat:Int))) (T.need (decide (i.I.toNat < f.L.length)) (T.need (yes (Int.toNat (g.I.toNat:Int) ≤ h.L.length ∧ Int.toNat (g.I.toNat:Int) < 1099511627776)) (T.leaf (Rd.again [D.i a.I,D.l b.L,D.i c.I,D.l d.L,D.i (e.I.toNat:Int),D.l (List.set f.L i.I.toNat (updC (List.getD f.L i.I.toNat []) [D.i j.I] 0 0 (List.length [K.int IntKind.i64]))),D.i (↑(Int.toNat (↑(Int.toNat (g.I.toNat:Int) + 1):Int)):Int),D.l (pushR h.L (Int.toNat (g.I.toNat:Int)) i.I j.I)],[]))))) (T.leaf (Rd.again [D.i a.I,D.l b.L,D.i c.I,D.l d.L,D.i (e.I.toNat:Int),D.l f.L,D.i (g.I.toNat:Int),D.l h.L],[])))):=by kernel_rfl
theorem t97 (a b c d:D):fnT C tab97 97 s97 [a,b,c,d] =
 T.need (yes ((0:Int) ≤ a.I ∧ a.I < (1099511627776:Int) ∧ (0:Int) ≤ c.I ∧ c.I < a.I ∧ haltB a.I.toNat b.L (startS a.I c.I (IntKind.i64.wrap ((0:Int) - d.I))))) (T.need (yes ((a.I.toNat:Int) = (↑(Int.toNat (a.I.toNat:Int)):Int) ∧ Int.toNat (a.I.toNat:Int) ≤ List.length (resB a.I.toNat b.L (startS a.I c.I (IntKind.i64.wrap ((0:Int) - d.I)))) ∧ (0:Int) ≤ (0:Int) ∧ (0:Int) ≤ (a.I.toNat:Int) ∧ (a.I.toNat:Int) < (1099511627776:Int) ∧ okN (resB a.I.toNat b.L (startS a.I c.I (IntKind.i64.wrap ((0:Int) - d.I)))))) (T.leaf [D.i (↑(Int.toNat (↑(Int.toNat (a.I.toNat:Int)):Int)):Int),D.l (negF (Int.toNat (0:Int)) (Int.toNat (a.I.toNat:Int) - Int.toNat (0:Int)) (resB a.I.toNat b.L (startS a.I c.I (IntKind.i64.wrap ((0:Int) - d.I)))))])):=by kernel_rfl
theorem t97_3 (a b c d:D):roundT C tab97 97 (loopOf C.P 97 3) l97_3 [a,b,c,d] =
 T.ite (decide (c.I < b.I)) (T.need (decide ((0:Int) ≤ c.I ∧ c.I < (a.I.toNat:Int))) (T.need (decide (c.I.toNat < d.L.length)) (T.need (decide ((0:Int) ≤ c.I ∧ c.I < (a.I.toNat:Int))) (T.need (decide (c.I.toNat < d.L.length)) (T.leaf (Rd.again [D.i (a.I.toNat:Int),D.i b.I,D.i (IntKind.i64.wrap (c.I + (1:Int))),D.l (List.set d.L c.I.toNat (updC (List.getD d.L c.I.toNat []) [D.i (IntKind.i64.wrap ((0:Int) - D.I (List.getD (List.getD d.L c.I.toNat []) 0 default)))] 0 0 (List.length [K.int IntKind.i64])))])))))) (T.leaf (Rd.out (Ex.exit 0) [D.i (a.I.toNat:Int),D.l d.L])):=by kernel_rfl
set_option maxRecDepth 100000
set_option linter.unusedVariables false
theorem backY_len (l:List (List D)):∀ k,(backY l k).length = k
 | 0=>rfl
 | k + 1=>by simp only [backY,List.length_cons,backY_len l k]
theorem leavG_back {l:List (List D)} {c:Int}:∀ (k:Nat) (s:Int),leavG c (backY l k) s = leavF l c k s
 | 0,_=>rfl
 | k + 1,s=>leavG_back k _
theorem okY_back {l:List (List D)} (h:okC l):∀ k,okY (backY l k)
 | 0=>fun e he=>by cases he
 | k + 1=>fun e he=>by
   simp only [backY] at he
   rcases List.mem_cons.1 he with rfl | he
   ·exact h.2 k
   ·exact okY_back h k e he
theorem leavF_okS {l:List (List D)} {c:Int} (hc:okT c) (hl:okC l):∀ (k:Nat) (s:Int),okS s → okS (leavF l c k s)
 | 0,_,h=>h
 | k + 1,s,h=>by
   simp only [leavF]
   refine leavF_okS hc hl k _ ?_
   have:=hl.2 k
   unfold okS okT at *
   split <;> omega
theorem ok106_1 (q n:Nat):LoopSimY C n 1 106 (loopOf C.P 106 1) (some y106) q (mkLY 1 l106_1 (G106_1 q)):=by
 refine loop_ofY hC (sp:=sp106) (lp:=lp106 q) (sw:=sw106) (Y:=y106) (yOK_mk _ _ _) trivial trivial 1 [] (by kernel_rfl) rfl (by kernel_rfl) (fun k hk=>by cases hk) (by kernel_rfl) (fun ds=>((ds.getD 1 default).I + 1).toNat) fun ds rr h=>?_
 unfold G106_1 at h
 split at h
 ·rename_i g i l
  obtain ⟨hp,h⟩:=need_some h
  rw [yes_iff] at hp
  obtain ⟨hl,hi0,hi1,hg⟩:=hp
  have hb:=big_eq
  refine ⟨by rw [fuelC]; simp; omega,?_⟩
  rw [show roundTY C (mkTabY sp106 (lp106 q) sw106 y106 q) 106 (loopOf C.P 106 1) 1 l106_1 [g,i,l] = _ from t106_1 q g i l]
  have hq:(tab106 q).q = q:=rfl
  simp only [ix_def,Nat.reduceAdd,hq]
  refine rd_if (fun hge=>?_) fun hlt=>?_
  ·obtain ⟨k,hk⟩:∃ k:Nat,i.I = k:=⟨i.I.toNat,by omega⟩
   have e1:(i.I + 1).toNat = k + 1:=by omega
   rw [e1] at h
   simp only [backY] at h
   simp only [hk,Int.toNat_natCast] at hi1 ⊢
   rw [wrap_pred (by omega)]
   refine rd_dec (by omega) (rd_ite (fun c2=>?_) fun c2=>?_)
   ·rw [Bool.not_not] at c2
    have c2:g.L.length = q:=by simpa using c2
    rw [run_ite,if_pos (by simp; omega)] at h
    rw [show q + 1 - g.L.length = 1 by omega] at h
    exact rd_out h
   ·rw [Bool.not_not] at c2
    have c2:g.L.length ≠ q:=by
     have:¬ (g.L.length == q) = true:=by rw [show (g.L.length == q) = false from c2]; simp
     simpa using this
    refine rd_again ((need_yes ⟨hl,by simp only [I_i]; omega,by simp only [I_i,L_l]; omega,by simp only [L_l,List.length_append,List.length_cons,List.length_nil]; omega⟩).trans ?_) (show ((k:Int) - 1 + 1).toNat < (i.I + 1).toNat by omega)
    simp only [I_i,L_l,show ((k:Int) - 1 + 1).toNat = k by omega,List.length_append,List.length_cons,List.length_nil,List.append_nil,List.append_assoc,List.cons_append,List.nil_append]
    rw [show q + 1 - g.L.length = (q + 1 - (g.L.length + (0 + 1))) + 1 by omega,List.take_succ_cons] at h
    rw [show g.L.length + (0 + 1) + k = g.L.length + (k + 1) by omega]
    exact h
  ·rw [show (i.I + 1).toNat = 0 by omega] at h
   simp only [backY,List.append_nil] at h
   rw [run_ite] at h
   split at h
   ·rename_i hc
    have:=of_decide_eq_true hc
    omega
   ·exact rd_out h
 ·cases h
theorem ok106 (n:Nat):IterOK C (n + 1) 106 y106 (mkFY s106 G106):=by
 refine iter_of hC (sp:=sp106) (lp:=lp106) (sw:=sw106) (Y:=y106) (yOK_mk _ _ _) trivial trivial (by kernel_rfl) [1] (by kernel_rfl) (by kernel_rfl) (by kernel_rfl) (fun q k hk L hL=>by
  simp at hk; subst hk; cases hL; exact ok106_1 q n) fun ds L h q=>?_
 unfold G106 at h
 split at h
 ·rename_i l
  obtain ⟨hp,h⟩:=need_some h
  rw [yes_iff] at hp
  cases h
  have hb:=big_eq
  have hw:IntKind.i64.wrap ((l.L.length:Int) - 1) = (l.L.length:Int) - 1:=wrap_pred (by omega)
  refine (congrArg T.run (t106 q l)).trans ?_
  rw [hw,show ((l.L.length:Int) - 1 + 1).toNat = l.L.length by omega]
  have hbl:=backY_len l.L l.L.length
  refine go_yes ⟨hp,by omega,by omega,by simp⟩ (go_if (fun c=>?_) fun c=>?_)
  ·simp only [List.nil_append,List.length_nil,Nat.sub_zero,run_leaf]
  ·have c:¬ q < l.L.length:=fun h=>c (by simpa using h)
   simp only [List.nil_append,run_leaf]
   rw [List.take_of_length_le (by omega)]
 ·cases h
theorem ok105 (n:Nat):FnOKW C (n + 1) 105 (mkFW s105 G105):=by
 refine fn_ofW hC (sp:=sp105) (lp:=lp105) (sw:=sw105) trivial trivial (by kernel_rfl) [] (by kernel_rfl) rfl (fun k hk=>by cases hk) fun ds r h=>?_
 unfold G105 at h
 split at h
 ·rename_i l
  exact (congrArg T.run (t105 l)).trans h
 ·cases h
theorem head106 (e:List D):y106.head e = y106.head [e.getD 0 default,e.getD 1 default,e.getD 2 default]:=by
 match e with
 | []=>rfl
 | [_]=>rfl
 | [_,_]=>rfl
 | _ :: _ :: _ :: _=>rfl
theorem fold104 (L:List (List D)):∀ (ds:List D) (rr:Ex × List D),(G104_3 L ds).run = some rr → FoldR (fun ds el=>(roundRT C tab104 104 (rangeOf C.P 104 3) 0 2 [2,3,4,9] h104_3 y106 ds el).run) y106.give (fun a b=>headA h104_3 a = headA h104_3 b) ds L rr.1 rr.2:=by
 induction L with
 | nil=>
   intro ds rr h
   unfold G104_3 at h
   split at h
   ·rename_i z a b c l s
    obtain ⟨-,h⟩:=need_some h
    cases h
    exact .nil (by rfl)
   ·cases h
 | cons e es ih=>
   intro ds rr h
   unfold G104_3 at h
   split at h
   ·rename_i z a b c l s
    obtain ⟨hp,h⟩:=need_some h
    rw [yes_iff] at hp
    obtain ⟨hc,hs,hY⟩:=hp
    have he:=hY e List.mem_cons_self
    have hes:okY es:=fun x hx=>hY x (List.mem_cons_of_mem _ hx)
    simp only [leavG] at h
    have key:∀ (i j k:D),j.I = ix e 1 → k.I = ix e 2 → ∃ ds',(roundRT C tab104 104 (rangeOf C.P 104 3) 0 2 [2,3,4,9] h104_3 y106 [z,a,b,c,l,s] [i,j,k]).run = some (.again ds',[]) ∧ (G104_3 es ds').run = some rr:=by
     intro i j k hj hk
     have ht:=congrArg T.run (t104_r3 z a b c l s i j k)
     rw [ht]
     have hnext:∀ x,okS x → (if s.I + c.I > ix e 1 ∧ s.I < ix e 2 then ix e 1 - c.I else s.I) = x → (G104_3 es [.i z.I,.i a.I,.i b.I,.i c.I,.l l.L,.i x]).run = some rr:=fun x hx hxe=>by
      refine (need_yes ⟨hc,hx,hes⟩).trans ?_
      rw [hxe] at h
      exact h
     unfold okS at hs hnext
     unfold okT at hc
     rw [wrap_id (x:=s.I + c.I) (by omega) (by omega),hj,hk,wrap_id (x:=ix e 1 - c.I) (by omega) (by omega)]
     by_cases c1:s.I + c.I > ix e 1
     ·by_cases c2:s.I < ix e 2
      ·exact ⟨_,go_pos c1 (go_pos c2 rfl),hnext _ (by omega) (if_pos ⟨c1,c2⟩)⟩
      ·exact ⟨_,go_pos c1 (go_neg c2 rfl),hnext _ (by omega) (if_neg fun hh=>c2 hh.2)⟩
     ·exact ⟨_,go_neg c1 rfl,hnext _ (by omega) (if_neg fun hh=>c1 hh.1)⟩
    obtain ⟨ds',k1,k2⟩:=key (e.getD 0 default) (e.getD 1 default) (e.getD 2 default) rfl rfl
    refine .again (x':=[]) (ds':=ds') ?_ (fun h=>by cases h) (ih _ _ k2)
    have:roundRT C tab104 104 (rangeOf C.P 104 3) 0 2 [2,3,4,9] h104_3 y106 [z,a,b,c,l,s] e = roundRT C tab104 104 (rangeOf C.P 104 3) 0 2 [2,3,4,9] h104_3 y106 [z,a,b,c,l,s] [e.getD 0 default,e.getD 1 default,e.getD 2 default]:=by
     unfold roundRT
     rw [head106 e]
    rw [this]
    exact k1
   ·cases h
theorem ok104_3 (n:Nat):CodeSim C (n + 1) 0 104 (rangeOf C.P 104 3).code none 0 (rangeS 0 [2,3,4,9] (rangeOf C.P 104 3).1 it104_3 h104_3 G104_3):=
 range_of hC (sp:=sp104) (lp:=lp104) (sw:=sw104) (rg:=rg104) (Y:=y106) (yOK_mk _ _ _) trivial ⟨ok105 n,trivial⟩ 3 0 2 [] (by kernel_rfl) rfl (by kernel_rfl) (by exact ⟨by kernel_rfl,by kernel_rfl⟩) (fun k hk=>by cases hk)
  (by kernel_rfl) (by kernel_rfl) (it:=it104_3) ⟨ok106 n,trivial⟩ fun L ds rr h=>fold104 L ds rr h
theorem ok104 (n:Nat):FnOK C (n + 2) 104 (mkF s104 G104):=by
 refine fn_ofR hC (sp:=sp104) (lp:=lp104) (sw:=sw104) (rg:=rg104) trivial ⟨ok105 n,trivial⟩ (by kernel_rfl) [] [3] (by kernel_rfl) rfl (by kernel_rfl) (by kernel_rfl) (fun k hk=>by cases hk) (fun k hk L hL=>by
  simp at hk; subst hk; cases hL; exact ok104_3 n) fun ds r h=>?_
 unfold G104 at h
 split at h
 ·rename_i a b c l s
  obtain ⟨hp,h⟩:=need_some h
  rw [yes_iff] at hp
  refine (congrArg T.run (t104 a b c l s)).trans ?_
  rw [leavG_back]
  exact go_yes hp.2.2.1 (go_yes ⟨hp.1,hp.2.1,okY_back hp.2.2 _⟩ h)
 ·cases h
theorem backF_step {r:List (List D)} {v t:Int} {j:Nat} (hj:j < r.length):backF r v t j (r.length - j) = if ix (r.getD j []) 1 = v then [.i (ix (r.getD j []) 0),.i (-(leaW (r.getD j []) (-t - ix (r.getD j []) 2)))] :: backF r v t (j + 1) (r.length - (j + 1)) else backF r v t (j + 1) (r.length - (j + 1)):=by
 rw [show r.length - j = (r.length - (j + 1)) + 1 by omega]
 rfl
theorem ok103_1 (q n:Nat):LoopSimY C (n + 2) 2 103 (loopOf C.P 103 1) (some y103) q (mkLY 2 l103_1 (G103_1 q)):=by
 refine loop_ofY hC (sp:=sp103) (lp:=lp103 q) (sw:=sw103) (Y:=y103) (yOK_mk _ _ _) ⟨ok104 n,trivial⟩ trivial 2 [] (by kernel_rfl) rfl (by kernel_rfl) (fun k hk=>by cases hk) (by kernel_rfl) (fun ds=>((ds.getD 2 default).I - (ds.getD 3 default).I).toNat) fun ds rr h=>?_
 unfold G103_1 at h
 split at h
 ·rename_i g r m i v t
  obtain ⟨hp,h⟩:=need_some h
  rw [yes_iff] at hp
  obtain ⟨hr,ht,hm,hi0,hi1,hg⟩:=hp
  have hrl:=hr.1
  refine ⟨by rw [fuelC]; simp; omega,?_⟩
  rw [show roundTY C (mkTabY sp103 (lp103 q) sw103 y103 q) 103 (loopOf C.P 103 1) 2 l103_1 [g,r,m,i,v,t] = _ from t103_1 q g r m i v t]
  obtain ⟨j,hj⟩:∃ j:Nat,i.I = j:=⟨i.I.toNat,by omega⟩
  have hq:(tab103 q).q = q:=rfl
  simp only [hj,hm,Int.toNat_natCast,ix_def,lx_def,Nat.reduceAdd,hq] at h hi0 hi1 ⊢
  have hnext:∀ {G':List (List D)},G'.length ≤ q → ((T.ite (decide (q < G'.length + (backF r.L v.I t.I (j + 1) (r.L.length - (j + 1))).length)) (T.leaf (Ex.ret,[D.l (G' ++ (backF r.L v.I t.I (j + 1) (r.L.length - (j + 1))).take (q + 1 - G'.length)),D.i v.I,D.i t.I]))
      (T.leaf (Ex.exit 0,[D.l (G' ++ backF r.L v.I t.I (j + 1) (r.L.length - (j + 1))),D.i v.I,D.i t.I]))).run = some rr) → j < r.L.length → (G103_1 q [D.l G',D.l r.L,D.i (r.L.length:Int),D.i ((j + 1:Nat):Int),D.i v.I,D.i t.I]).run = some rr:=fun {G'} hG' h hlt=>by
   refine (need_yes ⟨hr,ht,by simp only [I_i,L_l],by simp only [I_i]; omega,by simp only [I_i,L_l]; omega,hG'⟩).trans ?_
   simp only [I_i,L_l,Int.toNat_natCast]
   exact h
  have hmu:j < r.L.length → ((r.L.length:Int) - ((j + 1:Nat):Int)).toNat < (m.I - i.I).toNat:=fun _=>by rw [hj,hm]; omega
  refine rd_if (fun hlt=>?_) fun hge=>?_
  ·have hlt:j < r.L.length:=by omega
   rw [backF_step hlt] at h
   obtain ⟨hs,hc⟩:=hr.2 j hlt
   have ht2:okS (-t.I - ix (r.L.getD j []) 2):=by unfold okU okT okS at *; omega
   have he:=leavF_okS hs hc (lx (r.L.getD j []) 3).length _ ht2
   unfold okS at he ht2
   unfold okT at hs
   have hw1:IntKind.i64.wrap (0 - t.I) = -t.I:=by rw [Int.zero_sub]; unfold okU at ht; exact wrap_id (by omega) (by omega)
   rw [wrap_succ (by omega),hw1,wrap_id (x:=-t.I - ix (r.L.getD j []) 2) (by omega) (by omega),Int.zero_sub]
   refine rd_dec (by omega) (rd_ite (fun c1=>?_) fun c1=>?_)
   ·rw [beq_iff_eq] at c1
    rw [if_pos c1] at h
    simp only [List.length_cons] at h
    rw [wrap_id (x:=-(leavF _ _ _ _)) (by omega) (by omega)]
    refine rd_yes ⟨hs,ht2,hc⟩ (rd_ite (fun c2=>?_) fun c2=>?_)
    ·rw [Bool.not_not] at c2
     have c2:g.L.length = q:=by simpa using c2
     rw [run_ite,if_pos (by simp; omega)] at h
     rw [show q + 1 - g.L.length = 1 by omega] at h
     exact rd_out h
    ·rw [Bool.not_not] at c2
     have c2:g.L.length ≠ q:=by
      have:¬ (g.L.length == q) = true:=by rw [show (g.L.length == q) = false from c2]; simp
      simpa using this
     refine rd_again (hnext (by simp; omega) ?_ hlt) (hmu hlt)
     simp only [List.length_append,List.length_cons,List.length_nil,List.append_nil,List.append_assoc,List.cons_append,List.nil_append]
     rw [show q + 1 - g.L.length = (q + 1 - (g.L.length + (0 + 1))) + 1 by omega,List.take_succ_cons] at h
     rw [show g.L.length + (0 + 1) + (backF r.L v.I t.I (j + 1) (r.L.length - (j + 1))).length = g.L.length + ((backF r.L v.I t.I (j + 1) (r.L.length - (j + 1))).length + 1) by omega]
     exact h
   ·rw [beq_eq_false_iff_ne] at c1
    rw [if_neg c1] at h
    exact rd_again (hnext hg h hlt) (hmu hlt)
  ·rw [show r.L.length - j = 0 by omega] at h
   simp only [backF,List.length_nil,List.append_nil] at h
   rw [run_ite] at h
   split at h
   ·rename_i hc
    have:=of_decide_eq_true hc
    omega
   ·exact rd_out h
 ·cases h
theorem ok103 (n:Nat):IterOK C (n + 3) 103 y103 (mkFY s103 G103):=by
 refine iter_of hC (sp:=sp103) (lp:=lp103) (sw:=sw103) (Y:=y103) (yOK_mk _ _ _) ⟨ok104 n,trivial⟩ trivial (by kernel_rfl) [1] (by kernel_rfl) (by kernel_rfl) (by kernel_rfl) (fun q k hk L hL=>by
  simp at hk; subst hk; cases hL; exact ok103_1 q n) fun ds L h q=>?_
 unfold G103 at h
 split at h
 ·rename_i n' r v t
  obtain ⟨hp,h⟩:=need_some h
  rw [yes_iff] at hp
  cases h
  refine (congrArg T.run (t103 q n' r v t)).trans (go_yes ⟨hp.1,hp.2,rfl,by omega,by omega,by simp⟩ (go_if (fun c=>?_) fun c=>?_))
  ·simp only [List.nil_append,List.length_nil,Nat.sub_zero,run_leaf]
   rfl
  ·have c:¬ q < (backF r.L v.I t.I 0 r.L.length).length:=fun h=>c (by simpa using h)
   simp only [List.nil_append,run_leaf]
   rw [List.take_of_length_le (by omega)]
   rfl
 ·cases h
theorem ok102 (n:Nat):FnOKW C (n + 1) 102 (mkFW s102 G102):=by
 refine fn_ofW hC (sp:=sp102) (lp:=lp102) (sw:=sw102) trivial trivial (by kernel_rfl) [] (by kernel_rfl) rfl (fun k hk=>by cases hk) fun ds r h=>?_
 unfold G102 at h
 split at h
 ·rename_i v t m l
  exact (congrArg T.run (t102 v t m l)).trans h
 ·cases h
theorem ok1073_3 (n:Nat):LoopSim C (n + 4) 73 (loopOf C.P 73 3) (mkL l1073_3 G1073_3):=by
 refine loop_ofR hC (sp:=sp1073) (lp:=lp1073) (sw:=sw1073) (rg:=rg1073) ⟨ok123 (n + 3),trivial⟩ ⟨ok93 (n + 1),ok102 (n + 3),ok127 n,trivial⟩ 0 [] [] (by kernel_rfl) rfl (by kernel_rfl) rfl (fun k hk=>by cases hk) (fun k hk=>by cases hk) (by kernel_rfl) (fun ds=>((ds.getD 2 default).I - (ds.getD 3 default).I).toNat) fun ds rr h=>?_
 unfold G1073_3 G73_3 at h
 split at h
 ·rename_i a r m i x y k l
  obtain ⟨hp,h⟩:=need_some h
  rw [yes_iff] at hp
  obtain ⟨hm,hk,hi0,hi1,hm2⟩:=hp
  refine ⟨by rw [fuelC]; simp; omega,?_⟩
  rw [show roundTK C (mkTabR sp1073 lp1073 sw1073 rg1073) 73 (loopOf C.P 73 3) 0 l1073_3 [a,r,m,i,x,y,k,l] = _ from t1073_3 a r m i x y k l]
  obtain ⟨j,hj⟩:∃ j:Nat,i.I = j:=⟨i.I.toNat,by omega⟩
  simp only [hj,hm,Int.toNat_natCast,upd1,rs_def] at h hi0 hi1 hm2 ⊢
  refine rd_if (fun hlt=>?_) fun hge=>?_
  ·rw [wrap_succ (by omega)]
   rw [show k.I.toNat - j = (k.I.toNat - (j + 1)) + 1 by omega] at h
   refine rd_dec (by omega) (rd_dec (by omega) (rd_again ((need_yes ⟨by simp only [I_i,Int.toNat_natCast],by simp only [I_i,L_l,Int.toNat_natCast,len_rs]; exact hk,by simp only [I_i]; omega,by simp only [I_i]; omega,by simp only [I_i]; omega⟩).trans ?_) ?_))
   ·simp only [I_i,L_l,Int.toNat_natCast]
    exact h
   ·show ((k.I.toNat:Int) - ((j + 1:Nat):Int)).toNat < (m.I - i.I).toNat
    rw [hj,hm]; omega
  ·rw [show k.I.toNat - j = 0 by omega] at h
   exact rd_out h
 ·cases h
theorem head103 (e:List D):y103.head e = y103.head [e.getD 0 default,e.getD 1 default]:=by
 match e with
 | []=>rfl
 | [_]=>rfl
 | _ :: _ :: _=>rfl
theorem fold1073 (L:List (List D)):∀ (ds:List D) (rr:Ex × List D),(G1073_14 L ds).run = some rr → FoldR (fun ds el=>(roundRT C tab1073 73 (rangeOf C.P 73 14) 0 5 [2,6,7,9,51] h1073_14 y103 ds el).run) y103.give (fun a b=>headA h1073_14 a = headA h1073_14 b) ds L rr.1 rr.2:=by
 induction L with
 | nil=>
   intro ds rr h
   unfold G1073_14 G73_14 at h
   split at h
   ·rename_i a r a' r' m o k q
    obtain ⟨-,h⟩:=need_some h
    cases h
    exact .nil (by rfl)
   ·cases h
 | cons e es ih=>
   intro ds rr h
   unfold G1073_14 G73_14 at h
   split at h
   ·rename_i a r a' r' m o k q
    obtain ⟨hp,h⟩:=need_some h
    rw [yes_iff] at hp
    obtain ⟨h1,h2,h3,h4⟩:=hp
    simp only [List.length_cons] at h3
    obtain ⟨e1,e2⟩:=h4 e List.mem_cons_self
    have h5:∀ x ∈ es,0 ≤ ix x 0 ∧ ix x 0 < (m.I.toNat:Int):=fun x hx=>h4 x (List.mem_cons_of_mem _ hx)
    have key:∀ (i j:D),i.I = ix e 0 → j.I = ix e 1 → ∃ ds',(roundRT C tab1073 73 (rangeOf C.P 73 14) 0 5 [2,6,7,9,51] h1073_14 y103 [a,r,a',r',m,o,k,q] [i,j]).run = some (.again ds',[]) ∧ (G1073_14 es ds').run = some rr:=by
     intro i j hi hj
     have ht:=congrArg T.run (t1073_r14 a r a' r' m o k q i j)
     rw [ht]
     simp only [hi,hj,Int.toNat_natCast,upd1,rs_def,rg_def]
     by_cases hc:ix e 1 < rg o.L (ix e 0).toNat
     ·have hrel:relF (e :: es) (mkSr o k q) = relF es ⟨rs o.L (ix e 0).toNat (ix e 1),k.I.toNat + 1,pushR q.L k.I.toNat (ix e 0) (ix e 1)⟩:=by
       simp only [relF]
       exact if_pos hc
      rw [hrel] at h
      refine ⟨_,go_dec ⟨e1,e2⟩ (go_dec (by omega) (go_pos hc (go_dec ⟨e1,e2⟩ (go_dec (by omega) (go_yes ⟨h2,by omega⟩ rfl))))),?_⟩
      refine (need_yes ⟨by simp only [I_i,L_l,Int.toNat_natCast,len_rs]; exact h1,by simp only [I_i,L_l,Int.toNat_natCast]; rw [len_push _ _ _ h2]; exact Nat.le_refl _,by simp only [I_i,Int.toNat_natCast]; omega,by simp only [I_i,Int.toNat_natCast]; exact h5⟩).trans ?_
      simp only [mkSr,I_i,L_l,Int.toNat_natCast]
      exact h
     ·have hrel:relF (e :: es) (mkSr o k q) = relF es (mkSr o k q):=by
       simp only [relF]
       exact if_neg hc
      rw [hrel] at h
      refine ⟨_,go_dec ⟨e1,e2⟩ (go_dec (by omega) (go_neg hc rfl)),?_⟩
      refine (need_yes ⟨by simp only [I_i,L_l,Int.toNat_natCast]; exact h1,by simp only [I_i,L_l,Int.toNat_natCast]; exact h2,by simp only [I_i,Int.toNat_natCast]; omega,by simp only [I_i,Int.toNat_natCast]; exact h5⟩).trans ?_
      simp only [mkSr,I_i,L_l,Int.toNat_natCast] at h ⊢
      exact h
    obtain ⟨ds',k1,k2⟩:=key (e.getD 0 default) (e.getD 1 default) rfl rfl
    refine .again (x':=[]) (ds':=ds') ?_ (fun h=>by cases h) (ih _ _ k2)
    have:roundRT C tab1073 73 (rangeOf C.P 73 14) 0 5 [2,6,7,9,51] h1073_14 y103 [a,r,a',r',m,o,k,q] e = roundRT C tab1073 73 (rangeOf C.P 73 14) 0 5 [2,6,7,9,51] h1073_14 y103 [a,r,a',r',m,o,k,q] [e.getD 0 default,e.getD 1 default]:=by
     unfold roundRT
     rw [head103 e]
    rw [this]
    exact k1
   ·cases h
theorem ok1073_14 (n:Nat):CodeSim C (n + 4) 0 73 (rangeOf C.P 73 14).code none 0 (rangeS 0 [2,6,7,9,51] (rangeOf C.P 73 14).1 it1073_14 h1073_14 G1073_14):=
 range_of hC (sp:=sp1073) (lp:=lp1073) (sw:=sw1073) (rg:=rg1073) (Y:=y103) (yOK_mk _ _ _) ⟨ok123 (n + 3),trivial⟩ ⟨ok93 (n + 1),ok102 (n + 3),ok127 n,trivial⟩ 14 0 5 [] (by kernel_rfl) rfl (by kernel_rfl) (by exact ⟨by kernel_rfl,by kernel_rfl⟩) (fun k hk=>by cases hk)
  (by kernel_rfl) (by kernel_rfl) (it:=it1073_14) ⟨ok103 (n + 1),trivial⟩ fun L ds rr h=>fold1073 L ds rr h
theorem ends_uniqB {m:Nat} {r:List (List D)}:∀ {f g:Nat} {s:Sr},endsB m r f s → endsB m r g s → f = g
 | 0,0,_,_,_=>rfl
 | 0,g + 1,s,h,h'=>absurd h h'.1
 | f + 1,0,s,h,h'=>absurd h' h.1
 | f + 1,g + 1,s,h,h'=>by rw [ends_uniqB h.2.2 h'.2.2]
theorem lenB_eq {m:Nat} {r:List (List D)} {f:Nat} {s:Sr} (h:endsB m r f s):lenB m r s = f:=ends_uniqB (Classical.epsilon_spec (p:=fun f=>endsB m r f s) ⟨f,h⟩) h
theorem resB_eq {m:Nat} {r:List (List D)} {f:Nat} {s:Sr} (h:endsB m r f s):resB m r s = runG (stepG (nxB r)) f s:=by unfold resB; rw [lenB_eq h]
theorem halt_zeroB {m:Nat} {r:List (List D)} {s:Sr} (hk:s.k = 0):resB m r s = s.o ∧ lenB m r s = 0:=by
 have:endsB m r 0 s:=hk
 exact ⟨resB_eq this,lenB_eq this⟩
theorem halt_stepB {m:Nat} {r:List (List D)} {s:Sr} (h:haltB m r s) (hk:s.k ≠ 0):needB m r s ∧ haltB m r (stepG (nxB r) s) ∧ resB m r s = resB m r (stepG (nxB r) s) ∧ lenB m r (stepG (nxB r) s) < lenB m r s ∧ lenB m r s < 9223372036854775808:=by
 obtain ⟨f,hf,he⟩:=h
 cases f with
 | zero=>exact absurd he hk
 | succ f=>
   have he':=he
   obtain ⟨-,h1,h2⟩:=he
   exact ⟨h1,⟨f,by omega,h2⟩,by rw [resB_eq he',resB_eq h2]; rfl,by rw [lenB_eq he',lenB_eq h2]; omega,by rw [lenB_eq he']; exact hf⟩
theorem back_len {r:List (List D)} {v t:Int}:∀ (k i:Nat),(backF r v t i k).length ≤ k
 | 0,_=>Nat.le_refl _
 | k + 1,i=>by
   simp only [backF]
   have:=back_len (r:=r) (v:=v) (t:=t) k (i + 1)
   split
   ·simp only [List.length_cons]; omega
   ·omega
theorem ok1073_9 (n:Nat):LoopSim C (n + 4) 73 (loopOf C.P 73 9) (mkL l1073_9 G1073_9):=by
 refine loop_ofR hC (sp:=sp1073) (lp:=lp1073) (sw:=sw1073) (rg:=rg1073) ⟨ok123 (n + 3),trivial⟩ ⟨ok93 (n + 1),ok102 (n + 3),ok127 n,trivial⟩ 0 [] [14] (by kernel_rfl) rfl (by kernel_rfl) (by kernel_rfl) (fun k hk=>by cases hk)
  (fun k hk L hL=>by simp at hk; subst hk; cases hL; exact ok1073_14 n) (by kernel_rfl) (fun ds=>lenB (ds.getD 2 default).I.toNat (ds.getD 1 default).L (mkSr (ds.getD 3 default) (ds.getD 4 default) (ds.getD 5 default))) fun ds rr h=>?_
 unfold G1073_9 at h
 split at h
 ·rename_i a r m o k q
  obtain ⟨hp,h⟩:=need_some h
  rw [yes_iff] at hp
  have hlt:lenB m.I.toNat r.L (mkSr o k q) < 9223372036854775808:=by
   by_cases hk:(mkSr o k q).k = 0
   ·rw [(halt_zeroB hk).2]; omega
   ·exact (halt_stepB hp hk).2.2.2.2
  refine ⟨by rw [fuelC]; exact Nat.lt_trans hlt (by omega),?_⟩
  rw [show roundTK C (mkTabR sp1073 lp1073 sw1073 rg1073) 73 (loopOf C.P 73 9) 0 l1073_9 [a,r,m,o,k,q] = _ from t1073_9 a r m o k q]
  simp only [Int.toNat_natCast,rg_def]
  by_cases hk:k.I.toNat = 0
  ·rw [(halt_zeroB (m:=m.I.toNat) (r:=r.L) (s:=mkSr o k q) hk).1] at h
   refine rd_dec (by omega) (rd_neg (by rw [hk]; simp) (rd_out h))
  ·obtain ⟨hN,h1,h2,h3,-⟩:=halt_stepB hp hk
   obtain ⟨n1,n2,n3,n4,n5,n6,n7,n8⟩:=hN
   rw [h2] at h
   generalize hS:mkSr o k q = S at *
   have hSk:S.k = k.I.toNat:=by rw [← hS]; rfl
   have hSq:S.q = q.L:=by rw [← hS]; rfl
   have hSo:S.o = o.L:=by rw [← hS]; rfl
   have hV:ix ((popR q.L k.I.toNat).getD (k.I.toNat - 1) []) 0 = takeV S:=by unfold takeV; rw [hSk,hSq]
   have hT:ix ((popR q.L k.I.toNat).getD (k.I.toNat - 1) []) 1 = takeT S:=by unfold takeT; rw [hSk,hSq]
   simp only [hV,hT]
   rw [hSq,hSk] at n1
   rw [hSk] at n2
   rw [hSo] at n3
   have hlt1:(List.take k.I.toNat q.L).length = k.I.toNat:=by rw [List.length_take]; omega
   refine rd_dec n1 (rd_pos (by rw [hlt1]; omega) (rd_yes ⟨by omega,n1,by omega⟩ (rd_dec n4 (rd_dec (by omega) (rd_if (fun c=>?_) fun c=>?_)))))
   ·have hst:stepG (nxB r.L) S = mkSr (D.l o.L) (D.i ((k.I.toNat - 1:Nat):Int)) (D.l (popR q.L k.I.toNat)):=by
     unfold stepG
     rw [if_pos (by rw [hSo]; exact c)]
     unfold popS
     rw [hSo,hSk,hSq]
     rfl
    refine rd_again ((need_yes (by rw [← hst]; exact h1)).trans ?_) (by
     show lenB m.I.toNat r.L (mkSr (D.l o.L) (D.i ((k.I.toNat - 1:Nat):Int)) (D.l (popR q.L k.I.toNat))) < lenB m.I.toNat r.L (mkSr o k q)
     rw [← hst,hS]; exact h3)
    rw [← hst]
    exact h
   ·have hst:stepG (nxB r.L) S = relF (backF r.L (takeV S) (takeT S) 0 r.L.length) (mkSr (D.l o.L) (D.i ((k.I.toNat - 1:Nat):Int)) (D.l (popR q.L k.I.toNat))):=by
     unfold stepG
     rw [if_neg (by rw [hSo]; exact c)]
     unfold popS nxB
     rw [hSo,hSk,hSq]
     rfl
    have hnl:=back_len (r:=r.L) (v:=takeV S) (t:=takeT S) r.L.length 0
    refine rd_yes ⟨n6,n5⟩ (rd_yes ⟨n3,by rw [len_pop]; omega,by omega,fun e he=>?_⟩ ?_)
    ·obtain ⟨j,-,hj,-,e1,-⟩:=back_mem _ _ _ he
     rw [e1]
     exact n8 j (by omega)
    ·have hmk:∀ s:Sr,mkSr (D.l s.o) (D.i (s.k:Int)) (D.l s.q) = s:=fun s=>by simp only [mkSr,I_i,L_l,Int.toNat_natCast]
     rw [← hst]
     refine rd_again ((need_yes (by simp only [I_i,L_l,Int.toNat_natCast,hmk]; exact h1)).trans ?_) (by
      show lenB m.I.toNat r.L (mkSr (D.l (stepG (nxB r.L) S).o) (D.i ((stepG (nxB r.L) S).k:Int)) (D.l (stepG (nxB r.L) S).q)) < lenB m.I.toNat r.L (mkSr o k q)
      rw [hmk,hS]; exact h3)
     simp only [I_i,L_l,Int.toNat_natCast,hmk]
     exact h
 ·cases h
theorem ok1073 (n:Nat):FnOK C (n + 5) 73 (mkF s1073 G1073):=by
 have hby:Try.prog.types[3].bytes = 8:=by kernel_rfl
 refine fn_ofR hC (sp:=sp1073) (lp:=lp1073) (sw:=sw1073) (rg:=rg1073) ⟨ok123 (n + 3),trivial⟩ ⟨ok93 (n + 1),ok102 (n + 3),ok127 n,trivial⟩ (by kernel_rfl) [3,9] [] (by kernel_rfl) (by kernel_rfl) (by kernel_rfl) rfl (fun k hk L hL=>by
  simp at hk; rcases hk with rfl | rfl <;> cases hL
  ·exact ok1073_3 n
  ·exact ok1073_9 n) (fun k hk=>by cases hk) fun ds r h=>?_
 unfold G1073 at h
 split at h
 ·rename_i m v t a r'
  obtain ⟨hp,h⟩:=need_some h
  rw [yes_iff] at hp
  obtain ⟨h0,h1,h2,h3,h4⟩:=hp
  refine (congrArg T.run (t1073 m v t a r')).trans ?_
  have hz:(0:Int).toNat = 0:=rfl
  simp only [List.length_replicate,Int.toNat_natCast,hz,Nat.sub_zero,fill_all,upd1,rs_def]
  have hm:(m.I.toNat:Int) = m.I:=by omega
  refine go_need (by rw [hby]; simp; omega) (go_yes ⟨trivial,Nat.le_refl _,by omega,by omega,by omega⟩ (go_dec (by omega) (go_need (by simp; omega) (go_yes h4 ?_))))
  rw [hm]
  exact h
 ·cases h
theorem runB_len {N:Int → Int → List (List D)}:∀ (f:Nat) (s:Sr),(runG (stepG N) f s).length = s.o.length
 | 0,_=>rfl
 | f + 1,s=>by
   simp only [runG]
   rw [runB_len f]
   unfold stepG
   split
   ·rfl
   ·exact rel_len _ _
theorem resB_len {m:Nat} {r:List (List D)} {s:Sr}:(resB m r s).length = s.o.length:=runB_len _ _
theorem neg_rg:∀ (k i:Nat) (l:List (List D)),i + k ≤ l.length → (negF i k l).length = l.length ∧ ∀ u,rg (negF i k l) u = if i ≤ u ∧ u < i + k then -(rg l u) else rg l u
 | 0,i,l,_=>⟨rfl,fun u=>by simp only [negF]; rw [if_neg (by omega)]⟩
 | k + 1,i,l,h=>by
   obtain ⟨h1,h2⟩:=neg_rg k (i + 1) (rs l i (-(rg l i))) (by rw [len_rs]; omega)
   simp only [negF]
   refine ⟨by rw [h1,len_rs],fun u=>?_⟩
   rw [h2,rg_rs (by omega)]
   by_cases e:u = i
   ·subst e
    rw [if_neg (by omega),if_pos rfl,if_pos (by omega)]
   ·rw [if_neg e]
    by_cases e2:i + 1 ≤ u ∧ u < i + 1 + k
    ·rw [if_pos e2,if_pos (by omega)]
    ·rw [if_neg e2,if_neg (by omega)]
theorem back_ends {n:Int} {r:List (List D)} {v t:Int} (hN:netB n r = true) (hv:0 ≤ v ∧ v < n) (ht:-1000000 ≤ t ∧ t ≤ 100000) :
    haltB n.toNat r (startS n v t) ∧ Least (edB r) n.toNat v t (rg (resB n.toNat r (startS n v t))):=by
 obtain ⟨h1,h2,h3⟩:=net_parts hN
 have hE:=edB_ok hN
 have hI:INF = 9223372036854775807:=rfl
 have hn:(n.toNat:Int) = n:=by omega
 have hB:max t 100000 + 10000 * ((n.toNat:Int) + 1) < INF:=by omega
 have hp:=pot_start (n:=n) (B:=max t 100000 + 10000 * ((n.toNat:Int) + 1)) hv (by omega:t < INF) (by omega)
 have hm:(max t 100000 + 10000 * ((n.toNat:Int) + 1) + 1 - t).toNat * n.toNat ≤ 4000000 * 200:=Nat.mul_le_mul (by omega) (by omega)
 obtain ⟨f,f1,f2,f3⟩:=inv_ends (n:=n.toNat) hE (nxB_ok r) hB (by omega) (need:=needB n.toNat r) (Q:=2000000000) (fun s I hk hQ=>by
  have hkq:s.k ≤ 2000000000:=by unfold potN at hQ; omega
  obtain ⟨⟨v1,v2⟩,v3,v4⟩:=I.q _ ((pop_in hk I.kq (takeV s,takeT s)).2 (.inl rfl))
  simp only at v1 v2 v3 v4
  have hfV:rg s.o (takeV s).toNat < INF:=by omega
  have hlo:=walk_lo hE (I.walk (takeV s).toNat (by omega) hfV)
  refine ⟨I.kq,by omega,by rw [I.len]; exact Nat.le_refl _,⟨v1,v2⟩,⟨by omega,by omega⟩,net_okR hN,by omega,fun i hi=>?_⟩
  have:=(road_parts (h3 i hi)).1
  omega) 2000000000 (startS n v t) (inv_start hv (by omega)) (by omega) (Nat.le_refl _)
 refine ⟨⟨f,by omega,f2⟩,?_⟩
 rw [resB_eq f2]
 exact f3
theorem back_okN {n:Int} {r:List (List D)} {v t:Int} (hN:netB n r = true) (hv:0 ≤ v ∧ v < n) (ht:-1000000 ≤ t ∧ t ≤ 100000):okN (resB n.toNat r (startS n v t)):=fun u=>by
 have hL:=(back_ends hN hv ht).2
 have hI:INF = 9223372036854775807:=rfl
 by_cases hu:u < n.toNat
 ·have h1:=hL.1 u hu
  by_cases hf:rg (resB n.toNat r (startS n v t)) u < INF
  ·have:=walk_lo (edB_ok hN) (hL.2.1 u hu hf)
   omega
  ·omega
 ·rw [rg_ge (by rw [resB_len,len_start]; omega)]
  omega
theorem ok97_3 (n:Nat):LoopSim C (n + 5) 97 (loopOf C.P 97 3) (mkL l97_3 G97_3):=by
 refine loop_ofK hC (sp:=sp97) (lp:=lp97) (sw:=sw97) ⟨ok1073 n,trivial⟩ ⟨ok102 (n + 4),trivial⟩ 0 [] (by kernel_rfl) rfl (fun k hk=>by cases hk) (by kernel_rfl) (fun ds=>((ds.getD 1 default).I - (ds.getD 2 default).I).toNat) fun ds rr h=>?_
 unfold G97_3 at h
 split at h
 ·rename_i m k i l
  obtain ⟨hp,h⟩:=need_some h
  rw [yes_iff] at hp
  obtain ⟨h1,h3,hi0,hi1,h4,h5⟩:=hp
  refine ⟨by rw [fuelC]; simp; omega,?_⟩
  rw [show roundTK C (mkTab sp97 lp97 sw97) 97 (loopOf C.P 97 3) 0 l97_3 [m,k,i,l] = _ from t97_3 m k i l]
  obtain ⟨j,hj⟩:∃ j:Nat,i.I = j:=⟨i.I.toNat,by omega⟩
  simp only [hj,h1,Int.toNat_natCast,upd1,rs_def,rg_def] at h hi0 hi1 h4 ⊢
  refine rd_if (fun hlt=>?_) fun hge=>?_
  ·have hjr:=h5 j
   have hw:IntKind.i64.wrap (0 - rg l.L j) = -(rg l.L j):=by rw [Int.zero_sub]; exact wrap_id (by omega) (by omega)
   have hN':okN (rs l.L j (-(rg l.L j))):=fun u=>by
    rw [rg_rs (by omega)]
    have:=h5 u
    split <;> omega
   rw [wrap_succ (by omega),hw]
   rw [show m.I.toNat - j = (m.I.toNat - (j + 1)) + 1 by omega] at h
   simp only [negF] at h
   refine rd_dec (by omega) (rd_dec (by omega) (rd_dec (by omega) (rd_dec (by omega) (rd_again ((need_yes ⟨by simp only [I_i,Int.toNat_natCast],by simp only [I_i,L_l,Int.toNat_natCast,len_rs]; exact h3,by simp only [I_i]; omega,by simp only [I_i]; omega,by simp only [I_i]; omega,hN'⟩).trans ?_) ?_))))
   ·simp only [I_i,L_l,Int.toNat_natCast]
    exact h
   ·show ((m.I.toNat:Int) - ((j + 1:Nat):Int)).toNat < (k.I - i.I).toNat
    rw [hj,h1]; omega
  ·rw [show m.I.toNat - j = 0 by omega] at h
   exact rd_out h
 ·cases h
theorem ok97 (n:Nat):FnOK C (n + 6) 97 (mkF s97 G97):=by
 refine fn_ofS hC (sp:=sp97) (lp:=lp97) (sw:=sw97) ⟨ok1073 n,trivial⟩ ⟨ok102 (n + 4),trivial⟩ (by kernel_rfl) [3] (by kernel_rfl) (by kernel_rfl) (fun k hk L hL=>by
  simp at hk; subst hk; cases hL; exact ok97_3 n) fun ds r h=>?_
 unfold G97 at h
 split at h
 ·rename_i m r' v t
  obtain ⟨hp,h⟩:=need_some h
  rw [yes_iff] at hp
  obtain ⟨hN,hv,ht⟩:=hp
  obtain ⟨p1,p2,p3⟩:=net_parts hN
  have hw:IntKind.i64.wrap (0 - t.I) = -t.I:=by rw [Int.zero_sub]; exact wrap_id (by omega) (by omega)
  refine (congrArg T.run (t97 m r' v t)).trans ?_
  rw [hw]
  have hz:(0:Int).toNat = 0:=rfl
  simp only [Int.toNat_natCast,hz,Nat.sub_zero]
  have hm:(m.I.toNat:Int) = m.I:=by omega
  refine go_yes ⟨by omega,by omega,by omega,by omega,(back_ends hN hv (by omega)).1⟩ (go_yes ⟨trivial,by rw [resB_len,len_start]; exact Nat.le_refl _,by omega,by omega,by omega,back_okN hN hv (by omega)⟩ ?_)
  rw [hm]
  exact h
 ·cases h
end Go.Proofs.Ytgmefblkmidglaa
namespace Go.Lite
theorem rangeS_ok0 {C:Cfg} (hC:∀ t Y,C.ty t = some Y → tyOf C.P t = some Y) {tab:Tab} {n:Nat} (hS:SpOK C tab n) {f:FuncId} {r:Rg} {k:Nat} {live:List Nat} {head:List Shp} {Y:YS}
    (hYok:YOK Y) (hla:∀ kk,LoopsOKK C tab n kk f r.2.2.1) (hlb:∀ kk,LoopsOKK C tab n kk f r.2.2.2) (hann:C.ann f (keyOf r.2.2.2) = some live) (hgive:C.give f (keyOf r.2.2.2) = Y.give) {it:ItL} (hIt:AllOKI C n Y it) {G:List (List D) → List D → T (Ex × List D)}
    (hG:∀ L ds rr,(G L ds).run = some rr → FoldR (fun ds el=>(roundRT C tab f r k ((headA head ds).h.length + (Y.head el).2.length) live head Y ds el).run) Y.give (fun a b=>headA head a = headA head b) ds L rr.1 rr.2):CodeSim C n k f r.code tab.y tab.q (rangeS k live r.1 it head G):=by
 intro σ e σ' h
 unfold rangeS at h
 split at h
 ·cases h
 rename_i hlog
 split at h
 case h_2=>cases h
 rename_i gf a cp hev
 generalize hms:reachS (sget (normS k live σ).h) wide ((a ++ cp).flatMap (idsS deep)) [] = ms at h
 dsimp only at h
 split at h
 case h_2=>cases h
 rename_i F ds hF hfit
 rw [T.run_bind,Option.bind_eq_some_iff] at h
 obtain ⟨L,hL,h⟩:=h
 rw [T.run_bind,Option.bind_eq_some_iff] at h
 obtain ⟨rr,hr0,h⟩:=h
 cases h
 refine ⟨by rw [hlog]; exact List.nil_prefix,?_⟩
 intro τ hr S H P Lg _ _ s hs
 have hgc:gcOf C k f r.2.2.2 = norm k live:=by unfold gcOf; rw [hann]
 have h1:SSR (normS k live σ) (norm k live τ):=norm_sim hr
 have hv:=evS_sim h1.1 r.1
 rw [hev] at hv
 simp only [VR] at hv
 obtain ⟨a',c',hv,ha,hcp⟩:=hv
 have hreach:reach (hget (norm k live τ).h) wide ((a' ++ c').flatMap (ids deep)) [] = ms:=by
  rw [← hms,ids_eqs (VRL_append ha hcp)]
  exact reach_eq h1.2.2 _ _ _
 have h2:=fitsA_sim hfit (norm_sim (k:=k) (live:=live) (τ:={ tmps:=(norm k live τ).tmps,h:=hups (norm k live τ).h (ms.map fun i=>(i,none)) }) ⟨h1.1,HR.ups h1.2 (UR_kills ms)⟩)
 have hargs:VRL (a.map (mvS true false (pos ms) deep) ++ [.yl] ++ cp.map (mvS true false (pos ms) deep)) (a'.map (mv true false (pos ms) deep) ++ [.yl] ++ c'.map (mv true false (pos ms) deep)):=
  VRL_append (VRL_append (VRL_map (mv_sim true false _ deep) ha) (VRL_cons (by simp only [VR]) VRL_nil)) (VRL_map (mv_sim true false _ deep) hcp)
 have hheap:HR (ms.map fun i=>(sget (normS k live σ).h i).map (mvSB true false (pos ms))) (ms.map fun i=>(hget (norm k live τ).h i).map (mvB true false (pos ms))):=HR.maps _ fun i _=>OR.map (h1.2.2 i) _
 obtain ⟨q,Q,q1,q2,qp,q3⟩:=fold_sim (head:=head) (Y:=Y) (s:=s) (Hf:=roundH r.2.1 (norm k live) Y.give (fun kk=>execA C (callA C n) f kk H r.2.2.1) (fun kk=>execA C (callA C n) f kk H r.2.2.2))
  (fun ds el x' o hR hx τ hτ ya yh hya hyh=>round_sim hC hS hYok (hla _) (hlb _) hR hx hτ hya hyh H s) (fun hR=>roundRT_np hR) (hG L ds rr hr0)
 obtain ⟨v',h',s',hcall,hvp,hQ⟩:=allOKI_get hIt gf F hF _ _ L hL _ _ hargs hheap _ _ Q q q2 _ (q1 _ h2)
 obtain ⟨τ',rfl,hτ'⟩:=q3 _ hQ
 refine ⟨τ',s,?_,by rw [headA_log]; rw [hlog] at hs; exact hs,hτ'⟩
 unfold Rg.code
 simp only [execA,hgc,hgive,hv,hreach,hcall,hvp]
 cases he:rr.1 with
 | pan t=>rw [he] at qp; cases qp
 | _=>rfl
theorem range_of0 {C:Cfg} (hC:∀ t Y,C.ty t = some Y → tyOf C.P t = some Y) {sp:SpL} {sw:SwL} {n:Nat} {f:FuncId} {lp rg:LpL} {Y:YS} (hY:YOK Y) (hsp:AllOK C n sp) (hsw:AllOKW C n sw) (k m:Nat) (h1:(loopsIn (rangeOf C.P f k).2.2.2).isEmpty = true ∧ rangesIn (rangeOf C.P f k).2.2.2 = []) (h4:(loopsIn (rangeOf C.P f k).2.2.1).isEmpty = true ∧ rangesIn (rangeOf C.P f k).2.2.1 = [])
    {live:List Nat} (hann:C.ann f (keyOf (rangeOf C.P f k).2.2.2) = some live) (hgive:C.give f (keyOf (rangeOf C.P f k).2.2.2) = Y.give) {it:ItL} (hIt:AllOKI C n Y it) {head:List Shp} {G:List (List D) → List D → T (Ex × List D)}
    (hG:∀ L ds rr,(G L ds).run = some rr → FoldR (fun ds el=>(roundRT C (mkTabR sp lp sw rg) f (rangeOf C.P f k) m ((headA head ds).h.length + (Y.head el).2.length) live head Y ds el).run) Y.give (fun a b=>headA head a = headA head b) ds L rr.1 rr.2):CodeSim C n m f (rangeOf C.P f k).code none 0 (rangeS m live (rangeOf C.P f k).1 it head G):=
 rangeS_ok0 hC (tab:=mkTabR sp lp sw rg) (spOK_ofR hsp hsw) hY (fun _=>loops_ofG (lp:=lp) (rg:=rg) rfl rfl [] [] (List.isEmpty_iff.1 h4.1) rfl (fun k hk=>by cases hk) h4.2 rfl (fun k hk=>by cases hk))
  (fun _=>loops_ofG (lp:=lp) (rg:=rg) rfl rfl [] [] (List.isEmpty_iff.1 h1.1) rfl (fun k hk=>by cases hk) h1.2 rfl (fun k hk=>by cases hk)) hann hgive hIt hG
end Go.Lite
namespace Go.Proofs.Ytgmefblkmidglaa
open Go.Lite
set_option maxRecDepth 100000
set_option linter.unusedVariables false
theorem lat_parts {n:Int} {r:List (List D)} {a b:Int} (hN:netB n r = true) (ha:0 ≤ a ∧ a < n) (hb:0 ≤ b ∧ b ≤ 1000000) :
    (latF n r a b).length = n.toNat ∧ (∀ u,-9223372036854775807 ≤ rg (latF n r a b) u ∧ rg (latF n r a b) u ≤ b) ∧ ∃ d,Least (edB r) n.toNat a (-b) d ∧ ∀ u,u < n.toNat → rg (latF n r a b) u = -(d u):=by
 obtain ⟨-,hL⟩:=back_ends hN ha (t:=-b) (by omega)
 have hlen:(resB n.toNat r (startS n a (-b))).length = n.toNat:=by rw [resB_len,len_start]
 obtain ⟨h1,h2⟩:=neg_rg n.toNat 0 (resB n.toNat r (startS n a (-b))) (by omega)
 have hI:INF = 9223372036854775807:=rfl
 have hrg:∀ u,u < n.toNat → rg (latF n r a b) u = -(rg (resB n.toNat r (startS n a (-b))) u):=fun u hu=>by
  unfold latF
  rw [h2,if_pos ⟨Nat.zero_le _,by omega⟩]
 refine ⟨by unfold latF; rw [h1,hlen],fun u=>?_,_,hL,hrg⟩
 by_cases hu:u < n.toNat
 ·rw [hrg u hu]
  have h3:=hL.1 u hu
  by_cases hf:rg (resB n.toNat r (startS n a (-b))) u < INF
  ·have:=walk_lo (edB_ok hN) (hL.2.1 u hu hf)
   omega
  ·omega
 ·rw [rg_ge (by unfold latF; rw [h1,hlen]; omega)]
  omega
theorem zon_mk {n:Int} {a b c:D} (h:zonB n (mk3 a b c) = true):(0 ≤ a.I ∧ a.I < n) ∧ (0 ≤ b.I ∧ b.I ≤ 65535) ∧ 0 ≤ c.I ∧ c.I ≤ 10000:=by
 rw [zonB_mk,decide_eq_true_iff] at h
 exact h
theorem zon_parts {n:Int} {z:List D} (h:zonB n z = true):(0 ≤ ix z 0 ∧ ix z 0 < n) ∧ (0 ≤ ix z 1 ∧ ix z 1 ≤ 65535) ∧ 0 ≤ ix z 2 ∧ ix z 2 ≤ 10000:=of_decide_eq_true h
theorem veh_parts {n:Int} {x:List D} (h:vehB n x = true):(0 ≤ ix x 0 ∧ ix x 0 < n) ∧ (0 ≤ ix x 1 ∧ ix x 1 ≤ 65535) ∧ (0 ≤ ix x 2 ∧ ix x 2 ≤ ix x 3) ∧ ix x 3 ≤ 100000:=of_decide_eq_true h
theorem mn_parts (a b:Int):(mn a b ≤ a ∧ mn a b ≤ b) ∧ (mn a b = a ∨ mn a b = b):=by
 unfold mn
 split <;> omega
theorem mx_parts (a b:Int):(a ≤ mx a b ∧ b ≤ mx a b) ∧ (mx a b = a ∨ mx a b = b):=by
 unfold mx
 split <;> omega
section
variable {n:Int} {r v:List (List D)} {z:List D} {h t:Int}
theorem best_le (hN:netB n r = true) {a to:Int} (ha:0 ≤ a ∧ a < n) (ht:0 ≤ t ∧ t ≤ 100000):-1 ≤ bestF n r a t to ∧ bestF n r a t to ≤ 1099521627776:=by
 have:=(arr_ok hN ha ht).1.2 to.toNat
 unfold bestF
 omega
theorem pv_step {x:List D} {s:Pv} (hN:netB n r = true) (hx:vehB n x = true) (hz:zonB n z = true) (ht:0 ≤ t ∧ t < h) (hh:h ≤ 100000) (hs:okPv t h s):okPv t h (stV n r z t x s):=by
 obtain ⟨x0,x1,x2,x3⟩:=veh_parts hx
 obtain ⟨s1,s2,s3,s4⟩:=hs
 unfold stV
 split
 ·exact ⟨s1,s2,s3,s4⟩
 ·rename_i c1
  have c1':t < ix x 3:=by
   rcases Int.lt_or_le t (ix x 3) with h | h
   ·exact h
   ·exact absurd (.inr h) c1
  split
  ·have:=mn_parts s.nx (ix x 2)
   exact ⟨s1,s2,by simp only; omega,by simp only; omega⟩
  ·split
   ·have m1:=mn_parts (latU n r z t (ix x 0) + 1) (ix x 3)
    have m2:=mx_parts s.to (mn (latU n r z t (ix x 0) + 1) (ix x 3))
    exact ⟨fun _=>by simp only; omega,by simp only; omega,s3,s4⟩
   ·split
    ·have m1:=mx_parts (t + 1) (bestF n r (ix x 0) t (ix z 0) - ix z 2)
     have m2:=mn_parts s.nx (mx (t + 1) (bestF n r (ix x 0) t (ix z 0) - ix z 2))
     exact ⟨s1,s2,by simp only; omega,by simp only; omega⟩
    ·exact ⟨s1,s2,s3,s4⟩
theorem run_pv (hN:netB n r = true) (hv:vehs n v = true) (hz:zonB n z = true) (ht:0 ≤ t ∧ t < h) (hh:h ≤ 100000):∀ (k i:Nat) (s:Pv),i + k ≤ v.length → okPv t h s → okPv t h (runV n r v z t i k s)
 | 0,_,_,_,hs=>hs
 | k + 1,i,s,hi,hs=>run_pv hN hv hz ht hh k (i + 1) _ (by omega) (pv_step hN (veh_of hv (by omega:i < v.length)) hz ht hh hs)
theorem pv_at (hP:okP n r v z h) (ht:0 ≤ t ∧ t < h):okPv t h (pvAt n r v z h t):=by
 obtain ⟨hN,hv,hz,-,h0,h1⟩:=hP
 exact run_pv hN hv hz ht h1 _ _ _ (by omega) ⟨fun e=>absurd e (by simp),⟨Int.le_refl _,by simp only; omega⟩,by simp only; omega,Int.le_refl _⟩
theorem to_gt (hP:okP n r v z h) (ht:0 ≤ t ∧ t < h):t < toP n r v z h t ∧ toP n r v z h t ≤ h:=by
 obtain ⟨s1,s2,s3,s4⟩:=pv_at hP ht
 unfold toP
 have m1:=mn_parts (if (pvAt n r v z h t).c then (pvAt n r v z h t).to else mx (t + 1) (pvAt n r v z h t).nx) h
 have m2:=mx_parts (t + 1) (pvAt n r v z h t).nx
 cases hc:(pvAt n r v z h t).c with
 | true=>
   have:=s1 hc
   rw [hc] at m1
   simp only [if_true] at m1 ⊢
   omega
 | false=>
   rw [hc] at m1
   simp only [Bool.false_eq_true,if_false] at m1 ⊢
   omega
theorem piece_fuel (hP:okP n r v z h):∀ (f:Nat) (t:Int),0 ≤ t → (h - t).toNat ≤ f → pieceL n r v z h f t = pieceL n r v z h (h - t).toNat t
 | 0,t,h0,hf=>by rw [show (h - t).toNat = 0 by omega]
 | f + 1,t,h0,hf=>by
   by_cases ht:t < h
   ·obtain ⟨g1,g2⟩:=to_gt hP ⟨h0,ht⟩
    obtain ⟨e,he⟩:∃ e,(h - t).toNat = e + 1:=⟨(h - t).toNat - 1,by omega⟩
    rw [he]
    simp only [pieceL,if_pos ht]
    rw [piece_fuel hP f _ (by omega) (by omega),piece_fuel hP e _ (by omega) (by omega)]
   ·rw [show (h - t).toNat = 0 by omega]
    simp only [pieceL,if_neg ht]
theorem piece_step (hP:okP n r v z h) (ht:0 ≤ t ∧ t < h):pieceL n r v z h (h - t).toNat t = [.i t,.i (toP n r v z h t),.b (pvAt n r v z h t).c] :: pieceL n r v z h (h - toP n r v z h t).toNat (toP n r v z h t):=by
 obtain ⟨g1,g2⟩:=to_gt hP ht
 obtain ⟨e,he⟩:∃ e,(h - t).toNat = e + 1:=⟨(h - t).toNat - 1,by omega⟩
 rw [he]
 simp only [pieceL,if_pos ht.2]
 rw [piece_fuel hP e _ (by omega) (by omega)]
theorem piece_len (n:Int) (r v:List (List D)) (z:List D) (h:Int):∀ (f:Nat) (t:Int),(pieceL n r v z h f t).length ≤ f
 | 0,_=>Nat.le_refl _
 | f + 1,t=>by
   simp only [pieceL]
   split
   ·simp only [List.length_cons]
    have:=piece_len n r v z h f (toP n r v z h t)
    omega
   ·simp
end
theorem ok96_6 (q n:Nat):LoopSimY C (n + 6) 4 96 (loopOf C.P 96 6) (some y96) q (mkLY 4 l96_6 (G96_6 q)):=by
 refine loop_ofY hC (sp:=sp96) (lp:=lp96 q) (sw:=sw96) (Y:=y96) (yOK_mk _ _ _) ⟨ok97 n,ok46 n,trivial⟩ trivial 4 [] (by kernel_rfl) rfl (by kernel_rfl) (fun k hk=>by cases hk) (by kernel_rfl) (fun ds=>((ds.getD 5 default).I - (ds.getD 6 default).I).toNat) fun ds rr hh=>?_
 unfold G96_6 at hh
 split at hh
 ·rename_i g t m nx v' q' i h n' r a b c v l pf pt pc
  obtain ⟨hp,hh⟩:=need_some hh
  rw [yes_iff] at hp
  obtain ⟨hP,ht,hl,hm,hv',hq',hi,hs⟩:=hp
  have hP':=hP
  obtain ⟨hN,hv,hz,hvl,h0,h1⟩:=hP'
  obtain ⟨z0,z1,z2,z3⟩:=zon_mk hz
  obtain ⟨p1,p2,p3⟩:=net_parts hN
  obtain ⟨l1,l2,-⟩:=lat_parts hN z0 (b:=t.I + c.I) (by omega)
  refine ⟨by rw [fuelC]; simp; omega,?_⟩
  rw [show roundTY C (mkTabY sp96 (lp96 q) sw96 y96 q) 96 (loopOf C.P 96 6) 4 l96_6 [g,t,m,nx,v',q',i,h,n',r,a,b,c,v,l,pf,pt,pc] = _ from t96_6 q g t m nx v' q' i h n' r a b c v l pf pt pc]
  obtain ⟨k,hk⟩:∃ k:Nat,i.I = k:=⟨i.I.toNat,by omega⟩
  have hn:(n'.I.toNat:Int) = n'.I:=by omega
  simp only [hk,hm,hn,hv',hq',hl,Int.toNat_natCast,Nat.reduceAdd,ix_def] at hh hi ⊢
  refine rd_if (fun hlt=>?_) fun hge=>?_
  ·have hkl:k < v.L.length:=by omega
   have hx:=veh_of hv hkl
   obtain ⟨x0,x1,x2,x3⟩:=veh_parts hx
   have hst:=pv_step hN hx hz ht h1 hs
   rw [show v.L.length - k = (v.L.length - (k + 1)) + 1 by omega] at hh
   simp only [runV] at hh
   have hmu:((v.L.length:Int) - ((k + 1:Nat):Int)).toNat < (q'.I - i.I).toNat:=by omega
   have hnext:∀ s':Pv,stV n'.I r.L (mk3 a b c) t.I (v.L.getD k []) (pvOf pc pt nx) = s' → (G96_6 q [.l g.L,.i t.I,.i n'.I,.i s'.nx,.l v.L,.i v.L.length,.i ((k + 1:Nat):Int),.i h.I,.i n'.I,.l r.L,.i a.I,.i b.I,.i c.I,.l v.L,.l (latF n'.I r.L a.I (t.I + c.I)),.i pf.I,.i s'.to,.b s'.c]).run = some rr:=fun s' e=>by
    rw [e] at hh hst
    exact (need_yes ⟨hP,ht,rfl,rfl,rfl,rfl,by simp only [I_i,L_l]; omega,hst⟩).trans hh
   have hlu:ix ((latF n'.I r.L a.I (t.I + c.I)).getD (ix (v.L.getD k []) 0).toNat []) 0 = latU n'.I r.L (mk3 a b c) t.I (ix (v.L.getD k []) 0):=rfl
   have hbe:ix ((arrF n'.I r.L (ix (v.L.getD k []) 0) t.I).getD a.I.toNat []) 0 = bestF n'.I r.L (ix (v.L.getD k []) 0) t.I (ix (mk3 a b c) 0):=rfl
   have l2':=l2 (ix (v.L.getD k []) 0).toNat
   have hal:=(arr_ok hN (v:=ix (v.L.getD k []) 0) (t:=t.I) x0 (by omega)).1.1
   have hb2:=best_le hN (a:=ix (v.L.getD k []) 0) (to:=ix (mk3 a b c) 0) (t:=t.I) x0 (by omega)
   have hz2:ix (mk3 a b c) 2 = c.I:=rfl
   have hab:ableB (v.L.getD k []) (mk3 a b c) = (andI (ix (v.L.getD k []) 1) b.I == b.I):=rfl
   rw [show rg (latF n'.I r.L a.I (t.I + c.I)) (ix (v.L.getD k []) 0).toNat = latU n'.I r.L (mk3 a b c) t.I (ix (v.L.getD k []) 0) from rfl] at l2'
   simp only [hlu,hbe]
   unfold stV at hnext
   rw [wrap_succ (by omega)]
   refine rd_dec (by omega) (rd_ite (fun c1=>?_) fun c1=>?_)
   ·have c1:(andI (ix (v.L.getD k []) 1) b.I == b.I) = false:=beq_false_of_ne (bne_iff_ne.1 c1)
    exact rd_again (hnext (pvOf pc pt nx) (by rw [hab,c1,if_pos (.inl rfl)])) hmu
   ·have c1:(andI (ix (v.L.getD k []) 1) b.I == b.I) = true:=by
     cases hx:(andI (ix (v.L.getD k []) 1) b.I == b.I) with
     | true=>rfl
     | false=>
       have hx:andI (ix (v.L.getD k []) 1) b.I ≠ b.I:=ne_of_beq_false hx
       have:(andI (ix (v.L.getD k []) 1) b.I != b.I) = true:=bne_iff_ne.2 hx
       exact absurd (this.symm.trans c1) (by simp)
    rw [hab,c1] at hnext
    refine rd_if (fun c2=>rd_again (hnext (pvOf pc pt nx) (by rw [if_pos (.inr (by omega))])) hmu) fun c2=>?_
    have c2':¬ (true = false ∨ ix (v.L.getD k []) 3 ≤ t.I):=fun h=>h.elim (fun h=>by cases h) fun h=>c2 h
    refine rd_if (fun c3=>rd_again (hnext ⟨pc.B,pt.I,mn nx.I (ix (v.L.getD k []) 2)⟩ (by rw [if_neg c2',if_pos c3]; rfl)) hmu) fun c3=>?_
    refine rd_dec (by omega) (rd_dec (by omega) (rd_if (fun c4=>?_) fun c4=>?_))
    ·rw [wrap_id (x:=latU n'.I r.L (mk3 a b c) t.I (ix (v.L.getD k []) 0) + 1) (by omega) (by omega)]
     exact rd_dec (by omega) (rd_dec (by omega) (rd_again (hnext ⟨true,mx pt.I (mn (latU n'.I r.L (mk3 a b c) t.I (ix (v.L.getD k []) 0) + 1) (ix (v.L.getD k []) 3)),nx.I⟩ (by rw [if_neg c2',if_neg c3,if_pos (by omega)]; rfl)) hmu))
    ·refine rd_yes ⟨by omega,by omega,x0.1,x0.2,(search_ends hN x0 (by omega) (by omega)).1⟩ (rd_dec (by omega) (rd_dec (by unfold bestF at hb2; omega) (rd_if (fun c5=>?_) fun c5=>?_)))
     ·rw [wrap_id (x:=bestF n'.I r.L (ix (v.L.getD k []) 0) t.I (ix (mk3 a b c) 0) - c.I) (by omega) (by omega),wrap_id (x:=t.I + 1) (by omega) (by omega)]
      exact rd_again (hnext ⟨pc.B,pt.I,mn nx.I (mx (t.I + 1) (bestF n'.I r.L (ix (v.L.getD k []) 0) t.I (ix (mk3 a b c) 0) - c.I))⟩ (by rw [if_neg c2',if_neg c3,if_neg (by omega),if_pos (by omega)]; rfl)) hmu
     ·exact rd_again (hnext (pvOf pc pt nx) (by rw [if_neg c2',if_neg c3,if_neg (by omega),if_neg (by omega)])) hmu
  ·rw [show v.L.length - k = 0 by omega] at hh
   exact rd_out hh
 ·cases hh
theorem ok96_1 (q n:Nat):LoopSimY C (n + 6) 4 96 (loopOf C.P 96 1) (some y96) q (mkLY 4 l96_1 (G96_1 q)):=by
 refine loop_ofY hC (sp:=sp96) (lp:=lp96 q) (sw:=sw96) (Y:=y96) (yOK_mk _ _ _) ⟨ok97 n,ok46 n,trivial⟩ trivial 4 [6] (by kernel_rfl) (by kernel_rfl) (by kernel_rfl) (fun k hk L hL=>by simp at hk; subst hk; cases hL; exact ok96_6 q n) (by kernel_rfl) (fun ds=>((ds.getD 2 default).I - (ds.getD 1 default).I).toNat) fun ds rr hh=>?_
 unfold G96_1 at hh
 split at hh
 ·rename_i g t h n' r a b c v
  obtain ⟨hp,hh⟩:=need_some hh
  rw [yes_iff] at hp
  obtain ⟨hP,ht0,ht1,hg⟩:=hp
  have hP':=hP
  obtain ⟨hN,hv,hz,hvl,h0,h1⟩:=hP'
  obtain ⟨z0,z1,z2,z3⟩:=zon_mk hz
  obtain ⟨p1,p2,p3⟩:=net_parts hN
  refine ⟨by rw [fuelC]; simp; omega,?_⟩
  rw [show roundTY C (mkTabY sp96 (lp96 q) sw96 y96 q) 96 (loopOf C.P 96 1) 4 l96_1 [g,t,h,n',r,a,b,c,v] = _ from t96_1 q g t h n' r a b c v]
  have hq:(tab96 q).q = q:=rfl
  have hn:(n'.I.toNat:Int) = n'.I:=by omega
  refine rd_if (fun hlt=>?_) fun hge=>?_
  ·rw [wrap_id (x:=t.I + c.I) (by omega) (by omega),wrap_id (x:=t.I + 1) (by omega) (by omega)]
   simp only [hn,hq,Int.toNat_zero,Nat.sub_zero]
   rw [piece_step hP ⟨ht0,hlt⟩] at hh
   obtain ⟨g1,g2⟩:=to_gt hP ⟨ht0,hlt⟩
   have hpv:runV n'.I r.L v.L (mk3 a b c) t.I 0 v.L.length (pvOf (.b false) (.i t.I) (.i h.I)) = pvAt n'.I r.L v.L (mk3 a b c) h.I t.I:=rfl
   have hmk:mk3 (.i a.I) (.i b.I) (.i c.I) = mk3 a b c:=rfl
   simp only [hmk,hpv]
   refine rd_yes ⟨hN,z0,by omega,by omega⟩ (rd_yes ⟨hP,⟨ht0,hlt⟩,trivial,trivial,trivial,trivial,⟨by omega,by omega⟩,⟨fun e=>absurd e (by simp [pvOf,B_b]),by simp only [pvOf,I_i]; omega,by simp only [pvOf,I_i]; omega,by simp only [pvOf,I_i]; omega⟩⟩ ?_)
   have hlast:∀ (X:Int) (b':Bool),X = toP n'.I r.L v.L (mk3 a b c) h.I t.I → b' = (pvAt n'.I r.L v.L (mk3 a b c) h.I t.I).c →
       RdOK (G96_1 q) (fun ds=>((ds.getD 2 default).I - (ds.getD 1 default).I).toNat) [g,t,h,n',r,a,b,c,v] rr (T.ite (!(!(g.L.length == q))) (T.leaf (Rd.out Ex.ret [.l (g.L ++ [[.i t.I,.i X,.b b']]),.i h.I,.i n'.I,.l r.L,.i a.I,.i b.I,.i c.I,.l v.L])) (T.leaf (Rd.again [.l (g.L ++ [[.i t.I,.i X,.b b']]),.i X,.i h.I,.i n'.I,.l r.L,.i a.I,.i b.I,.i c.I,.l v.L]))).run:=fun X b' hX hb'=>by
    subst hX hb'
    refine rd_ite (fun c2=>?_) fun c2=>?_
    ·rw [Bool.not_not] at c2
     have c2:g.L.length = q:=by simpa using c2
     rw [run_ite,if_pos (by simp; omega)] at hh
     rw [show q + 1 - g.L.length = 1 by omega] at hh
     exact rd_out hh
    ·rw [Bool.not_not] at c2
     have c2:g.L.length ≠ q:=by
      have:¬ (g.L.length == q) = true:=by rw [show (g.L.length == q) = false from c2]; simp
      simpa using this
     refine rd_again ((need_yes ⟨hP,by simp only [I_i]; omega,by simp only [I_i]; omega,by simp only [L_l,List.length_append,List.length_cons,List.length_nil]; omega⟩).trans ?_) (show (h.I - toP n'.I r.L v.L (mk3 a b c) h.I t.I).toNat < (h.I - t.I).toNat by omega)
     simp only [I_i,L_l,List.length_append,List.length_cons,List.length_nil,List.append_assoc,List.cons_append,List.nil_append,hmk] at hh ⊢
     rw [show q + 1 - g.L.length = (q + 1 - (g.L.length + (0 + 1))) + 1 by omega,List.take_succ_cons] at hh
     rw [show g.L.length + (0 + 1) + (pieceL n'.I r.L v.L (mk3 a b c) h.I (h.I - toP n'.I r.L v.L (mk3 a b c) h.I t.I).toNat (toP n'.I r.L v.L (mk3 a b c) h.I t.I)).length = g.L.length + ((pieceL n'.I r.L v.L (mk3 a b c) h.I (h.I - toP n'.I r.L v.L (mk3 a b c) h.I t.I).toNat (toP n'.I r.L v.L (mk3 a b c) h.I t.I)).length + 1) by omega]
     exact hh
   refine rd_not (fun c1=>?_) fun c1=>?_
   ·exact hlast _ _ (by unfold toP; rw [c1]; rfl) rfl
   ·exact hlast _ _ (by unfold toP; rw [c1]; rfl) rfl
  ·rw [show (h.I - t.I).toNat = 0 by omega] at hh
   simp only [pieceL,List.length_nil,List.append_nil] at hh
   rw [run_ite] at hh
   split at hh
   ·rename_i hc
    have:=of_decide_eq_true hc
    omega
   ·exact rd_out hh
 ·cases hh
theorem ok96 (n:Nat):IterOK C (n + 7) 96 y96 (mkFY s96 G96):=by
 refine iter_of hC (sp:=sp96) (lp:=lp96) (sw:=sw96) (Y:=y96) (yOK_mk _ _ _) ⟨ok97 n,ok46 n,trivial⟩ trivial (by kernel_rfl) [1] (by kernel_rfl) (by kernel_rfl) (by kernel_rfl) (fun q k hk L hL=>by
  simp at hk; subst hk; cases hL; exact ok96_1 q n) fun ds L hh q=>?_
 unfold G96 at hh
 split at hh
 ·rename_i h n' r a b c v
  obtain ⟨hp,hh⟩:=need_some hh
  rw [yes_iff] at hp
  cases hh
  have h0:=hp.2.2.2.2
  refine (congrArg T.run (t96 q h n' r a b c v)).trans ?_
  have hmk:mk3 (.i a.I) (.i b.I) (.i c.I) = mk3 a b c:=rfl
  rw [Int.sub_zero]
  simp only [hmk]
  refine go_yes ⟨hp,by omega,h0.1,by simp⟩ (go_if (fun hc=>?_) fun hc=>?_)
  ·simp only [List.nil_append,List.length_nil,Nat.sub_zero,run_leaf]
  ·have hc:¬ q < (pieceL n'.I r.L v.L (mk3 a b c) h.I h.I.toNat 0).length:=fun h=>hc (by simpa using h)
   simp only [List.nil_append,run_leaf]
   rw [List.take_of_length_le (by omega)]
 ·cases hh
set_option maxRecDepth 100000
theorem rd_runT {G:List D → T (Ex × List D)} {μ:List D → Nat} {ds:List D} {r:Ex × List D} {X Y:Option Rd} (e:X = Y) (h:RdOK G μ ds r Y):RdOK G μ ds r X:=e ▸ h
theorem bytes3:Try.prog.types[3].bytes = 8:=by kernel_rfl
theorem bytes27:Try.prog.types[27].bytes = 24:=by kernel_rfl
theorem consR_step {i:Int} {l:List (List D)} {x:Nat} (h:x < l.length):consR i l x = chC i (l.getD x []) :: consR i l ((x + 1:Nat):Int):=by
 unfold consR
 rw [Int.toNat_natCast,Int.toNat_natCast,List.drop_eq_getElem_cons h,List.map_cons,List.getD_eq_getElem?_getD,List.getElem?_eq_getElem h]
 rfl
theorem consR_end {i:Int} {l:List (List D)} {x:Nat} (h:l.length ≤ x):consR i l x = []:=by
 unfold consR
 rw [Int.toNat_natCast,List.drop_eq_nil_of_le h]
 rfl
theorem take_one (i:Int) (L:List (List D)):List.take (1 + L.length) ([[D.i i]] ++ L) = [.i i] :: L:=by
 rw [List.take_of_length_le (by simp; omega)]
 rfl
def μ579 (ds:List D):Nat:=match ds with
 | [z,_,_,_,_,j,l]=>if z.I = 1 then (l.L.length + 1 - j.I).toNat + 1 else 0
 | [_,_,_,_,_,_,j,_,l]=>((l.L.length:Int) - j.I).toNat
 | _=>0
set_option maxHeartbeats 1000000 in
theorem ok57_9 (n q:Nat) (hW:AllOKW C n (sw57 q)):LoopSim C n 57 (loopOf C.P 57 9) (mkL l57_9 (G57_9 q)):=by
 refine loop_ofK hC (sp:=sp57) (lp:=lp57 q) (sw:=sw57 q) trivial hW 0 [] (by kernel_rfl) rfl (fun k hk=>by cases hk) (by kernel_rfl) μ579 fun ds rr h=>?_
 unfold G57_9 at h
 split at h
 ·rename_i z n' m i j
  obtain ⟨hp,h⟩:=need_some h
  rw [yes_iff] at hp
  refine ⟨by rw [fuelC]; show 0 < _; omega,?_⟩
  rw [roundTK_head (j:=z) (n:=0) hp.1 (by decide)]
  refine rd_runT (t57_9_0 q n' m i j) (rd_neg (by have:=hp.2; simp; omega) (rd_out h))
 ·rename_i z n' m x y j l
  by_cases hz:z.I = 1
  ·rw [run_ite,if_pos (decide_eq_true hz)] at h
   obtain ⟨hp,h⟩:=need_some h
   rw [yes_iff] at hp
   obtain ⟨-,hI,hy,hs,j0,j1⟩:=hp
   obtain ⟨hl,hs⟩:=id hs
   have hm:μ579 [z,n',m,x,y,j,l] = (l.L.length + 1 - j.I).toNat + 1:=if_pos hz
   refine ⟨by rw [fuelC,hm]; omega,?_⟩
   rw [roundTK_head (j:=z) (n:=1) hz (by decide)]
   refine rd_runT (t57_9_1 q n' m x y j l) ?_
   obtain ⟨k,hk⟩:∃ k:Nat,j.I = k:=⟨j.I.toNat,by omega⟩
   have hyl:y.I.toNat = l.L.length:=by omega
   simp only [hk,hyl,Int.toNat_natCast,lx_def,bytes3] at h j0 j1 ⊢
   refine rd_if (fun hlt=>?_) fun hge=>?_
   ·have hkl:k < l.L.length:=by omega
    have hb:=hs k hkl
    rw [consR_step hkl] at h
    have fin:∀ o:List (List D),o = [chC x.I (l.L.getD k [])] → (G57_9 q [.i 2,.i n'.I,.i m.I,.i 1,.i x.I,.i (l.L.length:Int),.i ((k + 1:Nat):Int),.l o,.l l.L]).run = some rr:=fun o ho=>by
     rw [ho]
     exact (need_yes ⟨rfl,hI,⟨rfl,by simp only [I_i]; omega⟩,rfl,⟨hl,hs⟩,by simp only [I_i]; omega,by simp only [I_i]; omega⟩).trans h
    have hmu:μ579 [.i 2,.i n'.I,.i m.I,.i 1,.i x.I,.i (l.L.length:Int),.i ((k + 1:Nat):Int),.l [chC x.I (l.L.getD k [])],.l l.L] < μ579 [z,n',m,x,y,j,l]:=by
     rw [hm]
     show ((l.L.length:Int) - ((k + 1:Nat):Int)).toNat < (l.L.length + 1 - j.I).toNat + 1
     omega
    rw [wrap_succ (by omega)]
    refine rd_dec (by omega) (rd_dec (by omega) (rd_ite (fun c=>?_) fun c=>?_))
    ·have e:chC x.I (l.L.getD k []) = [D.l [[D.i x.I]]]:=by unfold chC; rw [List.isEmpty_iff.1 c]
     rw [e] at fin hmu
     exact rd_again (fin _ rfl) hmu
    ·refine rd_dec (by simp only [List.length_cons,List.length_nil]; omega) (rd_dec (by simp; omega) ?_)
     have e2:List.take (List.length [[D.i x.I]] + (lx (l.L.getD k []) 0).length) (List.take (List.length [[D.i x.I]]) [[D.i x.I]] ++ lx (l.L.getD k []) 0) = [.i x.I] :: lx (l.L.getD k []) 0:=take_one x.I _
     rw [e2]
     exact rd_again (fin _ rfl) hmu
   ·rw [consR_end (by omega)] at h
    exact rd_out h
  ·rw [run_ite,if_neg (by simpa using hz)] at h
   obtain ⟨hp,h⟩:=need_some h
   rw [yes_iff] at hp
   refine ⟨by rw [fuelC,show μ579 [z,n',m,x,y,j,l] = 0 from if_neg hz]; omega,?_⟩
   rw [roundTK_head (j:=z) (n:=3) hp.1 (by decide)]
   have e:((x.I.toNat:Nat):Int) = x.I:=by omega
   refine rd_runT (t57_9_3 q n' m x y j l) (rd_neg (by have:=hp.2.2; simp; omega) ?_)
   rw [e]
   exact rd_out h
 ·rename_i z n' m s i t j o l
  obtain ⟨hp,h⟩:=need_some h
  rw [yes_iff] at hp
  obtain ⟨hz,hI,⟨hs1,hs2⟩,ht,hs,j0,j1⟩:=hp
  obtain ⟨hl,hs⟩:=id hs
  refine ⟨by rw [fuelC]; show ((l.L.length:Int) - j.I).toNat < _; omega,?_⟩
  rw [roundTK_head (j:=z) (n:=2) hz (by decide)]
  refine rd_runT (t57_9_2 q n' m s i t j o l) ?_
  obtain ⟨k,hk⟩:∃ k:Nat,j.I = k:=⟨j.I.toNat,by omega⟩
  have htl:t.I.toNat = l.L.length:=by omega
  have hsl:s.I.toNat = o.L.length:=by omega
  have hto:o.L.take o.L.length = o.L:=List.take_length
  simp only [hk,htl,hsl,hto,Int.toNat_natCast,lx_def,bytes3,bytes27] at h j0 j1 ⊢
  refine rd_if (fun hlt=>?_) fun hge=>?_
  ·have hkl:k < l.L.length:=by omega
   have hb:=hs k hkl
   rw [consR_step hkl] at h
   have fin:∀ p:List (List D),p = o.L ++ [chC i.I (l.L.getD k [])] → (G57_9 q [.i 2,.i n'.I,.i m.I,.i ((o.L.length + 1:Nat):Int),.i i.I,.i (l.L.length:Int),.i ((k + 1:Nat):Int),.l p,.l l.L]).run = some rr:=fun p hp'=>by
    rw [hp']
    refine (need_yes ⟨rfl,hI,⟨by simp only [I_i,L_l,List.length_append,List.length_cons,List.length_nil],by simp only [I_i]; omega⟩,rfl,⟨hl,hs⟩,by simp only [I_i]; omega,by simp only [I_i]; omega⟩).trans ?_
    simp only [L_l,I_i,List.append_assoc,List.cons_append,List.nil_append]
    exact h
   have hmu:∀ p,μ579 [.i 2,.i n'.I,.i m.I,.i ((o.L.length + 1:Nat):Int),.i i.I,.i (l.L.length:Int),.i ((k + 1:Nat):Int),.l p,.l l.L] < μ579 [z,n',m,s,i,t,j,o,l]:=fun p=>by
    show ((l.L.length:Int) - ((k + 1:Nat):Int)).toNat < ((l.L.length:Int) - j.I).toNat
    omega
   rw [wrap_succ (by omega)]
   refine rd_dec (by omega) (rd_dec (by omega) (rd_ite (fun c=>?_) fun c=>?_))
   ·have e:chC i.I (l.L.getD k []) = [D.l [[D.i i.I]]]:=by unfold chC; rw [List.isEmpty_iff.1 c]
    refine rd_dec (by omega) (rd_again (fin _ ?_) (hmu _))
    rw [e]
    rfl
   ·refine rd_dec (by simp only [List.length_cons,List.length_nil]; omega) (rd_dec (by simp; omega) (rd_dec (by omega) (rd_again (fin _ ?_) (hmu _))))
    have e2:List.take (List.length [[D.i i.I]] + (lx (l.L.getD k []) 0).length) (List.take (List.length [[D.i i.I]]) [[D.i i.I]] ++ lx (l.L.getD k []) 0) = [.i i.I] :: lx (l.L.getD k []) 0:=take_one i.I _
    rw [e2]
    rfl
  ·rw [consR_end (by omega),List.append_nil] at h
   exact rd_out h
 ·cases h
set_option maxRecDepth 100000
theorem chW_len {ch:Nat → List (List D)} {n:Nat} (hc:∀ j,j ≤ n → (ch j).length ≤ 2 ^ (n - j)):∀ k i,i + k = n → (chW ch i k).length + 1 ≤ 2 ^ k
 | 0,_,_=>by simp [chW]
 | k + 1,i,h=>by
   have h1:=chW_len hc k (i + 1) (by omega)
   have h2:=hc (i + 1) (by omega)
   rw [show n - (i + 1) = k by omega] at h2
   simp only [chW,List.length_append,List.length_map,Nat.pow_succ]
   omega
theorem chF_len {n:Nat}:∀ m i,i ≤ n → (chF n m i).length ≤ 2 ^ (n - i)
 | 0, i,_=>by
   have:=Nat.one_le_two_pow (n:=n - i)
   simpa [chF] using this
 | m + 1,i,h=>by
   have:=chW_len (ch:=chF n m) (fun j hj=>chF_len m j hj) (n - i) i (by omega)
   simp only [chF]
   omega
theorem chW_mem {ch:Nat → List (List D)} {m:Nat} (hc:∀ j,∀ c ∈ ch j,(lx c 0).length = m):∀ k i,∀ c ∈ chW ch i k,(lx c 0).length = m + 1
 | 0,_,_,h=>by cases h
 | k + 1,i,c,h=>by
   simp only [chW,List.mem_append,List.mem_map] at h
   rcases h with ⟨a,ha,rfl⟩ | h
   ·show (([D.i i] :: lx a 0).length) = _
    rw [List.length_cons,hc _ a ha]
   ·exact chW_mem hc k (i + 1) c h
theorem chF_mem {n:Nat}:∀ m i,∀ c ∈ chF n m i,(lx c 0).length = m
 | 0, _,c,h=>by
   simp only [chF,List.mem_singleton] at h
   rw [h]; rfl
 | m + 1,i,c,h=>chW_mem (fun j=>chF_mem m j) _ _ c h
theorem chF_s {n m i:Nat} (hn:n ≤ 12) (hm:m ≤ 12) (hi:i ≤ n):chS (chF n m i):=by
 refine ⟨Nat.le_trans (chF_len m i hi) (Nat.le_trans (Nat.pow_le_pow_right (by decide) (show n - i ≤ 12 by omega)) (by decide)),fun k hk=>?_⟩
 rw [List.getD_eq_getElem?_getD,List.getElem?_eq_getElem hk,Option.getD_some,chF_mem m i _ (List.getElem_mem hk)]
 exact hm
theorem chR_step {n m:Int} {x:Nat} (h:(x:Int) < n):chR n m x = consR x (chF n.toNat (m - 1).toNat (x + 1)) 0 ++ chR n m ((x + 1:Nat):Int):=by
 unfold chR consR
 rw [Int.toNat_natCast,Int.toNat_natCast,show (n - (x:Int)).toNat = (n - ((x + 1:Nat):Int)).toNat + 1 by omega]
 rfl
theorem chR_end {n m i:Int} (h:¬ i < n):chR n m i = []:=by
 unfold chR
 rw [show (n - i).toNat = 0 by omega]
 rfl
def μ575 (ds:List D):Nat:=match ds with
 | [_,n,_,i]=>(n.I - i.I).toNat
 | [_,n,_,_,i,_]=>(n.I - i.I).toNat
 | _=>0
set_option maxHeartbeats 1000000 in
theorem ok57_5 (n q:Nat) (hW:AllOKW C n (sw57 q)):LoopSim C n 57 (loopOf C.P 57 5) (mkL l57_5 (G57_5 q)):=by
 refine loop_ofK hC (sp:=sp57) (lp:=lp57 q) (sw:=sw57 q) trivial hW 0 [9] (by kernel_rfl) (by kernel_rfl) (fun k hk L hL=>by simp at hk; subst hk; cases hL; exact ok57_9 n q hW) (by kernel_rfl) μ575 fun ds rr h=>?_
 unfold G57_5 at h
 split at h
 ·rename_i z n' m i
  obtain ⟨hp,h⟩:=need_some h
  rw [yes_iff] at hp
  obtain ⟨hz,hP,m1,mq⟩:=hp
  obtain ⟨⟨n0,n1⟩,⟨m0,m2⟩,i0,i1⟩:=id hP
  refine ⟨by rw [fuelC]; show (n'.I - i.I).toNat < _; omega,?_⟩
  rw [roundTK_head (j:=z) (n:=0) hz (by decide)]
  refine rd_runT (t57_5_0 q n' m i) ?_
  obtain ⟨x,hx⟩:∃ x:Nat,i.I = x:=⟨i.I.toNat,by omega⟩
  rw [hx] at h i0 i1 ⊢
  have w1:IntKind.i64.wrap (m.I - 1) = m.I - 1:=wrap_id (by omega) (by omega)
  rw [w1,wrap_succ (by omega),Int.toNat_natCast]
  refine rd_if (fun hlt=>?_) fun hge=>?_
  ·have hS:=chF_s (n:=n'.I.toNat) (m:=(m.I - 1).toNat) (i:=x + 1) (by omega) (by omega) (by omega)
   rw [chR_step (m:=m.I) hlt] at h
   have hmu:(n'.I - ((x + 1:Nat):Int)).toNat < (n'.I - i.I).toNat:=by omega
   have hP':chP n'.I m.I ((x + 1:Nat):Int):=⟨⟨n0,n1⟩,⟨m0,m2⟩,by omega,by omega⟩
   generalize chF n'.I.toNat (m.I - 1).toNat (x + 1) = F at hS h ⊢
   refine rd_yes ⟨⟨⟨n0,n1⟩,⟨by omega,by omega⟩,by omega,by omega⟩,by omega⟩ (rd_ite (fun c=>?_) fun c=>?_)
   ·rw [List.isEmpty_iff.1 c] at h
    exact rd_yes ⟨rfl,by omega⟩ (rd_again ((need_yes ⟨rfl,hP',m1,mq⟩).trans h) hmu)
   ·refine rd_yes ⟨rfl,⟨⟨n0,n1⟩,by omega,by omega⟩,by simp only [Int.toNat_natCast],hS,by omega,by omega⟩ (rd_ite (fun c2=>?_) fun c2=>?_)
    ·rw [List.isEmpty_iff.1 c2] at h
     exact rd_again ((need_yes ⟨rfl,hP',m1,mq⟩).trans h) hmu
    ·have hl:(consR x F 0).length ≤ 4096:=by unfold consR; simpa using hS.1
     have hpos:0 < (consR x F 0).length:=by
      cases hq:consR x F 0 with
      | nil=>rw [hq] at c2; cases c2
      | cons _ _=>simp
     have hne:(consR x F 0 ++ chR n'.I m.I ((x + 1:Nat):Int)).isEmpty = false:=by
      cases hq:consR x F 0 with
      | nil=>rw [hq] at c2; cases c2
      | cons _ _=>rfl
     rw [run_ite,hne] at h
     refine rd_again ((need_yes ⟨rfl,hP',m1,mq,by simp only [I_i,L_l,Int.toNat_natCast],by simp only [I_i,Int.toNat_natCast]; omega,by simp only [I_i,Int.toNat_natCast]; omega⟩).trans h) hmu
  ·rw [chR_end hge] at h
   exact rd_out h
 ·rename_i z n' m s i o
  obtain ⟨hp,h⟩:=need_some h
  rw [yes_iff] at hp
  obtain ⟨hz,hP,m1,mq,hs,s0,s1⟩:=hp
  obtain ⟨⟨n0,n1⟩,⟨m0,m2⟩,i0,i1⟩:=id hP
  refine ⟨by rw [fuelC]; show (n'.I - i.I).toNat < _; omega,?_⟩
  rw [roundTK_head (j:=z) (n:=1) hz (by decide)]
  refine rd_runT (t57_5_1 q n' m s i o) ?_
  obtain ⟨x,hx⟩:∃ x:Nat,i.I = x:=⟨i.I.toNat,by omega⟩
  have hsl:s.I.toNat = o.L.length:=by omega
  rw [hx] at h i0 i1 s1 ⊢
  have w1:IntKind.i64.wrap (m.I - 1) = m.I - 1:=wrap_id (by omega) (by omega)
  rw [w1,wrap_succ (by omega),Int.toNat_natCast]
  simp only [hsl,Int.toNat_natCast]
  refine rd_if (fun hlt=>?_) fun hge=>?_
  ·have hS:=chF_s (n:=n'.I.toNat) (m:=(m.I - 1).toNat) (i:=x + 1) (by omega) (by omega) (by omega)
   rw [chR_step (m:=m.I) hlt] at h
   have hmu:(n'.I - ((x + 1:Nat):Int)).toNat < (n'.I - i.I).toNat:=by omega
   have hP':chP n'.I m.I ((x + 1:Nat):Int):=⟨⟨n0,n1⟩,⟨m0,m2⟩,by omega,by omega⟩
   generalize chF n'.I.toNat (m.I - 1).toNat (x + 1) = F at hS h ⊢
   refine rd_yes ⟨⟨⟨n0,n1⟩,⟨by omega,by omega⟩,by omega,by omega⟩,by omega⟩ (rd_ite (fun c=>?_) fun c=>?_)
   ·rw [List.isEmpty_iff.1 c] at h
    exact rd_yes ⟨rfl,by omega,by omega⟩ (rd_again ((need_yes ⟨rfl,hP',m1,mq,by simp only [I_i,L_l],by simp only [I_i]; omega,by simp only [I_i]; omega⟩).trans h) hmu)
   ·have hl:(consR x F 0).length ≤ 4096:=by unfold consR; simpa using hS.1
    have hF:=hS.1
    refine rd_yes ⟨rfl,⟨⟨n0,n1⟩,by omega,by omega⟩,⟨by trivial,by omega⟩,by trivial,hS,by omega,by omega⟩ (rd_again ((need_yes ⟨rfl,hP',m1,mq,by simp only [I_i,L_l],by simp only [I_i,List.length_append]; omega,by simp only [I_i,List.length_append]; omega⟩).trans ?_) hmu)
    simp only [L_l,I_i,List.append_assoc]
    rw [← List.append_assoc] at h
    simpa only [List.append_assoc] using h
  ·rw [chR_end hge,List.append_nil] at h
   exact rd_out h
 ·cases h
theorem ok57_ (n q:Nat) (hW:AllOKW C n (sw57 q)):FnOKW C (n + 1) 57 (mkFW s57 (G57 (q + 1))):=by
 refine fn_ofW hC (sp:=sp57) (lp:=lp57 q) (sw:=sw57 q) trivial hW (by kernel_rfl) [5] (by kernel_rfl) (by kernel_rfl) (fun k hk L hL=>by
  simp at hk; subst hk; cases hL; exact ok57_5 n q hW) fun ds r h=>?_
 unfold G57 at h
 split at h
 ·rename_i n' m i
  obtain ⟨hp,h⟩:=need_some h
  rw [yes_iff] at hp
  obtain ⟨hP,hq⟩:=hp
  obtain ⟨⟨n0,n1⟩,⟨m0,m1⟩,i0,i1⟩:=id hP
  refine (t57 q n' m i).trans ?_
  refine go_ite (fun c=>?_) fun c=>?_
  ·have hm:m.I = 0:=by simpa using c
   rw [hm] at h
   exact h
  ·have hm:¬ m.I = 0:=by simpa using c
   have e:chF n'.I.toNat m.I.toNat i.I.toNat = chR n'.I m.I i.I:=by
    unfold chR
    rw [show m.I.toNat = (m.I - 1).toNat + 1 by omega,show (n'.I - i.I).toNat = n'.I.toNat - i.I.toNat by omega]
    rfl
   rw [e] at h
   simp only [Int.toNat_natCast]
   exact go_yes ⟨by trivial,hP,by omega,by omega⟩ h
 ·cases h
theorem t57e (a b c:D):(fnTW C (mkTab [] [] []) 57 s57 [a,b,c]).run = T.run (T.ite (b.I == 0) (T.leaf [D.i 1,D.i 1,D.l [[D.l []]]]) T.fail):=by kernel_rfl
theorem ok57:∀ q n:Nat,FnOKW C (n + q + 1) 57 (mkFW s57 (G57 q))
 | 0, n=>by
   refine fn_ofW hC (sp:=[]) (lp:=[]) (sw:=[]) trivial trivial (by kernel_rfl) [5] (by kernel_rfl) (by kernel_rfl) (fun k hk L hL=>by simp at hk; subst hk; cases hL) fun ds r h=>?_
   unfold G57 at h
   split at h
   ·rename_i n' m i
    obtain ⟨hp,h⟩:=need_some h
    rw [yes_iff] at hp
    obtain ⟨⟨-,⟨m0,-⟩,-⟩,hq⟩:=hp
    have hm:m.I = 0:=by omega
    refine (t57e n' m i).trans (go_true (by rw [hm]; rfl) ?_)
    rw [hm] at h
    exact h
   ·cases h
 | q + 1,n=>ok57_ (n + q + 1) q ⟨ok57 q n,trivial⟩
set_option maxRecDepth 100000
theorem bytes60:Try.prog.types[60].bytes = 32:=by kernel_rfl
theorem restC_step {ch:List (List D)} {i:Int} {j:Nat} (h:j < (lx (ch.getD i.toNat []) 0).length):restC ch i j = (lx (ch.getD i.toNat []) 0).getD j [] :: restC ch i ((j + 1:Nat):Int):=by
 unfold restC
 rw [Int.toNat_natCast,Int.toNat_natCast,List.drop_eq_getElem_cons h,List.getD_eq_getElem?_getD (l:=lx (ch.getD i.toNat []) 0),List.getElem?_eq_getElem h]
 rfl
theorem restC_end {ch:List (List D)} {i:Int} {j:Nat} (h:(lx (ch.getD i.toNat []) 0).length ≤ j):restC ch i j = []:=by
 unfold restC
 rw [Int.toNat_natCast,List.drop_eq_nil_of_le h]
def μ3310 (ds:List D):Nat:=match ds with
 | [_,_,_,_,_,_,i,j,_,_,ch]=>((lx (ch.L.getD i.I.toNat []) 0).length - j.I).toNat
 | [_,_,_,_,_,_,i,_,j,_,_,ch,_]=>((lx (ch.L.getD i.I.toNat []) 0).length - j.I).toNat
 | _=>0
set_option maxHeartbeats 1000000 in
theorem ok33_10 (n:Nat) (hA:AllOK C n sp33) (hW:AllOKW C n sw33):LoopSim C n 33 (loopOf C.P 33 10) (mkL l33_10 G33_10):=by
 refine loop_ofK hC (sp:=sp33) (lp:=lp33) (sw:=sw33) hA hW 0 [] (by kernel_rfl) rfl (fun k hk=>by cases hk) (by kernel_rfl) μ3310 fun ds rr h=>?_
 unfold G33_10 at h
 split at h
 ·rename_i q v z h' n' s i j nn r ch
  obtain ⟨hp,h⟩:=need_some h
  rw [yes_iff] at hp
  obtain ⟨hz,hv,hs,⟨i0,i1⟩,j0,j1⟩:=hp
  obtain ⟨⟨hl,h12⟩,hin⟩:=id hv
  have hb:=h12 i.I.toNat (by omega)
  have hin:=hin i.I.toNat (by omega)
  refine ⟨by rw [fuelC]; show ((lx (ch.L.getD i.I.toNat []) 0).length - j.I).toNat < _; omega,?_⟩
  rw [roundTK_head (j:=q) (n:=1) hz (by decide)]
  refine rd_runT (t33_10_1 v z h' n' s i j nn r ch) ?_
  obtain ⟨k,hk⟩:∃ k:Nat,j.I = k:=⟨j.I.toNat,by omega⟩
  have es:((s.I.toNat:Nat):Int) = s.I:=by omega
  simp only [hk,es,Int.toNat_natCast,lx_def,ix_def] at h j0 j1 ⊢
  refine rd_dec (by omega) (rd_dec (by omega) (rd_if (fun hlt=>?_) fun hge=>?_))
  ·have hkl:k < (lx (ch.L.getD i.I.toNat []) 0).length:=by omega
   obtain ⟨r0,r1⟩:=hin k hkl
   rw [restC_step hkl] at h
   refine rd_dec (by omega) (rd_dec (by omega) (rd_dec (by omega) (rd_dec ⟨r0,r1⟩ ?_)))
   rw [wrap_succ (by omega)]
   refine rd_again ((need_yes ⟨rfl,hv,by simp only [I_i,L_l]; omega,by simp only [I_i]; omega,⟨by simp only [I_i]; omega,by simp only [I_i,L_l]; omega⟩,rfl,by simp only [I_i]; omega⟩).trans h) ?_
   show ((lx (ch.L.getD i.I.toNat []) 0).length - ((k + 1:Nat):Int)).toNat < ((lx (ch.L.getD i.I.toNat []) 0).length - j.I).toNat
   omega
  ·rw [restC_end (by omega)] at h
   exact rd_out h
 ·rename_i q v z h' n' s i t j nn r ch o
  obtain ⟨hp,h⟩:=need_some h
  rw [yes_iff] at hp
  obtain ⟨hz,hv,hs,⟨i0,i1⟩,⟨j0,j1⟩,ht,htj⟩:=hp
  obtain ⟨⟨hl,h12⟩,hin⟩:=id hv
  have hb:=h12 i.I.toNat (by omega)
  have hin:=hin i.I.toNat (by omega)
  refine ⟨by rw [fuelC]; show ((lx (ch.L.getD i.I.toNat []) 0).length - j.I).toNat < _; omega,?_⟩
  rw [roundTK_head (j:=q) (n:=2) hz (by decide)]
  refine rd_runT (t33_10_2 v z h' n' s i t j nn r ch o) ?_
  obtain ⟨k,hk⟩:∃ k:Nat,j.I = k:=⟨j.I.toNat,by omega⟩
  have es:((s.I.toNat:Nat):Int) = s.I:=by omega
  have et:t.I.toNat = o.L.length:=by omega
  have eo:o.L.take o.L.length = o.L:=List.take_length
  simp only [hk,es,et,eo,Int.toNat_natCast,lx_def,ix_def,bytes60] at h j0 j1 htj ⊢
  refine rd_dec (by omega) (rd_dec (by omega) (rd_if (fun hlt=>?_) fun hge=>?_))
  ·have hkl:k < (lx (ch.L.getD i.I.toNat []) 0).length:=by omega
   obtain ⟨r0,r1⟩:=hin k hkl
   rw [restC_step hkl] at h
   refine rd_dec (by omega) (rd_dec (by omega) (rd_dec (by omega) (rd_dec ⟨r0,r1⟩ (rd_dec (by omega) ?_))))
   rw [wrap_succ (by omega)]
   refine rd_again ((need_yes ⟨rfl,hv,by simp only [I_i,L_l]; omega,by simp only [I_i]; omega,⟨by simp only [I_i]; omega,by simp only [I_i,L_l]; omega⟩,by simp only [I_i,L_l,List.length_append,List.length_take,List.length_cons,List.length_nil]; omega,by simp only [I_i]; omega⟩).trans ?_) ?_
   ·simp only [L_l,I_i,List.append_assoc]
    exact h
   ·show ((lx (ch.L.getD i.I.toNat []) 0).length - ((k + 1:Nat):Int)).toNat < ((lx (ch.L.getD i.I.toNat []) 0).length - j.I).toNat
    omega
  ·rw [restC_end (by omega)] at h
   simp only [teamL,List.map_nil,List.append_nil] at h
   exact rd_out h
 ·cases h
set_option maxRecDepth 100000
theorem firstC_step {n:Int} {r v z:List (List D)} {h:Int} {ch:List (List D)} {i:Nat} (hi:i < ch.length) :
    firstC n r v z h (ch.drop i) = if cov n r v z h (ch.getD i []) then some (ch.getD i []) else firstC n r v z h (ch.drop (i + 1)):=by
 unfold firstC
 rw [List.drop_eq_getElem_cons hi,List.find?_cons,List.getD_eq_getElem?_getD,List.getElem?_eq_getElem hi,Option.getD_some]
 split <;> rename_i hc
 ·rw [if_pos hc]
 ·rw [if_neg (by simp [hc])]
theorem firstC_end {n:Int} {r v z:List (List D)} {h:Int} {ch:List (List D)} {i:Nat} (hi:ch.length ≤ i):firstC n r v z h (ch.drop i) = none:=by
 unfold firstC
 rw [List.drop_eq_nil_of_le hi]
 rfl
def μ336 (ds:List D):Nat:=match ds with
 | [_,_,_,_,_,_,i,_,_,ch]=>(ch.L.length - i.I).toNat
 | _=>0
set_option maxHeartbeats 1000000 in
theorem ok33_6 (n:Nat) (hA:AllOK C n sp33) (hW:AllOKW C n sw33):LoopSim C n 33 (loopOf C.P 33 6) (mkL l33_6 G33_6):=by
 refine loop_ofK hC (sp:=sp33) (lp:=lp33) (sw:=sw33) hA hW 0 [10] (by kernel_rfl) (by kernel_rfl) (fun k hk L hL=>by simp at hk; subst hk; cases hL; exact ok33_10 n hA hW) (by kernel_rfl) μ336 fun ds rr h=>?_
 unfold G33_6 at h
 split at h
 ·rename_i q v z h' n' i nn r
  obtain ⟨hp,h⟩:=need_some h
  rw [yes_iff] at hp
  refine ⟨by rw [fuelC]; show 0 < _; omega,?_⟩
  rw [roundTK_head (j:=q) (n:=0) hp.1 (by decide)]
  exact rd_runT (t33_6_0 v z h' n' i nn r) (rd_neg (by have:=hp.2; simp; omega) (rd_out h))
 ·rename_i q v z h' n' s i nn r ch
  obtain ⟨hp,h⟩:=need_some h
  rw [yes_iff] at hp
  obtain ⟨hz,hv,hT,hs,i0,i1⟩:=hp
  have hl:=hv.1.1
  refine ⟨by rw [fuelC]; show (ch.L.length - i.I).toNat < _; omega,?_⟩
  rw [roundTK_head (j:=q) (n:=1) hz (by decide)]
  refine rd_runT (t33_6_1 v z h' n' s i nn r ch) ?_
  obtain ⟨k,hk⟩:∃ k:Nat,i.I = k:=⟨i.I.toNat,by omega⟩
  have es:((s.I.toNat:Nat):Int) = s.I:=by omega
  simp only [hk,es,Int.toNat_natCast,lx_def] at h i0 i1 ⊢
  refine rd_if (fun hlt=>?_) fun hge=>?_
  ·have hkl:k < ch.L.length:=by omega
   have hTk:=hT k hkl
   have e0:restC ch.L (k:Int) 0 = lx (ch.L.getD k []) 0:=by unfold restC; rw [Int.toNat_natCast]; rfl
   have et:teamL v.L (restC ch.L (k:Int) 0) = teamF v.L (ch.L.getD k []):=by rw [e0]; rfl
   rw [firstC_step hkl] at h
   have fin:cov nn.I r.L v.L z.L h'.I (ch.L.getD k []) = false → (G33_6 [.i 1,.l v.L,.l z.L,.i h'.I,.i n'.I,.i s.I,.i ((k + 1:Nat):Int),.i nn.I,.l r.L,.l ch.L]).run = some rr:=fun hc=>by
    rw [if_neg (by rw [hc]; decide)] at h
    exact (need_yes ⟨rfl,hv,hT,hs,by simp only [I_i]; omega,by simp only [I_i]; omega⟩).trans h
   have good:cov nn.I r.L v.L z.L h'.I (ch.L.getD k []) = true → some (Ex.ret,[D.l (lx (ch.L.getD k []) 0),D.b true]) = some rr:=fun hc=>by
    rw [if_pos hc] at h
    exact h
   have hmu:(ch.L.length - ((k + 1:Nat):Int)).toNat < (ch.L.length - i.I).toNat:=by omega
   rw [wrap_succ (by omega)]
   refine rd_yes ⟨by trivial,hv,hs,⟨by omega,hlt⟩,by omega,by omega⟩ (rd_ite (fun c=>?_) fun c=>?_)
   ·have en:teamF v.L (ch.L.getD k []) = []:=by
     rw [← et,List.isEmpty_iff.1 c]
     rfl
    rw [en] at hTk
    have ec:cov nn.I r.L v.L z.L h'.I (ch.L.getD k []) = (refZ nn.I r.L [] z.L h'.I 0 z.L.length []).isEmpty:=by unfold cov; rw [en]
    rw [ec] at fin good
    refine rd_yes hTk (rd_ite (fun c1=>rd_dec (by omega) (rd_dec hkl (rd_out (good c1)))) fun c1=>rd_ite (fun c2=>?_) fun c2=>rd_again (fin c1) hmu)
    exfalso
    cases hq:refZ nn.I r.L [] z.L h'.I 0 z.L.length [] with
    | nil=>rw [hq] at c1; cases c1
    | cons _ _=>rw [hq] at c2; simp at c2; omega
   ·have ez:List.take (teamF v.L (ch.L.getD k [])).length (teamF v.L (ch.L.getD k [])) = teamF v.L (ch.L.getD k []):=List.take_length
    rw [et,ez]
    have ec:cov nn.I r.L v.L z.L h'.I (ch.L.getD k []) = (refZ nn.I r.L (teamF v.L (ch.L.getD k [])) z.L h'.I 0 z.L.length []).isEmpty:=rfl
    rw [ec] at fin good
    refine rd_dec (by omega) (rd_yes hTk (rd_ite (fun c1=>rd_dec (by omega) (rd_dec hkl (rd_out (good c1)))) fun c1=>rd_ite (fun c2=>?_) fun c2=>rd_again (fin c1) hmu))
    exfalso
    cases hq:refZ nn.I r.L (teamF v.L (ch.L.getD k [])) z.L h'.I 0 z.L.length [] with
    | nil=>rw [hq] at c1; cases c1
    | cons _ _=>rw [hq] at c2; simp at c2; omega
  ·rw [firstC_end (by omega)] at h
   exact rd_out h
 ·cases h
set_option maxRecDepth 100000
theorem gdm {l:List (List D)} {q:Nat} (h:q < l.length):l.getD q [] ∈ l:=by rw [List.getD_eq_getElem?_getD,List.getElem?_eq_getElem h]; exact List.getElem_mem h
def entL (i n:Nat) (l:List (List D)):Prop:=∀ x ∈ l,(i:Int) ≤ ix x 0 ∧ ix x 0 < n
theorem chW_ent {ch:Nat → List (List D)} {n:Nat} (hc:∀ j,∀ c ∈ ch j,entL j n (lx c 0)):∀ k i,i + k ≤ n → ∀ c ∈ chW ch i k,entL i n (lx c 0)
 | 0,_,_,_,h=>by cases h
 | k + 1,i,hi,c,h=>by
   simp only [chW,List.mem_append,List.mem_map] at h
   rcases h with ⟨a,ha,rfl⟩ | h
   ·intro x hx
    have hx:x ∈ [D.i i] :: lx a 0:=hx
    rw [List.mem_cons] at hx
    rcases hx with rfl | hx
    ·show (i:Int) ≤ i ∧ (i:Int) < n
     omega
    ·have:=hc (i + 1) a ha x hx
     omega
   ·intro x hx
    have:=chW_ent hc k (i + 1) (by omega) c h x hx
    omega
theorem chF_ent {n:Nat}:∀ m i,∀ c ∈ chF n m i,entL i n (lx c 0)
 | 0, i,c,h=>by
   simp only [chF,List.mem_singleton] at h
   rw [h]
   intro x hx
   cases hx
 | m + 1,i,c,h=>by
   by_cases hi:i ≤ n
   ·exact chW_ent (fun j=>chF_ent m j) _ _ (by omega) c h
   ·simp only [chF] at h
    rw [show n - i = 0 by omega] at h
    cases h
theorem chF_v {v:List (List D)} {m:Nat} (hn:v.length ≤ 12) (hm:m ≤ 12):chV v (chF v.length m 0):=by
 refine ⟨chF_s hn hm (Nat.zero_le _),fun k hk j hj=>?_⟩
 have hmem:(chF v.length m 0).getD k [] ∈ chF v.length m 0:=by rw [List.getD_eq_getElem?_getD,List.getElem?_eq_getElem hk]; exact List.getElem_mem hk
 have:=chF_ent m 0 _ hmem ((lx ((chF v.length m 0).getD k []) 0).getD j []) (gdm hj)
 omega
theorem team_ok {n:Int} {r v z:List (List D)} {h:Int} {l:List (List D)} (hG:okG n r v z h) (hl:l.length ≤ 1000) (he:∀ x ∈ l,0 ≤ ix x 0 ∧ ix x 0 < v.length):okG n r (teamL v l) z h:=by
 obtain ⟨h1,h2,h3,h4,h5⟩:=hG
 refine ⟨h1,?_,h3,by unfold teamL; rw [List.length_map]; exact hl,h5⟩
 unfold vehs at h2 ⊢
 rw [allFrom_iff] at h2 ⊢
 intro k _ hk
 have hk':k < l.length:=by unfold teamL at hk; simpa using hk
 have hx:=he _ (List.getElem_mem hk')
 have e:(teamL v l).getD k [] = vehR (v.getD (ix l[k] 0).toNat []):=by
  unfold teamL
  rw [List.getD_eq_getElem?_getD,List.getElem?_map,List.getElem?_eq_getElem hk']
  rfl
 unfold vehL
 rw [e]
 exact h2 (ix l[k] 0).toNat (Nat.zero_le _) (by omega)
theorem chF_teams {n:Int} {r v z:List (List D)} {h:Int} {m:Nat} (hG:okG n r v z h) (hm:m ≤ 12):teamsOk n r v z h (chF v.length m 0):=fun k hk=>by
 have hmem:(chF v.length m 0).getD k [] ∈ chF v.length m 0:=by rw [List.getD_eq_getElem?_getD,List.getElem?_eq_getElem hk]; exact List.getElem_mem hk
 refine team_ok hG ?_ fun x hx=>?_
 ·rw [chF_mem m 0 _ hmem]; omega
 ·have:=chF_ent m 0 _ hmem x hx
  omega
theorem leastN_step {n:Int} {r v z:List (List D)} {h:Int} {m k:Nat}:leastN n r v z h m (k + 1) = match firstC n r v z h (chF v.length m 0) with
    | some c=>some c
    | none=>leastN n r v z h (m + 1) k:=rfl
set_option maxHeartbeats 1000000 in
theorem ok33_2 (n:Nat) (hA:AllOK C n sp33) (hW:AllOKW C n sw33):LoopSim C n 33 (loopOf C.P 33 2) (mkL l33_2 G33_2):=by
 refine loop_ofK hC (sp:=sp33) (lp:=lp33) (sw:=sw33) hA hW 0 [6] (by kernel_rfl) (by kernel_rfl) (fun k hk L hL=>by simp at hk; subst hk; cases hL; exact ok33_6 n hA hW) (by kernel_rfl) (fun ds=>(((ds.getD 0 default).L.length:Int) + 1 - (ds.getD 3 default).I).toNat) fun ds rr h=>?_
 unfold G33_2 at h
 split at h
 ·rename_i v z h' n' nn r
  obtain ⟨hp,h⟩:=need_some h
  rw [yes_iff] at hp
  obtain ⟨hG,h12,n0,n1⟩:=hp
  refine ⟨by rw [fuelC]; show ((v.L.length:Int) + 1 - n'.I).toNat < _; omega,?_⟩
  refine rd_runT (t33_2 v z h' n' nn r) ?_
  obtain ⟨m,hm⟩:∃ m:Nat,n'.I = m:=⟨n'.I.toNat,by omega⟩
  have z0:Int.toNat 0 = 0:=rfl
  simp only [hm,Int.toNat_natCast,z0,List.drop_zero] at h n0 n1 ⊢
  refine rd_if (fun hlt=>?_) fun hge=>?_
  ·have hml:m ≤ v.L.length:=by omega
   have hv:=chF_v (v:=v.L) (m:=m) h12 (by omega)
   have hT:=chF_teams (m:=m) hG (by omega)
   rw [show v.L.length + 1 - m = (v.L.length + 1 - (m + 1)) + 1 by omega,leastN_step] at h
   have hmu:((v.L.length:Int) + 1 - ((m + 1:Nat):Int)).toNat < ((v.L.length:Int) + 1 - n'.I).toNat:=by omega
   rw [wrap_succ (by omega)]
   have fin:firstC nn.I r.L v.L z.L h'.I (chF v.L.length m 0) = none → (G33_2 [.l v.L,.l z.L,.i h'.I,.i ((m + 1:Nat):Int),.i nn.I,.l r.L]).run = some rr:=fun hc=>by
    rw [hc] at h
    exact (need_yes ⟨hG,h12,by simp only [I_i]; omega,by simp only [I_i,L_l]; omega⟩).trans h
   generalize chF v.L.length m 0 = F at hv hT h fin ⊢
   refine rd_yes ⟨⟨⟨by omega,by omega⟩,⟨by omega,by omega⟩,by omega,by omega⟩,by omega⟩ (rd_ite (fun c=>?_) fun c=>?_)
   ·have hn:firstC nn.I r.L v.L z.L h'.I F = none:=by rw [List.isEmpty_iff.1 c]; rfl
    exact rd_yes ⟨by trivial,by omega⟩ (rd_again (fin hn) hmu)
   ·refine rd_yes ⟨by trivial,hv,hT,by trivial,by omega,by omega⟩ (rd_ite (fun c2=>?_) fun c2=>rd_again (fin (by simpa using c2)) hmu)
    obtain ⟨x,hx⟩:=Option.isSome_iff_exists.1 c2
    rw [hx] at h ⊢
    exact rd_out h
  ·rw [show v.L.length + 1 - m = 0 by omega] at h
   exact rd_out h
 ·cases h
theorem ok33 (n:Nat):FnOKW C (n + 14) 33 (mkFW s33 G33):=by
 have hA:AllOK C (n + 13) sp33:=⟨ok30 (n + 8),trivial⟩
 have hW:AllOKW C (n + 13) sw33:=⟨ok57 12 n,trivial⟩
 refine fn_ofW hC (sp:=sp33) (lp:=lp33) (sw:=sw33) hA hW (by kernel_rfl) [2] (by kernel_rfl) (by kernel_rfl) (fun k hk L hL=>by simp at hk; subst hk; cases hL; exact ok33_2 (n + 13) hA hW) fun ds rr h=>?_
 unfold G33 at h
 split at h
 ·rename_i nn r v z h'
  obtain ⟨hp,h⟩:=need_some h
  rw [yes_iff] at hp
  refine (t33 nn r v z h').trans ?_
  exact go_yes ⟨hp.1,hp.2,by omega,by omega⟩ h
 ·cases h
set_option linter.unusedVariables false
section
variable {n:Int} {r:List (List D)} {a w s s' b:Int}
theorem doc_best (hN:netB n r = true) (ha:0 ≤ a ∧ a < n) (hw:0 ≤ w ∧ w < n) (hs:0 ≤ s ∧ s ≤ 100000):docA n r a s w = bestF n r a s w:=((arr_same hN ha hs).2.2 w.toNat (by omega)).symm
theorem best_d (hN:netB n r = true) (ha:0 ≤ a ∧ a < n) (hw:0 ≤ w ∧ w < n) (hs:0 ≤ s ∧ s ≤ 100000):∃ d,Least (edR r) n.toNat a s d ∧ ((0 ≤ bestF n r a s w ∧ bestF n r a s w = d w.toNat ∧ d w.toNat < INF) ∨ (bestF n r a s w < 0 ∧ d w.toNat = INF)):=by
 obtain ⟨o1,d,hL,hd⟩:=arr_ok hN ha hs
 have h1:=hd w.toNat (by omega)
 have h2:=(o1.2 w.toNat).2
 refine ⟨d,hL,?_⟩
 unfold bestF
 unfold cv at h1
 have hI:INF = 9223372036854775807:=rfl
 split at h1
 ·right; omega
 ·left; omega
theorem doc_le (hN:netB n r = true) (ha:0 ≤ a ∧ a < n) (hw:0 ≤ w ∧ w < n) (hs:0 ≤ s ∧ s ≤ 100000) (hb:0 ≤ b ∧ b ≤ 1000000):(0 ≤ docA n r a s w ∧ docA n r a s w ≤ b) ↔ s ≤ rg (latF n r w b) a.toNat:=by
 rw [doc_best hN ha hw hs]
 obtain ⟨d,hL,hd⟩:=best_d hN ha hw hs
 obtain ⟨-,-,d',hL',hd'⟩:=lat_parts hN hw hb
 have hI:INF = 9223372036854775807:=rfl
 rw [hd' a.toNat (by omega),← least_back (n:=n.toNat) (by omega) (by omega) (by omega) (by omega) hL hL']
 omega
end
theorem walk_later_le {E:Ed} {n:Nat} {H:Int} (hE:E.OK n H) {v t t' w s:Int} (h:Walk E v t w s) (ht:t ≤ t'):∃ s',Walk E v t' w s' ∧ s ≤ s' ∧ s' ≤ max t' H + 10000 * (s - t):=by
 induction h with
 | here=>exact ⟨t',.here,ht,by omega⟩
 | @step s0 j hw hj ih=>
   obtain ⟨s',h1,h2,h3⟩:=ih
   have h4:=walk_lo hE hw
   have h5:=hE.up j hj s0
   have h6:=hE.bnd j hj s'
   exact ⟨_,.step h1 hj,hE.mono j hj _ _ h2,by omega⟩
section
variable {n:Int} {r:List (List D)} {a w s s' b:Int}
theorem doc_mono (hN:netB n r = true) (ha:0 ≤ a ∧ a < n) (hw:0 ≤ w ∧ w < n) (hs:0 ≤ s) (hss:s ≤ s') (hs':s' ≤ 100000):(bestF n r a s w < 0 ↔ bestF n r a s' w < 0) ∧ (0 ≤ bestF n r a s w → bestF n r a s w ≤ bestF n r a s' w):=by
 obtain ⟨d,hL,hd⟩:=best_d hN ha hw (s:=s) (by omega)
 obtain ⟨d',hL',hd'⟩:=best_d hN ha hw (s:=s') (by omega)
 have hb:=(best_le hN (to:=w) ha (t:=s) (by omega)).2
 have hI:INF = 9223372036854775807:=rfl
 have hwn:((w.toNat:Nat):Int) = w:=by omega
 have h1:d w.toNat < INF → d' w.toNat < INF:=fun h=>by
  obtain ⟨x,h2,h3,h4⟩:=walk_later_le (edR_ok hN) (hL.2.1 w.toNat (by omega) h) hss
  have h5:=hL'.2.2 _ _ h2
  rw [Int.toNat_natCast] at h5
  omega
 have h2:d' w.toNat < INF → d w.toNat ≤ d' w.toNat:=fun h=>by
  obtain ⟨x,h2,h3⟩:=walk_sooner (edR_ok hN) (hL'.2.1 w.toNat (by omega) h) hss
  have h5:=hL.2.2 _ _ h2
  rw [Int.toNat_natCast] at h5
  omega
 omega
end
section
variable {n:Int} {r v:List (List D)} {x z:List D} {h t:Int}
theorem cov_iff (hN:netB n r = true) (hx:vehB n x = true) (hz:zonB n z = true) (ht:0 ≤ t ∧ t ≤ 100000) :
    covB n r x z t = true ↔ (ix x 2 ≤ t ∧ t < ix x 3) ∧ ableB x z = true ∧ 0 ≤ bestF n r (ix x 0) t (ix z 0) ∧ bestF n r (ix x 0) t (ix z 0) ≤ t + ix z 2:=by
 unfold covB
 rw [Bool.and_eq_true,Bool.and_eq_true,decide_eq_true_iff,decide_eq_true_iff,doc_best hN (veh_parts hx).1 (zon_parts hz).1 ht,and_assoc]
structure PvInv (n:Int) (r v:List (List D)) (z:List D) (h t:Int) (i:Nat) (s:Pv):Prop where
 no:s.c = false → s.to = t ∧ ∀ j,j < i → covB n r (v.getD j []) z t = false
 yes:s.c = true → ∃ j,j < i ∧ ∀ u,t ≤ u → u < s.to → u < h → covB n r (v.getD j []) z u = true
 nx:∀ j,j < i → covB n r (v.getD j []) z t = false → ∀ u,t < u → u < s.nx → u < h → covB n r (v.getD j []) z u = false
theorem inv_pv {i:Nat} {s:Pv} (hN:netB n r = true) (hv:vehs n v = true) (hz:zonB n z = true) (ht:0 ≤ t ∧ t < h) (hh:h ≤ 100000) (hi:i < v.length) (hs:okPv t h s) (I:PvInv n r v z h t i s):PvInv n r v z h t (i + 1) (stV n r z t (v.getD i []) s):=by
 have hx:vehB n (v.getD i []) = true:=veh_of hv hi
 obtain ⟨x0,x1,x2,x3⟩:=veh_parts hx
 obtain ⟨z0,z1,z2⟩:=zon_parts hz
 have hc:=fun {u:Int} (hu:0 ≤ u ∧ u ≤ 100000)=>cov_iff hN hx hz hu
 have hle:=fun {u b:Int} (hu:0 ≤ u ∧ u ≤ 100000) (hb:0 ≤ b ∧ b ≤ 1000000)=>doc_le (b:=b) hN x0 z0 hu hb
 have hdb:=fun {u:Int} (hu:0 ≤ u ∧ u ≤ 100000)=>doc_best hN x0 z0 hu
 have hfalse:∀ {u:Int},(0 ≤ u ∧ u ≤ 100000) → ¬ ((ix (v.getD i []) 2 ≤ u ∧ u < ix (v.getD i []) 3) ∧ ableB (v.getD i []) z = true ∧ 0 ≤ bestF n r (ix (v.getD i []) 0) u (ix z 0) ∧ bestF n r (ix (v.getD i []) 0) u (ix z 0) ≤ u + ix z 2) → covB n r (v.getD i []) z u = false:=fun hu hn=>by
  cases hcv:covB n r (v.getD i []) z _ with
  | false=>rfl
  | true=>exact absurd ((hc hu).1 hcv) hn
 have keep:∀ {s':Pv},s'.c = s.c → s'.to = s.to → s'.nx ≤ s.nx → covB n r (v.getD i []) z t = false → (∀ u,t < u → u < s'.nx → u < h → covB n r (v.getD i []) z u = false) → PvInv n r v z h t (i + 1) s':=fun {s'} e1 e2 e3 e4 e5=>by
  refine ⟨fun hs0=>?_,fun hs1=>?_,fun j hj hjc u hu1 hu2 hu3=>?_⟩
  ·rw [e1] at hs0
   obtain ⟨a1,a2⟩:=I.no hs0
   refine ⟨by rw [e2]; exact a1,fun j hj=>?_⟩
   by_cases e:j = i
   ·rw [e]; exact e4
   ·exact a2 j (by omega)
  ·rw [e1] at hs1
   obtain ⟨j,a1,a2⟩:=I.yes hs1
   exact ⟨j,by omega,fun u u1 u2 u3=>a2 u u1 (by omega) u3⟩
  ·by_cases e:j = i
   ·rw [e]; exact e5 u hu1 hu2 hu3
   ·exact I.nx j (by omega) hjc u hu1 (by omega) hu3
 unfold stV
 split
 ·rename_i c1
  exact keep rfl rfl (Int.le_refl _) (hfalse (by omega) fun hn=>c1.elim (fun h=>by rw [h] at hn; exact absurd hn.2.1 (by simp)) fun h=>by omega) fun u u1 u2 u3=>hfalse (by omega) fun hn=>c1.elim (fun h=>by rw [h] at hn; exact absurd hn.2.1 (by simp)) fun h=>by omega
 ·rename_i c1
  have c1a:ableB (v.getD i []) z = true:=by
   cases ha:ableB (v.getD i []) z with
   | true=>rfl
   | false=>exact absurd (.inl ha) c1
  have c1b:t < ix (v.getD i []) 3:=by
   rcases Int.lt_or_le t (ix (v.getD i []) 3) with h | h
   ·exact h
   ·exact absurd (.inr h) c1
  split
  ·rename_i c2
   have m:=mn_parts s.nx (ix (v.getD i []) 2)
   exact keep rfl rfl (by simp only; omega) (hfalse (by omega) fun hn=>by omega) fun u u1 u2 u3=>hfalse (by omega) fun hn=>by simp only at u2; omega
  ·rename_i c2
   split
   ·rename_i c3
    have m1:=mn_parts (latU n r z t (ix (v.getD i []) 0) + 1) (ix (v.getD i []) 3)
    have m2:=mx_parts s.to (mn (latU n r z t (ix (v.getD i []) 0) + 1) (ix (v.getD i []) 3))
    have hcov:∀ u,t ≤ u → u < mn (latU n r z t (ix (v.getD i []) 0) + 1) (ix (v.getD i []) 3) → u < h → covB n r (v.getD i []) z u = true:=fun u u1 u2 u3=>by
     have h1:u ≤ rg (latF n r (ix z 0) (t + ix z 2)) (ix (v.getD i []) 0).toNat:=by
      have:latU n r z t (ix (v.getD i []) 0) = rg (latF n r (ix z 0) (t + ix z 2)) (ix (v.getD i []) 0).toNat:=rfl
      omega
     have h2:=(hle (u:=u) (b:=t + ix z 2) (by omega) (by omega)).2 h1
     rw [hdb (by omega)] at h2
     exact (hc (by omega)).2 ⟨by omega,c1a,by omega,by omega⟩
    refine ⟨(fun h=>by cases h),fun _=>?_,fun j hj hjc u hu1 hu2 hu3=>?_⟩
    ·rcases m2.2 with e | e
     ·cases hsc:s.c with
      | true=>
        obtain ⟨j,a1,a2⟩:=I.yes hsc
        exact ⟨j,by omega,fun u u1 u2 u3=>a2 u u1 (by simp only at u2; omega) u3⟩
      | false=>
        have:=(I.no hsc).1
        exact ⟨i,by omega,fun u u1 u2 u3=>hcov u u1 (by simp only at u2; omega) u3⟩
     ·exact ⟨i,by omega,fun u u1 u2 u3=>hcov u u1 (by simp only at u2; omega) u3⟩
    ·by_cases e:j = i
     ·rw [e,hcov t (Int.le_refl _) (by omega) (by omega)] at hjc
      cases hjc
     ·exact I.nx j (by omega) hjc u hu1 hu2 hu3
   ·rename_i c3
    have hnot:covB n r (v.getD i []) z t = false:=hfalse (by omega) fun hn=>by
     have h1:=(hle (u:=t) (b:=t + ix z 2) (by omega) (by omega)).1 (by rw [hdb (by omega)]; exact hn.2.2)
     exact c3 h1
    split
    ·rename_i c4
     have m1:=mx_parts (t + 1) (bestF n r (ix (v.getD i []) 0) t (ix z 0) - ix z 2)
     have m2:=mn_parts s.nx (mx (t + 1) (bestF n r (ix (v.getD i []) 0) t (ix z 0) - ix z 2))
     refine keep rfl rfl (by simp only; omega) hnot fun u u1 u2 u3=>hfalse (by omega) fun hn=>?_
     simp only at u2
     have:=(doc_mono hN x0 z0 ht.1 (by omega:t ≤ u) (by omega)).2 c4
     omega
    ·rename_i c4
     refine keep rfl rfl (Int.le_refl _) hnot fun u u1 u2 u3=>hfalse (by omega) fun hn=>?_
     have:=(doc_mono hN x0 z0 ht.1 (by omega:t ≤ u) (by omega)).1.1 (by omega)
     omega
theorem inv_run (hN:netB n r = true) (hv:vehs n v = true) (hz:zonB n z = true) (ht:0 ≤ t ∧ t < h) (hh:h ≤ 100000):∀ (k i:Nat) (s:Pv),i + k ≤ v.length → okPv t h s → PvInv n r v z h t i s → PvInv n r v z h t (i + k) (runV n r v z t i k s)
 | 0,_,_,_,_,I=>I
 | k + 1,i,s,hi,hs,I=>by
   have:=inv_run hN hv hz ht hh k (i + 1) _ (by omega) (pv_step hN (veh_of hv (by omega:i < v.length)) hz ht hh hs) (inv_pv hN hv hz ht hh (by omega) hs I)
   rw [show i + (k + 1) = i + 1 + k by omega]
   exact this
theorem secs_iff {u:Int}:secsF n r v z u = true ↔ ∃ j,j < v.length ∧ covB n r (v.getD j []) z u = true:=by
 unfold secsF anyC
 rw [Bool.not_eq_true',allFrom_false]
 constructor
 ·rintro ⟨j,-,h1,h2⟩
  exact ⟨j,by omega,by simpa using h2⟩
 ·rintro ⟨j,h1,h2⟩
  exact ⟨j,Nat.zero_le _,by omega,by rw [h2]; rfl⟩
theorem piece_hom (hP:okP n r v z h) (ht:0 ≤ t ∧ t < h):∀ u,t ≤ u → u < toP n r v z h t → secsF n r v z u = (pvAt n r v z h t).c:=by
 obtain ⟨g1,g2⟩:=to_gt hP ht
 have hP':=hP
 obtain ⟨hN,hv,hz,-,h0,h1⟩:=hP'
 obtain ⟨s1,s2,s3,s4⟩:=pv_at hP ht
 have hI:=inv_run hN hv hz ht h1 v.length 0 ⟨false,t,h⟩ (by omega) ⟨fun e=>absurd e (by simp),⟨Int.le_refl _,by simp only; omega⟩,by simp only; omega,Int.le_refl _⟩ ⟨fun _=>⟨rfl,fun j hj=>by omega⟩,(fun e=>by cases e),fun j hj=>by omega⟩
 rw [Nat.zero_add] at hI
 have hI:PvInv n r v z h t v.length (pvAt n r v z h t):=hI
 intro u u1 u2
 unfold toP at u2 g2
 have m1:=mn_parts (if (pvAt n r v z h t).c then (pvAt n r v z h t).to else mx (t + 1) (pvAt n r v z h t).nx) h
 have m2:=mx_parts (t + 1) (pvAt n r v z h t).nx
 cases hc:(pvAt n r v z h t).c with
 | true=>
   rw [hc] at m1 u2
   simp only [if_true] at m1 u2
   obtain ⟨j,a1,a2⟩:=hI.yes hc
   exact secs_iff.2 ⟨j,a1,a2 u u1 (by omega) (by omega)⟩
 | false=>
   rw [hc] at m1 u2
   simp only [Bool.false_eq_true,if_false] at m1 u2
   obtain ⟨-,a2⟩:=hI.no hc
   cases hs:secsF n r v z u with
   | false=>rfl
   | true=>
     obtain ⟨j,b1,b2⟩:=secs_iff.1 hs
     by_cases e:u = t
     ·rw [e,a2 j b1] at b2; cases b2
     ·rw [hI.nx j b1 (a2 j b1) u (by omega) (by omega) (by omega)] at b2; cases b2
end
theorem getD_setTo (g:List (List D)) (x:Int) (hg:0 < g.length):(setTo g x).getD (g.length - 1) [] = [(g.getD (g.length - 1) []).getD 0 default,(g.getD (g.length - 1) []).getD 1 default,.i x]:=by
 unfold setTo
 rw [List.getD_eq_getElem?_getD,List.getElem?_set_self (by omega)]
 rfl
theorem setTo_setTo (g:List (List D)) (x y:Int) (hg:0 < g.length):setTo (setTo g x) y = setTo g y:=by
 have e:setTo (setTo g x) y = (setTo g x).set (g.length - 1) [((setTo g x).getD (g.length - 1) []).getD 0 default,((setTo g x).getD (g.length - 1) []).getD 1 default,.i y]:=by
  unfold setTo
  simp only [List.length_set]
 rw [e,getD_setTo _ _ hg]
 unfold setTo
 rw [List.set_set]
 rfl
theorem setTo_app (g:List (List D)) (a b c:D) (y:Int):setTo (g ++ [[a,b,c]]) y = g ++ [[a,b,.i y]]:=by
 unfold setTo
 simp only [List.length_append,List.length_cons,List.length_nil,Nat.zero_add,Nat.add_sub_cancel]
 rw [get_last,set_last]
 rfl
theorem ref_split (p:Int → Bool) (i:Int):∀ (k l:Nat) (t:Int) (s:List (List D) × Bool),refT p i (k + l) t s = refT p i l (t + k) (refT p i k t s)
 | 0,l,t,s=>by simp [refT]
 | k + 1,l,t,s=>by
   rw [show k + 1 + l = (k + l) + 1 by omega]
   simp only [refT]
   rw [ref_split p i k l,show t + 1 + (k:Int) = t + ((k + 1:Nat):Int) by omega]
theorem ref_open (p:Int → Bool) (i:Int):∀ (k:Nat) (t:Int) (g:List (List D)),0 < g.length → (∀ u,t ≤ u → u < t + k → p u = false) → 0 < k → refT p i k t (g,true) = (setTo g (t + k),true)
 | 1, t,g,hg,hp,_=>by
   simp only [refT,gapT]
   rw [hp t (Int.le_refl _) (by omega)]
   rfl
 | k + 2,t,g,hg,hp,_=>by
   rw [refT]
   have e:gapT i t (p t) (g,true) = (setTo g (t + 1),true):=by
    unfold gapT
    rw [hp t (Int.le_refl _) (by omega)]
    rfl
   rw [e,ref_open p i (k + 1) (t + 1) _ (by rw [setTo_len]; exact hg) (fun u u1 u2=>hp u (by omega) (by omega)) (by omega),setTo_setTo _ _ _ hg,show t + 1 + ((k + 1:Nat):Int) = t + ((k + 2:Nat):Int) by omega]
theorem ref_cov (p:Int → Bool) (i:Int):∀ (k:Nat) (t:Int) (s:List (List D) × Bool),(∀ u,t ≤ u → u < t + k → p u = true) → 0 < k → refT p i k t s = (s.1,false)
 | 1, t,s,hp,_=>by
   simp only [refT,gapT]
   rw [hp t (Int.le_refl _) (by omega)]
   rfl
 | k + 2,t,s,hp,_=>by
   rw [refT]
   have e:gapT i t (p t) s = (s.1,false):=by
    unfold gapT
    rw [hp t (Int.le_refl _) (by omega)]
    rfl
   rw [e,ref_cov p i (k + 1) (t + 1) _ (fun u u1 u2=>hp u (by omega) (by omega)) (by omega)]
theorem ref_piece (p:Int → Bool) (i:Int) (c:Bool) (k:Nat) (t:Int) (s:List (List D) × Bool) (hk:0 < k) (hs:s.2 = true → 0 < s.1.length) (hp:∀ u,t ≤ u → u < t + k → p u = c):refT p i k t s = gapP i [.i t,.i (t + k),.b c] s:=by
 obtain ⟨g,o⟩:=s
 cases c with
 | true=>
   rw [ref_cov p i k t _ hp hk]
   rfl
 | false =>
   cases o with
   | true=>
     rw [ref_open p i k t g (hs rfl) hp hk]
     rfl
   | false=>
     match k,hk with
     | 1, _=>
       simp only [refT,gapT]
       rw [hp t (Int.le_refl _) (by omega)]
       rfl
     | k + 2,_=>
       rw [refT]
       have e:gapT i t (p t) (g,false) = (g ++ [[.i i,.i t,.i (t + 1)]],true):=by
        unfold gapT
        rw [hp t (Int.le_refl _) (by omega)]
        rfl
       rw [e,ref_open p i (k + 1) (t + 1) _ (by simp) (fun u u1 u2=>hp u (by omega) (by omega)) (by omega),setTo_app,show t + 1 + ((k + 1:Nat):Int) = t + ((k + 2:Nat):Int) by omega]
       rfl
theorem gapP_open (i:Int) (e:List D) (s:List (List D) × Bool) (hs:s.2 = true → 0 < s.1.length):(gapP i e s).2 = true → 0 < (gapP i e s).1.length:=by
 unfold gapP
 split
 ·intro h; cases h
 ·split
  ·rename_i h2
   intro _
   simp only [setTo_len]
   exact hs h2
  ·intro _
   simp
theorem gaps_zone {n:Int} {r v:List (List D)} {z:List D} {h:Int} (i:Int) (hP:okP n r v z h):∀ (f:Nat) (t:Int) (s:List (List D) × Bool),0 ≤ t → t ≤ h → (h - t).toNat ≤ f → (s.2 = true → 0 < s.1.length) → gapsF i (pieceL n r v z h f t) s = refT (secsF n r v z) i (h - t).toNat t s
 | 0, t,s,h0,h1,hf,_=>by
   rw [show (h - t).toNat = 0 by omega]
   rfl
 | f + 1,t,s,h0,h1,hf,hs=>by
   by_cases ht:t < h
   ·obtain ⟨g1,g2⟩:=to_gt hP ⟨h0,ht⟩
    simp only [pieceL,if_pos ht,gapsF]
    rw [show (h - t).toNat = (toP n r v z h t - t).toNat + (h - toP n r v z h t).toNat by omega,ref_split,show t + ((toP n r v z h t - t).toNat:Int) = toP n r v z h t by omega,
     ref_piece (secsF n r v z) i (pvAt n r v z h t).c (toP n r v z h t - t).toNat t s (by omega) hs (fun u u1 u2=>piece_hom hP ⟨h0,ht⟩ u u1 (by omega)),show t + ((toP n r v z h t - t).toNat:Int) = toP n r v z h t by omega]
    exact gaps_zone i hP f _ _ (by omega) g2 (by omega) (gapP_open i _ s hs)
   ·simp only [pieceL,if_neg ht,gapsF]
    rw [show (h - t).toNat = 0 by omega]
    rfl
theorem secs_same (n:Int) (r v:List (List D)) (z:List D):secsF n r v (mk3 (.i (ix z 0)) (.i (ix z 1)) (.i (ix z 2))) = secsF n r v z:=rfl
theorem gaps_same {n:Int} {r v z:List (List D)} {h:Int} (hG:okG n r v z h):∀ (k i:Nat) (g:List (List D)),i + k ≤ z.length → gapsZ n r v z h i k g = refZ n r v z h i k g
 | 0,_,_,_=>rfl
 | k + 1,i,g,hi=>by
   have hG':=hG
   obtain ⟨hN,hv,hz,hvl,hzl,hh0,hh1⟩:=hG'
   simp only [gapsZ,refZ]
   rw [gaps_zone i (h:=h) (z:=mk3 (.i (ix (z.getD i []) 0)) (.i (ix (z.getD i []) 1)) (.i (ix (z.getD i []) 2))) ⟨hN,hv,zon_of hz (by omega:i < z.length),hvl,hh0,hh1⟩ h.toNat 0 (g,false) (Int.le_refl _) hh0 (by omega) (fun e=>by cases e),secs_same,Int.sub_zero]
   exact gaps_same hG k (i + 1) _ (by omega)
end Go.Proofs.Ytgmefblkmidglaa
