/-
 What the claim top_punctual rests on,part 7.
-/
import Derived.Test.YtgoedfonmocafaaGreatZQ6
noncomputable section
namespace Go.Proofs.YtgoedfonmocafaaGreat
open Go.Lite
def s74:Sig:=⟨[.agg [kIn,kIn,kIn]],[(kBo,[])]⟩
def xTy:Sig:=⟨[.k (.ro [.int .i64,.int .i64,.int .i64]),.fn 74 [] []],[(kIn,[])]⟩
def xAl:LSig:=xcu [0,1,7,8] [(19,[(0,.k (.ro [.int .i64,.int .i64,.int .i64])),(1,.fn 74 [] []),(7,kIn),(8,kIn)],[])] [(.ret,[4],[(19,[(4,kIn)],[])]),(.exit 0,[],[(19,[],[])])]
def s73:Sig:=⟨[.k (.ro [.int .i64,.int .i64,.int .i64]),.fn 74 [] []],[(kBo,[])]⟩
def s43:Sig:=⟨[.agg [kIn,kIn,kIn,kIn,kBo,kIn,kIn,.k (.ro [.int .i64,.int .i64,.int .i64])],.nilp],[(kBo,[])]⟩
def xNe:Sig:=⟨[.agg [kIn,kIn,kIn,kIn,kBo,kIn,kIn,.k (.ro [.int .i64,.int .i64,.int .i64])],.eptr [kIn,kIn,kIn,kIn,kBo,kIn,kIn,.k (.ro [.int .i64,.int .i64,.int .i64])]],[(kBo,[])]⟩
def s17:Sig:=⟨[.agg [kIn,kIn,kWs]],[(kIn,[])]⟩
def xv1:LSig:=xcu [1,3,24,25,26] [(40,[(1,.ptr 0 3 0 0),(3,.nilp),(24,kWs),(25,kIn),(26,kIn)],[.box [kIn,kIn,kWs]]),(40,[(1,.ptr 0 3 0 0),(3,.eptr [kIn,kIn,kIn,kIn,kBo,kIn,kIn,.k (.ro [.int .i64,.int .i64,.int .i64])]),(24,kWs),(25,kIn),(26,kIn)],[.box [kIn,kIn,kWs]])] [(.ret,[2],[(40,[(2,kIn)],[])]),(.exit 0,[],[(40,[],[])])]
def s50:Sig:=⟨[kIn],[(kBo,[])]⟩
def s75:Sig:=⟨[kIn,.eptr [.fn 50 [] []]],[(kBo,[])]⟩
def xNa:Sig:=⟨[kRo,.fn 75 [] [.eptr [.fn 50 [] []]]],[(kIn,[])]⟩
def xvz:LSig:=xcu [0,1,7,8] [(19,[(0,kRo),(1,.fn 75 [] [.eptr [.fn 50 [] []]]),(7,kIn),(8,kIn)],[])] [(.ret,[4],[(19,[(4,kIn)],[])]),(.exit 0,[],[(19,[],[])])]
def xNb:Sig:=⟨[kRo,.fn 75 [] [.eptr [.fn 50 [] []]]],[(kBo,[])]⟩
def s49:Sig:=⟨[kRo,.fn 50 [] []],[(kBo,[])]⟩
def s21:Sig:=⟨[kRo,kIn],[(kBo,[])]⟩
def s48:Sig:=⟨[.agg [kIn,kIn,kWs],kIn],[(kIn,[])]⟩
def s14:Sig:=⟨[.agg [kIn,kIn,kWs]],[(kBo,[])]⟩
def xF3:LSig:=xcu [1,3] [(143,[(1,.ptr 0 3 0 0),(3,kIn)],[.box [kIn,kIn,kWs]])] [(.ret,[2],[(143,[(2,kBo)],[])]),(.exit 0,[],[(143,[],[])])]
def xAk:LSig:=xcu [1,3,4,5] [(143,[(1,.ptr 0 3 0 0),(3,kIn),(4,.ptr 1 8 0 0),(5,kIn)],[.box [kIn,kIn,kWs],.box [kIn,kIn,kIn,kIn,kBo,kIn,kIn,.k (.ro [.int .i64,.int .i64,.int .i64])]])] [(.ret,[2],[(143,[(2,kBo)],[])]),(.exit 2,[1,3],[(143,[(1,.ptr 0 3 0 0),(3,kIn)],[.box [kIn,kIn,kWs]])])]
def s8:Sig:=⟨[.agg [kIn,kIn,kWs],.agg [kRo,kRo,kRo,kRo],kIn,kIn],[(.tup [kIn,kIn,kIn],[])]⟩
noncomputable section
def xik (l:List (List D)) (k:Nat):Bool:=decide ((0<=ix (l.getD k []) 0/\ix (l.getD k []) 0<=ix (l.getD k []) 1)/\ix (l.getD k []) 1<=200000/\0<=ix (l.getD k []) 2/\ix (l.getD k []) 2<=200000)
def xkn (l:List (List D)):Bool:=xay (xik l) 0 l.length
def xBq (c:List D):Bool:=decide ((1<=ix c 0/\ix c 0<=1000)/\(0<=ix c 1/\ix c 1<=600)/\(0<=ix c 2/\ix c 2<=600)/\(1<=ix c 3/\ix c 3<=60)/\(0<=ix c 5/\ix c 5<=ix c 6)/\ix c 6<=1000/\(lx c 7).length<=10)
def xpa (c:List D) (first:Bool) (g:Int):Bool:=if bx c 4 then !first else (decide (ix c 5=0/\ix c 6=0) && (first || decide (ix c 3=g)))
def xqg (c:List D) (first:Bool) (g:Int):Bool:=xBq c && (xpa c first g && xkn (lx c 7))
def mk8 (a b c d e f g h:D):List D:=[.i a.I,.i b.I,.i c.I,.i d.I,.b e.B,.i f.I,.i g.I,.l h.L]
def xon (w:List (List D)) (i:Nat):Bool:=xqg (w.getD i []) (i == 0) (ix (w.getD (i - 1) []) 3)
def xFg (cars first:Int) (w:List (List D)):Bool:=decide ((1<=cars/\cars<=200)/\(1<=w.length/\w.length<=60)/\0<=first/\first<=100000)
def xaw (cars first:Int) (w:List (List D)):Bool:=xFg cars first w && xay (xon w) 0 w.length
def xi3 (l:List (List D)) (i:Nat):Bool:=decide (0<=rg l i/\rg l i<=1000000000)
def xnb (l:List (List D)) (n:Int):Bool:=decide ((l.length:Int)=n) && xay (xi3 l) 0 l.length
def G74 (ds:List D):T (List D):=match ds with
 | [a,b,c]=>.leaf [.b (!decide ((0<=a.I/\a.I<=b.I)/\b.I<=200000/\0<=c.I/\c.I<=200000))]
 | _=>.fail
def xV2 (ds:List D):T (List D):=match ds with
 | [l]=>.need (yes (l.L.length<big)) (.leaf [.i (xbx (fun j=>!xik l.L j) 0 l.L.length)])
 | _=>.fail
def xKb (ds:List D):T (Ex×List D):=match ds with
 | [l, m,i]=>.need (yes (l.L.length<big/\m.I=l.L.length/\0<=i.I/\i.I<=l.L.length))
     (.ite (decide (xbx (fun j=>!xik l.L j) i.I.toNat (l.L.length - i.I.toNat)>=0)) (.leaf (.ret,[.i (xbx (fun j=>!xik l.L j) i.I.toNat (l.L.length - i.I.toNat))])) (.leaf (.exit 0,[])))
 | _=>.fail
def G73 (ds:List D):T (List D):=match ds with
 | [l]=>.need (yes (l.L.length<big)) (.leaf [.b (!xkn l.L)])
 | _=>.fail
def G43 (ds:List D):T (List D):=match ds with
 | [a,b,c,d,e,f,g,h]=>.leaf [.b (xqg (mk8 a b c d e f g h) true 0)]
 | _=>.fail
def xQd (ds:List D):T (List D):=match ds with
 | [a,b,c,d,e,f,g,h,_,_,_,p,_,_,_,_]=>.leaf [.b (xqg (mk8 a b c d e f g h) false p.I)]
 | _=>.fail
def G17 (ds:List D):T (List D):=match ds with
 | [c,f,w]=>.leaf [.i (if xaw c.I f.I w.L then 0 else 2)]
 | _=>.fail
def xP8 (ds:List D):T (Ex×List D):=match ds with
 | [j,w,m,i,_,_,w']=>.need (yes (j.I=0/\w'.L=w.L/\w.L.length<=60/\m.I=w.L.length/\i.I=0)) (.ite (xay (xon w.L) 0 w.L.length) (.leaf (.exit 0,[])) (.leaf (.ret,[.i 2])))
 | [j, _,_,_,g,_,_,_,_,w,m,i,_,_,w']=>.need (yes (j.I=1/\w'.L=w.L/\w.L.length<=60/\m.I=w.L.length/\1<=i.I/\i.I<=w.L.length/\g.I=ix (w.L.getD (i.I.toNat - 1) []) 3))
     (.ite (xay (xon w.L) i.I.toNat (w.L.length - i.I.toNat)) (.leaf (.exit 0,[])) (.leaf (.ret,[.i 2])))
 | _=>.fail
def G50 (ds:List D):T (List D):=match ds with
 | [t]=>.leaf [.b (xa0 t.I 0 1000000000)]
 | _=>.fail
def G75 (ds:List D):T (List D):=match ds with
 | [t]=>.leaf [.b (!xa0 t.I 0 1000000000)]
 | _=>.fail
def xP4 (ds:List D):T (List D):=match ds with
 | [l]=>.need (yes (l.L.length<big)) (.leaf [.i (xbx (fun j=>!xi3 l.L j) 0 l.L.length)])
 | _=>.fail
def xC2 (ds:List D):T (Ex×List D):=match ds with
 | [l, m,i]=>.need (yes (l.L.length<big/\m.I=l.L.length/\0<=i.I/\i.I<=l.L.length))
     (.ite (decide (xbx (fun j=>!xi3 l.L j) i.I.toNat (l.L.length - i.I.toNat)>=0)) (.leaf (.ret,[.i (xbx (fun j=>!xi3 l.L j) i.I.toNat (l.L.length - i.I.toNat))])) (.leaf (.exit 0,[])))
 | _=>.fail
def xP5 (ds:List D):T (List D):=match ds with
 | [l]=>.need (yes (l.L.length<big)) (.leaf [.b (!xay (xi3 l.L) 0 l.L.length)])
 | _=>.fail
def G49 (ds:List D):T (List D):=match ds with
 | [l]=>.need (yes (l.L.length<big)) (.leaf [.b (xay (xi3 l.L) 0 l.L.length)])
 | _=>.fail
def G21 (ds:List D):T (List D):=match ds with
 | [l,n]=>.need (yes (l.L.length<big)) (.leaf [.b (xnb l.L n.I)])
 | _=>.fail
def xnz (cars:Int) (c:List D):Int:=(cars - 1)*ix c 3
def xc0 (cars:Int) (c:List D):Int:=xnz cars c+ix c 0+ix c 2
def G48 (ds:List D):T (List D):=match ds with
 | [c,f,w,j]=>.need (yes (xaw c.I f.I w.L=true/\0<=j.I/\j.I<w.L.length)) (.leaf [.i (xc0 c.I (w.L.getD j.I.toNat []))])
 | _=>.fail
end
noncomputable section
def G14 (ds:List D):T (List D):=match ds with
 | [c,f,w]=>.leaf [.b (xaw c.I f.I w.L)]
 | _=>.fail
def xGg (ds:List D):T (Ex×List D):=match ds with
 | [i,_,_,w]=>.need (yes (w.L.length<=60/\0<=i.I/\i.I<=w.L.length)) (.ite (xay (xon w.L) i.I.toNat (w.L.length - i.I.toNat)) (.leaf (.exit 0,[])) (.leaf (.ret,[.b false])))
 | _=>.fail
def xJ4 (ds:List D):T (Ex×List D):=match ds with
 | [i,k,c,f,w,_,_,_,_,_,_,_,h]=>.need (yes (h.L.length<=10/\0<=k.I/\k.I<=h.L.length)) (.ite (xay (xik h.L) k.I.toNat (h.L.length - k.I.toNat)) (.leaf (.exit 2,[.i i.I,.i c.I,.i f.I,.l w.L])) (.leaf (.ret,[.b false])))
 | _=>.fail
def xpg (c f:Int) (w du:List (List D)) (car at':Int):Bool:=xaw c f w && (xnb du (w.length+1) && decide ((0<=car/\car<=c - 1)/\0<=at'/\at'<=(w.length:Int) - 1))
def xb5 (w du:List (List D)) (car:Int) (k:Nat):Int:=rg du k+car*ix (w.getD k []) 3
def G8 (ds:List D):T (List D):=match ds with
 | [c,f,w,du,_,_,_,car,k]=>.need (yes (du.L.length<big)) (.ite (xpg c.I f.I w.L du.L car.I k.I) (.leaf [.i (xb5 w.L du.L car.I k.I.toNat),.i (xb5 w.L du.L car.I k.I.toNat+ix (w.L.getD k.I.toNat []) 0),.i 0]) (.leaf [.i 0,.i 0,.i 2]))
 | _=>.fail
end
noncomputable section
section
variable (l cs:List (List D)) (la:Int)
def xc6 (k j:Int):Nat->Int->List (List D)×List (List D)->List (List D)×List (List D)
 | 0,_,p=>p
 | n+1,c,p=>xc6 k j n (c+1) (xhn l cs la p c k j)
def xf0 (j:Int):Nat->Int->List (List D)×List (List D)->List (List D)×List (List D)
 | 0,_,p=>p
 | n+1,k,p=>xf0 j n (k+1) (xhn l cs la p 1 k j)
def xdr (j:Int):Nat->Int->List (List D)×List (List D)->List (List D)×List (List D)
 | 0,_,p=>p
 | n+1,k,p=>xdr j n (k+1) (xc6 l cs la k j 5 2 p)
def xei:Nat->Int->List (List D)×List (List D)->List (List D)×List (List D)
 | 0,_,p=>p
 | n+1,j,p=>xei n (j+1) (xdr l cs la j cs.length 0 (xf0 l cs la j cs.length 0 p))
def xic:Nat->Int->List (List D)×List (List D)->List (List D)×List (List D)
 | 0,_,p=>p
 | n+1,k,p=>xic n (k+1) (xhn l cs la p 7 k 0)
def xcv:List (List D):=(xic l cs la cs.length 0 (xei l cs la l.length 0 ([],[]))).2
def xty (L:List (List D)) (i:Nat):Prop:=
 ((1<=ix (L.getD i []) 0/\ix (L.getD i []) 0<=7)/\(0<=ix (L.getD i []) 1/\ix (L.getD i []) 1<cs.length)/\0<=ix (L.getD i []) 2/\ix (L.getD i []) 2<l.length) /\
 xc7 l cs la (ix (L.getD i []) 0) (ix (L.getD i []) 1).toNat (ix (L.getD i []) 2).toNat=true /\
 ix (L.getD i []) 3=xi1 l cs la (ix (L.getD i []) 0) (ix (L.getD i []) 1).toNat (ix (L.getD i []) 2).toNat /\
 ((ix (L.getD i []) 0=7/\0<xbc l cs la (ix (L.getD i []) 1).toNat)->∃ f:Nat,f<i/\lx (L.getD i []) 4=[[.i (f:Int)]]/\ix (L.getD f []) 0=4/\ix (L.getD f []) 1=ix (L.getD i []) 1/\ix (L.getD f []) 2=((l.length - 1:Nat):Int)) /\
 (¬ (ix (L.getD i []) 0=7/\0<xbc l cs la (ix (L.getD i []) 1).toNat)->lx (L.getD i []) 4=[])
end
def yfx (a b:List D):Prop:=ix a 0=ix b 0/\ix a 1=ix b 1/\ix a 2=ix b 2
def xq6 (l cs:List (List D)) (la:Int) (L:List (List D)):Prop:=L.length<=1000/\(∀ i,i<L.length->xty l cs la L i)/\∀ i j,j<i->i<L.length->¬ yfx (L.getD i []) (L.getD j [])
def xn0 (L:List (List D)) (i:Nat):List (List D):=(L.take i).map fun r=>[.i (ix r 0),.i (ix r 1),.i (ix r 2),.b true]
def xS4 (w:List (List D)) (i:Nat):Bool:=decide ((lx (w.getD i []) 7).length<=3)
def xec (c f:Int) (w:List (List D)):Bool:=decide (w.length<=6) && xay (xS4 w) 0 w.length && xaw c f w
def xJ8 (ds:List D):T (Ex×List D):=match ds with
 | [h,w,it,k,c',x,i,y,z,cs,l,c,la,ea,ml,ll,ju,re,mi,no,pe,po,pt,ex,nc,nu,mp,ou]=>.need (yes ((h.I=0/\(xan l.L c.I la.I ea.I ml.I ll.I ju.L re.B mi.I no.I pe.I po.I pt.L ex.L/\xat l.L cs.L/\xbi cs.L ou.L))/\(nc.I=cs.L.length/\nu.I=ou.L.length)/\w.I=cs.L.length/\(0<=it.I/\it.I<l.L.length)/\(0<=k.I/\k.I<cs.L.length)/\1<=c'.I/\c'.I<=7)) (.ite (xc6 l.L cs.L la.I k.I it.I (7 - c'.I).toNat c'.I (mp.L,[])).2.isEmpty (.leaf (.exit 6,[.i 0,.i w.I,.i it.I,.i x.I,.i i.I,.i y.I,.i z.I,.l cs.L,.l l.L,.i c.I,.i la.I,.i ea.I,.i ml.I,.i ll.I,.l ju.L,.b re.B,.i mi.I,.i no.I,.i pe.I,.i po.I,.l pt.L,.l ex.L,.i nc.I,.i nu.I,.l (xc6 l.L cs.L la.I k.I it.I (7 - c'.I).toNat c'.I (mp.L,[])).1,.l ou.L])) (.leaf (.exit 6,[.i 1,.i w.I,.i it.I,.i x.I,.i i.I,.i y.I,.i z.I,.l cs.L,.i (xc6 l.L cs.L la.I k.I it.I (7 - c'.I).toNat c'.I (mp.L,[])).2.length,.l (xc6 l.L cs.L la.I k.I it.I (7 - c'.I).toNat c'.I (mp.L,[])).2,.l l.L,.i c.I,.i la.I,.i ea.I,.i ml.I,.i ll.I,.l ju.L,.b re.B,.i mi.I,.i no.I,.i pe.I,.i po.I,.l pt.L,.l ex.L,.i nc.I,.i nu.I,.l (xc6 l.L cs.L la.I k.I it.I (7 - c'.I).toNat c'.I (mp.L,[])).1,.l ou.L])))
 | [h,w,it,k,c',x,i,y,z,cs,nO,O,l,c,la,ea,ml,ll,ju,re,mi,no,pe,po,pt,ex,nc,nu,mp,ou]=>.need (yes ((h.I=1/\(xan l.L c.I la.I ea.I ml.I ll.I ju.L re.B mi.I no.I pe.I po.I pt.L ex.L/\xat l.L cs.L/\xbi cs.L ou.L))/\(nc.I=cs.L.length/\nu.I=ou.L.length)/\(w.I=cs.L.length/\(0<=it.I/\it.I<l.L.length)/\(0<=k.I/\k.I<cs.L.length)/\1<=c'.I/\c'.I<=7)/\nO.I=O.L.length/\0<O.L.length/\(O.L.length:Int)+(7 - c'.I)<=900)) (.ite (xc6 l.L cs.L la.I k.I it.I (7 - c'.I).toNat c'.I (mp.L,O.L)).2.isEmpty (.leaf (.exit 6,[.i 0,.i w.I,.i it.I,.i x.I,.i i.I,.i y.I,.i z.I,.l cs.L,.l l.L,.i c.I,.i la.I,.i ea.I,.i ml.I,.i ll.I,.l ju.L,.b re.B,.i mi.I,.i no.I,.i pe.I,.i po.I,.l pt.L,.l ex.L,.i nc.I,.i nu.I,.l (xc6 l.L cs.L la.I k.I it.I (7 - c'.I).toNat c'.I (mp.L,O.L)).1,.l ou.L])) (.leaf (.exit 6,[.i 1,.i w.I,.i it.I,.i x.I,.i i.I,.i y.I,.i z.I,.l cs.L,.i (xc6 l.L cs.L la.I k.I it.I (7 - c'.I).toNat c'.I (mp.L,O.L)).2.length,.l (xc6 l.L cs.L la.I k.I it.I (7 - c'.I).toNat c'.I (mp.L,O.L)).2,.l l.L,.i c.I,.i la.I,.i ea.I,.i ml.I,.i ll.I,.l ju.L,.b re.B,.i mi.I,.i no.I,.i pe.I,.i po.I,.l pt.L,.l ex.L,.i nc.I,.i nu.I,.l (xc6 l.L cs.L la.I k.I it.I (7 - c'.I).toNat c'.I (mp.L,O.L)).1,.l ou.L])))
 | _=>.fail
def xJ9 (ds:List D):T (Ex×List D):=match ds with
 | [h,w,it,x,i,y,z,cs,l,c,la,ea,ml,ll,ju,re,mi,no,pe,po,pt,ex,nc,nu,mp,ou]=>.need (yes ((h.I=0/\(xan l.L c.I la.I ea.I ml.I ll.I ju.L re.B mi.I no.I pe.I po.I pt.L ex.L/\xat l.L cs.L/\xbi cs.L ou.L))/\(nc.I=cs.L.length/\nu.I=ou.L.length)/\w.I=cs.L.length/\(0<=it.I/\it.I<l.L.length)/\y.I=cs.L.length/\0<=z.I/\z.I<=cs.L.length)) (.ite (xdr l.L cs.L la.I it.I (cs.L.length - z.I).toNat z.I (mp.L,[])).2.isEmpty (.leaf (.exit 4,[.i 0,.i w.I,.i x.I,.i i.I,.l cs.L,.l l.L,.i c.I,.i la.I,.i ea.I,.i ml.I,.i ll.I,.l ju.L,.b re.B,.i mi.I,.i no.I,.i pe.I,.i po.I,.l pt.L,.l ex.L,.i nc.I,.i nu.I,.l (xdr l.L cs.L la.I it.I (cs.L.length - z.I).toNat z.I (mp.L,[])).1,.l ou.L])) (.leaf (.exit 4,[.i 1,.i w.I,.i x.I,.i i.I,.l cs.L,.i (xdr l.L cs.L la.I it.I (cs.L.length - z.I).toNat z.I (mp.L,[])).2.length,.l (xdr l.L cs.L la.I it.I (cs.L.length - z.I).toNat z.I (mp.L,[])).2,.l l.L,.i c.I,.i la.I,.i ea.I,.i ml.I,.i ll.I,.l ju.L,.b re.B,.i mi.I,.i no.I,.i pe.I,.i po.I,.l pt.L,.l ex.L,.i nc.I,.i nu.I,.l (xdr l.L cs.L la.I it.I (cs.L.length - z.I).toNat z.I (mp.L,[])).1,.l ou.L])))
 | [h,w,it,x,i,y,z,cs,nO,O,l,c,la,ea,ml,ll,ju,re,mi,no,pe,po,pt,ex,nc,nu,mp,ou]=>.need (yes ((h.I=1/\(xan l.L c.I la.I ea.I ml.I ll.I ju.L re.B mi.I no.I pe.I po.I pt.L ex.L/\xat l.L cs.L/\xbi cs.L ou.L))/\(nc.I=cs.L.length/\nu.I=ou.L.length)/\(w.I=cs.L.length/\(0<=it.I/\it.I<l.L.length)/\y.I=cs.L.length/\0<=z.I/\z.I<=cs.L.length)/\nO.I=O.L.length/\0<O.L.length/\(O.L.length:Int)+6*(cs.L.length - z.I)<=900)) (.ite (xdr l.L cs.L la.I it.I (cs.L.length - z.I).toNat z.I (mp.L,O.L)).2.isEmpty (.leaf (.exit 4,[.i 0,.i w.I,.i x.I,.i i.I,.l cs.L,.l l.L,.i c.I,.i la.I,.i ea.I,.i ml.I,.i ll.I,.l ju.L,.b re.B,.i mi.I,.i no.I,.i pe.I,.i po.I,.l pt.L,.l ex.L,.i nc.I,.i nu.I,.l (xdr l.L cs.L la.I it.I (cs.L.length - z.I).toNat z.I (mp.L,O.L)).1,.l ou.L])) (.leaf (.exit 4,[.i 1,.i w.I,.i x.I,.i i.I,.l cs.L,.i (xdr l.L cs.L la.I it.I (cs.L.length - z.I).toNat z.I (mp.L,O.L)).2.length,.l (xdr l.L cs.L la.I it.I (cs.L.length - z.I).toNat z.I (mp.L,O.L)).2,.l l.L,.i c.I,.i la.I,.i ea.I,.i ml.I,.i ll.I,.l ju.L,.b re.B,.i mi.I,.i no.I,.i pe.I,.i po.I,.l pt.L,.l ex.L,.i nc.I,.i nu.I,.l (xdr l.L cs.L la.I it.I (cs.L.length - z.I).toNat z.I (mp.L,O.L)).1,.l ou.L])))
 | _=>.fail
def xKa (ds:List D):T (Ex×List D):=match ds with
 | [h,w,it,x,i,y,z,cs,l,c,la,ea,ml,ll,ju,re,mi,no,pe,po,pt,ex,nc,nu,mp,ou]=>.need (yes ((h.I=0/\(xan l.L c.I la.I ea.I ml.I ll.I ju.L re.B mi.I no.I pe.I po.I pt.L ex.L/\xat l.L cs.L/\xbi cs.L ou.L))/\(nc.I=cs.L.length/\nu.I=ou.L.length)/\w.I=cs.L.length/\(0<=it.I/\it.I<l.L.length)/\y.I=cs.L.length/\0<=z.I/\z.I<=cs.L.length)) (.ite (xf0 l.L cs.L la.I it.I (cs.L.length - z.I).toNat z.I (mp.L,[])).2.isEmpty (.leaf (.exit 2,[.i 0,.i w.I,.i it.I,.i x.I,.i i.I,.l cs.L,.l l.L,.i c.I,.i la.I,.i ea.I,.i ml.I,.i ll.I,.l ju.L,.b re.B,.i mi.I,.i no.I,.i pe.I,.i po.I,.l pt.L,.l ex.L,.i nc.I,.i nu.I,.l (xf0 l.L cs.L la.I it.I (cs.L.length - z.I).toNat z.I (mp.L,[])).1,.l ou.L])) (.leaf (.exit 2,[.i 1,.i w.I,.i it.I,.i x.I,.i i.I,.l cs.L,.i (xf0 l.L cs.L la.I it.I (cs.L.length - z.I).toNat z.I (mp.L,[])).2.length,.l (xf0 l.L cs.L la.I it.I (cs.L.length - z.I).toNat z.I (mp.L,[])).2,.l l.L,.i c.I,.i la.I,.i ea.I,.i ml.I,.i ll.I,.l ju.L,.b re.B,.i mi.I,.i no.I,.i pe.I,.i po.I,.l pt.L,.l ex.L,.i nc.I,.i nu.I,.l (xf0 l.L cs.L la.I it.I (cs.L.length - z.I).toNat z.I (mp.L,[])).1,.l ou.L])))
 | [h,w,it,x,i,y,z,cs,nO,O,l,c,la,ea,ml,ll,ju,re,mi,no,pe,po,pt,ex,nc,nu,mp,ou]=>.need (yes ((h.I=1/\(xan l.L c.I la.I ea.I ml.I ll.I ju.L re.B mi.I no.I pe.I po.I pt.L ex.L/\xat l.L cs.L/\xbi cs.L ou.L))/\(nc.I=cs.L.length/\nu.I=ou.L.length)/\(w.I=cs.L.length/\(0<=it.I/\it.I<l.L.length)/\y.I=cs.L.length/\0<=z.I/\z.I<=cs.L.length)/\nO.I=O.L.length/\0<O.L.length/\(O.L.length:Int)+(cs.L.length - z.I)<=900)) (.ite (xf0 l.L cs.L la.I it.I (cs.L.length - z.I).toNat z.I (mp.L,O.L)).2.isEmpty (.leaf (.exit 2,[.i 0,.i w.I,.i it.I,.i x.I,.i i.I,.l cs.L,.l l.L,.i c.I,.i la.I,.i ea.I,.i ml.I,.i ll.I,.l ju.L,.b re.B,.i mi.I,.i no.I,.i pe.I,.i po.I,.l pt.L,.l ex.L,.i nc.I,.i nu.I,.l (xf0 l.L cs.L la.I it.I (cs.L.length - z.I).toNat z.I (mp.L,O.L)).1,.l ou.L])) (.leaf (.exit 2,[.i 1,.i w.I,.i it.I,.i x.I,.i i.I,.l cs.L,.i (xf0 l.L cs.L la.I it.I (cs.L.length - z.I).toNat z.I (mp.L,O.L)).2.length,.l (xf0 l.L cs.L la.I it.I (cs.L.length - z.I).toNat z.I (mp.L,O.L)).2,.l l.L,.i c.I,.i la.I,.i ea.I,.i ml.I,.i ll.I,.l ju.L,.b re.B,.i mi.I,.i no.I,.i pe.I,.i po.I,.l pt.L,.l ex.L,.i nc.I,.i nu.I,.l (xf0 l.L cs.L la.I it.I (cs.L.length - z.I).toNat z.I (mp.L,O.L)).1,.l ou.L])))
 | _=>.fail
def xQa (ds:List D):T (Ex×List D):=match ds with
 | [h,w,x,i,cs,l,c,la,ea,ml,ll,ju,re,mi,no,pe,po,pt,ex,nc,nu,mp,ou]=>.need (yes ((h.I=0/\(xan l.L c.I la.I ea.I ml.I ll.I ju.L re.B mi.I no.I pe.I po.I pt.L ex.L/\xat l.L cs.L/\xbi cs.L ou.L))/\(nc.I=cs.L.length/\nu.I=ou.L.length)/\w.I=cs.L.length/\x.I=l.L.length/\0<=i.I/\i.I<=l.L.length)) (.ite (xei l.L cs.L la.I (l.L.length - i.I).toNat i.I (mp.L,[])).2.isEmpty (.leaf (.exit 0,[.i 0,.i w.I,.l cs.L,.l l.L,.i c.I,.i la.I,.i ea.I,.i ml.I,.i ll.I,.l ju.L,.b re.B,.i mi.I,.i no.I,.i pe.I,.i po.I,.l pt.L,.l ex.L,.i nc.I,.i nu.I,.l (xei l.L cs.L la.I (l.L.length - i.I).toNat i.I (mp.L,[])).1,.l ou.L])) (.leaf (.exit 0,[.i 1,.i w.I,.l cs.L,.i (xei l.L cs.L la.I (l.L.length - i.I).toNat i.I (mp.L,[])).2.length,.l (xei l.L cs.L la.I (l.L.length - i.I).toNat i.I (mp.L,[])).2,.l l.L,.i c.I,.i la.I,.i ea.I,.i ml.I,.i ll.I,.l ju.L,.b re.B,.i mi.I,.i no.I,.i pe.I,.i po.I,.l pt.L,.l ex.L,.i nc.I,.i nu.I,.l (xei l.L cs.L la.I (l.L.length - i.I).toNat i.I (mp.L,[])).1,.l ou.L])))
 | [h,w,x,i,cs,nO,O,l,c,la,ea,ml,ll,ju,re,mi,no,pe,po,pt,ex,nc,nu,mp,ou]=>.need (yes ((h.I=1/\(xan l.L c.I la.I ea.I ml.I ll.I ju.L re.B mi.I no.I pe.I po.I pt.L ex.L/\xat l.L cs.L/\xbi cs.L ou.L))/\(nc.I=cs.L.length/\nu.I=ou.L.length)/\(w.I=cs.L.length/\x.I=l.L.length/\0<=i.I/\i.I<=l.L.length)/\nO.I=O.L.length/\0<O.L.length/\(O.L.length:Int)+100*(l.L.length - i.I)<=700)) (.ite (xei l.L cs.L la.I (l.L.length - i.I).toNat i.I (mp.L,O.L)).2.isEmpty (.leaf (.exit 0,[.i 0,.i w.I,.l cs.L,.l l.L,.i c.I,.i la.I,.i ea.I,.i ml.I,.i ll.I,.l ju.L,.b re.B,.i mi.I,.i no.I,.i pe.I,.i po.I,.l pt.L,.l ex.L,.i nc.I,.i nu.I,.l (xei l.L cs.L la.I (l.L.length - i.I).toNat i.I (mp.L,O.L)).1,.l ou.L])) (.leaf (.exit 0,[.i 1,.i w.I,.l cs.L,.i (xei l.L cs.L la.I (l.L.length - i.I).toNat i.I (mp.L,O.L)).2.length,.l (xei l.L cs.L la.I (l.L.length - i.I).toNat i.I (mp.L,O.L)).2,.l l.L,.i c.I,.i la.I,.i ea.I,.i ml.I,.i ll.I,.l ju.L,.b re.B,.i mi.I,.i no.I,.i pe.I,.i po.I,.l pt.L,.l ex.L,.i nc.I,.i nu.I,.l (xei l.L cs.L la.I (l.L.length - i.I).toNat i.I (mp.L,O.L)).1,.l ou.L])))
 | _=>.fail
def xJ7 (ds:List D):T (Ex×List D):=match ds with
 | [h,y,z,cs,l,c,la,ea,ml,ll,ju,re,mi,no,pe,po,pt,ex,nc,nu,mp,ou]=>.need (yes ((h.I=0/\(xan l.L c.I la.I ea.I ml.I ll.I ju.L re.B mi.I no.I pe.I po.I pt.L ex.L/\xat l.L cs.L/\xbi cs.L ou.L))/\(nc.I=cs.L.length/\nu.I=ou.L.length)/\y.I=cs.L.length/\0<=z.I/\z.I<=cs.L.length)) (.ite (xic l.L cs.L la.I (cs.L.length - z.I).toNat z.I (mp.L,[])).2.isEmpty (.leaf (.exit 8,[.i 0,.l cs.L])) (.leaf (.exit 8,[.i 1,.l cs.L,.i (xic l.L cs.L la.I (cs.L.length - z.I).toNat z.I (mp.L,[])).2.length,.l (xic l.L cs.L la.I (cs.L.length - z.I).toNat z.I (mp.L,[])).2])))
 | [h,y,z,cs,nO,O,l,c,la,ea,ml,ll,ju,re,mi,no,pe,po,pt,ex,nc,nu,mp,ou]=>.need (yes ((h.I=1/\(xan l.L c.I la.I ea.I ml.I ll.I ju.L re.B mi.I no.I pe.I po.I pt.L ex.L/\xat l.L cs.L/\xbi cs.L ou.L))/\(nc.I=cs.L.length/\nu.I=ou.L.length)/\(y.I=cs.L.length/\0<=z.I/\z.I<=cs.L.length)/\nO.I=O.L.length/\0<O.L.length/\(O.L.length:Int)+(cs.L.length - z.I)<=900)) (.ite (xic l.L cs.L la.I (cs.L.length - z.I).toNat z.I (mp.L,O.L)).2.isEmpty (.leaf (.exit 8,[.i 0,.l cs.L])) (.leaf (.exit 8,[.i 1,.l cs.L,.i (xic l.L cs.L la.I (cs.L.length - z.I).toNat z.I (mp.L,O.L)).2.length,.l (xic l.L cs.L la.I (cs.L.length - z.I).toNat z.I (mp.L,O.L)).2])))
 | _=>.fail
def G12 (ds:List D):T (List D):=match ds with
 | [l,c,la,ea,ml,ll,ju,re,mi,no,pe,po,pt,ex,w,cs]=>.need (yes (xan l.L c.I la.I ea.I ml.I ll.I ju.L re.B mi.I no.I pe.I po.I pt.L ex.L/\xat l.L cs.L/\w.I=cs.L.length)) (.ite (xcv l.L cs.L la.I).isEmpty (.leaf [.i 0,.i 0,.l cs.L]) (.leaf [.i 1,.i (xcv l.L cs.L la.I).length,.i 0,.l cs.L,.l (xcv l.L cs.L la.I)]))
 | _=>.fail
def xJ1 (ds:List D):T (Ex×List D):=match ds with
 | [h,L,i,x,y,kd,k,j,v,fr,kd',k',j',m]=>.need (yes (h.I=0/\x.I=0/\y.I=0)) (.leaf (.exit 0,[.l L.L,.i i.I,.i kd.I,.i k.I,.i j.I,.i v.I,.l fr.L,.i kd'.I,.i k'.I,.i j'.I,.l m.L]))
 | [h,L,i,n,x,y,kd,k,j,v,fr,kd',k',j',m,pr]=>.need (yes (h.I=1/\n.I=1/\x.I=1/\pr.L.length=1/\pr.L=[[.i (ix (pr.L.getD 0 []) 0),.i (ix (pr.L.getD 0 []) 1),.i (ix (pr.L.getD 0 []) 2)]]/\(y.I=0/\m.L=[]\/y.I=1/\m.L=[[.i (ix (pr.L.getD 0 []) 0),.i (ix (pr.L.getD 0 []) 1),.i (ix (pr.L.getD 0 []) 2),.b true]]))) (.leaf (.exit 0,[.l L.L,.i i.I,.i kd.I,.i k.I,.i j.I,.i v.I,.l fr.L,.i kd'.I,.i k'.I,.i j'.I,.l [[.i (ix (pr.L.getD 0 []) 0),.i (ix (pr.L.getD 0 []) 1),.i (ix (pr.L.getD 0 []) 2),.b true]]]))
 | _=>.fail
def xJ0 (ds:List D):T (Ex×List D):=match ds with
 | [L,i,fl,x,y,_,_,_,_,_,m]=>.need (yes (x.I=fl.L.length/\fl.L.length<=1/\0<=i.I/\i.I<L.L.length/\L.L.length<=1000/\(y.I=x.I\/y.I=0/\0<=ix (fl.L.getD 0 []) 0/\ix (fl.L.getD 0 []) 0<i.I/\m.L=[[.i (ix (L.L.getD (ix (fl.L.getD 0 []) 0).toNat []) 0),.i (ix (L.L.getD (ix (fl.L.getD 0 []) 0).toNat []) 1),.i (ix (L.L.getD (ix (fl.L.getD 0 []) 0).toNat []) 2),.b true]]))) (.leaf (.exit 2,[]))
 | _=>.fail
def G33 (ds:List D):T (List D):=match ds with
 | [l,c,la,ea,ml,ll,ju,re,mi,no,pe,po,pt,ex,cs,ou,L,i]=>.need (yes ((xan l.L c.I la.I ea.I ml.I ll.I ju.L re.B mi.I no.I pe.I po.I pt.L ex.L/\xat l.L cs.L/\xbi cs.L ou.L)/\L.L.length<=1000/\(0<=i.I/\i.I<L.L.length)/\xty l.L cs.L la.I L.L i.I.toNat)) (.leaf [.b true])
 | _=>.fail
def xP9 (ds:List D):T (Ex×List D):=match ds with
 | [L,L',x,i,l,c,la,ea,ml,ll,ju,re,mi,no,pe,po,pt,ex,cs,nu,m,ou]=>.need (yes ((xan l.L c.I la.I ea.I ml.I ll.I ju.L re.B mi.I no.I pe.I po.I pt.L ex.L/\xat l.L cs.L/\xbi cs.L ou.L)/\L'.L=L.L/\x.I=L.L.length/\nu.I=ou.L.length/\xq6 l.L cs.L la.I L.L/\(0<=i.I/\i.I<=L.L.length)/\m.L=xn0 L.L i.I.toNat)) (.leaf (.exit 0,[]))
 | _=>.fail
def G13 (ds:List D):T (List D):=match ds with
 | [l,c,la,ea,ml,ll,ju,re,mi,no,pe,po,pt,ex,cs,L]=>.need (yes (xan l.L c.I la.I ea.I ml.I ll.I ju.L re.B mi.I no.I pe.I po.I pt.L ex.L/\xat l.L cs.L/\xq6 l.L cs.L la.I L.L)) (.leaf [.b true])
 | _=>.fail
def xVx (ds:List D):T (Ex×List D):=match ds with
 | [i,c,f,w]=>.need (yes (0<=i.I/\i.I<=w.L.length/\w.L.length<=6)) (.ite (xay (xS4 w.L) i.I.toNat (w.L.length - i.I.toNat)) (.leaf (.exit 0,[.i c.I,.i f.I,.l w.L])) (.leaf (.ret,[.b false])))
 | _=>.fail
def G4 (ds:List D):T (List D):=match ds with
 | [c,f,w]=>.leaf [.b (xec c.I f.I w.L)]
 | _=>.fail
def G7 (ds:List D):T (List D):=match ds with
 | [a,b]=>.leaf [.i a.I,.i b.I,.i 1440,.i 1440,.i 1,.b false,.i 0,.i 1,.i 100,.i (-1),.l [[.i 0]]]
 | _=>.fail
end
theorem eq3 (a b c:Int) (r:List D):xmw kk3 [.i a,.i b,.i c] r 0=true ↔ a=ix r 0/\b=ix r 1/\c=ix r 2:=by
 show ((a == ix r 0) && ((b == ix r 1) && ((c == ix r 2) && true)))=true ↔ _;simp only [Bool.and_eq_true,beq_iff_eq,Bool.and_true]
theorem xuz {a b c:Int}:∀ (mp:List (List D)) (i:Nat),(∀ r∈mp,¬ (a=ix r 0/\b=ix r 1/\c=ix r 2))->xi8 kk3 [.i a,.i b,.i c] mp i=none
 | [],_,_=>rfl
 | r :: rs,i,h=>by
   have h1:=h r List.mem_cons_self;simp only [xi8];rw [if_neg (fun e=>h1 ((eq3 a b c r).1 e))];exact xuz rs (i+1) fun x hx=>h x (List.mem_cons_of_mem _ hx)
theorem xEn {a b c:Int}:∀ (mp:List (List D)) (i:Nat),(∃ r∈mp,a=ix r 0/\b=ix r 1/\c=ix r 2)->∃ n,xi8 kk3 [.i a,.i b,.i c] mp i=some (i+n)/\n<mp.length/\a=ix (mp.getD n []) 0/\b=ix (mp.getD n []) 1/\c=ix (mp.getD n []) 2
 | [],_,h=>by obtain ⟨r,hr,-⟩:=h;cases hr
 | r :: rs,i,h=>by
   simp only [xi8];by_cases e:xmw kk3 [.i a,.i b,.i c] r 0=true
   ·rw [if_pos e];exact ⟨0,rfl,by simp,(eq3 a b c r).1 e⟩
   ·rw [if_neg e];have:∃ x∈rs,a=ix x 0/\b=ix x 1/\c=ix x 2:=by
     obtain ⟨x,hx,hk⟩:=h;rcases List.mem_cons.1 hx with rfl | hx
     ·exact absurd ((eq3 a b c x).2 hk) e
     ·exact ⟨x,hx,hk⟩
    obtain ⟨n,h1,h2,h3⟩:=xEn rs (i+1) this;exact ⟨n+1,by rw [h1];congr 1;omega,by simp only [List.length_cons];omega,h3⟩
theorem xHy {L:List (List D)} {n:Nat} (h:n<L.length):L.getD n []∈L:=by
 rw [List.getD_eq_getElem?_getD,List.getElem?_eq_getElem h];exact List.getElem_mem h
theorem xYu {mp:List (List D)} {a b c v:Int} (h1:∃ r∈mp,a=ix r 0/\b=ix r 1/\c=ix r 2) (h2:∀ r∈mp,a=ix r 0/\b=ix r 1/\c=ix r 2->ix r 3=v):xkc mp [.i a,.i b,.i c]=v:=by
 obtain ⟨n,e,hn,hk⟩:=xEn mp 0 h1;unfold xkc xjk xjh;rw [e,if_pos (show (some (0+n)).isSome=true from rfl)];show ix (mp.getD (0+n) []) 3=v;rw [Nat.zero_add];exact h2 _ (xHy hn) hk
theorem xx6 {mp:List (List D)} {a b c:Int} {d:D} (h:∀ r∈mp,¬ (a=ix r 0/\b=ix r 1/\c=ix r 2)):xf9 kk3 [.i a,.i b,.i c] d mp=mp++[[.i a,.i b,.i c,d]]:=by
 unfold xf9;rw [xuz mp 0 h];rfl
noncomputable section
section
variable (l cs:List (List D)) (la:Int)
def xg2 (k:Nat):List D:=[.i 4,.i (k:Int),.i ((l.length - 1:Nat):Int),.i (xbc l cs la k),.l []]
def xc4:Nat->List (List D)
 | 0=>[]
 | c+1=>xc4 c++(if 0<xbc l cs la c then [xg2 l cs la c] else [])
def xq0 (k:Nat):List D:=[.i 4,.i (k:Int),.i ((l.length - 1:Nat):Int),.i ((xc4 l cs la k).length:Int)]
def xi6:Nat->List (List D)
 | 0=>[]
 | c+1=>xi6 c++(if 0<xbc l cs la c then [xq0 l cs la c] else [])
def xhv (k:Nat):List D:=[.i 7,.i (k:Int),.i 0,.i (xbc l cs la k),.l (if 0<xbc l cs la k then [[.i ((xc4 l cs la k).length:Int)]] else [])]
def xnx:Nat->Nat->List (List D)
 | 0,_=>[]
 | m+1,c=>xhv l cs la c::xnx m (c+1)
end
end
section
variable {l cs:List (List D)} {la:Int}
theorem xom {p:List (List D)×List (List D)} {kd k j:Int} (h:xc7 l cs la kd k.toNat j.toNat=false):xhn l cs la p kd k j=p:=by
 unfold xhn;rw [if_neg (by rw [h];decide)]
theorem xt3:∀ {c:Nat} {r:List D},r∈xi6 l cs la c->∃ k,k<c/\0<xbc l cs la k/\r=xq0 l cs la k
 | 0,_,h=>by cases h
 | c + 1,r,h=>by
   simp only [xi6] at h;rcases List.mem_append.1 h with h | h
   ·obtain ⟨k,h1,h2⟩:=xt3 h;exact ⟨k,by omega,h2⟩
   ·split at h
    ·rename_i hc;rw [List.mem_singleton] at h;exact ⟨c,by omega,hc,h⟩
    ·cases h
theorem xD4:∀ {c k:Nat},k<c->0<xbc l cs la k->xq0 l cs la k∈xi6 l cs la c
 | 0,_,h,_=>by omega
 | c + 1,k,h,hk=>by
   simp only [xi6];rw [List.mem_append];by_cases e:k=c
   ·subst e;rw [if_pos hk];exact .inr List.mem_cons_self
   ·exact .inl (xD4 (by omega) hk)
theorem xQs (hl:1<=l.length) (c:Nat):xhn l cs la (xi6 l cs la c,xc4 l cs la c) 4 (c:Int) ((l.length - 1:Nat):Int)=(xi6 l cs la (c+1),xc4 l cs la (c+1)):=by
 by_cases h:0<xbc l cs la c
 ·have hv:xc7 l cs la 4 (c:Int).toNat ((l.length - 1:Nat):Int).toNat=true:=by
   rw [xti (by omega),Int.toNat_natCast,Int.toNat_natCast];exact decide_eq_true ⟨⟨rfl,by omega⟩,h⟩
  unfold xhn;rw [if_pos hv];simp only [xi6,xc4,if_pos h];rw [xx6 (fun r hr hk=>by
   obtain ⟨k,h1,-,rfl⟩:=xt3 hr;have:(c:Int)=(k:Int):=hk.2.1;omega)]
  have e1:xi1 l cs la 4 (c:Int).toNat ((l.length - 1:Nat):Int).toNat=xbc l cs la c:=by
   unfold xi1;rw [if_neg (by omega),if_pos (.inl rfl),xCs,Int.toNat_natCast,Int.toNat_natCast,if_pos (by omega)]
  have e2:xm5 l cs la (xi6 l cs la c) 4 (c:Int)=[]:=if_neg fun h=>by omega
  unfold xmi;rw [e1,e2];rfl
 ·rw [xom (by rw [xti (by omega),Int.toNat_natCast];exact decide_eq_false fun x=>h x.2)];simp only [xi6,xc4,if_neg h,List.append_nil]
theorem xmm (p:List (List D)×List (List D)) (k j:Int):xc6 l cs la k j 5 2 p=xhn l cs la p 4 k j:=by
 have hn:∀ (q:List (List D)×List (List D)) (x:Int),x<=6->x≠4->xhn l cs la q x k j=q:=fun q x h6 h4=>xom (by
  rw [xti h6];exact decide_eq_false fun h=>h4 h.1.1)
 show xhn l cs la (xhn l cs la (xhn l cs la (xhn l cs la (xhn l cs la p 2 k j) (2+1) k j) (2+1+1) k j) (2+1+1+1) k j) (2+1+1+1+1) k j=_;rw [hn _ (2+1+1+1+1) (by omega) (by omega),hn _ (2+1+1+1) (by omega) (by omega),hn p 2 (by omega) (by omega),hn p (2+1) (by omega) (by omega)];rfl
theorem xhi (j:Int):∀ (m:Nat) (c:Int) (p:List (List D)×List (List D)),xf0 l cs la j m c p=p
 | 0,_,_=>rfl
 | m + 1,c,p=>by
   simp only [xf0];rw [xom (by rw [xti (by omega)];exact decide_eq_false fun h=>by omega)];exact xhi j m _ p
theorem xL1 {j:Nat} (hj:j+1<l.length):∀ (m:Nat) (c:Int) (p:List (List D)×List (List D)),xdr l cs la (j:Int) m c p=p
 | 0,_,_=>rfl
 | m + 1,c,p=>by
   simp only [xdr];rw [xmm,xom (by rw [xti (by omega),Int.toNat_natCast];exact decide_eq_false fun h=>by omega)];exact xL1 hj m _ p
theorem xEq (hl:1<=l.length):∀ (m c:Nat),xdr l cs la ((l.length - 1:Nat):Int) m (c:Int) (xi6 l cs la c,xc4 l cs la c)=(xi6 l cs la (c+m),xc4 l cs la (c+m))
 | 0,_=>rfl
 | m + 1,c=>by
   simp only [xdr];rw [xmm,xQs hl,show (c:Int)+1=((c+1:Nat):Int) by omega,xEq hl m (c+1),show c+1+m=c+(m+1) by omega]
theorem xyf (hl:1<=l.length):∀ (m j:Nat),j+(m+1)=l.length->xei l cs la (m+1) (j:Int) ([],[])=(xi6 l cs la cs.length,xc4 l cs la cs.length)
 | 0, j,h=>by
   simp only [xei];rw [xhi,show j=l.length - 1 by omega];have:=xEq (l:=l) (cs:=cs) (la:=la) hl cs.length 0;rw [Nat.zero_add] at this;exact this
 | m + 1,j,h=>by
   rw [xei,xhi,xL1 (by omega),show (j:Int)+1=((j+1:Nat):Int) by omega];exact xyf hl m (j+1) (by omega)
theorem xK2:∀ (m c:Nat) (mp O:List (List D)),(∀ r∈mp,(∃ k,0<xbc l cs la k/\r=xq0 l cs la k)\/ix r 0=7/\ix r 1<c)->(∀ k,k<c+m->0<xbc l cs la k->xq0 l cs la k∈mp)->(xic l cs la m (c:Int) (mp,O)).2=O++xnx l cs la m c
 | 0,_,_,O,_,_=>(List.append_nil O).symm
 | m + 1, c,mp,O,h1,h2=>by
   simp only [xic,xnx];have hv:xc7 l cs la 7 (c:Int).toNat (0:Int).toNat=true:=by
    unfold xc7;rw [decide_eq_true (p:=(7:Int)=7/\(0:Int).toNat=0) ⟨rfl,rfl⟩];rfl
   have hr:xmi l cs la mp 7 (c:Int) 0=xhv l cs la c:=by
    have e1:xi1 l cs la 7 (c:Int).toNat (0:Int).toNat=xbc l cs la c:=by
     unfold xi1;rw [if_pos rfl,Int.toNat_natCast]
    unfold xmi xhv;rw [e1];by_cases hc:0<xbc l cs la c
    ·have e2:xm5 l cs la mp 7 (c:Int)=[[.i (xkc mp [.i 4,.i (c:Int),.i ((l.length - 1:Nat):Int)])]]:=if_pos ⟨rfl,by rw [Int.toNat_natCast];exact hc⟩;have e3:xkc mp [.i 4,.i (c:Int),.i ((l.length - 1:Nat):Int)]=((xc4 l cs la c).length:Int):=xYu ⟨_,h2 c (by omega) hc,rfl,rfl,rfl⟩ fun r hr hk=>by
      rcases h1 r hr with ⟨k,-,rfl⟩ | h
      ·have:(c:Int)=(k:Int):=hk.2.1;have:c=k:=by omega
       subst this;rfl
      ·have:=hk.1;omega
     rw [e2,e3,if_pos hc]
    ·have e2:xm5 l cs la mp 7 (c:Int)=[]:=if_neg fun h=>hc (by have:=h.2;rwa [Int.toNat_natCast] at this)
     rw [e2,if_neg hc]
   have ea:xhn l cs la (mp,O) 7 (c:Int) 0=(mp++[[.i 7,.i (c:Int),.i 0,.i (O.length:Int)]],O++[xhv l cs la c]):=by
    unfold xhn;rw [if_pos hv,hr,xx6 (fun r hr hk=>by
     rcases h1 r hr with ⟨k,-,rfl⟩ | h
     ·have:(7:Int)=4:=hk.1;omega
     ·have:=hk.2.1;omega)]
   rw [ea,show (c:Int)+1=((c+1:Nat):Int) by omega,xK2 m (c+1) _ _ (fun r hr=>?_) fun k hk hc=>?_,List.append_assoc]
   ·rfl
   ·rcases List.mem_append.1 hr with hr | hr
    ·rcases h1 r hr with h | h
     ·exact .inl h
     ·exact .inr ⟨h.1,by omega⟩
    ·rw [List.mem_singleton] at hr;subst hr;exact .inr ⟨rfl,show (c:Int)<((c+1:Nat):Int) by omega⟩
   ·exact List.mem_append.2 (.inl (h2 k (by omega) hc))
theorem xwk (hl:1<=l.length):xcv l cs la=xc4 l cs la cs.length++xnx l cs la cs.length 0:=by
 unfold xcv;obtain ⟨m,hm⟩:∃ m,l.length=m+1:=⟨l.length - 1,by omega⟩;have h:=xyf (l:=l) (cs:=cs) (la:=la) hl m 0 (by omega);rw [<- hm] at h;rw [show (0:Int)=((0:Nat):Int) from rfl,h];exact xK2 cs.length 0 _ _ (fun r hr=>.inl (by obtain ⟨k,-,h⟩:=xt3 hr;exact ⟨k,h⟩)) fun k hk hc=>xD4 (by omega) hc
theorem xyd:∀ c,(xc4 l cs la c).length<=c
 | 0=>Nat.le_refl _
 | c + 1=>by
   have:=xyd c;simp only [xc4,List.length_append];split <;> simp <;> omega
theorem xvv:∀ {c k:Nat},k<c->0<xbc l cs la k->(xc4 l cs la k).length<(xc4 l cs la c).length/\(xc4 l cs la c).getD (xc4 l cs la k).length []=xg2 l cs la k
 | 0,_,h,_=>by omega
 | c + 1,k,h,hk=>by
   simp only [xc4];by_cases e:k=c
   ·subst e;rw [if_pos hk];refine ⟨by simp,?_⟩;rw [List.getD_eq_getElem?_getD,List.getElem?_append_right (Nat.le_refl _),Nat.sub_self];rfl
   ·obtain ⟨h1,h2⟩:=xvv (show k<c by omega) hk;refine ⟨by rw [List.length_append];omega,?_⟩;rw [List.getD_eq_getElem?_getD,List.getElem?_append_left h1,<- List.getD_eq_getElem?_getD];exact h2
theorem xId:∀ {c i:Nat},i<(xc4 l cs la c).length->∃ k,k<c/\0<xbc l cs la k/\i=(xc4 l cs la k).length
 | 0,_,h=>by cases h
 | c + 1,i,h=>by
   by_cases e:i<(xc4 l cs la c).length
   ·obtain ⟨k,h1,h2⟩:=xId e;exact ⟨k,by omega,h2⟩
   ·simp only [xc4,List.length_append] at h;split at h
    ·rename_i hc;exact ⟨c,by omega,hc,by simp at h;omega⟩
    ·simp at h;omega
theorem xxi:∀ m c,(xnx l cs la m c).length=m
 | 0,_=>rfl
 | m+1,c=>by simp only [xnx,List.length_cons,xxi m]
theorem xK3:∀ {m c i:Nat},i<m->(xnx l cs la m c).getD i []=xhv l cs la (c+i)
 | 0,_,_,h=>by omega
 | m+1,c,0,_=>rfl
 | m + 1,c,i+1,h=>by
   have:=xK3 (m:=m) (c:=c+1) (i:=i) (by omega);rw [show c+(i+1)=c+1+i by omega];exact this
theorem xwj (hl:1<=l.length) {i:Nat} (hi:i<(xcv l cs la).length) :
    (∃ k,k<cs.length/\0<xbc l cs la k/\i=(xc4 l cs la k).length/\(xcv l cs la).getD i []=xg2 l cs la k)\/(∃ k,k<cs.length/\i=(xc4 l cs la cs.length).length+k/\(xcv l cs la).getD i []=xhv l cs la k):=by
 rw [xwk hl] at hi ⊢;by_cases e:i<(xc4 l cs la cs.length).length
 ·obtain ⟨k,h1,h2,h3⟩:=xId e;refine .inl ⟨k,h1,h2,h3,?_⟩;rw [List.getD_eq_getElem?_getD,List.getElem?_append_left e,<- List.getD_eq_getElem?_getD,h3];exact (xvv h1 h2).2
 ·rw [List.length_append,xxi] at hi;refine .inr ⟨i - (xc4 l cs la cs.length).length,by omega,by omega,?_⟩;rw [List.getD_eq_getElem?_getD,List.getElem?_append_right (by omega),<- List.getD_eq_getElem?_getD,xK3 (by omega),Nat.zero_add]
theorem xVc (hl:1<=l.length) {k:Nat} (hk:k<cs.length) (hc:0<xbc l cs la k):(xcv l cs la).getD (xc4 l cs la k).length []=xg2 l cs la k:=by
 obtain ⟨h1,h2⟩:=xvv hk hc;rw [xwk hl,List.getD_eq_getElem?_getD,List.getElem?_append_left h1,<- List.getD_eq_getElem?_getD];exact h2
theorem xLy (hl:1<=l.length):cs.length<=(xcv l cs la).length/\(xcv l cs la).length<=2*cs.length:=by
 have:=xyd (l:=l) (cs:=cs) (la:=la) cs.length;rw [xwk hl,List.length_append,xxi];omega
theorem xSk (hl:1<=l.length) {i:Nat} (hi:i<(xcv l cs la).length):xty l cs la (xcv l cs la) i:=by
 unfold xty;rcases xwj hl hi with ⟨k,h1,h2,h3,h4⟩ | ⟨k,h1,h3,h4⟩
 ·rw [h4];have e0:ix (xg2 l cs la k) 0=4:=rfl;have e1:ix (xg2 l cs la k) 1=(k:Int):=rfl;have e2:ix (xg2 l cs la k) 2=((l.length - 1:Nat):Int):=rfl;have e3:ix (xg2 l cs la k) 3=xbc l cs la k:=rfl;have e4:lx (xg2 l cs la k) 4=[]:=rfl;rw [e0,e1,e2,e3,e4,Int.toNat_natCast,Int.toNat_natCast];refine ⟨⟨by omega,by omega,by omega,by omega⟩,?_,?_,fun h=>by omega,fun _=>rfl⟩
  ·rw [xti (by omega)];exact decide_eq_true ⟨⟨rfl,by omega⟩,h2⟩
  ·unfold xi1;rw [if_neg (by omega),if_pos (.inl rfl),xCs,if_pos (by omega)]
 ·rw [h4];have e0:ix (xhv l cs la k) 0=7:=rfl;have e1:ix (xhv l cs la k) 1=(k:Int):=rfl;have e2:ix (xhv l cs la k) 2=0:=rfl;have e3:ix (xhv l cs la k) 3=xbc l cs la k:=rfl;have e4:lx (xhv l cs la k) 4=if 0<xbc l cs la k then [[.i ((xc4 l cs la k).length:Int)]] else []:=rfl
  rw [e0,e1,e2,e3,e4,Int.toNat_natCast];refine ⟨⟨by omega,by omega,by omega,by omega⟩,?_,?_,fun h=>?_,fun h=>?_⟩
  ·unfold xc7;rw [decide_eq_true (p:=(7:Int)=7/\(0:Int).toNat=0) ⟨rfl,rfl⟩];rfl
  ·unfold xi1;rw [if_pos rfl]
  ·rw [if_pos h.2];have hd:=xVc hl h1 h.2;refine ⟨(xc4 l cs la k).length,by have:=(xvv h1 h.2).1;omega,rfl,?_⟩;rw [hd];exact ⟨rfl,rfl,rfl⟩
  ·exact if_neg fun hc=>h ⟨rfl,hc⟩
theorem xSl (hl:1<=l.length) (hc:cs.length<=12):xq6 l cs la (xcv l cs la):=by
 refine ⟨by have:=xLy (l:=l) (cs:=cs) (la:=la) hl;omega,fun i hi=>xSk hl hi,fun i j hj hi hs=>?_⟩;rcases xwj hl hi with ⟨k,h1,h2,h3,h4⟩ | ⟨k,h1,h3,h4⟩ <;> rcases xwj hl (Nat.lt_trans hj hi) with ⟨k',h1',h2',h3',h4'⟩ | ⟨k',h1',h3',h4'⟩ <;> rw [h4,h4'] at hs
 ·have:(k:Int)=(k':Int):=hs.2.1;have:k=k':=by omega
  subst this;omega
 ·have:(4:Int)=7:=hs.1;omega
 ·have:(7:Int)=4:=hs.1;omega
 ·have:(k:Int)=(k':Int):=hs.2.1;omega
def xf6:List (List D)->Int
 | []=>0
 | r::rs=>(if ix r 0=4 then ix r 3 else 0)+xf6 rs
theorem xm1:∀ a b:List (List D),xf6 (a++b)=xf6 a+xf6 b
 | [],b=>(Int.zero_add _).symm
 | r :: rs,b=>by
   show (if ix r 0=4 then ix r 3 else 0)+xf6 (rs++b)=(if ix r 0=4 then ix r 3 else 0)+xf6 rs+xf6 b;rw [xm1 rs b];omega
theorem xDd:∀ m c,xf6 (xnx l cs la m c)=0
 | 0,_=>rfl
 | m + 1,c=>by
   show (if ix (xhv l cs la c) 0=4 then _ else 0)+xf6 (xnx l cs la m (c+1))=0;rw [xDd m,if_neg (show ¬ ix (xhv l cs la c) 0=4 from fun h=>by have:(7:Int)=4:=h;omega)];rfl
end
def xja:SpL:=[]
def xjl:LpL:=[(8,xde 1 xv2 xQa),(11,xde 1 xre xKa),(16,xde 1 xrd xJ9),(19,xde 1 xrc xJ8),(25,xde 1 xrb xJ7)]
def xi9:SwL:=[(25,xdm xNg xQf),(29,xvr [(s29,G29),(xNf,xQe)])]
def xln:Tab:=xah xja xjl xi9
def xxq:SpL:=[(23,mkF s23 G23),(30,mkF s30 G30),(31,mkF s31 G31)]
def xx9:LpL:=[(10,mkL xq8 xJ1),(20,mkL xAj xJ0)]
def xxk:SwL:=[]
def xE7:Tab:=xah xxq xx9 xxk
def xM4:SpL:=[(33,mkF s33 G33)]
def xOj:LpL:=[(6,mkL xF4 xP9)]
def xMu:SwL:=[(25,xdm s25 G25)]
def xWc:Tab:=xah xM4 xOj xMu
def sp4:SpL:=[(14,mkF s14 G14)]
def lp4:LpL:=[(4,mkL xOp xVx)]
def sw4:SwL:=[]
def xZg:Tab:=xah sp4 lp4 sw4
def sp7:SpL:=[]
def lp7:LpL:=[]
def sw7:SwL:=[]
def ygg:Tab:=xah sp7 lp7 sw7
set_option linter.unusedVariables false
set_option maxRecDepth 100000
theorem t12 (a b c d e f g h i j k l m n o p:D) :
 let X1:=xei a.L p.L c.I (Int.toNat ((a.L.length:Int) - (0:Int))) (0:Int) ([],[]);let X2:=(Int.toNat ((p.L.length:Int) - (0:Int)));let X4:=(↑0:Int)=(0:Int)/\xan a.L b.I c.I d.I e.I f.I g.L h.B i.I j.I k.I l.I m.L n.L/\xat a.L p.L/\xbi p.L (xfd p.L.length);let X5:=xic a.L p.L c.I X2 (0:Int) (X1.fst,X1.snd);let X6:=xic a.L p.L c.I X2 (0:Int) (X1.fst,[]);let X7:=(↑(List.length X1.snd):Int);let X8:=(↑(Int.toNat (p.L.length:Int)):Int);let X9:=(↑(Int.toNat (o.I.toNat:Int)):Int);let X10:=T.leaf [D.i 0,D.i 0,D.l p.L];let X3:=((↑(Int.toNat X8):Int)=(p.L.length:Int)/\(↑(Int.toNat X8):Int)=(↑(List.length (xfd p.L.length)):Int));(xh2 C xln 12 s12 [a,b,c,d,e,f,g,h,i,j,k,l,m,n,o,p]).run =
 T.run (T.need (yes (xan a.L b.I c.I d.I e.I f.I g.L h.B i.I j.I k.I l.I m.L n.L/\xat a.L p.L/\(o.I.toNat:Int)=(p.L.length:Int))) (T.need (yes (X4/\(X8=(p.L.length:Int)/\X8=(↑(List.length (xfd p.L.length)):Int))/\(o.I.toNat:Int)=(p.L.length:Int)/\(a.L.length:Int)=(a.L.length:Int)/\(0:Int)<=(0:Int)/\(0:Int)<=(a.L.length:Int))) (T.ite (List.isEmpty X1.snd) (T.need (yes (X4/\X3/\X9=(p.L.length:Int)/\(0:Int)<=(0:Int)/\(0:Int)<=(p.L.length:Int))) (T.ite (List.isEmpty X6.snd) X10 (T.leaf [D.i 1,D.i (↑(Int.toNat (↑(List.length X6.snd):Int)):Int),D.i 0,D.l p.L,D.l X6.snd]))) (T.need (yes (((↑(0+1):Int)=(1:Int)/\xan a.L b.I c.I d.I e.I f.I g.L h.B i.I j.I k.I l.I m.L n.L/\xat a.L p.L/\xbi p.L (xfd p.L.length))/\X3/\(X9=(p.L.length:Int)/\(0:Int)<=(0:Int)/\(0:Int)<=(p.L.length:Int))/\(↑(Int.toNat X7):Int)=X7/\0<List.length X1.snd/\X7+((p.L.length:Int) - (0:Int))<=(900:Int))) (T.ite (List.isEmpty X5.snd) X10 (T.leaf [D.i 1,D.i (↑(Int.toNat (↑(List.length X5.snd):Int)):Int),D.i 0,D.l p.L,D.l X5.snd])))))):=by
 intros
 kernel_rfl
theorem xTg (a b c d e f g h i j k l m n o p q r s t u:D):(xal C xln 12 (xaa C.P 12 25) 1 xrb [.i 0,a,b,c,d,e,f,g,h,i,j,k,l,m,n,o,p,q,r,s,t,u]).run =
 T.run (T.ite (decide (b.I<a.I)) (T.need (yes ((xan d.L e.I f.I g.I h.I i.I j.L k.B l.I m.I n.I o.I p.L q.L/\xat d.L c.L/\xbi c.L u.L)/\((1:Int)<=(7:Int)/\(7:Int)<=(7:Int))/\((0:Int)<=b.I/\b.I<(c.L.length:Int))/\((0:Int)<=(0:Int)/\(0:Int)<(d.L.length:Int))/\(r.I.toNat:Int)=(c.L.length:Int)/\(s.I.toNat:Int)=(u.L.length:Int))) (T.leaf (Rd.again [D.i 1,D.i a.I,D.i (IntKind.i64.wrap (b.I+(1:Int))),D.l c.L,D.i 1,D.l [[D.i 7,D.i b.I,D.i 0,D.i (xi1 d.L c.L f.I (7:Int) b.I.toNat (Int.toNat (0:Int))),D.l (xm5 d.L c.L f.I t.L (7:Int) b.I)]],D.l d.L,D.i e.I,D.i f.I,D.i g.I,D.i h.I,D.i i.I,D.l j.L,D.b k.B,D.i l.I,D.i m.I,D.i n.I,D.i o.I,D.l p.L,D.l q.L,D.i (↑(Int.toNat (r.I.toNat:Int)):Int),D.i (↑(Int.toNat (s.I.toNat:Int)):Int),D.l (xf9 kk3 [D.i 7,D.i b.I,D.i 0] (D.i 0) t.L),D.l u.L]))) (T.leaf (Rd.out (Ex.exit 8) [D.i 0,D.l c.L]))):=by kernel_rfl
theorem xTf (a b c d e f g h i j k l m n o p q r s t u v w:D):(xal C xln 12 (xaa C.P 12 25) 1 xrb [.i 1,a,b,c,d,e,f,g,h,i,j,k,l,m,n,o,p,q,r,s,t,u,v,w]).run =
 T.run (T.ite (decide (b.I<a.I)) (T.need (yes ((xan f.L g.I h.I i.I j.I k.I l.L m.B n.I o.I p.I q.I r.L s.L/\xat f.L c.L/\xbi c.L w.L)/\((1:Int)<=(7:Int)/\(7:Int)<=(7:Int))/\((0:Int)<=b.I/\b.I<(c.L.length:Int))/\((0:Int)<=(0:Int)/\(0:Int)<(f.L.length:Int))/\((t.I.toNat:Int)=(c.L.length:Int)/\(u.I.toNat:Int)=(w.L.length:Int))/\(d.I.toNat:Int)=(e.L.length:Int)/\e.L.length<=1000)) (T.leaf (Rd.again [D.i 1,D.i a.I,D.i (IntKind.i64.wrap (b.I+(1:Int))),D.l c.L,D.i (↑(Int.toNat (↑(e.L.length+1):Int)):Int),D.l (e.L++[xmi f.L c.L h.I v.L (7:Int) b.I (0:Int)]),D.l f.L,D.i g.I,D.i h.I,D.i i.I,D.i j.I,D.i k.I,D.l l.L,D.b m.B,D.i n.I,D.i o.I,D.i p.I,D.i q.I,D.l r.L,D.l s.L,D.i (↑(Int.toNat (t.I.toNat:Int)):Int),D.i (↑(Int.toNat (u.I.toNat:Int)):Int),D.l (xf9 kk3 [D.i 7,D.i b.I,D.i 0] (D.i (e.L.length:Int)) v.L),D.l w.L]))) (T.leaf (Rd.out (Ex.exit 8) [D.i 1,D.l c.L,D.i (d.I.toNat:Int),D.l e.L]))):=by kernel_rfl
set_option linter.unusedVariables false
set_option maxRecDepth 100000
theorem xXz (a b c d e f g h i j k l m n o p q r s t u v:D) :
 let X2:=(Int.toNat ((d.L.length:Int) - (0:Int)));let X3:=(↑(Int.toNat (a.I.toNat:Int)):Int);let X5:=(↑(Int.toNat (s.I.toNat:Int)):Int);let X6:=(↑(Int.toNat (t.I.toNat:Int)):Int);let X8:=(↑0:Int)=(0:Int)/\xan e.L f.I g.I h.I i.I j.I k.L l.B m.I n.I o.I p.I q.L r.L/\xat e.L d.L/\xbi d.L v.L;let X9:=(IntKind.i64.wrap (c.I+(1:Int)));let X10:=((0:Int)<=c.I/\c.I<(e.L.length:Int));let X11:=(↑(Int.toNat X3):Int);let X12:=(↑(Int.toNat X5):Int);let X13:=(↑(Int.toNat X6):Int);let X15:=(X5=(d.L.length:Int)/\X6=(v.L.length:Int));let X1:=xf0 e.L d.L g.I c.I X2 (0:Int) (u.L,[]);let X4:=xdr e.L d.L g.I c.I X2 (0:Int) (X1.fst,X1.snd);let X7:=xdr e.L d.L g.I c.I X2 (0:Int) (X1.fst,[]);let X14:=(↑(List.length X1.snd):Int);(xal C xln 12 (xaa C.P 12 8) 1 xv2 [.i 0,a,b,c,d,e,f,g,h,i,j,k,l,m,n,o,p,q,r,s,t,u,v]).run =
 T.run (T.ite (decide (c.I<b.I)) (T.need (yes (X8/\((s.I.toNat:Int)=(d.L.length:Int)/\(t.I.toNat:Int)=(v.L.length:Int))/\(a.I.toNat:Int)=(d.L.length:Int)/\X10/\(a.I.toNat:Int)=(d.L.length:Int)/\(0:Int)<=(0:Int)/\(0:Int)<=(d.L.length:Int))) (T.ite (List.isEmpty X1.snd) (T.need (yes (X8/\X15/\X3=(d.L.length:Int)/\X10/\X3=(d.L.length:Int)/\(0:Int)<=(0:Int)/\(0:Int)<=(d.L.length:Int))) (T.ite (List.isEmpty X7.snd) (T.leaf (Rd.again [D.i 0,D.i X11,D.i b.I,D.i X9,D.l d.L,D.l e.L,D.i f.I,D.i g.I,D.i h.I,D.i i.I,D.i j.I,D.l k.L,D.b l.B,D.i m.I,D.i n.I,D.i o.I,D.i p.I,D.l q.L,D.l r.L,D.i X12,D.i X13,D.l X7.fst,D.l v.L])) (T.leaf (Rd.again [D.i 1,D.i X11,D.i b.I,D.i X9,D.l d.L,D.i (↑(Int.toNat (↑(List.length X7.snd):Int)):Int),D.l X7.snd,D.l e.L,D.i f.I,D.i g.I,D.i h.I,D.i i.I,D.i j.I,D.l k.L,D.b l.B,D.i m.I,D.i n.I,D.i o.I,D.i p.I,D.l q.L,D.l r.L,D.i X12,D.i X13,D.l X7.fst,D.l v.L])))) (T.need (yes (((↑(0+1):Int)=(1:Int)/\xan e.L f.I g.I h.I i.I j.I k.L l.B m.I n.I o.I p.I q.L r.L/\xat e.L d.L/\xbi d.L v.L)/\X15/\(X3=(d.L.length:Int)/\X10/\X3=(d.L.length:Int)/\(0:Int)<=(0:Int)/\(0:Int)<=(d.L.length:Int))/\(↑(Int.toNat X14):Int)=X14/\0<List.length X1.snd/\X14+(6:Int)*((d.L.length:Int) - (0:Int))<=(900:Int))) (T.ite (List.isEmpty X4.snd) (T.leaf (Rd.again [D.i 0,D.i X11,D.i b.I,D.i X9,D.l d.L,D.l e.L,D.i f.I,D.i g.I,D.i h.I,D.i i.I,D.i j.I,D.l k.L,D.b l.B,D.i m.I,D.i n.I,D.i o.I,D.i p.I,D.l q.L,D.l r.L,D.i X12,D.i X13,D.l X4.fst,D.l v.L])) (T.leaf (Rd.again [D.i 1,D.i X11,D.i b.I,D.i X9,D.l d.L,D.i (↑(Int.toNat (↑(List.length X4.snd):Int)):Int),D.l X4.snd,D.l e.L,D.i f.I,D.i g.I,D.i h.I,D.i i.I,D.i j.I,D.l k.L,D.b l.B,D.i m.I,D.i n.I,D.i o.I,D.i p.I,D.l q.L,D.l r.L,D.i X12,D.i X13,D.l X4.fst,D.l v.L])))))) (T.leaf (Rd.out (Ex.exit 0) [D.i 0,D.i (a.I.toNat:Int),D.l d.L,D.l e.L,D.i f.I,D.i g.I,D.i h.I,D.i i.I,D.i j.I,D.l k.L,D.b l.B,D.i m.I,D.i n.I,D.i o.I,D.i p.I,D.l q.L,D.l r.L,D.i (s.I.toNat:Int),D.i (t.I.toNat:Int),D.l u.L,D.l v.L]))):=by
 intros
 kernel_rfl
theorem xXy (a b c d e f g h i j k l m n o p q r s t u v w x:D) :
 let X3:=(↑(Int.toNat (a.I.toNat:Int)):Int);let X5:=(↑(Int.toNat (u.I.toNat:Int)):Int);let X6:=(↑(Int.toNat (v.I.toNat:Int)):Int);let X8:=(↑(0+1):Int)=(1:Int)/\xan g.L h.I i.I j.I k.I l.I m.L n.B o.I p.I q.I r.I s.L t.L/\xat g.L d.L/\xbi d.L x.L;let X9:=(IntKind.i64.wrap (c.I+(1:Int)));let X10:=((0:Int)<=c.I/\c.I<(g.L.length:Int));let X11:=(↑(Int.toNat X3):Int);let X12:=(↑(Int.toNat X5):Int);let X13:=(↑(Int.toNat X6):Int);let X15:=(X5=(d.L.length:Int)/\X6=(x.L.length:Int));let X16:=((d.L.length:Int) - (0:Int));let X2:=Int.toNat X16;let X1:=xf0 g.L d.L i.I c.I X2 (0:Int) (w.L,f.L);let X4:=xdr g.L d.L i.I c.I X2 (0:Int) (X1.fst,X1.snd);let X7:=xdr g.L d.L i.I c.I X2 (0:Int) (X1.fst,[]);let X14:=(↑(List.length X1.snd):Int);(xal C xln 12 (xaa C.P 12 8) 1 xv2 [.i 1,a,b,c,d,e,f,g,h,i,j,k,l,m,n,o,p,q,r,s,t,u,v,w,x]).run =
 T.run (T.ite (decide (c.I<b.I)) (T.need (yes (X8/\((u.I.toNat:Int)=(d.L.length:Int)/\(v.I.toNat:Int)=(x.L.length:Int))/\((a.I.toNat:Int)=(d.L.length:Int)/\X10/\(a.I.toNat:Int)=(d.L.length:Int)/\(0:Int)<=(0:Int)/\(0:Int)<=(d.L.length:Int))/\(e.I.toNat:Int)=(f.L.length:Int)/\0<f.L.length/\(f.L.length:Int)+X16<=(900:Int))) (T.ite (List.isEmpty X1.snd) (T.need (yes (((↑0:Int)=(0:Int)/\xan g.L h.I i.I j.I k.I l.I m.L n.B o.I p.I q.I r.I s.L t.L/\xat g.L d.L/\xbi d.L x.L)/\X15/\X3=(d.L.length:Int)/\X10/\X3=(d.L.length:Int)/\(0:Int)<=(0:Int)/\(0:Int)<=(d.L.length:Int))) (T.ite (List.isEmpty X7.snd) (T.leaf (Rd.again [D.i 0,D.i X11,D.i b.I,D.i X9,D.l d.L,D.l g.L,D.i h.I,D.i i.I,D.i j.I,D.i k.I,D.i l.I,D.l m.L,D.b n.B,D.i o.I,D.i p.I,D.i q.I,D.i r.I,D.l s.L,D.l t.L,D.i X12,D.i X13,D.l X7.fst,D.l x.L])) (T.leaf (Rd.again [D.i 1,D.i X11,D.i b.I,D.i X9,D.l d.L,D.i (↑(Int.toNat (↑(List.length X7.snd):Int)):Int),D.l X7.snd,D.l g.L,D.i h.I,D.i i.I,D.i j.I,D.i k.I,D.i l.I,D.l m.L,D.b n.B,D.i o.I,D.i p.I,D.i q.I,D.i r.I,D.l s.L,D.l t.L,D.i X12,D.i X13,D.l X7.fst,D.l x.L])))) (T.need (yes (X8/\X15/\(X3=(d.L.length:Int)/\X10/\X3=(d.L.length:Int)/\(0:Int)<=(0:Int)/\(0:Int)<=(d.L.length:Int))/\(↑(Int.toNat X14):Int)=X14/\0<List.length X1.snd/\X14+(6:Int)*X16<=(900:Int))) (T.ite (List.isEmpty X4.snd) (T.leaf (Rd.again [D.i 0,D.i X11,D.i b.I,D.i X9,D.l d.L,D.l g.L,D.i h.I,D.i i.I,D.i j.I,D.i k.I,D.i l.I,D.l m.L,D.b n.B,D.i o.I,D.i p.I,D.i q.I,D.i r.I,D.l s.L,D.l t.L,D.i X12,D.i X13,D.l X4.fst,D.l x.L])) (T.leaf (Rd.again [D.i 1,D.i X11,D.i b.I,D.i X9,D.l d.L,D.i (↑(Int.toNat (↑(List.length X4.snd):Int)):Int),D.l X4.snd,D.l g.L,D.i h.I,D.i i.I,D.i j.I,D.i k.I,D.i l.I,D.l m.L,D.b n.B,D.i o.I,D.i p.I,D.i q.I,D.i r.I,D.l s.L,D.l t.L,D.i X12,D.i X13,D.l X4.fst,D.l x.L])))))) (T.leaf (Rd.out (Ex.exit 0) [D.i 1,D.i (a.I.toNat:Int),D.l d.L,D.i (e.I.toNat:Int),D.l f.L,D.l g.L,D.i h.I,D.i i.I,D.i j.I,D.i k.I,D.i l.I,D.l m.L,D.b n.B,D.i o.I,D.i p.I,D.i q.I,D.i r.I,D.l s.L,D.l t.L,D.i (u.I.toNat:Int),D.i (v.I.toNat:Int),D.l w.L,D.l x.L]))):=by
 intros
 kernel_rfl
theorem xTm (a b c d e f g h i j k l m n o p q r s t u v w x y:D):(xal C xln 12 (xaa C.P 12 11) 1 xre [.i 0,a,b,c,d,e,f,g,h,i,j,k,l,m,n,o,p,q,r,s,t,u,v,w,x,y]).run =
 T.run (T.ite (decide (f.I<e.I)) (T.need (yes ((xan h.L i.I j.I k.I l.I m.I n.L o.B p.I q.I r.I s.I t.L u.L/\xat h.L g.L/\xbi g.L y.L)/\((1:Int)<=(1:Int)/\(1:Int)<=(7:Int))/\((0:Int)<=f.I/\f.I<(g.L.length:Int))/\((0:Int)<=b.I/\b.I<(h.L.length:Int))/\(v.I.toNat:Int)=(g.L.length:Int)/\(w.I.toNat:Int)=(y.L.length:Int))) (T.leaf (Rd.again [D.i 0,D.i (a.I.toNat:Int),D.i b.I,D.i c.I,D.i d.I,D.i e.I,D.i (IntKind.i64.wrap (f.I+(1:Int))),D.l g.L,D.l h.L,D.i i.I,D.i j.I,D.i k.I,D.i l.I,D.i m.I,D.l n.L,D.b o.B,D.i p.I,D.i q.I,D.i r.I,D.i s.I,D.l t.L,D.l u.L,D.i (↑(Int.toNat (v.I.toNat:Int)):Int),D.i (↑(Int.toNat (w.I.toNat:Int)):Int),D.l x.L,D.l y.L]))) (T.leaf (Rd.out (Ex.exit 2) [D.i 0,D.i (a.I.toNat:Int),D.i b.I,D.i c.I,D.i d.I,D.l g.L,D.l h.L,D.i i.I,D.i j.I,D.i k.I,D.i l.I,D.i m.I,D.l n.L,D.b o.B,D.i p.I,D.i q.I,D.i r.I,D.i s.I,D.l t.L,D.l u.L,D.i (v.I.toNat:Int),D.i (w.I.toNat:Int),D.l x.L,D.l y.L]))):=by kernel_rfl
theorem xTl (a b c d e f g h i j k l m n o p q r s t u v w x y z z26:D):(xal C xln 12 (xaa C.P 12 11) 1 xre [.i 1,a,b,c,d,e,f,g,h,i,j,k,l,m,n,o,p,q,r,s,t,u,v,w,x,y,z,z26]).run =
 T.run (T.ite (decide (f.I<e.I)) (T.need (yes ((xan j.L k.I l.I m.I n.I o.I p.L q.B r.I s.I t.I u.I v.L w.L/\xat j.L g.L/\xbi g.L z26.L)/\((1:Int)<=(1:Int)/\(1:Int)<=(7:Int))/\((0:Int)<=f.I/\f.I<(g.L.length:Int))/\((0:Int)<=b.I/\b.I<(j.L.length:Int))/\((x.I.toNat:Int)=(g.L.length:Int)/\(y.I.toNat:Int)=(z26.L.length:Int))/\(h.I.toNat:Int)=(i.L.length:Int)/\i.L.length<=1000)) (T.leaf (Rd.again [D.i 1,D.i (a.I.toNat:Int),D.i b.I,D.i c.I,D.i d.I,D.i e.I,D.i (IntKind.i64.wrap (f.I+(1:Int))),D.l g.L,D.i (↑(Int.toNat (h.I.toNat:Int)):Int),D.l i.L,D.l j.L,D.i k.I,D.i l.I,D.i m.I,D.i n.I,D.i o.I,D.l p.L,D.b q.B,D.i r.I,D.i s.I,D.i t.I,D.i u.I,D.l v.L,D.l w.L,D.i (↑(Int.toNat (x.I.toNat:Int)):Int),D.i (↑(Int.toNat (y.I.toNat:Int)):Int),D.l z.L,D.l z26.L]))) (T.leaf (Rd.out (Ex.exit 2) [D.i 1,D.i (a.I.toNat:Int),D.i b.I,D.i c.I,D.i d.I,D.l g.L,D.i (h.I.toNat:Int),D.l i.L,D.l j.L,D.i k.I,D.i l.I,D.i m.I,D.i n.I,D.i o.I,D.l p.L,D.b q.B,D.i r.I,D.i s.I,D.i t.I,D.i u.I,D.l v.L,D.l w.L,D.i (x.I.toNat:Int),D.i (y.I.toNat:Int),D.l z.L,D.l z26.L]))):=by kernel_rfl
set_option linter.unusedVariables false
set_option maxRecDepth 100000
theorem xTk (a b c d e f g h i j k l m n o p q r s t u v w x y:D) :
 let X1:=xc6 h.L g.L j.I f.I b.I (Int.toNat ((7:Int) - (2:Int))) (2:Int) (x.L,[]);let X2:=(IntKind.i64.wrap (f.I+(1:Int)));let X3:=(↑(Int.toNat (a.I.toNat:Int)):Int);let X4:=(↑(Int.toNat (v.I.toNat:Int)):Int);let X5:=(↑(Int.toNat (w.I.toNat:Int)):Int);(xal C xln 12 (xaa C.P 12 16) 1 xrd [.i 0,a,b,c,d,e,f,g,h,i,j,k,l,m,n,o,p,q,r,s,t,u,v,w,x,y]).run =
 T.run (T.ite (decide (f.I<e.I)) (T.need (yes (((↑0:Int)=(0:Int)/\xan h.L i.I j.I k.I l.I m.I n.L o.B p.I q.I r.I s.I t.L u.L/\xat h.L g.L/\xbi g.L y.L)/\((v.I.toNat:Int)=(g.L.length:Int)/\(w.I.toNat:Int)=(y.L.length:Int))/\(a.I.toNat:Int)=(g.L.length:Int)/\((0:Int)<=b.I/\b.I<(h.L.length:Int))/\((0:Int)<=f.I/\f.I<(g.L.length:Int))/\(1:Int)<=(2:Int)/\(2:Int)<=(7:Int))) (T.ite (List.isEmpty X1.snd) (T.leaf (Rd.again [D.i 0,D.i X3,D.i b.I,D.i c.I,D.i d.I,D.i e.I,D.i X2,D.l g.L,D.l h.L,D.i i.I,D.i j.I,D.i k.I,D.i l.I,D.i m.I,D.l n.L,D.b o.B,D.i p.I,D.i q.I,D.i r.I,D.i s.I,D.l t.L,D.l u.L,D.i X4,D.i X5,D.l X1.fst,D.l y.L])) (T.leaf (Rd.again [D.i 1,D.i X3,D.i b.I,D.i c.I,D.i d.I,D.i e.I,D.i X2,D.l g.L,D.i (↑(Int.toNat (↑(List.length X1.snd):Int)):Int),D.l X1.snd,D.l h.L,D.i i.I,D.i j.I,D.i k.I,D.i l.I,D.i m.I,D.l n.L,D.b o.B,D.i p.I,D.i q.I,D.i r.I,D.i s.I,D.l t.L,D.l u.L,D.i X4,D.i X5,D.l X1.fst,D.l y.L])))) (T.leaf (Rd.out (Ex.exit 4) [D.i 0,D.i (a.I.toNat:Int),D.i c.I,D.i d.I,D.l g.L,D.l h.L,D.i i.I,D.i j.I,D.i k.I,D.i l.I,D.i m.I,D.l n.L,D.b o.B,D.i p.I,D.i q.I,D.i r.I,D.i s.I,D.l t.L,D.l u.L,D.i (v.I.toNat:Int),D.i (w.I.toNat:Int),D.l x.L,D.l y.L]))):=by
 intros
 kernel_rfl
theorem xTj (a b c d e f g h i j k l m n o p q r s t u v w x y z z26:D) :
 let X1:=xc6 j.L g.L l.I f.I b.I (Int.toNat ((7:Int) - (2:Int))) (2:Int) (z.L,i.L);let X2:=(IntKind.i64.wrap (f.I+(1:Int)));let X3:=(↑(Int.toNat (a.I.toNat:Int)):Int);let X4:=(↑(Int.toNat (x.I.toNat:Int)):Int);let X5:=(↑(Int.toNat (y.I.toNat:Int)):Int);(xal C xln 12 (xaa C.P 12 16) 1 xrd [.i 1,a,b,c,d,e,f,g,h,i,j,k,l,m,n,o,p,q,r,s,t,u,v,w,x,y,z,z26]).run =
 T.run (T.ite (decide (f.I<e.I)) (T.need (yes (((↑(0+1):Int)=(1:Int)/\xan j.L k.I l.I m.I n.I o.I p.L q.B r.I s.I t.I u.I v.L w.L/\xat j.L g.L/\xbi g.L z26.L)/\((x.I.toNat:Int)=(g.L.length:Int)/\(y.I.toNat:Int)=(z26.L.length:Int))/\((a.I.toNat:Int)=(g.L.length:Int)/\((0:Int)<=b.I/\b.I<(j.L.length:Int))/\((0:Int)<=f.I/\f.I<(g.L.length:Int))/\(1:Int)<=(2:Int)/\(2:Int)<=(7:Int))/\(h.I.toNat:Int)=(i.L.length:Int)/\0<i.L.length/\(i.L.length:Int)+((7:Int) - (2:Int))<=(900:Int))) (T.ite (List.isEmpty X1.snd) (T.leaf (Rd.again [D.i 0,D.i X3,D.i b.I,D.i c.I,D.i d.I,D.i e.I,D.i X2,D.l g.L,D.l j.L,D.i k.I,D.i l.I,D.i m.I,D.i n.I,D.i o.I,D.l p.L,D.b q.B,D.i r.I,D.i s.I,D.i t.I,D.i u.I,D.l v.L,D.l w.L,D.i X4,D.i X5,D.l X1.fst,D.l z26.L])) (T.leaf (Rd.again [D.i 1,D.i X3,D.i b.I,D.i c.I,D.i d.I,D.i e.I,D.i X2,D.l g.L,D.i (↑(Int.toNat (↑(List.length X1.snd):Int)):Int),D.l X1.snd,D.l j.L,D.i k.I,D.i l.I,D.i m.I,D.i n.I,D.i o.I,D.l p.L,D.b q.B,D.i r.I,D.i s.I,D.i t.I,D.i u.I,D.l v.L,D.l w.L,D.i X4,D.i X5,D.l X1.fst,D.l z26.L])))) (T.leaf (Rd.out (Ex.exit 4) [D.i 1,D.i (a.I.toNat:Int),D.i c.I,D.i d.I,D.l g.L,D.i (h.I.toNat:Int),D.l i.L,D.l j.L,D.i k.I,D.i l.I,D.i m.I,D.i n.I,D.i o.I,D.l p.L,D.b q.B,D.i r.I,D.i s.I,D.i t.I,D.i u.I,D.l v.L,D.l w.L,D.i (x.I.toNat:Int),D.i (y.I.toNat:Int),D.l z.L,D.l z26.L]))):=by
 intros
 kernel_rfl
theorem xTi (a b c d e f g h i j k l m n o p q r s t u v w x y z z26:D) :
 let X1:=(IntKind.i64.wrap (d.I+(1:Int)));let X2:=(↑(Int.toNat (x.I.toNat:Int)):Int);let X3:=(↑(Int.toNat (y.I.toNat:Int)):Int);(xal C xln 12 (xaa C.P 12 19) 1 xrc [.i 0,a,b,c,d,e,f,g,h,i,j,k,l,m,n,o,p,q,r,s,t,u,v,w,x,y,z,z26]).run =
 T.run (T.ite (decide (d.I<=(6:Int))) (T.need (yes ((xan j.L k.I l.I m.I n.I o.I p.L q.B r.I s.I t.I u.I v.L w.L/\xat j.L i.L/\xbi i.L z26.L)/\((1:Int)<=d.I/\d.I<=(7:Int))/\((0:Int)<=c.I/\c.I<(i.L.length:Int))/\((0:Int)<=b.I/\b.I<(j.L.length:Int))/\(x.I.toNat:Int)=(i.L.length:Int)/\(y.I.toNat:Int)=(z26.L.length:Int))) (T.ite (xc7 j.L i.L l.I d.I c.I.toNat b.I.toNat) (T.leaf (Rd.again [D.i 1,D.i (a.I.toNat:Int),D.i b.I,D.i c.I,D.i X1,D.i e.I,D.i f.I,D.i g.I,D.i h.I,D.l i.L,D.i 1,D.l [[D.i d.I,D.i c.I,D.i b.I,D.i (xi1 j.L i.L l.I d.I c.I.toNat b.I.toNat),D.l (xm5 j.L i.L l.I z.L d.I c.I)]],D.l j.L,D.i k.I,D.i l.I,D.i m.I,D.i n.I,D.i o.I,D.l p.L,D.b q.B,D.i r.I,D.i s.I,D.i t.I,D.i u.I,D.l v.L,D.l w.L,D.i X2,D.i X3,D.l (xf9 kk3 [D.i d.I,D.i c.I,D.i b.I] (D.i 0) z.L),D.l z26.L])) (T.leaf (Rd.again [D.i 0,D.i (a.I.toNat:Int),D.i b.I,D.i c.I,D.i X1,D.i e.I,D.i f.I,D.i g.I,D.i h.I,D.l i.L,D.l j.L,D.i k.I,D.i l.I,D.i m.I,D.i n.I,D.i o.I,D.l p.L,D.b q.B,D.i r.I,D.i s.I,D.i t.I,D.i u.I,D.l v.L,D.l w.L,D.i X2,D.i X3,D.l z.L,D.l z26.L])))) (T.leaf (Rd.out (Ex.exit 6) [D.i 0,D.i (a.I.toNat:Int),D.i b.I,D.i e.I,D.i f.I,D.i g.I,D.i h.I,D.l i.L,D.l j.L,D.i k.I,D.i l.I,D.i m.I,D.i n.I,D.i o.I,D.l p.L,D.b q.B,D.i r.I,D.i s.I,D.i t.I,D.i u.I,D.l v.L,D.l w.L,D.i (x.I.toNat:Int),D.i (y.I.toNat:Int),D.l z.L,D.l z26.L]))):=by
 intros
 kernel_rfl
theorem xTh (a b c d e f g h i j k l m n o p q r s t u v w x y z z26 z27 z28:D) :
 let X1:=(IntKind.i64.wrap (d.I+(1:Int)));let X2:=(↑(Int.toNat (z26.I.toNat:Int)):Int);let X3:=(↑(Int.toNat (z.I.toNat:Int)):Int);(xal C xln 12 (xaa C.P 12 19) 1 xrc [.i 1,a,b,c,d,e,f,g,h,i,j,k,l,m,n,o,p,q,r,s,t,u,v,w,x,y,z,z26,z27,z28]).run =
 T.run (T.ite (decide (d.I<=(6:Int))) (T.need (yes ((xan l.L m.I n.I o.I p.I q.I r.L s.B t.I u.I v.I w.I x.L y.L/\xat l.L i.L/\xbi i.L z28.L)/\((1:Int)<=d.I/\d.I<=(7:Int))/\((0:Int)<=c.I/\c.I<(i.L.length:Int))/\((0:Int)<=b.I/\b.I<(l.L.length:Int))/\((z.I.toNat:Int)=(i.L.length:Int)/\(z26.I.toNat:Int)=(z28.L.length:Int))/\(j.I.toNat:Int)=(k.L.length:Int)/\k.L.length<=1000)) (T.ite (xc7 l.L i.L n.I d.I c.I.toNat b.I.toNat) (T.leaf (Rd.again [D.i 1,D.i (a.I.toNat:Int),D.i b.I,D.i c.I,D.i X1,D.i e.I,D.i f.I,D.i g.I,D.i h.I,D.l i.L,D.i (↑(Int.toNat (↑(k.L.length+1):Int)):Int),D.l (k.L++[xmi l.L i.L n.I z27.L d.I c.I b.I]),D.l l.L,D.i m.I,D.i n.I,D.i o.I,D.i p.I,D.i q.I,D.l r.L,D.b s.B,D.i t.I,D.i u.I,D.i v.I,D.i w.I,D.l x.L,D.l y.L,D.i X3,D.i X2,D.l (xf9 kk3 [D.i d.I,D.i c.I,D.i b.I] (D.i (k.L.length:Int)) z27.L),D.l z28.L])) (T.leaf (Rd.again [D.i 1,D.i (a.I.toNat:Int),D.i b.I,D.i c.I,D.i X1,D.i e.I,D.i f.I,D.i g.I,D.i h.I,D.l i.L,D.i (↑(Int.toNat (j.I.toNat:Int)):Int),D.l k.L,D.l l.L,D.i m.I,D.i n.I,D.i o.I,D.i p.I,D.i q.I,D.l r.L,D.b s.B,D.i t.I,D.i u.I,D.i v.I,D.i w.I,D.l x.L,D.l y.L,D.i X3,D.i X2,D.l z27.L,D.l z28.L])))) (T.leaf (Rd.out (Ex.exit 6) [D.i 1,D.i (a.I.toNat:Int),D.i b.I,D.i e.I,D.i f.I,D.i g.I,D.i h.I,D.l i.L,D.i (j.I.toNat:Int),D.l k.L,D.l l.L,D.i m.I,D.i n.I,D.i o.I,D.i p.I,D.i q.I,D.l r.L,D.b s.B,D.i t.I,D.i u.I,D.i v.I,D.i w.I,D.l x.L,D.l y.L,D.i (z.I.toNat:Int),D.i (z26.I.toNat:Int),D.l z27.L,D.l z28.L]))):=by
 intros
 kernel_rfl
set_option maxRecDepth 100000
section
variable {l cs:List (List D)} {la:Int}
theorem xs1 {p:List (List D)×List (List D)} {kd k j:Int} (h:xc7 l cs la kd k.toNat j.toNat=true):xhn l cs la p kd k j=(xf9 kk3 [.i kd,.i k,.i j] (.i (p.2.length:Int)) p.1,p.2++[xmi l cs la p.1 kd k j]):=if_pos h
theorem xWv (k j:Int) {c:Int} (h:c<=6) (p:List (List D)×List (List D)):xc6 l cs la k j (7 - c).toNat c p=xc6 l cs la k j (7 - (c+1)).toNat (c+1) (xhn l cs la p c k j):=by
 rw [show (7 - c).toNat=(7 - (c+1)).toNat+1 by omega];rfl
theorem xWx (j:Int) {c n:Int} (h:c<n) (p:List (List D)×List (List D)):xdr l cs la j (n - c).toNat c p=xdr l cs la j (n - (c+1)).toNat (c+1) (xc6 l cs la c j 5 2 p):=by
 rw [show (n - c).toNat=(n - (c+1)).toNat+1 by omega];rfl
theorem xWw {j n:Int} (h:j<n) (p:List (List D)×List (List D)):xei l cs la (n - j).toNat j p=xei l cs la (n - (j+1)).toNat (j+1) (xdr l cs la j cs.length 0 p):=by
 rw [show (n - j).toNat=(n - (j+1)).toNat+1 by omega,xei,xhi]
theorem xV5 {c n:Int} (h:c<n) (p:List (List D)×List (List D)):xic l cs la (n - c).toNat c p=xic l cs la (n - (c+1)).toNat (c+1) (xhn l cs la p 7 c 0):=by
 rw [show (n - c).toNat=(n - (c+1)).toNat+1 by omega];rfl
theorem xCa (p:List (List D)×List (List D)) (kd k j:Int):(xhn l cs la p kd k j).2.length<=p.2.length+1:=by
 unfold xhn;split
 ·simp
 ·omega
theorem xyb (j:Int):∀ (m:Nat) (c:Int) (p:List (List D)×List (List D)),(xdr l cs la j m c p).2.length<=p.2.length+m
 | 0,_,_=>Nat.le_refl _
 | m + 1,c,p=>by
   have h:=xyb j m (c+1) (xc6 l cs la c j 5 2 p);rw [xmm] at h;have h2:=xCa (l:=l) (cs:=cs) (la:=la) p 4 c j;simp only [xdr];rw [xmm];omega
theorem xow {S:List (List D)×List (List D)} (h:S.2.isEmpty=true):(S.1,[])=S:=by
 obtain ⟨a,b⟩:=S;have:b=[]:=List.isEmpty_iff.1 h;rw [this]
theorem xt1 {S:List (List D)} (h:S.isEmpty=false):0<S.length:=by
 cases S with
 | nil=>cases h
 | cons a b=>exact Nat.zero_lt_succ _
theorem xk0 {S:List (List D)} (h:0<S.length):S.isEmpty=false:=by
 cases S with
 | nil=>cases h
 | cons a b=>rfl
end
theorem xYl (n:Nat):xb0 C (n+11) 1 12 (xaa C.P 12 19) (xde 1 xrc xJ8):=by
 refine xbb hC (sp:=xja) (lp:=xjl) (sw:=xi9) trivial ⟨xq2 n,xhy ⟨xB3 (n+3),xq1 (n+3),trivial⟩,trivial⟩ 1 [] (by kernel_rfl) rfl (fun k hk=>by cases hk) (by kernel_rfl) (fun ds=>(7 - (ds.getD 4 default).I).toNat) fun ds rr h=>?_
 unfold xJ8 at h;split at h
 ·rename_i h0 w it k c' x i y z cs l c la ea ml ll ju re mi no pe po pt ex nc nu mp ou;obtain ⟨hp,h⟩:=xab h;rw [xad] at hp;obtain ⟨⟨hh,hev⟩,⟨hc,hu⟩,hw,hit,hk,d1,d7⟩:=hp;obtain ⟨⟨l1,l2⟩,-⟩:=hev.1.1;obtain ⟨c1,c2⟩:=hev.2.1.1;refine ⟨by rw [xa9];show (7 - c'.I).toNat<_;omega,?_⟩;rw [xar (j:=h0) (n:=0) hh (by decide),show (xal C (xah xja xjl xi9) 12 (xaa C.P 12 19) 1 xrc [.i 0,w,it,k,c',x,i,y,z,cs,l,c,la,ea,ml,ll,ju,re,mi,no,pe,po,pt,ex,nc,nu,mp,ou]).run=_ from xTi w it k c' x i y z cs l c la ea ml ll ju re mi no pe po pt ex nc nu mp ou];simp only [hw,hc,hu,Int.toNat_natCast] at h ⊢;refine xa2 (fun hlt=>?_) fun hge=>?_
  ·refine xbe ⟨hev,⟨by omega,by omega⟩,hk,hit,by trivial,by trivial⟩ ?_;have w1:IntKind.wrap .i64 (c'.I+1)=c'.I+1:=xas (by omega) (by omega);rw [w1];rw [xWv _ _ hlt] at h;have hm:(7 - (c'.I+1)).toNat<(7 - c'.I).toNat:=by omega
   refine xcm (fun hv=>?_) fun hv=>?_
   ·rw [xs1 hv] at h;exact xaj ((xam ⟨⟨rfl,hev⟩,⟨rfl,rfl⟩,⟨rfl,hit,hk,by simp only [I_i];omega,by simp only [I_i];omega⟩,rfl,Nat.zero_lt_succ _,by simp only [I_i,L_l,List.length_cons,List.length_nil];omega⟩).trans h) hm
   ·rw [xom hv] at h;exact xaj ((xam ⟨⟨rfl,hev⟩,⟨rfl,rfl⟩,rfl,hit,hk,by simp only [I_i];omega,by simp only [I_i];omega⟩).trans h) hm
  ·rw [show (7 - c'.I).toNat=0 by omega,xa5] at h;split at h
   ·exact xao h
   ·rename_i hne;exact absurd rfl hne
 ·rename_i h0 w it k c' x i y z cs nO O l c la ea ml ll ju re mi no pe po pt ex nc nu mp ou;obtain ⟨hp,h⟩:=xab h;rw [xad] at hp;obtain ⟨⟨hh,hev⟩,⟨hc,hu⟩,⟨hw,hit,hk,d1,d7⟩,hO,h0',hb⟩:=hp;obtain ⟨⟨l1,l2⟩,-⟩:=hev.1.1;obtain ⟨c1,c2⟩:=hev.2.1.1;refine ⟨by rw [xa9];show (7 - c'.I).toNat<_;omega,?_⟩;rw [xar (j:=h0) (n:=1) hh (by decide),show (xal C (xah xja xjl xi9) 12 (xaa C.P 12 19) 1 xrc [.i 1,w,it,k,c',x,i,y,z,cs,nO,O,l,c,la,ea,ml,ll,ju,re,mi,no,pe,po,pt,ex,nc,nu,mp,ou]).run=_ from xTh w it k c' x i y z cs nO O l c la ea ml ll ju re mi no pe po pt ex nc nu mp ou];simp only [hw,hc,hu,hO,Int.toNat_natCast] at h ⊢;refine xa2 (fun hlt=>?_) fun hge=>?_
  ·refine xbe ⟨hev,⟨by omega,by omega⟩,hk,hit,⟨by trivial,by trivial⟩,by trivial,by omega⟩ ?_;have w1:IntKind.wrap .i64 (c'.I+1)=c'.I+1:=xas (by omega) (by omega);rw [w1];rw [xWv _ _ hlt] at h;have hm:(7 - (c'.I+1)).toNat<(7 - c'.I).toNat:=by omega
   refine xcm (fun hv=>?_) fun hv=>?_
   ·rw [xs1 hv] at h;exact xaj ((xam ⟨⟨rfl,hev⟩,⟨rfl,rfl⟩,⟨rfl,hit,hk,by simp only [I_i];omega,by simp only [I_i];omega⟩,by simp only [I_i,L_l,List.length_append];rfl,by simp only [L_l,List.length_append,List.length_cons];omega,by simp only [I_i,L_l,List.length_append,List.length_cons,List.length_nil];omega⟩).trans h) hm
   ·rw [xom hv] at h;exact xaj ((xam ⟨⟨rfl,hev⟩,⟨rfl,rfl⟩,⟨rfl,hit,hk,by simp only [I_i];omega,by simp only [I_i];omega⟩,rfl,h0',by simp only [I_i,L_l];omega⟩).trans h) hm
  ·rw [show (7 - c'.I).toNat=0 by omega,xa5] at h;split at h
   ·rename_i he;exact absurd he (by show ¬ O.L.isEmpty=true;rw [xk0 h0'];decide)
   ·exact xao h
 ·cases h
theorem xYm (n:Nat):xb0 C (n+11) 1 12 (xaa C.P 12 16) (xde 1 xrd xJ9):=by
 refine xbb hC (sp:=xja) (lp:=xjl) (sw:=xi9) trivial ⟨xq2 n,xhy ⟨xB3 (n+3),xq1 (n+3),trivial⟩,trivial⟩ 1 [19] (by kernel_rfl) (by kernel_rfl) (fun k hk L hL=>by simp at hk;subst hk;cases hL;exact xYl n) (by kernel_rfl) (fun ds=>((ds.getD 5 default).I - (ds.getD 6 default).I).toNat) fun ds rr h=>?_
 unfold xJ9 at h;split at h
 ·rename_i h0 w it x i y z cs l c la ea ml ll ju re mi no pe po pt ex nc nu mp ou;obtain ⟨hp,h⟩:=xab h;rw [xad] at hp;obtain ⟨⟨hh,hev⟩,⟨hc,hu⟩,hw,hit,hy,z0,z1⟩:=hp;obtain ⟨⟨l1,l2⟩,-⟩:=hev.1.1;obtain ⟨c1,c2⟩:=hev.2.1.1;refine ⟨by rw [xa9];show (y.I - z.I).toNat<_;omega,?_⟩;rw [xar (j:=h0) (n:=0) hh (by decide),show (xal C (xah xja xjl xi9) 12 (xaa C.P 12 16) 1 xrd [.i 0,w,it,x,i,y,z,cs,l,c,la,ea,ml,ll,ju,re,mi,no,pe,po,pt,ex,nc,nu,mp,ou]).run=_ from xTk w it x i y z cs l c la ea ml ll ju re mi no pe po pt ex nc nu mp ou];simp only [(show (7 - 2:Int).toNat=5 from rfl),hw,hy,hc,hu,Int.toNat_natCast] at h ⊢;refine xa2 (fun hlt=>?_) fun hge=>?_
  ·refine xbe ⟨⟨by first | trivial | rfl,hev⟩,⟨by trivial,by trivial⟩,by trivial,hit,⟨z0,hlt⟩,by omega,by omega⟩ ?_;have w1:IntKind.wrap .i64 (z.I+1)=z.I+1:=xas (by omega) (by omega);rw [w1];rw [xWx _ hlt] at h;have hm:((cs.L.length:Int) - (z.I+1)).toNat<(y.I - z.I).toNat:=by omega
   have hlen:(xc6 l.L cs.L la.I z.I it.I 5 2 (mp.L,[])).2.length<=0+1:=by rw [xmm];exact xCa (mp.L,[]) _ _ _
   refine xcm (fun hv=>?_) fun hv=>?_
   ·have e:=xow (S:=xc6 l.L cs.L la.I z.I it.I 5 2 (mp.L,[])) hv;refine xaj ((xam ⟨⟨rfl,hev⟩,⟨rfl,rfl⟩,rfl,hit,rfl,by simp only [I_i];omega,by simp only [I_i,L_l];omega⟩).trans ?_) hm;simp only [L_l,I_i,B_b];rw [e];exact h
   ·exact xaj ((xam ⟨⟨rfl,hev⟩,⟨rfl,rfl⟩,⟨rfl,hit,rfl,by simp only [I_i];omega,by simp only [I_i,L_l];omega⟩,rfl,xt1 hv,by simp only [I_i,L_l];omega⟩).trans h) hm
  ·rw [show ((cs.L.length:Int) - z.I).toNat=0 by omega,xa5] at h;split at h
   ·exact xao h
   ·rename_i hne;exact absurd rfl hne
 ·rename_i h0 w it x i y z cs nO O l c la ea ml ll ju re mi no pe po pt ex nc nu mp ou;obtain ⟨hp,h⟩:=xab h;rw [xad] at hp;obtain ⟨⟨hh,hev⟩,⟨hc,hu⟩,⟨hw,hit,hy,z0,z1⟩,hO,h0',hb⟩:=hp;obtain ⟨⟨l1,l2⟩,-⟩:=hev.1.1;obtain ⟨c1,c2⟩:=hev.2.1.1;refine ⟨by rw [xa9];show (y.I - z.I).toNat<_;omega,?_⟩;rw [xar (j:=h0) (n:=1) hh (by decide),show (xal C (xah xja xjl xi9) 12 (xaa C.P 12 16) 1 xrd [.i 1,w,it,x,i,y,z,cs,nO,O,l,c,la,ea,ml,ll,ju,re,mi,no,pe,po,pt,ex,nc,nu,mp,ou]).run=_ from xTj w it x i y z cs nO O l c la ea ml ll ju re mi no pe po pt ex nc nu mp ou];simp only [(show (7 - 2:Int).toNat=5 from rfl),hw,hy,hc,hu,hO,Int.toNat_natCast] at h ⊢;refine xa2 (fun hlt=>?_) fun hge=>?_
  ·refine xbe ⟨⟨by first | trivial | rfl,hev⟩,⟨by trivial,by trivial⟩,⟨by trivial,hit,⟨z0,hlt⟩,by omega,by omega⟩,by trivial,h0',by omega⟩ ?_;have w1:IntKind.wrap .i64 (z.I+1)=z.I+1:=xas (by omega) (by omega);rw [w1];rw [xWx _ hlt] at h;have hm:((cs.L.length:Int) - (z.I+1)).toNat<(y.I - z.I).toNat:=by omega
   have hlen:(xc6 l.L cs.L la.I z.I it.I 5 2 (mp.L,O.L)).2.length<=O.L.length+1:=by rw [xmm];exact xCa (mp.L,O.L) _ _ _
   refine xcm (fun hv=>?_) fun hv=>?_
   ·have e:=xow (S:=xc6 l.L cs.L la.I z.I it.I 5 2 (mp.L,O.L)) hv;refine xaj ((xam ⟨⟨rfl,hev⟩,⟨rfl,rfl⟩,rfl,hit,rfl,by simp only [I_i];omega,by simp only [I_i,L_l];omega⟩).trans ?_) hm;simp only [L_l,I_i,B_b];rw [e];exact h
   ·exact xaj ((xam ⟨⟨rfl,hev⟩,⟨rfl,rfl⟩,⟨rfl,hit,rfl,by simp only [I_i];omega,by simp only [I_i,L_l];omega⟩,rfl,xt1 hv,by simp only [I_i,L_l];omega⟩).trans h) hm
  ·rw [show ((cs.L.length:Int) - z.I).toNat=0 by omega,xa5] at h;split at h
   ·rename_i he;exact absurd he (by show ¬ O.L.isEmpty=true;rw [xk0 h0'];decide)
   ·exact xao h
 ·cases h
theorem xYn (n:Nat):xb0 C (n+11) 1 12 (xaa C.P 12 11) (xde 1 xre xKa):=by
 refine xbb hC (sp:=xja) (lp:=xjl) (sw:=xi9) trivial ⟨xq2 n,xhy ⟨xB3 (n+3),xq1 (n+3),trivial⟩,trivial⟩ 1 [] (by kernel_rfl) rfl (fun k hk=>by cases hk) (by kernel_rfl) (fun ds=>((ds.getD 5 default).I - (ds.getD 6 default).I).toNat) fun ds rr h=>?_
 unfold xKa at h;split at h
 ·rename_i h0 w it x i y z cs l c la ea ml ll ju re mi no pe po pt ex nc nu mp ou;obtain ⟨hp,h⟩:=xab h;rw [xad] at hp;obtain ⟨⟨hh,hev⟩,⟨hc,hu⟩,hw,hit,hy,z0,z1⟩:=hp;obtain ⟨⟨l1,l2⟩,-⟩:=hev.1.1;obtain ⟨c1,c2⟩:=hev.2.1.1;refine ⟨by rw [xa9];show (y.I - z.I).toNat<_;omega,?_⟩;rw [xar (j:=h0) (n:=0) hh (by decide),show (xal C (xah xja xjl xi9) 12 (xaa C.P 12 11) 1 xre [.i 0,w,it,x,i,y,z,cs,l,c,la,ea,ml,ll,ju,re,mi,no,pe,po,pt,ex,nc,nu,mp,ou]).run=_ from xTm w it x i y z cs l c la ea ml ll ju re mi no pe po pt ex nc nu mp ou];simp only [hw,hy,hc,hu,Int.toNat_natCast] at h ⊢;refine xa2 (fun hlt=>?_) fun hge=>?_
  ·refine xbe ⟨hev,⟨by omega,by omega⟩,⟨z0,hlt⟩,hit,by trivial,by trivial⟩ ?_;have w1:IntKind.wrap .i64 (z.I+1)=z.I+1:=xas (by omega) (by omega);rw [w1];have hm:((cs.L.length:Int) - (z.I+1)).toNat<(y.I - z.I).toNat:=by omega
   refine xaj ((xam ⟨⟨rfl,hev⟩,⟨rfl,rfl⟩,rfl,hit,rfl,by simp only [I_i];omega,by simp only [I_i,L_l];omega⟩).trans ?_) hm;simp only [L_l,I_i,B_b,xhi] at h ⊢;exact h
  ·rw [xhi,xa5] at h;split at h
   ·exact xao h
   ·rename_i hne;exact absurd rfl hne
 ·rename_i h0 w it x i y z cs nO O l c la ea ml ll ju re mi no pe po pt ex nc nu mp ou;obtain ⟨hp,h⟩:=xab h;rw [xad] at hp;obtain ⟨⟨hh,hev⟩,⟨hc,hu⟩,⟨hw,hit,hy,z0,z1⟩,hO,h0',hb⟩:=hp;obtain ⟨⟨l1,l2⟩,-⟩:=hev.1.1;obtain ⟨c1,c2⟩:=hev.2.1.1;refine ⟨by rw [xa9];show (y.I - z.I).toNat<_;omega,?_⟩;rw [xar (j:=h0) (n:=1) hh (by decide),show (xal C (xah xja xjl xi9) 12 (xaa C.P 12 11) 1 xre [.i 1,w,it,x,i,y,z,cs,nO,O,l,c,la,ea,ml,ll,ju,re,mi,no,pe,po,pt,ex,nc,nu,mp,ou]).run=_ from xTl w it x i y z cs nO O l c la ea ml ll ju re mi no pe po pt ex nc nu mp ou];simp only [hw,hy,hc,hu,hO,Int.toNat_natCast] at h ⊢;refine xa2 (fun hlt=>?_) fun hge=>?_
  ·refine xbe ⟨hev,⟨by omega,by omega⟩,⟨z0,hlt⟩,hit,⟨by trivial,by trivial⟩,by trivial,by omega⟩ ?_;have w1:IntKind.wrap .i64 (z.I+1)=z.I+1:=xas (by omega) (by omega);rw [w1];have hm:((cs.L.length:Int) - (z.I+1)).toNat<(y.I - z.I).toNat:=by omega
   refine xaj ((xam ⟨⟨rfl,hev⟩,⟨rfl,rfl⟩,⟨rfl,hit,rfl,by simp only [I_i];omega,by simp only [I_i,L_l];omega⟩,rfl,h0',by simp only [I_i,L_l];omega⟩).trans ?_) hm;simp only [L_l,I_i,B_b,xhi] at h ⊢;exact h
  ·rw [xhi,xa5] at h;split at h
   ·rename_i he;exact absurd he (by show ¬ O.L.isEmpty=true;rw [xk0 h0'];decide)
   ·exact xao h
 ·cases h
theorem ycw (n:Nat):xb0 C (n+11) 1 12 (xaa C.P 12 8) (xde 1 xv2 xQa):=by
 refine xbb hC (sp:=xja) (lp:=xjl) (sw:=xi9) trivial ⟨xq2 n,xhy ⟨xB3 (n+3),xq1 (n+3),trivial⟩,trivial⟩ 1 [11,16] (by kernel_rfl) (by kernel_rfl) (fun k hk L hL=>by
  simp at hk;rcases hk with rfl | rfl
  ·cases hL;exact xYn n
  ·cases hL;exact xYm n) (by kernel_rfl) (fun ds=>((ds.getD 2 default).I - (ds.getD 3 default).I).toNat) fun ds rr h=>?_
 unfold xQa at h;split at h
 ·rename_i h0 w x i cs l c la ea ml ll ju re mi no pe po pt ex nc nu mp ou;obtain ⟨hp,h⟩:=xab h;rw [xad] at hp;obtain ⟨⟨hh,hev⟩,⟨hc,hu⟩,hw,hx,i0,i1⟩:=hp;obtain ⟨⟨l1,l2⟩,-⟩:=hev.1.1;obtain ⟨c1,c2⟩:=hev.2.1.1;refine ⟨by rw [xa9];show (x.I - i.I).toNat<_;omega,?_⟩;rw [xar (j:=h0) (n:=0) hh (by decide),show (xal C (xah xja xjl xi9) 12 (xaa C.P 12 8) 1 xv2 [.i 0,w,x,i,cs,l,c,la,ea,ml,ll,ju,re,mi,no,pe,po,pt,ex,nc,nu,mp,ou]).run=_ from xXz w x i cs l c la ea ml ll ju re mi no pe po pt ex nc nu mp ou];simp only [Int.sub_zero,hw,hx,hc,hu,Int.toNat_natCast] at h ⊢;refine xa2 (fun hlt=>?_) fun hge=>?_
  ·refine xbe ⟨⟨by first | trivial | rfl,hev⟩,⟨by trivial,by trivial⟩,by trivial,⟨i0,hlt⟩,by trivial,by omega,by omega⟩ ?_;have w1:IntKind.wrap .i64 (i.I+1)=i.I+1:=xas (by omega) (by omega);rw [w1];rw [xWw hlt] at h;have hm:((l.L.length:Int) - (i.I+1)).toNat<(x.I - i.I).toNat:=by omega
   have hlen:(xdr l.L cs.L la.I i.I cs.L.length 0 (mp.L,[])).2.length<=0+cs.L.length:=xyb _ _ _ _;simp only [xhi];refine xiy rfl (xbe ⟨⟨by first | trivial | rfl,hev⟩,⟨by trivial,by trivial⟩,by trivial,⟨i0,hlt⟩,by trivial,by omega,by omega⟩ (xcm (fun hv=>?_) fun hv=>?_))
   ·have e:=xow (S:=xdr l.L cs.L la.I i.I cs.L.length 0 (mp.L,[])) hv;refine xaj ((xam ⟨⟨rfl,hev⟩,⟨rfl,rfl⟩,rfl,rfl,by simp only [I_i];omega,by simp only [I_i,L_l];omega⟩).trans ?_) hm;simp only [L_l,I_i,B_b];rw [e];exact h
   ·exact xaj ((xam ⟨⟨rfl,hev⟩,⟨rfl,rfl⟩,⟨rfl,rfl,by simp only [I_i];omega,by simp only [I_i,L_l];omega⟩,rfl,xt1 hv,by simp only [I_i,L_l];omega⟩).trans h) hm
  ·rw [show ((l.L.length:Int) - i.I).toNat=0 by omega,xa5] at h;split at h
   ·exact xao h
   ·rename_i hne;exact absurd rfl hne
 ·rename_i h0 w x i cs nO O l c la ea ml ll ju re mi no pe po pt ex nc nu mp ou;obtain ⟨hp,h⟩:=xab h;rw [xad] at hp;obtain ⟨⟨hh,hev⟩,⟨hc,hu⟩,⟨hw,hx,i0,i1⟩,hO,h0',hb⟩:=hp;obtain ⟨⟨l1,l2⟩,-⟩:=hev.1.1;obtain ⟨c1,c2⟩:=hev.2.1.1;refine ⟨by rw [xa9];show (x.I - i.I).toNat<_;omega,?_⟩;rw [xar (j:=h0) (n:=1) hh (by decide),show (xal C (xah xja xjl xi9) 12 (xaa C.P 12 8) 1 xv2 [.i 1,w,x,i,cs,nO,O,l,c,la,ea,ml,ll,ju,re,mi,no,pe,po,pt,ex,nc,nu,mp,ou]).run=_ from xXy w x i cs nO O l c la ea ml ll ju re mi no pe po pt ex nc nu mp ou];simp only [Int.sub_zero,hw,hx,hc,hu,hO,Int.toNat_natCast] at h ⊢;refine xa2 (fun hlt=>?_) fun hge=>?_
  ·refine xbe ⟨⟨by first | trivial | rfl,hev⟩,⟨by trivial,by trivial⟩,⟨by trivial,⟨i0,hlt⟩,by trivial,by omega,by omega⟩,by trivial,h0',by omega⟩ ?_;have w1:IntKind.wrap .i64 (i.I+1)=i.I+1:=xas (by omega) (by omega);rw [w1];rw [xWw hlt] at h;have hm:((l.L.length:Int) - (i.I+1)).toNat<(x.I - i.I).toNat:=by omega
   have hlen:(xdr l.L cs.L la.I i.I cs.L.length 0 (mp.L,O.L)).2.length<=O.L.length+cs.L.length:=xyb _ _ _ _;simp only [xhi];refine xbr (xk0 h0') (xbe ⟨⟨by first | trivial | rfl,hev⟩,⟨by trivial,by trivial⟩,⟨by trivial,⟨i0,hlt⟩,by trivial,by omega,by omega⟩,by trivial,h0',by omega⟩ (xcm (fun hv=>?_) fun hv=>?_))
   ·have e:=xow (S:=xdr l.L cs.L la.I i.I cs.L.length 0 (mp.L,O.L)) hv;refine xaj ((xam ⟨⟨rfl,hev⟩,⟨rfl,rfl⟩,rfl,rfl,by simp only [I_i];omega,by simp only [I_i,L_l];omega⟩).trans ?_) hm;simp only [L_l,I_i,B_b];rw [e];exact h
   ·exact xaj ((xam ⟨⟨rfl,hev⟩,⟨rfl,rfl⟩,⟨rfl,rfl,by simp only [I_i];omega,by simp only [I_i,L_l];omega⟩,rfl,xt1 hv,by simp only [I_i,L_l];omega⟩).trans h) hm
  ·rw [show ((l.L.length:Int) - i.I).toNat=0 by omega,xa5] at h;split at h
   ·rename_i he;exact absurd he (by show ¬ O.L.isEmpty=true;rw [xk0 h0'];decide)
   ·exact xao h
 ·cases h
theorem xZc (l cs:List (List D)) (la:Int) (k:Nat):xc7 l cs la 7 k (0:Int).toNat=true:=by
 unfold xc7;rw [decide_eq_true (p:=(7:Int)=7/\(0:Int).toNat=0) ⟨rfl,rfl⟩];rfl
theorem xYk (n:Nat):xb0 C (n+11) 1 12 (xaa C.P 12 25) (xde 1 xrb xJ7):=by
 refine xbb hC (sp:=xja) (lp:=xjl) (sw:=xi9) trivial ⟨xq2 n,xhy ⟨xB3 (n+3),xq1 (n+3),trivial⟩,trivial⟩ 1 [] (by kernel_rfl) rfl (fun k hk=>by cases hk) (by kernel_rfl) (fun ds=>((ds.getD 1 default).I - (ds.getD 2 default).I).toNat) fun ds rr h=>?_
 unfold xJ7 at h;split at h
 ·rename_i h0 y z cs l c la ea ml ll ju re mi no pe po pt ex nc nu mp ou;obtain ⟨hp,h⟩:=xab h;rw [xad] at hp;obtain ⟨⟨hh,hev⟩,⟨hc,hu⟩,hy,z0,z1⟩:=hp;obtain ⟨⟨l1,l2⟩,-⟩:=hev.1.1;obtain ⟨c1,c2⟩:=hev.2.1.1;refine ⟨by rw [xa9];show (y.I - z.I).toNat<_;omega,?_⟩;rw [xar (j:=h0) (n:=0) hh (by decide),show (xal C (xah xja xjl xi9) 12 (xaa C.P 12 25) 1 xrb [.i 0,y,z,cs,l,c,la,ea,ml,ll,ju,re,mi,no,pe,po,pt,ex,nc,nu,mp,ou]).run=_ from xTg y z cs l c la ea ml ll ju re mi no pe po pt ex nc nu mp ou];simp only [hy,hc,hu,Int.toNat_natCast] at h ⊢;refine xa2 (fun hlt=>?_) fun hge=>?_
  ·refine xbe ⟨hev,⟨by omega,by omega⟩,⟨z0,hlt⟩,⟨by omega,by omega⟩,by trivial,by trivial⟩ ?_;have w1:IntKind.wrap .i64 (z.I+1)=z.I+1:=xas (by omega) (by omega);rw [w1];rw [xV5 hlt,xs1 (xZc _ _ _ _)] at h;exact xaj ((xam ⟨⟨rfl,hev⟩,⟨rfl,rfl⟩,⟨rfl,by simp only [I_i];omega,by simp only [I_i,L_l];omega⟩,rfl,Nat.zero_lt_succ _,by simp only [I_i,L_l,List.length_cons,List.length_nil];omega⟩).trans h) (show ((cs.L.length:Int) - (z.I+1)).toNat<(y.I - z.I).toNat by omega)
  ·rw [show ((cs.L.length:Int) - z.I).toNat=0 by omega,xa5] at h;split at h
   ·exact xao h
   ·rename_i hne;exact absurd rfl hne
 ·rename_i h0 y z cs nO O l c la ea ml ll ju re mi no pe po pt ex nc nu mp ou;obtain ⟨hp,h⟩:=xab h;rw [xad] at hp;obtain ⟨⟨hh,hev⟩,⟨hc,hu⟩,⟨hy,z0,z1⟩,hO,h0',hb⟩:=hp;obtain ⟨⟨l1,l2⟩,-⟩:=hev.1.1;obtain ⟨c1,c2⟩:=hev.2.1.1;refine ⟨by rw [xa9];show (y.I - z.I).toNat<_;omega,?_⟩;rw [xar (j:=h0) (n:=1) hh (by decide),show (xal C (xah xja xjl xi9) 12 (xaa C.P 12 25) 1 xrb [.i 1,y,z,cs,nO,O,l,c,la,ea,ml,ll,ju,re,mi,no,pe,po,pt,ex,nc,nu,mp,ou]).run=_ from xTf y z cs nO O l c la ea ml ll ju re mi no pe po pt ex nc nu mp ou];simp only [hy,hc,hu,hO,Int.toNat_natCast] at h ⊢;refine xa2 (fun hlt=>?_) fun hge=>?_
  ·refine xbe ⟨hev,⟨by omega,by omega⟩,⟨z0,hlt⟩,⟨by omega,by omega⟩,⟨by trivial,by trivial⟩,by trivial,by omega⟩ ?_;have w1:IntKind.wrap .i64 (z.I+1)=z.I+1:=xas (by omega) (by omega);rw [w1];rw [xV5 hlt,xs1 (xZc _ _ _ _)] at h;exact xaj ((xam ⟨⟨rfl,hev⟩,⟨rfl,rfl⟩,⟨rfl,by simp only [I_i];omega,by simp only [I_i,L_l];omega⟩,by simp only [I_i,L_l,List.length_append];rfl,by simp only [L_l,List.length_append,List.length_cons];omega,by simp only [I_i,L_l,List.length_append,List.length_cons,List.length_nil];omega⟩).trans h) (show ((cs.L.length:Int) - (z.I+1)).toNat<(y.I - z.I).toNat by omega)
  ·rw [show ((cs.L.length:Int) - z.I).toNat=0 by omega,xa5] at h;split at h
   ·rename_i he;exact absurd he (by show ¬ O.L.isEmpty=true;rw [xk0 h0'];decide)
   ·exact xao h
 ·cases h
theorem yg1 (n:Nat):xeu C (n+12) 12 (xdm s12 G12):=by
 refine xfi hC (sp:=xja) (lp:=xjl) (sw:=xi9) trivial ⟨xq2 n,xhy ⟨xB3 (n+3),xq1 (n+3),trivial⟩,trivial⟩ (by kernel_rfl) [8,25] (by kernel_rfl) (by kernel_rfl) (fun k hk L hL=>by
  simp at hk;rcases hk with rfl | rfl
  ·cases hL;exact ycw n
  ·cases hL;exact xYk n) fun ds rr h=>?_
 unfold G12 at h;split at h
 ·rename_i l c la ea ml ll ju re mi no pe po pt ex w cs;obtain ⟨hp,h⟩:=xab h;rw [xad] at hp;obtain ⟨hp,hc,hw⟩:=hp;obtain ⟨c1,c2⟩:=hc.1;obtain ⟨⟨l1,l2⟩,-⟩:=hp.1;refine (t12 l c la ea ml ll ju re mi no pe po pt ex w cs).trans ?_;rw [<- h];have hev:xan l.L c.I la.I ea.I ml.I ll.I ju.L re.B mi.I no.I pe.I po.I pt.L ex.L/\xat l.L cs.L/\xbi cs.L (xfd cs.L.length):=⟨hp,hc,xub _⟩;have hi:xei l.L cs.L la.I l.L.length 0 ([],[])=(xi6 l.L cs.L la.I cs.L.length,xc4 l.L cs.L la.I cs.L.length):=by
   obtain ⟨m,hm⟩:∃ m,l.L.length=m+1:=⟨l.L.length - 1,by omega⟩;have h:=xyf (l:=l.L) (cs:=cs.L) (la:=la.I) l1 m 0 (by omega);rw [<- hm] at h;exact h
  have hll:=xyd (l:=l.L) (cs:=cs.L) (la:=la.I) cs.L.length;have hd:xcv l.L cs.L la.I=(xic l.L cs.L la.I cs.L.length 0 (xei l.L cs.L la.I l.L.length 0 ([],[]))).2:=rfl;simp only [hw,Int.sub_zero,Int.toNat_natCast,xjg];refine xai ⟨hp,hc,by trivial⟩ (xai ⟨⟨by first | trivial | rfl,hev⟩,⟨by trivial,by trivial⟩,by trivial,by trivial,by omega,by omega⟩ (xhc (fun e=>?_) fun e=>?_))
  ·have e1:=xow e;refine xai ⟨⟨by first | trivial | rfl,hev⟩,⟨by trivial,by trivial⟩,by trivial,by omega,by omega⟩ ?_;rw [e1,hd]
  ·refine xai ⟨⟨by first | trivial | rfl,hev⟩,⟨by trivial,by trivial⟩,⟨by trivial,by omega,by omega⟩,by trivial,xt1 e,by rw [hi];show ((xc4 l.L cs.L la.I cs.L.length).length:Int)+_<=900;omega⟩ ?_;rw [hd]
 ·cases h
set_option linter.unusedVariables false
set_option maxRecDepth 100000
theorem t33 (a b c d e f g h i j k l m n o p q r:D) :
 let X4:=List.getD q.L r.I.toNat [];let X7:=List.getD X4 (0+1) default;let X8:=List.getD X4 (0+1+1) default;let X9:=List.getD X4 0 default;let X11:=xan a.L b.I c.I d.I e.I f.I g.L h.B i.I j.I k.I l.I m.L n.L/\xat a.L o.L/\xbi o.L p.L;let X13:=[[D.i 4,D.i (D.I X7),D.i (↑(a.L.length - 1):Int)]];let X14:=((0:Int)<=D.I X7/\D.I X7<(o.L.length:Int));let X15:=(↑(List.length ([]:List (List D))):Int);let X16:=(↑(Int.toNat (1:Int)):Int);let X1:=D.L (List.getD X4 (0+1+1+1+1) default);let X2:=List.getD X13 0 [];let X3:=[[D.i (ix (List.getD q.L (Int.toNat (ix (List.getD X1 0 []) 0)) []) 0),D.i (ix (List.getD q.L (Int.toNat (ix (List.getD X1 0 []) 0)) []) 1),D.i (ix (List.getD q.L (Int.toNat (ix (List.getD X1 0 []) 0)) []) 2),D.b true]];let X10:=[[D.i (ix X2 0),D.i (ix X2 1),D.i (ix X2 2),D.b true]];let X12:=(↑(List.length X1):Int);let X5:=T.need (yes (X12=X12/\List.length X1<=1/\(0:Int)<=r.I/\r.I<(q.L.length:Int)/\q.L.length<=1000/\((0:Int)=X12\/(0:Int)=(0:Int)/\(0:Int)<=ix (List.getD X1 0 []) 0/\ix (List.getD X1 0 []) 0<r.I/\X10=X3))) (T.leaf [D.b true]);let X6:=T.need (yes (X12=X12/\List.length X1<=1/\(0:Int)<=r.I/\r.I<(q.L.length:Int)/\q.L.length<=1000/\((0:Int)=X12\/(0:Int)=(0:Int)/\(0:Int)<=ix (List.getD X1 0 []) 0/\ix (List.getD X1 0 []) 0<r.I/\([]:List (List D))=X3))) (T.leaf [D.b true]);(fnT C xE7 33 s33 [a,b,c,d,e,f,g,h,i,j,k,l,m,n,o,p,q,r]).run =
 T.run (T.need (decide ((0:Int)<=r.I/\r.I<(q.L.length:Int))) (T.ite (!xa0 (D.I X7) (0:Int) (IntKind.i64.wrap ((o.L.length:Int) - (1:Int)))) (T.leaf [D.b false]) (T.ite (!xa0 (D.I X8) (0:Int) (IntKind.i64.wrap ((a.L.length:Int) - (1:Int)))) (T.leaf [D.b false]) (T.need (yes (X11/\((1:Int)<=D.I X9/\D.I X9<=(7:Int))/\X14/\(0:Int)<=D.I X8/\D.I X8<(a.L.length:Int))) (T.ite (!xc7 a.L o.L c.I (D.I X9) (Int.toNat (D.I X7)) (Int.toNat (D.I X8))) (T.leaf [D.b false]) (T.ite (xi1 a.L o.L c.I (D.I X9) (Int.toNat (D.I X7)) (Int.toNat (D.I X8)) != D.I (List.getD X4 (0+1+1+1) default)) (T.leaf [D.b false]) (T.need (yes (X11/\(D.I X9=(4:Int)\/D.I X9=(7:Int))/\X14/\(0:Int)<=D.I X8/\D.I X8<(a.L.length:Int))) (T.ite (decide (D.I X9=(7:Int)/\(0:Int)<xbc a.L o.L c.I (Int.toNat (D.I X7)))) (T.need (yes ((↑(0+1):Int)=(1:Int)/\X16=(1:Int)/\X16=(1:Int)/\List.length X13=1/\X13=[[D.i (ix X2 0),D.i (ix X2 1),D.i (ix X2 2)]]/\((0:Int)=(0:Int)/\([]:List (List D))=[]\/(0:Int)=(1:Int)/\([]:List (List D))=X10))) (T.ite (D.I X9 == (3:Int)) (T.ite (X12 != xHx (1:Int) (↑(List.length X10):Int)) (T.leaf [D.b false]) X5) (T.ite (X12 != (↑(List.length X10):Int)) (T.leaf [D.b false]) X5))) (T.need (yes ((↑0:Int)=(0:Int)/\(↑0:Int)=(0:Int)/\(0:Int)=(0:Int))) (T.ite (D.I X9 == (3:Int)) (T.ite (X12 != xHx (1:Int) X15) (T.leaf [D.b false]) X6) (T.ite (X12 != X15) (T.leaf [D.b false]) X6))))))))))):=by
 intros
 kernel_rfl
theorem xTa (a b c d e f g h i j k l m:D):(xb4 C xE7 33 (xaa C.P 33 10) xq8 [.i 0,a,b,c,d,e,f,g,h,i,j,k,l,m]).run =
 T.run (T.ite (decide (d.I<c.I)) T.fail (T.leaf (Rd.out (Ex.exit 0) [D.l a.L,D.i b.I,D.i e.I,D.i f.I,D.i g.I,D.i h.I,D.l i.L,D.i j.I,D.i k.I,D.i l.I,D.l m.L]))):=by kernel_rfl
theorem xS9 (a b c d e f g h i j k l m n o:D) :
 let X1:=List.getD o.L e.I.toNat [];(xb4 C xE7 33 (xaa C.P 33 10) xq8 [.i 1,a,b,c,d,e,f,g,h,i,j,k,l,m,n,o]).run =
 T.run (T.ite (decide (e.I<d.I)) (T.need (decide ((0:Int)<=e.I/\e.I<(c.I.toNat:Int))) (T.need (decide (e.I.toNat<o.L.length)) (T.leaf (Rd.again [D.i 1,D.l a.L,D.i b.I,D.i (c.I.toNat:Int),D.i d.I,D.i (IntKind.i64.wrap (e.I+(1:Int))),D.i f.I,D.i g.I,D.i h.I,D.i i.I,D.l j.L,D.i k.I,D.i l.I,D.i m.I,D.l (xf9 [K.int IntKind.i64,K.int IntKind.i64,K.int IntKind.i64] [D.i (D.I (List.getD X1 0 default)),D.i (D.I (List.getD X1 (0+1) default)),D.i (D.I (List.getD X1 (0+1+1) default))] (D.b true) n.L),D.l o.L])))) (T.leaf (Rd.out (Ex.exit 0) [D.l a.L,D.i b.I,D.i f.I,D.i g.I,D.i h.I,D.i i.I,D.l j.L,D.i k.I,D.i l.I,D.i m.I,D.l n.L]))):=by
 intros
 kernel_rfl
theorem xZp (a b c d e f g h i j k:D) :
 let X2:=List.getD (List.getD c.L e.I.toNat []) 0 default;let X3:=T.leaf (Rd.out Ex.ret [D.b false]);let X1:=T.need (decide ((0:Int)<=D.I X2/\D.I X2<(a.L.length:Int))) (T.need (decide ((0:Int)<=D.I X2/\D.I X2<(a.L.length:Int))) (T.need (decide ((0:Int)<=D.I X2/\D.I X2<(a.L.length:Int))) (T.ite (xjk [K.int IntKind.i64,K.int IntKind.i64,K.int IntKind.i64] [D.i (D.I (List.getD (List.getD a.L (Int.toNat (D.I X2)) []) 0 default)),D.i (D.I (List.getD (List.getD a.L (Int.toNat (D.I X2)) []) (0+1) default)),D.i (D.I (List.getD (List.getD a.L (Int.toNat (D.I X2)) []) (0+1+1) default))] k.L) (T.ite (!D.B (xjh [K.int IntKind.i64,K.int IntKind.i64,K.int IntKind.i64] [D.i (D.I (List.getD (List.getD a.L (Int.toNat (D.I X2)) []) 0 default)),D.i (D.I (List.getD (List.getD a.L (Int.toNat (D.I X2)) []) (0+1) default)),D.i (D.I (List.getD (List.getD a.L (Int.toNat (D.I X2)) []) (0+1+1) default))] k.L)) X3 (T.leaf (Rd.again [D.l a.L,D.i b.I,D.l c.L,D.i d.I,D.i (IntKind.i64.wrap (e.I+(1:Int))),D.i f.I,D.i g.I,D.i h.I,D.i i.I,D.l j.L,D.l (xFk [K.int IntKind.i64,K.int IntKind.i64,K.int IntKind.i64] [D.i (D.I (List.getD (List.getD a.L (Int.toNat (D.I X2)) []) 0 default)),D.i (D.I (List.getD (List.getD a.L (Int.toNat (D.I X2)) []) (0+1) default)),D.i (D.I (List.getD (List.getD a.L (Int.toNat (D.I X2)) []) (0+1+1) default))] k.L)]))) X3)));(xb4 C xE7 33 (xaa C.P 33 20) xAj [a,b,c,d,e,f,g,h,i,j,k]).run =
 T.run (T.ite (decide (e.I<d.I)) (T.need (decide ((0:Int)<=e.I/\e.I<(c.L.length:Int))) (T.ite (!xa0 (D.I X2) (0:Int) (IntKind.i64.wrap (b.I - (1:Int)))) X3 (T.ite (decide (e.I > (0:Int))) (T.need (decide ((0:Int)<=IntKind.i64.wrap (e.I - (1:Int))/\IntKind.i64.wrap (e.I - (1:Int))<(j.L.length:Int))) (T.ite (decide (D.I X2<=D.I (List.getD (List.getD j.L (Int.toNat (IntKind.i64.wrap (e.I - (1:Int)))) []) 0 default))) X3 X1)) X1))) (T.leaf (Rd.out (Ex.exit 2) []))):=by
 intros
 kernel_rfl
theorem t13 (a b c d e f g h i j k l m n o p:D):(fnT C xWc 13 s13 [a,b,c,d,e,f,g,h,i,j,k,l,m,n,o,p]).run =
 T.run (T.need (yes (xan a.L b.I c.I d.I e.I f.I g.L h.B i.I j.I k.I l.I m.L n.L/\xat a.L o.L)) (T.ite (decide ((p.L.length:Int) > (100000:Int))) (T.leaf [D.b false]) (T.need (yes ((xan a.L b.I c.I d.I e.I f.I g.L h.B i.I j.I k.I l.I m.L n.L/\xat a.L o.L/\xbi o.L (xfd o.L.length))/\p.L=p.L/\(p.L.length:Int)=(p.L.length:Int)/\(↑(Int.toNat (o.L.length:Int)):Int)=(↑(List.length (xfd o.L.length)):Int)/\xq6 a.L o.L c.I p.L/\((0:Int)<=(0:Int)/\(0:Int)<=(p.L.length:Int))/\[]=xn0 p.L (Int.toNat (0:Int)))) (T.leaf [D.b true])))):=by kernel_rfl
theorem yfq (a b c d e f g h i j k l m n o p q r s t u v:D) :
 let X2:=[D.i (D.I (List.getD (List.getD b.L d.I.toNat []) 0 default)),D.i (D.I (List.getD (List.getD b.L d.I.toNat []) (0+1) default)),D.i (D.I (List.getD (List.getD b.L d.I.toNat []) (0+1+1) default))];let X3:=[K.int IntKind.i64,K.int IntKind.i64,K.int IntKind.i64];let X1:=T.need (decide (t.I.toNat<=v.L.length)) (T.need (yes ((xan e.L f.I g.I h.I i.I j.I k.L l.B m.I n.I o.I p.I q.L r.L/\xat e.L s.L/\xbi s.L (List.take t.I.toNat v.L))/\a.L.length<=1000/\((0:Int)<=d.I/\d.I<(a.L.length:Int))/\xty e.L s.L g.I a.L d.I.toNat)) (T.leaf (Rd.again [D.l a.L,D.l b.L,D.i c.I,D.i (IntKind.i64.wrap (d.I+(1:Int))),D.l e.L,D.i f.I,D.i g.I,D.i h.I,D.i i.I,D.i j.I,D.l k.L,D.b l.B,D.i m.I,D.i n.I,D.i o.I,D.i p.I,D.l q.L,D.l r.L,D.l s.L,D.i (t.I.toNat:Int),D.l (xf9 X3 X2 (D.b true) u.L),D.l v.L])));(xb4 C xWc 13 (xaa C.P 13 6) xF4 [a,b,c,d,e,f,g,h,i,j,k,l,m,n,o,p,q,r,s,t,u,v]).run =
 T.run (T.ite (decide (d.I<c.I)) (T.need (decide ((0:Int)<=d.I/\d.I<(b.L.length:Int))) (T.ite (xjk X3 X2 u.L) (T.ite (D.B (xjh X3 X2 u.L)) (T.leaf (Rd.out Ex.ret [D.b false])) X1) X1)) (T.leaf (Rd.out (Ex.exit 0) []))):=by
 intros
 kernel_rfl
theorem t4 (a b c:D):(fnT C xZg 4 s4 [a,b,c]).run =
 T.run (T.ite (decide ((c.L.length:Int) > (6:Int))) (T.leaf [D.b false]) (T.need (yes ((0:Int)<=(0:Int)/\(0:Int)<=(c.L.length:Int)/\c.L.length<=6)) (T.ite (xay (xS4 c.L) (Int.toNat (0:Int)) (c.L.length - Int.toNat (0:Int))) (T.leaf [D.b (xaw a.I b.I c.L)]) (T.leaf [D.b false])))):=by kernel_rfl
theorem ygi (a b c d:D):(xb4 C xZg 4 (xaa C.P 4 4) xOp [a,b,c,d]).run =
 T.run (T.ite (decide (a.I<(d.L.length:Int))) (T.need (decide ((0:Int)<=a.I/\a.I<(d.L.length:Int))) (T.ite (decide ((↑(List.length (D.L (List.getD (List.getD d.L a.I.toNat []) (0+1+1+1+1+1+1+1) default))):Int) > (3:Int))) (T.leaf (Rd.out Ex.ret [D.b false])) (T.leaf (Rd.again [D.i (IntKind.i64.wrap (a.I+(1:Int))),D.i b.I,D.i c.I,D.l d.L])))) (T.leaf (Rd.out (Ex.exit 0) [D.i b.I,D.i c.I,D.l d.L]))):=by kernel_rfl
theorem t7 (a b:D):(fnT C ygg 7 s7 [a,b]).run =
 T.run (T.leaf [D.i a.I,D.i b.I,D.i 1440,D.i 1440,D.i 1,D.b false,D.i 0,D.i 1,D.i 100,D.i (-1:Int),D.l [[D.i 0]]]):=by kernel_rfl
def yaq:SpL:=[(22,mkF s22 G22)]
def yc0:LpL:=[]
def xZv:SwL:=[]
def yed:Tab:=xah yaq yc0 xZv
def xFc:SpL:=[(74,mkF s74 G74)]
def xFl:LpL:=[(2,mkL xAl xKb)]
def xFb:SwL:=[]
def xQi:Tab:=xah xFc xFl xFb
def yar:SpL:=[(105,mkF xTy xV2),(74,mkF s74 G74)]
def yc1:LpL:=[]
def xZw:SwL:=[]
def yee:Tab:=xah yar yc1 xZw
def ya6:SpL:=[(22,mkF s22 G22),(73,mkF s73 G73)]
def ydg:LpL:=[]
def yab:SwL:=[]
def yeu:Tab:=xah ya6 ydg yab
def xQw:SpL:=[(22,mkF s22 G22),(73,mkF s73 G73)]
def xRt:LpL:=[]
def xQq:SwL:=[]
def xW8:Tab:=xah xQw xRt xQq
def xG5:SpL:=[(22,mkF s22 G22),(43,xUq s43 G43 xNe xQd)]
def xH4:LpL:=[(5,mkL xv1 xP8)]
def xGt:SwL:=[]
def xMl:Tab:=xah xG5 xH4 xGt
def ya3:SpL:=[(22,mkF s22 G22)]
def ydd:LpL:=[]
def xZ8:SwL:=[]
def yeq:Tab:=xah ya3 ydd xZ8
def yap:SpL:=[(50,mkF s50 G50)]
def ycz:LpL:=[]
def xZu:SwL:=[]
def yec:Tab:=xah yap ycz xZu
def xzg:SpL:=[(75,mkF s75 G75),(50,mkF s50 G50)]
def xz6:LpL:=[(2,mkL xvz xC2)]
def xy5:SwL:=[]
def xK7:Tab:=xah xzg xz6 xy5
def xQv:SpL:=[(76,mkF xNa xP4),(75,mkF s75 G75),(50,mkF s50 G50)]
def xRs:LpL:=[]
def xQp:SwL:=[]
def xW7:Tab:=xah xQv xRs xQp
def ya4:SpL:=[(51,mkF xNb xP5),(50,mkF s50 G50),(75,mkF s75 G75)]
def yde:LpL:=[]
def xZ9:SwL:=[]
def yer:Tab:=xah ya4 yde xZ9
def ybe:SpL:=[(49,mkF s49 G49)]
def ydo:LpL:=[]
def yaj:SwL:=[]
def ye2:Tab:=xah ybe ydo yaj
def ya5:SpL:=[]
def ydf:LpL:=[]
def yaa:SwL:=[]
def yet:Tab:=xah ya5 ydf yaa
def xB1:SpL:=[(34,mkF s34 G34)]
def xB7:LpL:=[(4,mkL xF3 xGg),(12,mkL xAk xJ4)]
def xBy:SwL:=[]
def xMm:Tab:=xah xB1 xB7 xBy
def sp8:SpL:=[(17,mkF s17 G17),(21,mkF s21 G21),(22,mkF s22 G22)]
def lp8:LpL:=[]
def sw8:SwL:=[]
def ygf:Tab:=xah sp8 lp8 sw8
set_option linter.unusedVariables false
set_option maxRecDepth 100000
theorem t14 (a b c:D):fnT C xMm 14 s14 [a,b,c] =
 T.ite (!xa0 a.I (1:Int) (200:Int)) (T.leaf [D.b false]) (T.ite (!xa0 (c.L.length:Int) (1:Int) (60:Int)) (T.leaf [D.b false]) (T.ite (!xa0 b.I (0:Int) (100000:Int)) (T.leaf [D.b false]) (T.need (yes (c.L.length<=60/\(0:Int)<=(0:Int)/\(0:Int)<=(c.L.length:Int))) (T.ite (xay (xon c.L) (Int.toNat (0:Int)) (c.L.length - Int.toNat (0:Int))) (T.leaf [D.b true]) (T.leaf [D.b false]))))):=by kernel_rfl
theorem yfp (a b c d:D) :
 let X3:=T.leaf (Rd.out Ex.ret [D.b false]);let X4:=List.getD d.L a.I.toNat [];let X5:=List.getD X4 (0+1+1+1+1+1+1) default;let X1:=T.need (yes (List.length (D.L (List.getD X4 (0+1+1+1+1+1+1+1) default))<=10/\(0:Int)<=(0:Int)/\(0:Int)<=(↑(List.length (D.L (List.getD X4 (0+1+1+1+1+1+1+1) default))):Int))) (T.ite (xay (xik (D.L (List.getD X4 (0+1+1+1+1+1+1+1) default))) (Int.toNat (0:Int)) (List.length (D.L (List.getD X4 (0+1+1+1+1+1+1+1) default)) - Int.toNat (0:Int))) (T.leaf (Rd.again [D.i (IntKind.i64.wrap (a.I+(1:Int))),D.i b.I,D.i c.I,D.l d.L])) X3);let X2:=T.ite (!D.B (List.getD X4 (0+1+1+1+1) default)) (T.ite (D.I (List.getD X4 (0+1+1+1+1+1) default) != (0:Int)) X3 (T.ite (D.I X5 != (0:Int)) X3 (T.ite (decide (a.I > (0:Int))) (T.need (decide ((0:Int)<=IntKind.i64.wrap (a.I - (1:Int))/\IntKind.i64.wrap (a.I - (1:Int))<(d.L.length:Int))) (T.ite (D.I (List.getD X4 (0+1+1+1) default) != D.I (List.getD (List.getD d.L (Int.toNat (IntKind.i64.wrap (a.I - (1:Int)))) []) (0+1+1+1) default)) X3 X1)) X1))) X1;xb4 C xMm 14 (xaa C.P 14 4) xF3 [a,b,c,d] =
 T.ite (decide (a.I<(d.L.length:Int))) (T.need (decide ((0:Int)<=a.I/\a.I<(d.L.length:Int))) (T.ite (!xa0 (D.I (List.getD X4 0 default)) (1:Int) (1000:Int)) X3 (T.ite (!xa0 (D.I (List.getD X4 (0+1) default)) (0:Int) (600:Int)) X3 (T.ite (!xa0 (D.I (List.getD X4 (0+1+1) default)) (0:Int) (600:Int)) X3 (T.ite (!xa0 (D.I (List.getD X4 (0+1+1+1) default)) (1:Int) (60:Int)) X3 (T.ite (decide ((↑(List.length (D.L (List.getD X4 (0+1+1+1+1+1+1+1) default))):Int) > (10:Int))) X3 (T.ite (!xa0 (D.I (List.getD X4 (0+1+1+1+1+1) default)) (0:Int) (D.I X5)) X3 (T.ite (decide (D.I X5 > (1000:Int))) X3 (T.ite (a.I == (0:Int)) (T.ite (D.B (List.getD X4 (0+1+1+1+1) default)) X3 X2) X2))))))))) (T.leaf (Rd.out (Ex.exit 0) [])):=by
 intros
 kernel_rfl
theorem xZr (a b c d e f g h i j k l m:D) :
 let X1:=List.getD m.L b.I.toNat [];let X2:=T.leaf (Rd.out Ex.ret [D.b false]);let X3:=List.getD X1 (0+1) default;xb4 C xMm 14 (xaa C.P 14 12) xAk [a,b,c,d,e,f,g,h,i,j,k,l,m] =
 T.ite (decide (b.I<(m.L.length:Int))) (T.need (decide ((0:Int)<=b.I/\b.I<(m.L.length:Int))) (T.ite (!xa0 (D.I (List.getD X1 0 default)) (0:Int) (D.I X3)) X2 (T.ite (decide (D.I X3 > (200000:Int))) X2 (T.ite (!xa0 (D.I (List.getD X1 (0+1+1) default)) (0:Int) (200000:Int)) X2 (T.leaf (Rd.again [D.i a.I,D.i (IntKind.i64.wrap (b.I+(1:Int))),D.i c.I,D.i d.I,D.l e.L,D.i f.I,D.i g.I,D.i h.I,D.i i.I,D.b j.B,D.i k.I,D.i l.I,D.l m.L])))))) (T.leaf (Rd.out (Ex.exit 2) [D.i a.I,D.i c.I,D.i d.I,D.l e.L])):=by
 intros
 kernel_rfl
theorem t8 (a b c d e f g h i:D) :
 let X1:=D.I (List.getD (List.getD d.L i.I.toNat []) 0 default)+IntKind.i64.wrap (h.I*D.I (List.getD (List.getD c.L i.I.toNat []) (0+1+1+1) default));let X2:=T.leaf [D.i 0,D.i 0,D.i 2];let X3:=(decide ((0:Int)<=i.I/\i.I<(c.L.length:Int)));fnT C ygf 8 s8 [a,b,c,d,e,f,g,h,i] =
 T.ite ((if xaw a.I b.I c.L=true then (0:Int) else (2:Int)) != (0:Int)) X2 (T.need (yes (d.L.length<big)) (T.ite (!xnb d.L (IntKind.i64.wrap ((c.L.length:Int)+(1:Int)))) X2 (T.ite (!xa0 h.I (0:Int) (IntKind.i64.wrap (a.I - (1:Int)))) X2 (T.ite (!xa0 i.I (0:Int) (IntKind.i64.wrap ((c.L.length:Int) - (1:Int)))) X2 (T.need (decide ((0:Int)<=i.I/\i.I<(d.L.length:Int))) (T.need X3 (T.need X3 (T.leaf [D.i (IntKind.i64.wrap X1),D.i (IntKind.i64.wrap (IntKind.i64.wrap X1+D.I (List.getD (List.getD c.L i.I.toNat []) 0 default))),D.i 0])))))))):=by
 intros
 kernel_rfl
set_option linter.unusedVariables false
set_option maxRecDepth 100000
theorem t74 (a b c:D):fnT C yed 74 s74 [a,b,c] =
 T.ite (decide (a.I<(0:Int))) (T.leaf [D.b true]) (T.ite (decide (a.I > b.I)) (T.leaf [D.b true]) (T.ite (decide (b.I > (200000:Int))) (T.leaf [D.b true]) (T.leaf [D.b !xa0 c.I (0:Int) (200000:Int)]))):=by kernel_rfl
theorem ygo (a:D):fnT C xQi 105 xTy [a] =
 T.need (yes (a.L.length<big/\(a.L.length:Int)=(a.L.length:Int)/\(0:Int)<=(0:Int)/\(0:Int)<=(a.L.length:Int))) (T.ite (decide (xbx (fun j=>!xik a.L j) (Int.toNat (0:Int)) (a.L.length - Int.toNat (0:Int))>=(0:Int))) (T.leaf [D.i (xbx (fun j=>!xik a.L j) (Int.toNat (0:Int)) (a.L.length - Int.toNat (0:Int)))]) (T.leaf [D.i (-1:Int)])):=by kernel_rfl
theorem xZs (a b c:D) :
 let X1:=List.getD a.L c.I.toNat [];let X2:=List.getD X1 (0+1+1) default;let X3:=List.getD X1 (0+1) default;xb4 C xQi 105 (xaa C.P 105 2) xAl [a,b,c] =
 T.ite (decide (c.I<b.I)) (T.need (decide ((0:Int)<=c.I/\c.I<(a.L.length:Int))) (T.ite (!decide (((0:Int)<=D.I (List.getD X1 0 default)/\D.I (List.getD X1 0 default)<=D.I X3)/\D.I X3<=(200000:Int)/\(0:Int)<=D.I X2/\D.I X2<=(200000:Int))) (T.leaf (Rd.out Ex.ret [D.i c.I])) (T.leaf (Rd.again [D.l a.L,D.i b.I,D.i (IntKind.i64.wrap (c.I+(1:Int)))])))) (T.leaf (Rd.out (Ex.exit 0) [])):=by
 intros
 kernel_rfl
theorem t73 (a:D):fnT C yee 73 s73 [a] =
 T.need (yes (a.L.length<big)) (T.leaf [D.b (decide (xbx (fun j=>!xik a.L j) 0 a.L.length>=(0:Int)))]):=by kernel_rfl
theorem t43 (a b c d e f g h:D) :
 let X1:=T.ite (!e.B) (T.ite (f.I != (0:Int)) (T.leaf [D.b false]) (T.ite (g.I != (0:Int)) (T.leaf [D.b false]) (T.ite false T.fail (T.need (yes (h.L.length<big)) (T.leaf [D.b !!xkn h.L]))))) (T.need (yes (h.L.length<big)) (T.leaf [D.b !!xkn h.L]));fnT C yeu 43 s43 [a,b,c,d,e,f,g,h] =
 T.ite (!xa0 a.I (1:Int) (1000:Int)) (T.leaf [D.b false]) (T.ite (!xa0 b.I (0:Int) (600:Int)) (T.leaf [D.b false]) (T.ite (!xa0 c.I (0:Int) (600:Int)) (T.leaf [D.b false]) (T.ite (!xa0 d.I (1:Int) (60:Int)) (T.leaf [D.b false]) (T.ite (!xa0 f.I (0:Int) (1000:Int)) (T.leaf [D.b false]) (T.ite (!xa0 g.I f.I (1000:Int)) (T.leaf [D.b false]) (T.ite (decide ((h.L.length:Int) > (10:Int))) (T.leaf [D.b false]) (T.ite true (T.ite e.B (T.leaf [D.b false]) X1) X1))))))):=by
 intros
 kernel_rfl
theorem yft (a b c d e f g h i j k l m n o p:D) :
 let X1:=T.ite (!e.B) (T.ite (f.I != (0:Int)) (T.leaf [D.b false]) (T.ite (g.I != (0:Int)) (T.leaf [D.b false]) (T.ite true (T.ite (d.I != l.I) (T.leaf [D.b false]) (T.need (yes (h.L.length<big)) (T.leaf [D.b !!xkn h.L]))) (T.need (yes (h.L.length<big)) (T.leaf [D.b !!xkn h.L]))))) (T.need (yes (h.L.length<big)) (T.leaf [D.b !!xkn h.L]));fnT C xW8 43 xNe [a,b,c,d,e,f,g,h,i,j,k,l,m,n,o,p] =
 T.ite (!xa0 a.I (1:Int) (1000:Int)) (T.leaf [D.b false]) (T.ite (!xa0 b.I (0:Int) (600:Int)) (T.leaf [D.b false]) (T.ite (!xa0 c.I (0:Int) (600:Int)) (T.leaf [D.b false]) (T.ite (!xa0 d.I (1:Int) (60:Int)) (T.leaf [D.b false]) (T.ite (!xa0 f.I (0:Int) (1000:Int)) (T.leaf [D.b false]) (T.ite (!xa0 g.I f.I (1000:Int)) (T.leaf [D.b false]) (T.ite (decide ((h.L.length:Int) > (10:Int))) (T.leaf [D.b false]) (T.ite false (T.ite e.B (T.leaf [D.b false]) X1) X1))))))):=by
 intros
 kernel_rfl
theorem t17 (a b c:D):fnT C xMl 17 s17 [a,b,c] =
 T.ite (!xa0 a.I (1:Int) (200:Int)) (T.leaf [D.i 2]) (T.ite (!xa0 (c.L.length:Int) (1:Int) (60:Int)) (T.leaf [D.i 2]) (T.ite (!xa0 b.I (0:Int) (100000:Int)) (T.leaf [D.i 2]) (T.need (yes ((↑0:Int)=(0:Int)/\c.L=c.L/\c.L.length<=60/\(c.L.length:Int)=(c.L.length:Int)/\(0:Int)=(0:Int))) (T.ite (xay (xon c.L) 0 c.L.length) (T.leaf [D.i 0]) (T.leaf [D.i 2]))))):=by kernel_rfl
theorem xXx (a b c d e f:D) :
 let X1:=List.getD a.L c.I.toNat [];let X2:=List.getD f.L c.I.toNat [];let X3:=0+1+1+1+1+1+1+1;xb4 C xMl 17 (xaa C.P 17 5) xv1 [.i 0,a,b,c,d,e,f] =
 T.ite (decide (c.I<b.I)) (T.need (decide ((0:Int)<=c.I/\c.I<(a.L.length:Int))) (T.ite (!xqg (mk8 (D.i (D.I (List.getD X1 0 default))) (D.i (D.I (List.getD X1 (0+1) default))) (D.i (D.I (List.getD X1 (0+1+1) default))) (D.i (D.I (List.getD X1 (0+1+1+1) default))) (D.b (D.B (List.getD X1 (0+1+1+1+1) default))) (D.i (D.I (List.getD X1 (0+1+1+1+1+1) default))) (D.i (D.I (List.getD X1 (0+1+1+1+1+1+1) default))) (D.l (D.L (List.getD X1 X3 default)))) true (0:Int)) (T.leaf (Rd.out Ex.ret [D.i 2])) (T.need (decide ((0:Int)<=c.I/\c.I<(f.L.length:Int))) (T.leaf (Rd.again [D.i 1,D.i (D.I (List.getD X2 0 default)),D.i (D.I (List.getD X2 (0+1) default)),D.i (D.I (List.getD X2 (0+1+1) default)),D.i (D.I (List.getD X2 (0+1+1+1) default)),D.b (D.B (List.getD X2 (0+1+1+1+1) default)),D.i (D.I (List.getD X2 (0+1+1+1+1+1) default)),D.i (D.I (List.getD X2 (0+1+1+1+1+1+1) default)),D.l (D.L (List.getD X2 X3 default)),D.l a.L,D.i b.I,D.i (IntKind.i64.wrap (c.I+(1:Int))),D.i d.I,D.i e.I,D.l f.L]))))) (T.leaf (Rd.out (Ex.exit 0) [])):=by
 intros
 kernel_rfl
theorem xXw (a b c d e f g h i j k l m n:D) :
 let X1:=List.getD i.L k.I.toNat [];let X2:=List.getD n.L k.I.toNat [];let X3:=0+1+1+1+1+1+1+1;xb4 C xMl 17 (xaa C.P 17 5) xv1 [.i 1,a,b,c,d,e,f,g,h,i,j,k,l,m,n] =
 T.ite (decide (k.I<j.I)) (T.need (decide ((0:Int)<=k.I/\k.I<(i.L.length:Int))) (T.ite (!xqg (mk8 (D.i (D.I (List.getD X1 0 default))) (D.i (D.I (List.getD X1 (0+1) default))) (D.i (D.I (List.getD X1 (0+1+1) default))) (D.i (D.I (List.getD X1 (0+1+1+1) default))) (D.b (D.B (List.getD X1 (0+1+1+1+1) default))) (D.i (D.I (List.getD X1 (0+1+1+1+1+1) default))) (D.i (D.I (List.getD X1 (0+1+1+1+1+1+1) default))) (D.l (D.L (List.getD X1 X3 default)))) false d.I) (T.leaf (Rd.out Ex.ret [D.i 2])) (T.need (decide ((0:Int)<=k.I/\k.I<(n.L.length:Int))) (T.leaf (Rd.again [D.i 1,D.i (D.I (List.getD X2 0 default)),D.i (D.I (List.getD X2 (0+1) default)),D.i (D.I (List.getD X2 (0+1+1) default)),D.i (D.I (List.getD X2 (0+1+1+1) default)),D.b (D.B (List.getD X2 (0+1+1+1+1) default)),D.i (D.I (List.getD X2 (0+1+1+1+1+1) default)),D.i (D.I (List.getD X2 (0+1+1+1+1+1+1) default)),D.l (D.L (List.getD X2 X3 default)),D.l i.L,D.i j.I,D.i (IntKind.i64.wrap (k.I+(1:Int))),D.i l.I,D.i m.I,D.l n.L]))))) (T.leaf (Rd.out (Ex.exit 0) [])):=by
 intros
 kernel_rfl
theorem t50 (a:D):fnT C yeq 50 s50 [a] =
 T.leaf [D.b (xa0 a.I (0:Int) (1000000000:Int))]:=by kernel_rfl
theorem t75 (a:D):fnT C yec 75 s75 [a] =
 T.leaf [D.b !xa0 a.I (0:Int) (1000000000:Int)]:=by kernel_rfl
theorem yfn (a:D):fnT C xK7 76 xNa [a] =
 T.need (yes (a.L.length<big/\(a.L.length:Int)=(a.L.length:Int)/\(0:Int)<=(0:Int)/\(0:Int)<=(a.L.length:Int))) (T.ite (decide (xbx (fun j=>!xi3 a.L j) (Int.toNat (0:Int)) (a.L.length - Int.toNat (0:Int))>=(0:Int))) (T.leaf [D.i (xbx (fun j=>!xi3 a.L j) (Int.toNat (0:Int)) (a.L.length - Int.toNat (0:Int)))]) (T.leaf [D.i (-1:Int)])):=by kernel_rfl
theorem xXs (a b c:D):xb4 C xK7 76 (xaa C.P 76 2) xvz [a,b,c] =
 T.ite (decide (c.I<b.I)) (T.need (decide ((0:Int)<=c.I/\c.I<(a.L.length:Int))) (T.ite (!xa0 (D.I (List.getD (List.getD a.L c.I.toNat []) 0 default)) (0:Int) (1000000000:Int)) (T.leaf (Rd.out Ex.ret [D.i c.I])) (T.leaf (Rd.again [D.l a.L,D.i b.I,D.i (IntKind.i64.wrap (c.I+(1:Int)))])))) (T.leaf (Rd.out (Ex.exit 0) [])):=by kernel_rfl
theorem yfo (a:D):fnT C xW7 51 xNb [a] =
 T.need (yes (a.L.length<big)) (T.leaf [D.b (decide (xbx (fun j=>!xi3 a.L j) 0 a.L.length>=(0:Int)))]):=by kernel_rfl
theorem t49 (a:D):fnT C yer 49 s49 [a] =
 T.need (yes (a.L.length<big)) (T.leaf [D.b !!xay (xi3 a.L) 0 a.L.length]):=by kernel_rfl
theorem t21 (a b:D):fnT C ye2 21 s21 [a,b] =
 T.ite ((a.L.length:Int) == b.I) (T.need (yes (a.L.length<big)) (T.leaf [D.b (xay (xi3 a.L) 0 a.L.length)])) (T.leaf [D.b false]):=by kernel_rfl
theorem t48 (a b c d:D) :
 let X1:=List.getD c.L d.I.toNat [];fnT C yet 48 s48 [a,b,c,d] =
 T.need (decide ((0:Int)<=d.I/\d.I<(c.L.length:Int))) (T.leaf [D.i (IntKind.i64.wrap (IntKind.i64.wrap (IntKind.i64.wrap (IntKind.i64.wrap (a.I - (1:Int))*D.I (List.getD X1 (0+1+1+1) default))+D.I (List.getD X1 0 default))+D.I (List.getD X1 (0+1+1) default)))]):=by
 intros
 kernel_rfl
set_option maxRecDepth 100000
set_option linter.unusedVariables false
theorem xK1 (a b c d e f g h:D) (first:Bool) (p:Int):xqg (mk8 a b c d e f g h) first p=(decide ((1<=a.I/\a.I<=1000)/\(0<=b.I/\b.I<=600)/\(0<=c.I/\c.I<=600)/\(1<=d.I/\d.I<=60)/\(0<=f.I/\f.I<=g.I)/\g.I<=1000/\h.L.length<=10) &&
    ((if e.B then !first else (decide (f.I=0/\g.I=0) && (first || decide (d.I=p)))) && xkn h.L)):=rfl
theorem xK0 (w:List (List D)) (k:Nat) (first:Bool) (p:Int):xqg (mk8 (.i (ix (w.getD k []) 0)) (.i (ix (w.getD k []) 1)) (.i (ix (w.getD k []) 2)) (.i (ix (w.getD k []) 3)) (.b (bx (w.getD k []) 4)) (.i (ix (w.getD k []) 5)) (.i (ix (w.getD k []) 6)) (.l (lx (w.getD k []) 7))) first p=xqg (w.getD k []) first p:=rfl
theorem xm8 {a b:Int} (h:(a != b)=true):a≠b:=bne_iff_ne.1 h
theorem xkp {a b:Int} (h:(a != b)=false):a=b:=by
 by_cases e:a=b
 ·exact e
 ·have:=bne_iff_ne.2 e;rw [h] at this;cases this
theorem xT6 (n:Nat):xbo C (n+2) 74 (mkF s74 G74):=by
 refine xbk hC (sp:=yaq) (lp:=yc0) (sw:=xZv) ⟨xx3 n,trivial⟩ trivial (by kernel_rfl) [] (by kernel_rfl) rfl (fun k hk=>by cases hk) fun ds r h=>?_
 unfold G74 at h;split at h
 ·rename_i a b c;refine (congrArg T.run (t74 a b c)).trans ?_;rw [<- h];simp only [xd0];refine xdk (fun c1=>by rw [decide_eq_false (by omega)];rfl) fun c1=>xdk (fun c2=>by rw [decide_eq_false (by omega)];rfl) fun c2=>xdk (fun c3=>by rw [decide_eq_false (by omega)];rfl) fun c3=>?_
  by_cases c4:0<=c.I/\c.I<=200000
  ·rw [decide_eq_true c4,decide_eq_true (by omega)]
  ·rw [decide_eq_false c4,decide_eq_false (by omega)]
 ·cases h
theorem xYo (n:Nat):xct C (n+2) 105 (xaa C.P 105 2) (mkL xAl xKb):=by
 refine xbb hC (sp:=xFc) (lp:=xFl) (sw:=xFb) ⟨xT6 n,trivial⟩ trivial 0 [] (by kernel_rfl) rfl (fun k hk=>by cases hk) (by kernel_rfl) (fun ds=>((ds.getD 1 default).I - (ds.getD 2 default).I).toNat) fun ds rr h=>?_
 unfold xKb at h;split at h
 ·rename_i l m i;obtain ⟨hp,h⟩:=xab h;rw [xad] at hp;obtain ⟨hl,hm,hi0,hi1⟩:=hp;have hb:=xdg;refine ⟨by rw [xa9];simp;omega,?_⟩;rw [show xal C (xah xFc xFl xFb) 105 (xaa C.P 105 2) 0 xAl [l,m,i]=_ from xZs l m i];obtain ⟨k,hk⟩:∃ k:Nat,i.I=k:=⟨i.I.toNat,by omega⟩;simp only [hk,hm,Int.toNat_natCast,Nat.reduceAdd,xfh] at h hi0 hi1 ⊢;refine xa2 (fun hlt=>?_) fun hge=>xao (xEm h (by omega))
  obtain ⟨s1,s2⟩:=xA5 h (by omega:k<l.L.length);refine xac (by omega) (xcm (fun c=>xao (s1 c)) fun c=>?_);rw [xbd (by omega)];exact xaj ((xam ⟨hl,rfl,by simp only [I_i];omega,by simp only [I_i,L_l];omega⟩).trans (s2 c)) (show ((l.L.length:Int) - ((k+1:Nat):Int)).toNat<(m.I - i.I).toNat by omega)
 ·cases h
theorem yf3 (n:Nat):xbo C (n+3) 105 (mkF xTy xV2):=by
 refine xbk hC (sp:=xFc) (lp:=xFl) (sw:=xFb) ⟨xT6 n,trivial⟩ trivial (by kernel_rfl) [2] (by kernel_rfl) (by kernel_rfl) (fun k hk L hL=>by simp at hk;subst hk;cases hL;exact xYo n) fun ds rr h=>?_
 unfold xV2 at h;split at h
 ·rename_i l;obtain ⟨hp,h⟩:=xab h;rw [xad] at hp;refine (congrArg T.run (ygo l)).trans ?_;rw [<- h];simp only [Int.toNat_zero,Nat.sub_zero];refine xai ⟨hp,trivial,by omega,by omega⟩ (xdk (fun c=>rfl) fun c=>?_);rw [xnt (by omega)]
 ·cases h
theorem ybs (n:Nat):xbo C (n+4) 73 (mkF s73 G73):=by
 refine xbk hC (sp:=yar) (lp:=yc1) (sw:=xZw) ⟨yf3 n,xT6 (n+1),trivial⟩ trivial (by kernel_rfl) [] (by kernel_rfl) rfl (fun k hk=>by cases hk) fun ds rr h=>?_
 unfold G73 at h;split at h
 ·rename_i l;obtain ⟨hp,h⟩:=xab h;rw [xad] at hp;refine (congrArg T.run (t73 l)).trans ?_;rw [<- h];refine xai hp ?_;rw [xnu];simp only [Bool.not_not];rfl
 ·cases h
theorem yb2 (n:Nat):xbo C (n+5) 43 (mkF s43 G43):=by
 have hb:=xdg;refine xbk hC (sp:=ya6) (lp:=ydg) (sw:=yab) ⟨xx3 (n+3),ybs n,trivial⟩ trivial (by kernel_rfl) [] (by kernel_rfl) rfl (fun k hk=>by cases hk) fun ds rr hh=>?_
 unfold G43 at hh;split at hh
 ·rename_i a b c d e f g h;refine (congrArg T.run (t43 a b c d e f g h)).trans ?_;rw [<- hh,xK1];simp only [xd0];refine xd6 (fun c1=>?_) fun c1=>xd6 (fun c2=>?_) fun c2=>xd6 (fun c3=>?_) fun c3=>xd6 (fun c4=>?_) fun c4=>xd6 (fun c5=>?_) fun c5=>xd6 (fun c6=>?_) fun c6=>xdk (fun c7=>by rw [decide_eq_false (by omega)];rfl) fun c7=>?_
  ·have c1:=of_decide_eq_false c1;rw [decide_eq_false (by omega)];rfl
  ·have c2:=of_decide_eq_false c2;rw [decide_eq_false (by omega)];rfl
  ·have c3:=of_decide_eq_false c3;rw [decide_eq_false (by omega)];rfl
  ·have c4:=of_decide_eq_false c4;rw [decide_eq_false (by omega)];rfl
  ·have c5:=of_decide_eq_false c5;rw [decide_eq_false (by omega)];rfl
  ·have c6:=of_decide_eq_false c6;rw [decide_eq_false (by omega)];rfl
  ·have c1:=of_decide_eq_true c1;have c2:=of_decide_eq_true c2;have c3:=of_decide_eq_true c3;have c4:=of_decide_eq_true c4;have c5:=of_decide_eq_true c5;have c6:=of_decide_eq_true c6;rw [decide_eq_true (by omega),Bool.true_and];refine xcx rfl ?_;cases he:e.B with
   | true=>exact xcx rfl rfl
   | false=>
     refine xaq rfl (xcx rfl (xhc (fun k1=>?_) fun k1=>xhc (fun k2=>?_) fun k2=>xaq rfl (xai (by omega) ?_)))
     ·rw [decide_eq_false fun h=>xm8 k1 h.1];rfl
     ·rw [decide_eq_false fun h=>xm8 k2 h.2];rfl
     ·rw [decide_eq_true ⟨xkp k1,xkp k2⟩,Bool.not_not];rfl
 ·cases hh
theorem xRk (n:Nat):xbo C (n+5) 43 (mkF xNe xQd):=by
 have hb:=xdg;refine xbk hC (sp:=xQw) (lp:=xRt) (sw:=xQq) ⟨xx3 (n+3),ybs n,trivial⟩ trivial (by kernel_rfl) [] (by kernel_rfl) rfl (fun k hk=>by cases hk) fun ds rr hh=>?_
 unfold xQd at hh;split at hh
 ·rename_i a b c d e f g h q1 q2 q3 p q5 q6 q7 q8;refine (congrArg T.run (yft a b c d e f g h q1 q2 q3 p q5 q6 q7 q8)).trans ?_;rw [<- hh,xK1];simp only [xd0];refine xd6 (fun c1=>?_) fun c1=>xd6 (fun c2=>?_) fun c2=>xd6 (fun c3=>?_) fun c3=>xd6 (fun c4=>?_) fun c4=>xd6 (fun c5=>?_) fun c5=>xd6 (fun c6=>?_) fun c6=>xdk (fun c7=>by rw [decide_eq_false (by omega)];rfl) fun c7=>?_
  ·have c1:=of_decide_eq_false c1;rw [decide_eq_false (by omega)];rfl
  ·have c2:=of_decide_eq_false c2;rw [decide_eq_false (by omega)];rfl
  ·have c3:=of_decide_eq_false c3;rw [decide_eq_false (by omega)];rfl
  ·have c4:=of_decide_eq_false c4;rw [decide_eq_false (by omega)];rfl
  ·have c5:=of_decide_eq_false c5;rw [decide_eq_false (by omega)];rfl
  ·have c6:=of_decide_eq_false c6;rw [decide_eq_false (by omega)];rfl
  ·have c1:=of_decide_eq_true c1;have c2:=of_decide_eq_true c2;have c3:=of_decide_eq_true c3;have c4:=of_decide_eq_true c4;have c5:=of_decide_eq_true c5;have c6:=of_decide_eq_true c6;rw [decide_eq_true (by omega),Bool.true_and];refine xaq rfl ?_;cases he:e.B with
   | true=>
     refine xaq rfl (xai (by omega) ?_);rw [Bool.not_not];rfl
   | false=>
     refine xcx rfl (xhc (fun k1=>?_) fun k1=>xhc (fun k2=>?_) fun k2=>xcx rfl (xhc (fun k3=>?_) fun k3=>xai (by omega) ?_))
     ·rw [decide_eq_false fun h=>xm8 k1 h.1];rfl
     ·rw [decide_eq_false fun h=>xm8 k2 h.2];rfl
     ·rw [decide_eq_true ⟨xkp k1,xkp k2⟩,decide_eq_false (xm8 k3)];rfl
     ·rw [decide_eq_true ⟨xkp k1,xkp k2⟩,decide_eq_true (xkp k3),Bool.not_not];rfl
 ·cases hh
def yg4:List D->Nat
 | [_,_,m,i,_,_,_]=>(m.I - i.I).toNat
 | [_,_,_,_,_,_,_,_,_,_,m,i,_,_,_]=>(m.I - i.I).toNat
 | _=>0
theorem ycs (n:Nat):xct C (n+5) 17 (xaa C.P 17 5) (mkL xv1 xP8):=by
 refine xbb hC (sp:=xG5) (lp:=xH4) (sw:=xGt) ⟨xx3 (n+4),xR7 (yb2 n) (xRk n),trivial⟩ trivial 0 [] (by kernel_rfl) rfl (fun k hk=>by cases hk) (by kernel_rfl) yg4 fun ds rr hh=>?_
 unfold xP8 at hh;split at hh
 ·rename_i j w m i x y w';obtain ⟨hp,hh⟩:=xab hh;rw [xad] at hp;obtain ⟨hj,hw,hl,hm,hi⟩:=hp;refine ⟨by rw [xa9];show (m.I - i.I).toNat<_;omega,?_⟩;rw [xar (j:=j) (n:=0) hj (by decide),show xal C (xah xG5 xH4 xGt) 17 (xaa C.P 17 5) 0 xv1 [.i 0,w,m,i,x,y,w']=_ from xXx w m i x y w'];simp only [hi,hm,hw,Int.toNat_zero,Nat.reduceAdd,xfh,xJc,xlz,xK0] at hh ⊢;refine xa2 (fun hlt=>?_) fun hge=>?_
  ·have hkl:0<w.L.length:=by omega
   rw [show w.L.length=w.L.length - 0 by omega] at hh;obtain ⟨s1,s2⟩:=xet hh hkl;refine xac (by omega) (xlt (fun c=>xao (s1 ?_)) fun c=>xac (by omega) ?_)
   ·exact c
   ·have hw1:IntKind.i64.wrap (0+1)=((0+1:Nat):Int):=by rw [xas (by omega) (by omega)];rfl
    rw [hw1];exact xaj ((xam ⟨rfl,rfl,hl,rfl,by simp only [I_i];omega,by simp only [I_i,L_l];omega,rfl⟩).trans (s2 c)) (show ((w.L.length:Int) - ((0+1:Nat):Int)).toNat<(m.I - i.I).toNat by omega)
  ·rw [show w.L.length=0 by omega] at hh;exact xao hh
 ·rename_i j g1 g2 g3 g g5 g6 g7 g8 w m i x y w';obtain ⟨hp,hh⟩:=xab hh;rw [xad] at hp;obtain ⟨hj,hw,hl,hm,hi0,hi1,hg⟩:=hp;refine ⟨by rw [xa9];show (m.I - i.I).toNat<_;omega,?_⟩;rw [xar (j:=j) (n:=1) hj (by decide),show xal C (xah xG5 xH4 xGt) 17 (xaa C.P 17 5) 0 xv1 [.i 1,g1,g2,g3,g,g5,g6,g7,g8,w,m,i,x,y,w']=_ from xXw g1 g2 g3 g g5 g6 g7 g8 w m i x y w'];obtain ⟨k,hk⟩:∃ k:Nat,i.I=((k+1:Nat):Int):=⟨i.I.toNat - 1,by omega⟩;have hi1':k+1<=w.L.length:=by omega
  simp only [hk,hm,hw,hg,Int.toNat_natCast,Nat.reduceAdd,Nat.add_sub_cancel,xfh,xJc,xlz,xK0] at hh ⊢;refine xa2 (fun hlt=>?_) fun hge=>?_
  ·have hkl:k+1<w.L.length:=by omega
   obtain ⟨s1,s2⟩:=xet hh hkl;refine xac (by omega) (xlt (fun c=>xao (s1 ?_)) fun c=>xac (by omega) ?_)
   ·exact c
   ·rw [xbd (by omega)];exact xaj ((xam ⟨rfl,rfl,hl,rfl,by simp only [I_i];omega,by simp only [I_i,L_l];omega,rfl⟩).trans (s2 c)) (show ((w.L.length:Int) - ((k+1+1:Nat):Int)).toNat<(m.I - i.I).toNat by omega)
  ·rw [show w.L.length - (k+1)=0 by omega] at hh;exact xao hh
 ·cases hh
theorem xUj (n:Nat):xbo C (n+6) 17 (mkF s17 G17):=by
 refine xbk hC (sp:=xG5) (lp:=xH4) (sw:=xGt) ⟨xx3 (n+4),xR7 (yb2 n) (xRk n),trivial⟩ trivial (by kernel_rfl) [5] (by kernel_rfl) (by kernel_rfl) (fun k hk L hL=>by simp at hk;subst hk;cases hL;exact ycs n) fun ds rr h=>?_
 unfold G17 at h;split at h
 ·rename_i c f w;refine (congrArg T.run (t17 c f w)).trans ?_;rw [<- h];have hH:∀ b:Bool,xFg c.I f.I w.L=b->xaw c.I f.I w.L=(b && xay (xon w.L) 0 w.L.length):=fun b e=>by unfold xaw;rw [e]
  have f1:¬ ((1<=c.I/\c.I<=200)/\(1<=w.L.length/\w.L.length<=60)/\0<=f.I/\f.I<=100000)->xaw c.I f.I w.L=false:=fun h=>hH false (decide_eq_false h)
  simp only [xd0];refine xd6 (fun c1=>?_) fun c1=>xd6 (fun c2=>?_) fun c2=>xd6 (fun c3=>?_) fun c3=>?_
  ·have c1:=of_decide_eq_false c1;rw [f1 (by omega)];rfl
  ·have c2:=of_decide_eq_false c2;rw [f1 (by omega)];rfl
  ·have c3:=of_decide_eq_false c3;rw [f1 (by omega)];rfl
  ·have c1:=of_decide_eq_true c1;have c2:=of_decide_eq_true c2;have c3:=of_decide_eq_true c3;rw [hH true (decide_eq_true (by omega)),Bool.true_and];exact xai ⟨trivial,trivial,by omega,trivial,trivial⟩ (xhc (fun c=>by rw [c];rfl) fun c=>by rw [c];rfl)
 ·cases h
theorem xHr (n:Nat):xbo C (n+2) 50 (mkF s50 G50):=by
 refine xbk hC (sp:=ya3) (lp:=ydd) (sw:=xZ8) ⟨xx3 n,trivial⟩ trivial (by kernel_rfl) [] (by kernel_rfl) rfl (fun k hk=>by cases hk) fun ds r h=>?_
 unfold G50 at h;split at h
 ·rename_i t;exact (congrArg T.run (t50 t)).trans h
 ·cases h
theorem xNv (n:Nat):xbo C (n+3) 75 (mkF s75 G75):=by
 refine xbk hC (sp:=yap) (lp:=ycz) (sw:=xZu) ⟨xHr n,trivial⟩ trivial (by kernel_rfl) [] (by kernel_rfl) rfl (fun k hk=>by cases hk) fun ds r h=>?_
 unfold G75 at h;split at h
 ·rename_i t;exact (congrArg T.run (t75 t)).trans h
 ·cases h
theorem xGn (l:List (List D)) (k:Nat):xi3 l k=xa0 (rg l k) 0 1000000000:=by unfold xi3;rw [xd0]
theorem xUi (n:Nat):xct C (n+3) 76 (xaa C.P 76 2) (mkL xvz xC2):=by
 refine xbb hC (sp:=xzg) (lp:=xz6) (sw:=xy5) ⟨xNv n,xHr (n+1),trivial⟩ trivial 0 [] (by kernel_rfl) rfl (fun k hk=>by cases hk) (by kernel_rfl) (fun ds=>((ds.getD 1 default).I - (ds.getD 2 default).I).toNat) fun ds rr h=>?_
 unfold xC2 at h;split at h
 ·rename_i l m i;obtain ⟨hp,h⟩:=xab h;rw [xad] at hp;obtain ⟨hl,hm,hi0,hi1⟩:=hp;have hb:=xdg;refine ⟨by rw [xa9];simp;omega,?_⟩;rw [show xal C (xah xzg xz6 xy5) 76 (xaa C.P 76 2) 0 xvz [l,m,i]=_ from xXs l m i];obtain ⟨k,hk⟩:∃ k:Nat,i.I=k:=⟨i.I.toNat,by omega⟩;simp only [hk,hm,Int.toNat_natCast,xHg] at h hi0 hi1 ⊢;refine xa2 (fun hlt=>?_) fun hge=>xao (xEm h (by omega))
  obtain ⟨s1,s2⟩:=xA5 h (by omega:k<l.L.length);refine xac (by omega) (xcm (fun c=>xao (s1 (by rw [xGn];exact c))) fun c=>?_);rw [xbd (by omega)];exact xaj ((xam ⟨hl,rfl,by simp only [I_i];omega,by simp only [I_i,L_l];omega⟩).trans (s2 (by rw [xGn];exact c))) (show ((l.L.length:Int) - ((k+1:Nat):Int)).toNat<(m.I - i.I).toNat by omega)
 ·cases h
theorem yck (n:Nat):xbo C (n+4) 76 (mkF xNa xP4):=by
 refine xbk hC (sp:=xzg) (lp:=xz6) (sw:=xy5) ⟨xNv n,xHr (n+1),trivial⟩ trivial (by kernel_rfl) [2] (by kernel_rfl) (by kernel_rfl) (fun k hk L hL=>by simp at hk;subst hk;cases hL;exact xUi n) fun ds rr h=>?_
 unfold xP4 at h;split at h
 ·rename_i l;obtain ⟨hp,h⟩:=xab h;rw [xad] at hp;refine (congrArg T.run (yfn l)).trans ?_;rw [<- h];simp only [Int.toNat_zero,Nat.sub_zero];refine xai ⟨hp,trivial,by omega,by omega⟩ (xdk (fun c=>rfl) fun c=>?_);rw [xnt (by omega)]
 ·cases h
theorem ycl (n:Nat):xbo C (n+5) 51 (mkF xNb xP5):=by
 refine xbk hC (sp:=xQv) (lp:=xRs) (sw:=xQp) ⟨yck n,xNv (n+1),xHr (n+2),trivial⟩ trivial (by kernel_rfl) [] (by kernel_rfl) rfl (fun k hk=>by cases hk) fun ds rr h=>?_
 unfold xP5 at h;split at h
 ·rename_i l;obtain ⟨hp,h⟩:=xab h;rw [xad] at hp;refine (congrArg T.run (yfo l)).trans ?_;rw [<- h];refine xai hp ?_;rw [xnu];simp only [Bool.not_not]
 ·cases h
theorem ygx (n:Nat):xbo C (n+6) 49 (mkF s49 G49):=by
 refine xbk hC (sp:=ya4) (lp:=yde) (sw:=xZ9) ⟨ycl n,xHr (n+3),xNv (n+2),trivial⟩ trivial (by kernel_rfl) [] (by kernel_rfl) rfl (fun k hk=>by cases hk) fun ds rr h=>?_
 unfold G49 at h;split at h
 ·rename_i l;obtain ⟨hp,h⟩:=xab h;rw [xad] at hp;refine (congrArg T.run (t49 l)).trans ?_;rw [<- h,Bool.not_not];exact xai hp rfl
 ·cases h
theorem ygz (n:Nat):xbo C (n+7) 21 (mkF s21 G21):=by
 refine xbk hC (sp:=ybe) (lp:=ydo) (sw:=yaj) ⟨ygx n,trivial⟩ trivial (by kernel_rfl) [] (by kernel_rfl) rfl (fun k hk=>by cases hk) fun ds rr h=>?_
 unfold G21 at h;split at h
 ·rename_i l m;obtain ⟨hp,h⟩:=xab h;rw [xad] at hp;refine (congrArg T.run (t21 l m)).trans ?_;rw [<- h];unfold xnb;refine xhc (fun c=>xai hp ?_) fun c=>?_
  ·rw [decide_eq_true (eq_of_beq c),Bool.true_and]
  ·rw [decide_eq_false (ne_of_beq_false c)];rfl
 ·cases h
theorem xdt {c f:Int} {w:List (List D)} (h:xaw c f w=true) {k:Nat} (hk:k<w.length):xBq (w.getD k [])=true/\xkn (lx (w.getD k []) 7)=true:=by
 unfold xaw at h;rw [Bool.and_eq_true,xdz] at h;have:=h.2 k (Nat.zero_le _) (by omega);unfold xon xqg at this;rw [Bool.and_eq_true,Bool.and_eq_true] at this;exact ⟨this.1,this.2.2⟩
theorem xb1 {c f:Int} {w:List (List D)} (h:xaw c f w=true):(1<=c/\c<=200)/\(1<=w.length/\w.length<=60)/\0<=f/\f<=100000:=by
 unfold xaw xFg at h;rw [Bool.and_eq_true,decide_eq_true_iff] at h;exact h.1
theorem xdh {c:List D} (h:xBq c=true):(1<=ix c 0/\ix c 0<=1000)/\(0<=ix c 1/\ix c 1<=600)/\(0<=ix c 2/\ix c 2<=600)/\(1<=ix c 3/\ix c 3<=60)/\(0<=ix c 5/\ix c 5<=ix c 6)/\ix c 6<=1000/\(lx c 7).length<=10:=of_decide_eq_true h
theorem xqw {c f:Int} {w:List (List D)} (h:xaw c f w=true) {k:Nat} (hk:k<w.length):0<=xnz c (w.getD k [])/\xnz c (w.getD k [])<=12000:=by
 have h1:=(xb1 h).1;have h2:=(xdh (xdt h hk).1).2.2.2.1;unfold xnz;constructor
 ·exact Int.mul_nonneg (by omega) (by omega)
 ·have:=Int.mul_le_mul (show c - 1<=200 by omega) (show ix (w.getD k []) 3<=60 by omega) (by omega) (by omega);omega
theorem xUc (n:Nat):xbo C (n+1) 48 (mkF s48 G48):=by
 refine xbk hC (sp:=ya5) (lp:=ydf) (sw:=yaa) trivial trivial (by kernel_rfl) [] (by kernel_rfl) rfl (fun k hk=>by cases hk) fun ds rr h=>?_
 unfold G48 at h;split at h
 ·rename_i c f w j;obtain ⟨hp,h⟩:=xab h;rw [xad] at hp;refine (congrArg T.run (t48 c f w j)).trans (xau ⟨hp.2.1,hp.2.2⟩ ?_);rw [<- h];have h1:=xb1 hp.1;have h2:=xqw hp.1 (k:=j.I.toNat) (by omega);have h3:=xdh (xdt hp.1 (k:=j.I.toNat) (by omega)).1;unfold xc0;unfold xnz at h2 ⊢;simp only [Nat.reduceAdd,xfh];rw [xas (x:=c.I - 1) (by omega) (by omega),xas (x:=(c.I - 1)*ix (w.L.getD j.I.toNat []) 3) (by omega) (by omega),xas (x:=(c.I - 1)*ix (w.L.getD j.I.toNat []) 3+ix (w.L.getD j.I.toNat []) 0) (by omega) (by omega),xas (by omega) (by omega)]
 ·cases h
set_option maxRecDepth 100000
theorem xS7 {l:List (List D)} {n:Int} (h:xnb l n=true):(l.length:Int)=n/\∀ k,k<l.length->0<=rg l k/\rg l k<=1000000000:=by
 unfold xnb at h;rw [Bool.and_eq_true,decide_eq_true_iff,xdz] at h;exact ⟨h.1,fun k hk=>of_decide_eq_true (h.2 k (Nat.zero_le _) (by omega))⟩
theorem xYj (n:Nat):xct C (n+1) 14 (xaa C.P 14 12) (mkL xAk xJ4):=by
 refine xbb hC (sp:=xB1) (lp:=xB7) (sw:=xBy) ⟨xUf n,trivial⟩ trivial 0 [] (by kernel_rfl) rfl (fun k hk=>by cases hk) (by kernel_rfl) (fun ds=>(((ds.getD 12 default).L.length:Int) - (ds.getD 1 default).I).toNat) fun ds rr h=>?_
 unfold xJ4 at h;split at h
 ·rename_i i j c f w e1 e2 e3 e4 e5 e6 e7 l;obtain ⟨hp,h⟩:=xab h;rw [xad] at hp;obtain ⟨hl,hi0,hi1⟩:=hp;have hb:=xdg;refine ⟨by rw [xa9];simp;omega,?_⟩;rw [show xal C (xah xB1 xB7 xBy) 14 (xaa C.P 14 12) 0 xAk [i,j,c,f,w,e1,e2,e3,e4,e5,e6,e7,l]=_ from xZr i j c f w e1 e2 e3 e4 e5 e6 e7 l];obtain ⟨k,hk⟩:∃ k:Nat,j.I=k:=⟨j.I.toNat,by omega⟩;simp only [hk,Int.toNat_natCast,Nat.reduceAdd,xfh,xd0] at h hi0 hi1 ⊢;refine xa2 (fun hlt=>?_) fun hge=>xao (xmx h (by omega))
  obtain ⟨s1,s2⟩:=xet h (by omega:k<l.L.length);have e0:xik l.L k=decide ((0<=ix (l.L.getD k []) 0/\ix (l.L.getD k []) 0<=ix (l.L.getD k []) 1)/\ix (l.L.getD k []) 1<=200000/\0<=ix (l.L.getD k []) 2/\ix (l.L.getD k []) 2<=200000):=rfl;rw [e0] at s1 s2;refine xac (by omega) (xlt (fun c1=>xao (s1 ?_)) fun c1=>xa2 (fun c2=>xao (s1 (decide_eq_false (by omega)))) fun c2=>xlt (fun c3=>xao (s1 ?_)) fun c3=>?_)
  ·have c1:=of_decide_eq_false c1;exact decide_eq_false (by omega)
  ·have c3:=of_decide_eq_false c3;exact decide_eq_false (by omega)
  ·have c1:=of_decide_eq_true c1;have c3:=of_decide_eq_true c3;rw [xbd (by omega)];exact xaj ((xam ⟨hl,by simp only [I_i];omega,by simp only [I_i,L_l];omega⟩).trans (s2 (decide_eq_true (by omega)))) (show ((l.L.length:Int) - ((k+1:Nat):Int)).toNat<((l.L.length:Int) - j.I).toNat by omega)
 ·cases h
theorem yct (n:Nat):xct C (n+1) 14 (xaa C.P 14 4) (mkL xF3 xGg):=by
 refine xbb hC (sp:=xB1) (lp:=xB7) (sw:=xBy) ⟨xUf n,trivial⟩ trivial 0 [12] (by kernel_rfl) (by kernel_rfl) (fun k hk L hL=>by simp at hk;subst hk;cases hL;exact xYj n) (by kernel_rfl) (fun ds=>(((ds.getD 3 default).L.length:Int) - (ds.getD 0 default).I).toNat) fun ds rr h=>?_
 unfold xGg at h;split at h
 ·rename_i i a b w;obtain ⟨hp,h⟩:=xab h;rw [xad] at hp;obtain ⟨hl,hi0,hi1⟩:=hp;have hb:=xdg;refine ⟨by rw [xa9];simp;omega,?_⟩;rw [show xal C (xah xB1 xB7 xBy) 14 (xaa C.P 14 4) 0 xF3 [i,a,b,w]=_ from yfp i a b w];obtain ⟨k,hk⟩:∃ k:Nat,i.I=k:=⟨i.I.toNat,by omega⟩;simp only [hk,Int.toNat_natCast,Int.toNat_zero,Nat.sub_zero,Nat.reduceAdd,xfh,xJc,xlz,xd0] at h hi0 hi1 ⊢;refine xa2 (fun hlt=>?_) fun hge=>xao (xmx h (by omega))
  obtain ⟨s1,s2⟩:=xet h (by omega:k<w.L.length);have e0:xon w.L k=(xBq (w.L.getD k []) && (xpa (w.L.getD k []) (k == 0) (ix (w.L.getD (k - 1) []) 3) && xkn (lx (w.L.getD k []) 7))):=rfl;rw [e0] at s1 s2;have hmu:((w.L.length:Int) - ((k+1:Nat):Int)).toNat<((w.L.length:Int) - i.I).toNat:=by omega
  have f1:¬ ((1<=ix (w.L.getD k []) 0/\ix (w.L.getD k []) 0<=1000)/\(0<=ix (w.L.getD k []) 1/\ix (w.L.getD k []) 1<=600)/\(0<=ix (w.L.getD k []) 2/\ix (w.L.getD k []) 2<=600)/\(1<=ix (w.L.getD k []) 3/\ix (w.L.getD k []) 3<=60) /\
      (0<=ix (w.L.getD k []) 5/\ix (w.L.getD k []) 5<=ix (w.L.getD k []) 6)/\ix (w.L.getD k []) 6<=1000/\(lx (w.L.getD k []) 7).length<=10)->some (Ex.ret,[D.b false])=some rr:=fun h=>s1 (by rw [show xBq (w.L.getD k [])=false from decide_eq_false h];rfl)
  refine xac (by omega) (xlt (fun c1=>?_) fun c1=>xlt (fun c2=>?_) fun c2=>xlt (fun c3=>?_) fun c3=>xlt (fun c4=>?_) fun c4=>xa2 (fun c5=>xao (f1 (by omega))) fun c5=>xlt (fun c6=>?_) fun c6=>xa2 (fun c7=>xao (f1 (by omega))) fun c7=>?_)
  ·have c1:=of_decide_eq_false c1;exact xao (f1 (by omega))
  ·have c2:=of_decide_eq_false c2;exact xao (f1 (by omega))
  ·have c3:=of_decide_eq_false c3;exact xao (f1 (by omega))
  ·have c4:=of_decide_eq_false c4;exact xao (f1 (by omega))
  ·have c6:=of_decide_eq_false c6;exact xao (f1 (by omega))
  ·have c1:=of_decide_eq_true c1;have c2:=of_decide_eq_true c2;have c3:=of_decide_eq_true c3;have c4:=of_decide_eq_true c4;have c6:=of_decide_eq_true c6;rw [show xBq (w.L.getD k [])=true from decide_eq_true (by omega),Bool.true_and] at s1 s2;have f2:xpa (w.L.getD k []) (k == 0) (ix (w.L.getD (k - 1) []) 3)=false->some (Ex.ret,[D.b false])=some rr:=fun h=>s1 (by rw [h];rfl)
   have f3:xpa (w.L.getD k []) (k == 0) (ix (w.L.getD (k - 1) []) 3)=true->(xay (xik (lx (w.L.getD k []) 7)) 0 (lx (w.L.getD k []) 7).length=false->some (Ex.ret,[D.b false])=some rr) /\
       (xay (xik (lx (w.L.getD k []) 7)) 0 (lx (w.L.getD k []) 7).length=true->(xGg [.i ((k+1:Nat):Int),.i a.I,.i b.I,.l w.L]).run=some rr):=fun h=>by
    rw [h,Bool.true_and] at s1 s2;exact ⟨s1,fun h'=>(xam ⟨hl,by simp only [I_i];omega,by simp only [I_i,L_l];omega⟩).trans (s2 h')⟩
   rw [xbd (by omega)];refine xcm (fun k0=>?_) fun k0=>?_
   ·have k0:k=0:=by have:=eq_of_beq k0;omega
    subst k0;cases hb4:bx (w.L.getD 0 []) 4 with
    | true=>exact xiy rfl (xao (f2 (by unfold xpa;rw [hb4];rfl)))
    | false=>
      have g1:∀ q:Bool,decide (ix (w.L.getD 0 []) 5=0/\ix (w.L.getD 0 []) 6=0)=q->xpa (w.L.getD 0 []) (0 == 0) (ix (w.L.getD (0 - 1) []) 3)=q:=fun q e=>by
       unfold xpa;rw [hb4,e];cases q <;> rfl
      refine xbr rfl (xiy rfl (xcm (fun k1=>xao (f2 (g1 _ (decide_eq_false fun h=>xm8 k1 h.1)))) fun k1=>xcm (fun k2=>xao (f2 (g1 _ (decide_eq_false fun h=>xm8 k2 h.2)))) fun k2=>xem (by omega) ?_));obtain ⟨f4,f5⟩:=f3 (g1 _ (decide_eq_true ⟨xkp k1,xkp k2⟩));exact xbe ⟨by omega,by first | trivial | omega,by omega⟩ (xcm (fun q=>xaj (f5 q) hmu) fun q=>xao (f4 q))
   ·have k0:k≠0:=by
     rintro rfl
     cases k0
    have k0':(k == 0)=false:=beq_eq_false_iff_ne.2 k0;have hw1:IntKind.i64.wrap ((k:Int) - 1)=((k - 1:Nat):Int):=by rw [xas (by omega) (by omega)];omega
    rw [hw1];cases hb4:bx (w.L.getD k []) 4 with
    | true=>
      obtain ⟨f4,f5⟩:=f3 (by unfold xpa;rw [hb4,k0'];rfl);exact xbr rfl (xbe ⟨by omega,by first | trivial | omega,by omega⟩ (xcm (fun q=>xaj (f5 q) hmu) fun q=>xao (f4 q)))
    | false=>
      have g1:∀ q:Bool,decide (ix (w.L.getD k []) 5=0/\ix (w.L.getD k []) 6=0)=q->xpa (w.L.getD k []) (k == 0) (ix (w.L.getD (k - 1) []) 3)=(q && decide (ix (w.L.getD k []) 3=ix (w.L.getD (k - 1) []) 3)):=fun q e=>by
       unfold xpa;rw [hb4,e,k0'];rfl
      refine xiy rfl (xcm (fun k1=>xao (f2 (by rw [g1 _ (decide_eq_false fun h=>xm8 k1 h.1)];rfl))) fun k1=>xcm (fun k2=>xao (f2 (by rw [g1 _ (decide_eq_false fun h=>xm8 k2 h.2)];rfl))) fun k2=>xgl (by omega) (xac (by omega) ?_));have g2:=g1 _ (decide_eq_true ⟨xkp k1,xkp k2⟩);rw [Bool.true_and] at g2;rw [Int.toNat_natCast];refine xcm (fun k3=>xao (f2 (by rw [g2];exact decide_eq_false (xm8 k3)))) fun k3=>?_
      obtain ⟨f4,f5⟩:=f3 (by rw [g2];exact decide_eq_true (xkp k3));exact xbe ⟨by omega,by first | trivial | omega,by omega⟩ (xcm (fun q=>xaj (f5 q) hmu) fun q=>xao (f4 q))
 ·cases h
theorem ycu (n:Nat):xbo C (n+2) 14 (mkF s14 G14):=by
 refine xbk hC (sp:=xB1) (lp:=xB7) (sw:=xBy) ⟨xUf n,trivial⟩ trivial (by kernel_rfl) [4] (by kernel_rfl) (by kernel_rfl) (fun k hk L hL=>by simp at hk;subst hk;cases hL;exact yct n) fun ds rr h=>?_
 unfold G14 at h;split at h
 ·rename_i c f w;refine (congrArg T.run (t14 c f w)).trans ?_;rw [<- h];have hH:∀ b:Bool,xFg c.I f.I w.L=b->xaw c.I f.I w.L=(b && xay (xon w.L) 0 w.L.length):=fun b e=>by unfold xaw;rw [e]
  have f1:¬ ((1<=c.I/\c.I<=200)/\(1<=w.L.length/\w.L.length<=60)/\0<=f.I/\f.I<=100000)->xaw c.I f.I w.L=false:=fun h=>hH false (decide_eq_false h)
  simp only [xd0,Int.toNat_zero,Nat.sub_zero];refine xd6 (fun c1=>?_) fun c1=>xd6 (fun c2=>?_) fun c2=>xd6 (fun c3=>?_) fun c3=>?_
  ·have c1:=of_decide_eq_false c1;rw [f1 (by omega)]
  ·have c2:=of_decide_eq_false c2;rw [f1 (by omega)]
  ·have c3:=of_decide_eq_false c3;rw [f1 (by omega)]
  ·have c1:=of_decide_eq_true c1;have c2:=of_decide_eq_true c2;have c3:=of_decide_eq_true c3;rw [hH true (decide_eq_true (by omega)),Bool.true_and];exact xai ⟨by omega,by first | trivial | omega,by omega⟩ (xhc (fun c=>by rw [c]) fun c=>by rw [c])
 ·cases h
theorem ok8 (n:Nat):xbo C (n+8) 8 (mkF s8 G8):=by
 refine xbk hC (sp:=sp8) (lp:=lp8) (sw:=sw8) ⟨xUj (n+1),ygz n,xx3 (n+6),trivial⟩ trivial (by kernel_rfl) [] (by kernel_rfl) rfl (fun k hk=>by cases hk) fun ds rr h=>?_
 unfold G8 at h;split at h
 ·rename_i c f w du q1 q2 q3 car at';obtain ⟨hp,h⟩:=xab h;rw [xad] at hp;have hb:=xdg;refine (congrArg T.run (t8 c f w du q1 q2 q3 car at')).trans ?_;rw [<- h];unfold xpg;simp only [xd0,xfh,Nat.reduceAdd];cases hpl:xaw c.I f.I w.L with
  | false=>exact xcx rfl rfl
  | true =>
    have hlen:=xb1 hpl;have hl1:IntKind.i64.wrap ((w.L.length:Int) - 1)=(w.L.length:Int) - 1:=xas (by omega) (by omega);have hc1:IntKind.i64.wrap (c.I - 1)=c.I - 1:=xas (by omega) (by omega);have hl2:IntKind.i64.wrap ((w.L.length:Int)+1)=(w.L.length:Int)+1:=xas (by omega) (by omega);simp only [hl1,hl2,hc1];refine xaq rfl (xai hp (xd6 (fun k1=>by rw [k1];rfl) fun k1=>?_));obtain ⟨hd1,hd2⟩:=xS7 k1;rw [k1,Bool.true_and];refine xd6 (fun k2=>?_) fun k2=>xd6 (fun k3=>?_) fun k3=>?_
    ·have k2:=of_decide_eq_false k2;rw [decide_eq_false (show ¬ ((0<=car.I/\car.I<=c.I - 1)/\0<=at'.I/\at'.I<=(w.L.length:Int) - 1) by omega)];rfl
    ·have k3:=of_decide_eq_false k3;rw [decide_eq_false (show ¬ ((0<=car.I/\car.I<=c.I - 1)/\0<=at'.I/\at'.I<=(w.L.length:Int) - 1) by omega)];rfl
    ·have k2:=of_decide_eq_true k2;have k3:=of_decide_eq_true k3;rw [decide_eq_true (show (0<=car.I/\car.I<=c.I - 1)/\0<=at'.I/\at'.I<=(w.L.length:Int) - 1 by omega)];have d0:0<=ix (du.L.getD at'.I.toNat []) 0/\ix (du.L.getD at'.I.toNat []) 0<=1000000000:=hd2 _ (by omega);have w0:=xdh (xdt hpl (k:=at'.I.toNat) (by omega)).1;have hm:0<=car.I*ix (w.L.getD at'.I.toNat []) 3/\car.I*ix (w.L.getD at'.I.toNat []) 3<=12000:=by
      constructor
      ·exact Int.mul_nonneg (by omega) (by omega)
      ·have:=Int.mul_le_mul (show car.I<=200 by omega) (show ix (w.L.getD at'.I.toNat []) 3<=60 by omega) (by omega) (by omega);omega
     refine xau (by omega) (xau (by omega) (xau (by omega) ?_));unfold xb5 rg;rw [xas (x:=car.I*ix (w.L.getD at'.I.toNat []) 3) (by omega) (by omega),xas (x:=ix (du.L.getD at'.I.toNat []) 0+car.I*ix (w.L.getD at'.I.toNat []) 3) (by omega) (by omega),xas (by omega) (by omega)];rfl
 ·cases h
set_option maxRecDepth 100000
theorem xUr (a b c:Int):xjk kk3 [.i a,.i b,.i c] [[.i a,.i b,.i c,.b true]]=true:=by
 unfold xjk;simp only [xi8];rw [if_pos ((eq3 a b c [.i a,.i b,.i c,.b true]).2 ⟨rfl,rfl,rfl⟩)];rfl
theorem xUo (a b c:Int):(xjh kk3 [.i a,.i b,.i c] [[.i a,.i b,.i c,.b true]]).B=true:=by
 unfold xjh;simp only [xi8];rw [if_pos ((eq3 a b c [.i a,.i b,.i c,.b true]).2 ⟨rfl,rfl,rfl⟩)];rfl
theorem xUp (a b c:Int):(!(xjh kk3 [.i a,.i b,.i c] [[.i a,.i b,.i c,.b true]]).B)=false:=by rw [xUo];rfl
theorem xYg (n:Nat):xct C (n+7) 33 (xaa C.P 33 10) (mkL xq8 xJ1):=by
 refine xbb hC (sp:=xxq) (lp:=xx9) (sw:=xxk) ⟨xoz (n+6),xt7 (n+2),xx2 n,trivial⟩ trivial 0 [] (by kernel_rfl) rfl (fun k hk=>by cases hk) (by kernel_rfl) (fun ds=>if ds.length=14 then 0 else ((ds.getD 4 default).I - (ds.getD 5 default).I).toNat) fun ds rr h=>?_
 unfold xJ1 at h;split at h
 ·rename_i h0 L i x y kd k j v fr kd' k' j' m;obtain ⟨hp,h⟩:=xab h;rw [xad] at hp;obtain ⟨hh,hx,hy⟩:=hp;refine ⟨by rw [xa9];show (0:Nat)<_;omega,?_⟩;rw [xar (j:=h0) (n:=0) hh (by decide),show (xal C (xah xxq xx9 xxk) 33 (xaa C.P 33 10) 0 xq8 [.i 0,L,i,x,y,kd,k,j,v,fr,kd',k',j',m]).run=_ from xTa L i x y kd k j v fr kd' k' j' m];exact xem (by omega) (xao h)
 ·rename_i h0 L i nn x y kd k j v fr kd' k' j' m pr;obtain ⟨hp,h⟩:=xab h;rw [xad] at hp;obtain ⟨hh,hn,hx,hl,hpr,hy⟩:=hp;refine ⟨by rw [xa9];show (x.I - y.I).toNat<_;omega,?_⟩;rw [xar (j:=h0) (n:=1) hh (by decide),show (xal C (xah xxq xx9 xxk) 33 (xaa C.P 33 10) 0 xq8 [.i 1,L,i,nn,x,y,kd,k,j,v,fr,kd',k',j',m,pr]).run=_ from xS9 L i nn x y kd k j v fr kd' k' j' m pr];rcases hy with ⟨hy,hm⟩ | ⟨hy,hm⟩
  ·rw [hy,hm,hx,hn];refine xgl (by omega) (xac (by decide) (xac (by rw [hl];decide) ?_));exact xaj ((xam ⟨rfl,rfl,rfl,hl,hpr,.inr ⟨rfl,rfl⟩⟩).trans h) (show (1 - 1:Int).toNat<(x.I - y.I).toNat by rw [hx,hy];decide)
  ·rw [hy,hx];refine xem (by omega) (xao ?_);rw [hm];exact h
 ·cases h
theorem xYf (n:Nat):xct C (n+7) 33 (xaa C.P 33 20) (mkL xAj xJ0):=by
 refine xbb hC (sp:=xxq) (lp:=xx9) (sw:=xxk) ⟨xoz (n+6),xt7 (n+2),xx2 n,trivial⟩ trivial 0 [] (by kernel_rfl) rfl (fun k hk=>by cases hk) (by kernel_rfl) (fun ds=>((ds.getD 3 default).I - (ds.getD 4 default).I).toNat) fun ds rr h=>?_
 unfold xJ0 at h;split at h
 ·rename_i L i fl x y kd k j v fr m;obtain ⟨hp,h⟩:=xab h;rw [xad] at hp;obtain ⟨hx,hl,i0,i1,hL,hd⟩:=hp;refine ⟨by rw [xa9];show (x.I - y.I).toNat<_;rcases hd with hd | ⟨hd,-⟩ <;> omega,?_⟩;rw [show (xal C (xah xxq xx9 xxk) 33 (xaa C.P 33 20) 0 xAj [L,i,fl,x,y,kd,k,j,v,fr,m]).run=_ from xZp L i fl x y kd k j v fr m];refine xa2 (fun hlt=>?_) fun hge=>xao h
  rcases hd with hd | ⟨hy,f0,f1,hm⟩
  ·omega
  ·obtain ⟨f,hf⟩:∃ f:Nat,ix (fl.L.getD 0 []) 0=f:=⟨(ix (fl.L.getD 0 []) 0).toNat,by omega⟩;rw [hf] at f0 f1;rw [hf,Int.toNat_natCast] at hm;have e:((fl.L.getD 0 []).getD 0 default).I=(f:Int):=hf;have w:IntKind.wrap .i64 (i.I - 1)=i.I - 1:=xas (by omega) (by omega);have w1:IntKind.wrap .i64 (0+1)=1:=rfl;simp only [hy,Int.toNat_zero,e,Int.toNat_natCast,w,w1,hm];refine xac (by omega) (xbr (xkm (by omega)) (xem (by omega) (xac (by omega) (xac (by omega) (xac (by omega) (xiy (xUr _ _ _) (xbr (xUp _ _ _) ?_)))))));exact xaj ((xam ⟨hx,hl,i0,i1,hL,.inl (by simp only [I_i];omega)⟩).trans h) (show (x.I - 1).toNat<(x.I - y.I).toNat by omega)
 ·cases h
theorem yg8 {l cs:List (List D)} {la kd:Int} {k j:Nat} (h:xc7 l cs la kd k j=true):kd=4\/kd=7:=by
 unfold xc7 at h;rw [Bool.or_eq_true,decide_eq_true_eq,decide_eq_true_eq] at h;rcases h with h | h
 ·exact .inr h.1
 ·exact .inl h.1
theorem xJf (x:Int):(x != x)=false:=by simp
theorem yb8 (n:Nat):xbo C (n+8) 33 (mkF s33 G33):=by
 refine xbk hC (sp:=xxq) (lp:=xx9) (sw:=xxk) ⟨xoz (n+6),xt7 (n+2),xx2 n,trivial⟩ trivial (by kernel_rfl) [10,20] (by kernel_rfl) (by kernel_rfl) (fun k hk L hL=>by
  simp at hk;rcases hk with rfl | rfl
  ·cases hL;exact xYg n
  ·cases hL;exact xYf n) fun ds rr h=>?_
 unfold G33 at h;split at h
 ·rename_i l c la ea ml ll ju re mi no pe po pt ex cs ou L i;obtain ⟨hp,h⟩:=xab h;rw [xad] at hp;obtain ⟨hev,hL,⟨i0,i1⟩,hr⟩:=hp;obtain ⟨⟨l1,l2⟩,-⟩:=hev.1.1;obtain ⟨c1,c2⟩:=hev.2.1.1;refine (t33 l c la ea ml ll ju re mi no pe po pt ex cs ou L i).trans ?_;rw [<- h];obtain ⟨q,hq⟩:∃ q:Nat,i.I=q:=⟨i.I.toNat,by omega⟩;rw [hq,Int.toNat_natCast] at hr;rw [hq] at i0 i1;obtain ⟨⟨⟨d1,d7⟩,⟨k0,k1⟩,j0,j1⟩,hv,hval,hA,hB⟩:=hr;have r0:((L.L.getD q []).getD 0 default).I=ix (L.L.getD q []) 0:=rfl;have r1:((L.L.getD q []).getD 1 default).I=ix (L.L.getD q []) 1:=rfl;have r2:((L.L.getD q []).getD 2 default).I=ix (L.L.getD q []) 2:=rfl;have r3:((L.L.getD q []).getD 3 default).I=ix (L.L.getD q []) 3:=rfl;have r4:((L.L.getD q []).getD 4 default).L=lx (L.L.getD q []) 4:=rfl;have w1:IntKind.wrap .i64 ((cs.L.length:Int) - 1)=(cs.L.length:Int) - 1:=xas (by omega) (by omega);have w2:IntKind.wrap .i64 ((l.L.length:Int) - 1)=(l.L.length:Int) - 1:=xas (by omega) (by omega);have hkd:=yg8 hv;have h3:(ix (L.L.getD q []) 0 == 3)=false:=by rcases hkd with e | e <;> rw [e] <;> rfl
  simp only [hq,Int.toNat_natCast,Nat.reduceAdd,r0,r1,r2,r3,r4,w1,w2,hval,h3,xJf];refine xau (by omega) (xaq (xkm (by omega)) (xaq (xkm (by omega)) (xai ⟨hev,⟨d1,d7⟩,⟨k0,k1⟩,j0,j1⟩ (xv8 hv (xaq rfl (xai ⟨hev,hkd,⟨k0,k1⟩,j0,j1⟩ (xdk (fun c=>?_) fun c=>?_)))))))
  ·obtain ⟨f,hf,hfr,e0,e1,e2⟩:=hA c;have hl:(lx (L.L.getD q []) 4).length=1:=by rw [hfr];rfl
   have hf0:ix ((lx (L.L.getD q []) 4).getD 0 []) 0=(f:Int):=by rw [hfr];rfl
   refine xai ⟨by first | trivial | rfl,by first | trivial | rfl,by first | trivial | rfl,by first | trivial | rfl,by first | trivial | rfl,.inl ⟨by first | trivial | rfl,by first | trivial | rfl⟩⟩ (xaq rfl (xaq (by rw [hl];rfl) (xai ⟨by first | trivial | rfl,by omega,by omega,by omega,hL,.inr ⟨by trivial,by omega,by omega,?_⟩⟩ rfl)));rw [hf0,Int.toNat_natCast,e0,e1,e2];rfl
  ·have hl:(lx (L.L.getD q []) 4).length=0:=by rw [hB c];rfl
   exact xai ⟨by first | trivial | rfl,by first | trivial | rfl,by first | trivial | rfl⟩ (xaq rfl (xaq (by rw [hl];rfl) (xai ⟨by first | trivial | rfl,by omega,by omega,by omega,hL,.inl (by omega)⟩ rfl)))
 ·cases h
theorem xM7 {L:List (List D)} {i:Nat} (h:i<L.length):xn0 L (i+1)=xn0 L i++[[.i (ix (L.getD i []) 0),.i (ix (L.getD i []) 1),.i (ix (L.getD i []) 2),.b true]]:=by
 unfold xn0;rw [List.take_add_one,List.map_append,List.getElem?_eq_getElem h,List.getD_eq_getElem?_getD,List.getElem?_eq_getElem h];rfl
theorem xQ2 {L:List (List D)} {i:Nat} {r:List D} (hi:i<=L.length) (h:r∈xn0 L i):∃ j,j<i/\ix r 0=ix (L.getD j []) 0/\ix r 1=ix (L.getD j []) 1/\ix r 2=ix (L.getD j []) 2:=by
 unfold xn0 at h;obtain ⟨x,hx,rfl⟩:=List.mem_map.1 h;obtain ⟨j,hj,rfl⟩:=List.getElem_of_mem hx;rw [List.length_take] at hj;refine ⟨j,by omega,?_⟩;rw [List.getD_eq_getElem?_getD,List.getElem?_eq_getElem (show j<L.length by omega)];simp only [List.getElem_take,Option.getD_some];exact ⟨rfl,rfl,rfl⟩
theorem ycv (n:Nat):xb0 C (n+11) 0 13 (xaa C.P 13 6) (xde 0 xF4 xP9):=by
 refine xbb hC (sp:=xM4) (lp:=xOj) (sw:=xMu) ⟨yb8 (n+3),trivial⟩ ⟨xUh n,trivial⟩ 0 [] (by kernel_rfl) rfl (fun k hk=>by cases hk) (by kernel_rfl) (fun ds=>((ds.getD 2 default).I - (ds.getD 3 default).I).toNat) fun ds rr h=>?_
 unfold xP9 at h;split at h
 ·rename_i L L' x i l c la ea ml ll ju re mi no pe po pt ex cs nu m ou;obtain ⟨hp,h⟩:=xab h;rw [xad] at hp;obtain ⟨hev,hL',hx,hu,hL,⟨i0,i1⟩,hm⟩:=hp;obtain ⟨hL1,hL2,hL3⟩:=id hL;refine ⟨by rw [xa9];show (x.I - i.I).toNat<_;omega,?_⟩;rw [show (xal C (xah xM4 xOj xMu) 13 (xaa C.P 13 6) 0 xF4 [L,L',x,i,l,c,la,ea,ml,ll,ju,re,mi,no,pe,po,pt,ex,cs,nu,m,ou]).run=_ from yfq L L' x i l c la ea ml ll ju re mi no pe po pt ex cs nu m ou];obtain ⟨q,hq⟩:∃ q:Nat,i.I=q:=⟨i.I.toNat,by omega⟩;rw [hq,Int.toNat_natCast] at hm;simp only [hq,hL',hx,hu,hm,Int.toNat_natCast,Nat.reduceAdd,List.take_length] at i0 i1 ⊢;refine xa2 (fun hlt=>?_) fun hge=>xao h
  have hq1:q<L.L.length:=by omega
  have hno:∀ r∈xn0 L.L q,¬ (ix (L.L.getD q []) 0=ix r 0/\ix (L.L.getD q []) 1=ix r 1/\ix (L.L.getD q []) 2=ix r 2):=fun r hr hk=>by
   obtain ⟨j,hj,a0,a1,a2⟩:=xQ2 (by omega) hr;exact hL3 q j hj hq1 ⟨hk.1.trans a0,hk.2.1.trans a1,hk.2.2.trans a2⟩
  have hha:xjk kk3 [.i (ix (L.L.getD q []) 0),.i (ix (L.L.getD q []) 1),.i (ix (L.L.getD q []) 2)] (xn0 L.L q)=false:=by
   unfold xjk;rw [xuz _ _ hno];rfl
  have hms:=xx6 (d:=.b true) hno;refine xac (by omega) (xbr hha (xac (by omega) (xbe ⟨hev,hL1,⟨by omega,by omega⟩,hL2 q hq1⟩ ?_)));rw [xbd (by omega)];refine xaj ((xam ⟨hev,rfl,rfl,rfl,hL,⟨by simp only [I_i];omega,by simp only [I_i,L_l];omega⟩,?_⟩).trans h) (show ((L.L.length:Int) - ((q+1:Nat):Int)).toNat<(x.I - i.I).toNat by omega);simp only [L_l,I_i,Int.toNat_natCast];rw [xM7 hq1];exact hms
 ·cases h
theorem yg0 (n:Nat):xbo C (n+12) 13 (mkF s13 G13):=by
 refine xbk hC (sp:=xM4) (lp:=xOj) (sw:=xMu) ⟨yb8 (n+3),trivial⟩ ⟨xUh n,trivial⟩ (by kernel_rfl) [6] (by kernel_rfl) (by kernel_rfl) (fun k hk L hL=>by simp at hk;subst hk;cases hL;exact ycv n) fun ds rr h=>?_
 unfold G13 at h;split at h
 ·rename_i l c la ea ml ll ju re mi no pe po pt ex cs L;obtain ⟨hp,h⟩:=xab h;rw [xad] at hp;obtain ⟨hp,hc,hL⟩:=hp;have hL1:=hL.1;refine (t13 l c la ea ml ll ju re mi no pe po pt ex cs L).trans ?_;rw [<- h];simp only [Int.toNat_natCast,xjg];exact xai ⟨hp,hc⟩ (xkj (by omega) (xai ⟨⟨hp,hc,xub _⟩,by trivial,by trivial,by trivial,hL,⟨by omega,by omega⟩,rfl⟩ rfl))
 ·cases h
theorem yf1 (n:Nat):xct C (n+2) 4 (xaa C.P 4 4) (mkL xOp xVx):=by
 refine xbb hC (sp:=sp4) (lp:=lp4) (sw:=sw4) ⟨ycu n,trivial⟩ trivial 0 [] (by kernel_rfl) rfl (fun k hk=>by cases hk) (by kernel_rfl) (fun ds=>(((ds.getD 3 default).L.length:Int) - (ds.getD 0 default).I).toNat) fun ds rr h=>?_
 unfold xVx at h;split at h
 ·rename_i i c f w;obtain ⟨hp,h⟩:=xab h;rw [xad] at hp;obtain ⟨i0,i1,hl⟩:=hp;refine ⟨by rw [xa9];show ((w.L.length:Int) - i.I).toNat<_;omega,?_⟩;rw [show (xal C (xah sp4 lp4 sw4) 4 (xaa C.P 4 4) 0 xOp [i,c,f,w]).run=_ from ygi i c f w];obtain ⟨x,hx⟩:∃ x:Nat,i.I=x:=⟨i.I.toNat,by omega⟩;simp only [hx,Int.toNat_natCast,Nat.reduceAdd,xlz] at h i0 i1 ⊢;refine xa2 (fun hlt=>?_) fun hge=>xao (xmx h (by omega))
  obtain ⟨s1,s2⟩:=xet h (show x<w.L.length by omega);refine xac (by omega) (xa2 (fun c=>xao (s1 ?_)) fun c=>?_)
  ·exact decide_eq_false (by omega)
  ·rw [xbd (by omega)];exact xaj ((xam ⟨by simp only [I_i];omega,by simp only [I_i,L_l];omega,hl⟩).trans (s2 (decide_eq_true (by omega)))) (show ((w.L.length:Int) - ((x+1:Nat):Int)).toNat<((w.L.length:Int) - i.I).toNat by omega)
 ·cases h
theorem ok4 (n:Nat):xbo C (n+3) 4 (mkF s4 G4):=by
 refine xbk hC (sp:=sp4) (lp:=lp4) (sw:=sw4) ⟨ycu n,trivial⟩ trivial (by kernel_rfl) [4] (by kernel_rfl) (by kernel_rfl) (fun k hk L hL=>by simp at hk;subst hk;cases hL;exact yf1 n) fun ds rr h=>?_
 unfold G4 at h;split at h
 ·rename_i c f w;refine (t4 c f w).trans ?_;rw [<- h];simp only [Int.toNat_zero,Nat.sub_zero];unfold xec;refine xdk (fun c6=>?_) fun c6=>xai ⟨by omega,by omega,by omega⟩ (xhc (fun c7=>?_) fun c7=>?_)
  ·rw [decide_eq_false (by omega),Bool.false_and,Bool.false_and]
  ·rw [c7,decide_eq_true (show w.L.length<=6 by omega),Bool.and_self,Bool.true_and]
  ·rw [c7,Bool.and_false,Bool.false_and]
 ·cases h
theorem ok7 (n:Nat):xbo C (n+1) 7 (mkF s7 G7):=by
 refine xbk hC (sp:=sp7) (lp:=lp7) (sw:=sw7) trivial trivial (by kernel_rfl) [] (by kernel_rfl) rfl (fun k hk=>by cases hk) fun ds rr h=>?_
 unfold G7 at h;split at h
 ·rename_i a b;exact (t7 a b).trans h
 ·cases h
set_option maxRecDepth 100000
noncomputable section
def xj8 (w ch:List (List D)) (j:Nat):List D:=(lx (w.getD j []) 7).getD (rg ch j).toNat []
def xwd (w ch:List (List D)) (j:Nat):Int:=if 0<=rg ch j then ix (xj8 w ch j) 0 else 0
def leW (c:Int) (w:List (List D)) (j:Nat):Int:=if j+1<w.length/\bx (w.getD (j+1) []) 4=true then ix (w.getD j []) 0+xnz c (w.getD j [])+ix (w.getD (j+1) []) 5 else ix (w.getD j []) 0
def moW (c:Int) (w:List (List D)) (j:Nat):Int:=if j+1<w.length/\bx (w.getD (j+1) []) 4=true then ix (w.getD j []) 0+xnz c (w.getD j [])+ix (w.getD (j+1) []) 6 else ix (w.getD j []) 0
def lk3 (a b x:Int):List D:=[.i a,.i b,.i x]
def xgu (c:Int) (w:List (List D)) (j:Nat):List (List D):=[lk3 ((j:Int)+1) ((j:Int)+2) (leW c w j),lk3 ((j:Int)+2) ((j:Int)+1) (-(moW c w j))]
def xwl (u:Bool) (c:Int) (w ch:List (List D)) (j:Nat):List (List D):=
 if 0<=rg ch j then lk3 0 ((j:Int)+1) (ix (w.getD j []) 1+ix (xj8 w ch j) 0)::(if u then [lk3 ((j:Int)+1) 0 (xc0 c (w.getD j []) - ix (xj8 w ch j) 1)] else []) else [lk3 0 ((j:Int)+1) (ix (w.getD j []) 1)]
def xpu (u:Bool) (c:Int) (w ch:List (List D)) (j:Nat):List (List D):=xgu c w j++xwl u c w ch j
def xkh (u:Bool) (c:Int) (w ch:List (List D)):Nat->Nat->List (List D)
 | _,0=>[]
 | j,k+1=>xpu u c w ch j++xkh u c w ch (j+1) k
def xff (u:Bool) (c f:Int) (w ch:List (List D)):List (List D):=lk3 0 1 f::xkh u c w ch 0 w.length
def nP (w:List (List D)):Int:=(w.length:Int)+2
def xh3 (w ch:List (List D)):Prop:=ch.length=w.length/\∀ j,j<w.length->if (lx (w.getD j []) 7).length=0 then rg ch j = -1 else 0<=rg ch j/\rg ch j<(lx (w.getD j []) 7).length
def xOn (c:Int) (w ch:List (List D)) (j:Nat):Bool:=decide (0<=rg ch j->ix (w.getD j []) 1+xc0 c (w.getD j [])<=ix (xj8 w ch j) 2)
def yds (c:Int) (w ch:List (List D)):Bool:=xay (xOn c w ch) 0 w.length
def xd1 (u:Bool) (c f:Int) (w ch:List (List D)):RSt:=xfp (nP w) (xfj (nP w) (xff u c f w ch)) (xg6 (nP w))
def xaf (c f:Int) (w ch:List (List D)):List (List D):=(xd1 false c f w ch).1.drop 1
def xdx (c f:Int) (w ch:List (List D)):Bool:=yds c w ch && decide ((xd1 true c f w ch).2.2<0)
end
def xgw (t:List (List D)):Prop:=∀ j,j<t.length->t.getD j []=[.i (rg t j)]
theorem xyk {t:List (List D)} (h:xgw t) (j:Nat) (v:Int):xgw (rs t j v):=by
 intro i hi;rw [xl2] at hi;by_cases e:i=j
 ·subst e;rw [xkl hi,if_pos rfl];unfold rs;rw [List.getD_eq_getElem?_getD,List.getElem?_set_self hi];rfl
 ·have h1:(rs t j v).getD i []=t.getD i []:=by
   unfold rs;rw [List.getD_eq_getElem?_getD,List.getD_eq_getElem?_getD,List.getElem?_set_ne (fun h=>e h.symm)]
  have h2:rg (rs t j v) i=rg t i:=by unfold rg;rw [h1]
  rw [h1,h2];exact h i hi
theorem xSo (n:Nat) (v:Int):xgw (List.replicate n [.i v]):=by
 intro j hj;rw [List.length_replicate] at hj;rw [xzt hj,List.getD_eq_getElem?_getD,List.getElem?_replicate,if_pos hj];rfl
theorem xBd {t:List (List D)} (h:xgw t) (k:Nat):xgw (t.drop k):=by
 intro j hj;rw [List.length_drop] at hj;have e:(t.drop k).getD j []=t.getD (k+j) []:=by rw [List.getD_eq_getElem?_getD,List.getD_eq_getElem?_getD,List.getElem?_drop]
 have e2:rg (t.drop k) j=rg t (k+j):=by unfold rg;rw [e]
 rw [e,e2];exact h (k+j) (by omega)
theorem xvo (t:List (List D)) (k j:Nat):rg (t.drop k) j=rg t (k+j):=by
 unfold rg;rw [List.getD_eq_getElem?_getD,List.getD_eq_getElem?_getD,List.getElem?_drop]
theorem xEr {a b:List (List D)} (ha:xgw a) (hb:xgw b) (hl:a.length=b.length) (h:∀ j,j<a.length->rg a j=rg b j):a=b:=by
 apply List.ext_getElem hl;intro j h1 h2;have e1:=ha j h1;have e2:=hb j h2;rw [List.getD_eq_getElem?_getD,List.getElem?_eq_getElem h1] at e1;rw [List.getD_eq_getElem?_getD,List.getElem?_eq_getElem h2] at e2;simp only [Option.getD_some] at e1 e2;rw [e1,e2,h j h1]
theorem xPa {l:List (List D)} (i:Nat) {s:RSt} (h:xgw s.1):xgw (xi5 l i s).1:=by
 unfold xi5;split
 ·exact xyk h _ _
 ·exact h
theorem xBc {l:List (List D)}:∀ (k i:Nat) {s:RSt},xgw s.1->xgw (xhq l i k s).1
 | 0,_,_,h=>h
 | k+1,i,_,h=>xBc k (i+1) (xPa i h)
theorem xvb {l:List (List D)}:∀ (k:Nat) {s:RSt},xgw s.1->xgw (xg1 l k s).1
 | 0,_,h=>h
 | k + 1,s,h=>by
   have h1:=xBc (l:=l) l.length 0 (s:=(s.1,s.2.1,-1)) h;simp only [xg1];split
   ·exact h1
   ·exact xvb k h1
theorem xBb (n:Int) (l:List (List D)):xgw (xfp n l (xg6 n)).1:=xvb _ (xSo _ _)
theorem xUy {n:Int} {l:List (List D)} {p:Nat->Int}:(xfs n l).kept p ↔ ∀ c∈l,p (ix c 0).toNat+ix c 2<=p (ix c 1).toNat:=by
 constructor
 ·intro h c hc;obtain ⟨i,hi,rfl⟩:=List.getElem_of_mem hc;have:=h i hi;simp only [xfs,lkF,lkT,lkW] at this;rw [List.getD_eq_getElem?_getD,List.getElem?_eq_getElem hi] at this;exact this
 ·intro h i hi;have hi':i<l.length:=hi;have:=h l[i] (List.getElem_mem hi');simp only [xfs,lkF,lkT,lkW];rw [List.getD_eq_getElem?_getD,List.getElem?_eq_getElem hi'];exact this
theorem xsa {c:List D}:∀ (k i:Nat),c∈xe2 i k ↔ ∃ j,i<=j/\j<i+k/\c=[.i 0,.i (j:Int),.i 0]
 | 0, i=>by
   simp only [xe2,List.not_mem_nil,false_iff]
   rintro ⟨j,h1,h2,-⟩
   omega
 | k + 1,i=>by
   simp only [xe2,List.mem_cons,xsa k (i+1)];constructor
   ·rintro (h | ⟨j,h1,h2,h3⟩)
    ·exact ⟨i,Nat.le_refl _,by omega,h⟩
    ·exact ⟨j,by omega,by omega,h3⟩
   ·rintro ⟨j,h1,h2,h3⟩
    by_cases e:j=i
    ·subst e;exact .inl h3
    ·exact .inr ⟨j,by omega,by omega,h3⟩
theorem xn4 {u:Bool} {c:Int} {w ch:List (List D)} {x:List D}:∀ (k i:Nat),x∈xkh u c w ch i k ↔ ∃ j,i<=j/\j<i+k/\x∈xpu u c w ch j
 | 0, i=>by
   simp only [xkh,List.not_mem_nil,false_iff]
   rintro ⟨j,h1,h2,-⟩
   omega
 | k + 1,i=>by
   simp only [xkh,List.mem_append,xn4 k (i+1)];constructor
   ·rintro (h | ⟨j,h1,h2,h3⟩)
    ·exact ⟨i,Nat.le_refl _,by omega,h⟩
    ·exact ⟨j,by omega,by omega,h3⟩
   ·rintro ⟨j,h1,h2,h3⟩
    by_cases e:j=i
    ·subst e;exact .inl h3
    ·exact .inr ⟨j,by omega,by omega,h3⟩
def xAo (u:Bool) (c:Int) (w ch:List (List D)) (p:Nat->Int) (j:Nat):Prop:=
 p (j+1)+leW c w j<=p (j+2)/\p (j+2) - moW c w j<=p (j+1)/\p 0+(ix (w.getD j []) 1+xwd w ch j)<=p (j+1)/\(u=true->0<=rg ch j->p (j+1)+(xc0 c (w.getD j []) - ix (xj8 w ch j) 1)<=p 0)
theorem xEd {u:Bool} {c:Int} {w ch:List (List D)} {p:Nat->Int} {j:Nat}:(∀ x∈xpu u c w ch j,p (ix x 0).toNat+ix x 2<=p (ix x 1).toNat) ↔ xAo u c w ch p j:=by
 have e1:((j:Int)+1).toNat=j+1:=by omega
 have e2:((j:Int)+2).toNat=j+2:=by omega
 have g0:∀ a b x:Int,ix (lk3 a b x) 0=a:=fun _ _ _=>rfl
 have g1:∀ a b x:Int,ix (lk3 a b x) 1=b:=fun _ _ _=>rfl
 have g2:∀ a b x:Int,ix (lk3 a b x) 2=x:=fun _ _ _=>rfl
 unfold xpu xgu xwl xAo xwd;by_cases hc:0<=rg ch j
 ·cases u with
  | true=>
    simp only [if_pos hc,if_true,List.mem_append,List.mem_cons,List.not_mem_nil,or_false];constructor
    ·intro h;have h1:=h _ (.inl (.inl rfl));have h2:=h _ (.inl (.inr rfl));have h3:=h _ (.inr (.inl rfl));have h4:=h _ (.inr (.inr rfl));simp only [g0,g1,g2,e1,e2,Int.toNat_zero] at h1 h2 h3 h4;exact ⟨h1,by omega,by omega,fun _ _=>h4⟩
    ·rintro ⟨h1,h2,h3,h4⟩ x ((rfl | rfl) | (rfl | rfl)) <;> simp only [g0,g1,g2,e1,e2,Int.toNat_zero]
     ·exact h1
     ·omega
     ·omega
     ·exact h4 (by trivial) hc
  | false=>
    simp only [if_pos hc,Bool.false_eq_true,if_false,List.mem_append,List.mem_cons,List.not_mem_nil,or_false,false_implies,and_true];constructor
    ·intro h;have h1:=h _ (.inl (.inl rfl));have h2:=h _ (.inl (.inr rfl));have h3:=h _ (.inr rfl);simp only [g0,g1,g2,e1,e2,Int.toNat_zero] at h1 h2 h3;exact ⟨h1,by omega,by omega⟩
    ·rintro ⟨h1,h2,h3⟩ x ((rfl | rfl) | rfl) <;> simp only [g0,g1,g2,e1,e2,Int.toNat_zero]
     ·exact h1
     ·omega
     ·omega
 ·simp only [if_neg hc,List.mem_append,List.mem_cons,List.not_mem_nil,or_false];constructor
  ·intro h;have h1:=h _ (.inl (.inl rfl));have h2:=h _ (.inl (.inr rfl));have h3:=h _ (.inr rfl);simp only [g0,g1,g2,e1,e2,Int.toNat_zero] at h1 h2 h3;exact ⟨h1,by omega,by omega,fun _ h=>absurd h hc⟩
  ·rintro ⟨h1,h2,h3,-⟩ x ((rfl | rfl) | rfl) <;> simp only [g0,g1,g2,e1,e2,Int.toNat_zero]
   ·exact h1
   ·omega
   ·omega
theorem xEc {u:Bool} {c f:Int} {w ch:List (List D)} {p:Nat->Int}:(xfs (nP w) (xfj (nP w) (xff u c f w ch))).kept p ↔ p 0+f<=p 1/\(∀ j,j<w.length->xAo u c w ch p j)/\∀ j,j<w.length+2->p 0<=p j:=by
 have g:∀ a b x:Int,ix (lk3 a b x) 0=a/\ix (lk3 a b x) 1=b/\ix (lk3 a b x) 2=x:=fun _ _ _=>⟨rfl,rfl,rfl⟩
 have hn:(nP w).toNat=w.length+2:=by unfold nP;omega
 rw [xUy];unfold xfj xff;rw [hn];simp only [List.mem_append,List.mem_cons];constructor
 ·intro h;refine ⟨?_,fun j hj=>xEd.1 fun x hx=>h x (.inl (.inr ((xn4 _ _).2 ⟨j,Nat.zero_le _,by omega,hx⟩))),fun j hj=>?_⟩
  ·have:=h _ (.inl (.inl rfl));rw [(g 0 1 f).1,(g 0 1 f).2.1,(g 0 1 f).2.2] at this;exact this
  ·have:=h _ (.inr ((xsa _ _).2 ⟨j,Nat.zero_le _,by omega,rfl⟩));simp only [ix,List.getD_cons_zero,List.getD_cons_succ,D.I,Int.toNat_zero,Int.toNat_natCast] at this;omega
 ·rintro ⟨h1,h2,h3⟩ x ((rfl | hx) | hx)
  ·rw [(g 0 1 f).1,(g 0 1 f).2.1,(g 0 1 f).2.2];exact h1
  ·obtain ⟨j,-,hj,hx⟩:=(xn4 _ _).1 hx;exact xEd.2 (h2 j (by omega)) x hx
  ·obtain ⟨j,-,hj,rfl⟩:=(xsa _ _).1 hx;have:=h3 j (by omega);simp only [ix,List.getD_cons_zero,List.getD_cons_succ,D.I,Int.toNat_zero,Int.toNat_natCast];omega
def xHa:Sig:=⟨[kIn],[(kIn,[])]⟩
def xHb:SigW:=⟨[.sl 0 3],[bKs],[(.sl 0 3,[bKs])]⟩
def xTx:Sig:=⟨[.agg [kIn],.agg [kIn,kIn,kWs]],[(.sl 0 3,[bKs])]⟩
def xTw:Sig:=⟨[.agg [kIn],.agg [kIn,kIn,kWs]],[(.sl 0 3,[bKs])]⟩
def xTv:Sig:=⟨[.agg [kIn,.k (.opt [.int .i64,.int .i64,.int .i64])],.agg [kIn,kIn,kWs]],[(.sl 0 3,[bKs]),(.pan 109,[])]⟩
def s46:SigW:=⟨[.agg [kIn,kIn,kWs],kRo],[],[(.sl 0 1,[.row [.alt (KA.cons 150 [.int .i64] (KA.cons 152 [.int .i64] (KA.cons 155 [.int .i64,.opt [.int .i64,.int .i64,.int .i64]] KA.nil)))]])]⟩
def xFt:LSig:=xcu [1,5,15,16,17] [(51,[(1,kRo),(5,.sl 0 1),(15,kWs),(16,kIn),(17,kIn)],[.row [.alt (KA.cons 150 [.int .i64] (KA.cons 152 [.int .i64] (KA.cons 155 [.int .i64,.opt [.int .i64,.int .i64,.int .i64]] KA.nil)))]])] [(.exit 0,[5],[(51,[(5,.sl 0 1)],[.row [.alt (KA.cons 150 [.int .i64] (KA.cons 152 [.int .i64] (KA.cons 155 [.int .i64,.opt [.int .i64,.int .i64,.int .i64]] KA.nil)))]])])]
noncomputable section
def xJ5 (ds:List D):T (List D):=match ds with
 | [k]=>.need (yes (0<=k.I/\k.I<=1000)) (.leaf [.i (k.I+1)])
 | _=>.fail
def xJ6 (ds:List D):T (List D):=match ds with
 | [n,r]=>.need (yes (0<=n.I)) (.leaf [.i n.I,.l r.L])
 | _=>.fail
def xV1 (ds:List D):T (List D):=match ds with
 | [a,_,_,_]=>.leaf [.i 1,.l [lk3 0 1 a.I]]
 | _=>.fail
def xV0 (ds:List D):T (List D):=match ds with
 | [k,c,f,w]=>.need (yes (xaw c.I f.I w.L=true/\1<=k.I/\k.I<=w.L.length)) (.leaf [.i 2,.l (xgu c.I w.L (k.I - 1).toNat)])
 | _=>.fail
def xE4 (o:List (List D)):Prop:=o.isEmpty=false->xik o 0=true
def xVz (ds:List D):T (List D):=match ds with
 | [j, o, c,f,w]=>.need (yes (xaw c.I f.I w.L=true/\0<=j.I/\j.I<w.L.length/\xE4 o.L))
     (.ite o.L.isEmpty (.leaf [.i 0,.i 1,.l [lk3 0 (j.I+1) (ix (w.L.getD j.I.toNat []) 1)]])
      (.ite (decide (ix (w.L.getD j.I.toNat []) 1+xc0 c.I (w.L.getD j.I.toNat []) > ix (o.L.getD 0 []) 2)) (.leaf [.i 1])
       (.leaf [.i 0,.i 2,.l [lk3 0 (j.I+1) (ix (w.L.getD j.I.toNat []) 1+ix (o.L.getD 0 []) 0),lk3 (j.I+1) 0 (xc0 c.I (w.L.getD j.I.toNat []) - ix (o.L.getD 0 []) 1)]])))
 | _=>.fail
def xhk (w ch:List (List D)) (j:Nat):List (List D):=if 0<=rg ch j then [lk3 (ix (xj8 w ch j) 0) (ix (xj8 w ch j) 1) (ix (xj8 w ch j) 2)] else []
def yhe (f:Int):List D:=[.l [[.i 0,.i f]]]
def yea (j:Nat):List D:=[.l [[.i 1,.i ((j:Int)+1)]]]
def yd6 (w ch:List (List D)) (j:Nat):List D:=[.l [[.i 2,.i (j:Int),.l (xhk w ch j)]]]
def xit (w ch:List (List D)):Nat->Nat->List (List D)
 | _,0=>[]
 | j,k+1=>yea j::yd6 w ch j::xit w ch (j+1) k
def xeg (f:Int) (w ch:List (List D)):List (List D):=yhe f::xit w ch 0 w.length
def G46 (ds:List D):T (List D):=match ds with
 | [c,f,w,ch]=>.need (yes (xaw c.I f.I w.L=true/\xh3 w.L ch.L)) (.leaf [.i (xeg f.I w.L ch.L).length,.l (xeg f.I w.L ch.L)])
 | _=>.fail
def xGa (ds:List D):T (Ex×List D):=match ds with
 | [ch, n,w,m,i,r]=>.need (yes (xh3 w.L ch.L/\w.L.length<=60/\(∀ j,j<w.L.length->(lx (w.L.getD j []) 7).length<=10)/\m.I=w.L.length/\0<=i.I/\i.I<=w.L.length/\n.I=r.L.length/\0<r.L.length/\r.L.length<=2*i.I+1))
     (.leaf (.exit 0,[.i (r.L++xit w.L ch.L i.I.toNat (w.L.length - i.I.toNat)).length,.l (r.L++xit w.L ch.L i.I.toNat (w.L.length - i.I.toNat))]))
 | _=>.fail
end
def xWk:SpL:=[]
def xWs:LpL:=[]
def xWf:SwL:=[]
def xZj:Tab:=xah xWk xWs xWf
def xWl:SpL:=[]
def xWt:LpL:=[]
def xWg:SwL:=[]
def xZk:Tab:=xah xWl xWt xWg
def xWm:SpL:=[(136,mkF xHa xJ5)]
def xWu:LpL:=[]
def xWh:SwL:=[(135,xdm xHb xJ6)]
def xZl:Tab:=xah xWm xWu xWh
def xWj:SpL:=[(136,mkF xHa xJ5)]
def xWr:LpL:=[]
def xWe:SwL:=[(135,xdm xHb xJ6)]
def xZi:Tab:=xah xWj xWr xWe
def xWi:SpL:=[(136,mkF xHa xJ5),(48,mkF s48 G48)]
def xWq:LpL:=[]
def xWd:SwL:=[(135,xdm xHb xJ6)]
def xZh:Tab:=xah xWi xWq xWd
def xM1:SpL:=[]
def xOg:LpL:=[(3,mkL xFt xGa)]
def xMr:SwL:=[]
def xV9:Tab:=xah xM1 xOg xMr
set_option linter.unusedVariables false
set_option maxRecDepth 100000
theorem ygl (a:D):fnT C xZj 136 xHa [a] =
 T.leaf [D.i (IntKind.i64.wrap ((1:Int)+a.I))]:=by kernel_rfl
theorem ygm (a b:D):xh2 C xZk 135 xHb [a,b] =
 T.leaf [D.i (a.I.toNat:Int),D.l b.L]:=by kernel_rfl
theorem ygn (a b c d:D):fnT C xZl 134 xTx [a,b,c,d] =
 T.need (yes ((0:Int)<=(0:Int)/\(0:Int)<=(1000:Int))) (T.need (yes ((0:Int)<=(↑(List.length [[D.i 0,D.i ((0:Int)+(1:Int)),D.i a.I]]):Int))) (T.leaf [D.i 1,D.l [[D.i 0,D.i 1,D.i a.I]]])):=by kernel_rfl
theorem ygk (a b c d:D) :
 let X1:=[[D.i (IntKind.i64.wrap (a.I - (1:Int))+(1:Int)),D.i (a.I+(1:Int)),D.i (D.I (List.getD (List.getD d.L (Int.toNat (IntKind.i64.wrap (a.I - (1:Int)))) []) 0 default))],[D.i (a.I+(1:Int)),D.i (IntKind.i64.wrap (a.I - (1:Int))+(1:Int)),D.i (IntKind.i64.wrap ((0:Int) - D.I (List.getD (List.getD d.L (Int.toNat (IntKind.i64.wrap (a.I - (1:Int)))) []) 0 default)))]];let X2:=[[D.i (IntKind.i64.wrap (a.I - (1:Int))+(1:Int)),D.i (a.I+(1:Int)),D.i (IntKind.i64.wrap (IntKind.i64.wrap (D.I (List.getD (List.getD d.L (Int.toNat (IntKind.i64.wrap (a.I - (1:Int)))) []) 0 default)+IntKind.i64.wrap (IntKind.i64.wrap (b.I - (1:Int))*D.I (List.getD (List.getD d.L (Int.toNat (IntKind.i64.wrap (a.I - (1:Int)))) []) (0+1+1+1) default)))+D.I (List.getD (List.getD d.L a.I.toNat []) (0+1+1+1+1+1) default)))],[D.i (a.I+(1:Int)),D.i (IntKind.i64.wrap (a.I - (1:Int))+(1:Int)),D.i (IntKind.i64.wrap ((0:Int) - IntKind.i64.wrap (IntKind.i64.wrap (D.I (List.getD (List.getD d.L (Int.toNat (IntKind.i64.wrap (a.I - (1:Int)))) []) 0 default)+IntKind.i64.wrap (IntKind.i64.wrap (b.I - (1:Int))*D.I (List.getD (List.getD d.L (Int.toNat (IntKind.i64.wrap (a.I - (1:Int)))) []) (0+1+1+1) default)))+D.I (List.getD (List.getD d.L a.I.toNat []) (0+1+1+1+1+1+1) default))))]];let X3:=(decide ((0:Int)<=a.I/\a.I<(d.L.length:Int)));let X4:=T.need (yes ((0:Int)<=(↑(List.length X1):Int))) (T.leaf [D.i 2,D.l X1]);fnT C xZi 137 xTw [a,b,c,d] =
 T.need (yes ((0:Int)<=IntKind.i64.wrap (a.I - (1:Int))/\IntKind.i64.wrap (a.I - (1:Int))<=(1000:Int))) (T.need (yes ((0:Int)<=a.I/\a.I<=(1000:Int))) (T.need (decide ((0:Int)<=IntKind.i64.wrap (a.I - (1:Int))/\IntKind.i64.wrap (a.I - (1:Int))<(d.L.length:Int))) (T.ite (decide (a.I<(d.L.length:Int))) (T.need X3 (T.ite (D.B (List.getD (List.getD d.L a.I.toNat []) (0+1+1+1+1) default)) (T.need X3 (T.need X3 (T.need (yes ((0:Int)<=(↑(List.length X2):Int))) (T.leaf [D.i 2,D.l X2])))) X4)) X4))):=by
 intros
 kernel_rfl
theorem ygj (a b c d e:D) :
 let X2:=List.getD (List.getD e.L a.I.toNat []) (0+1) default;let X3:=(yes (xaw c.I d.I e.L=true/\(0:Int)<=a.I/\a.I<(e.L.length:Int)));let X4:=[[D.i 0,D.i (a.I+(1:Int)),D.i (D.I X2)]];let X1:=[[D.i 0,D.i (a.I+(1:Int)),D.i (IntKind.i64.wrap (D.I X2+D.I (List.getD (List.getD b.L 0 []) 0 default)))],[D.i (a.I+(1:Int)),D.i 0,D.i (IntKind.i64.wrap (xc0 c.I (List.getD e.L a.I.toNat []) - D.I (List.getD (List.getD b.L 0 []) (0+1) default)))]];fnT C xZh 138 xTv [a,b,c,d,e] =
 T.need (decide ((0:Int)<=a.I/\a.I<(e.L.length:Int))) (T.need (yes ((0:Int)<=a.I/\a.I<=(1000:Int))) (T.ite (List.isEmpty b.L) (T.need (yes ((0:Int)<=(↑(List.length X4):Int))) (T.leaf [D.i 0,D.i 1,D.l X4])) (T.need X3 (T.need (!List.isEmpty b.L) (T.ite (decide (IntKind.i64.wrap (D.I X2+xc0 c.I (List.getD e.L a.I.toNat [])) > D.I (List.getD (List.getD b.L 0 []) (0+1+1) default))) (T.leaf [D.i 1]) (T.need (!List.isEmpty b.L) (T.need X3 (T.need (!List.isEmpty b.L) (T.need (yes ((0:Int)<=(↑(List.length X1):Int))) (T.leaf [D.i 0,D.i 2,D.l X1])))))))))):=by
 intros
 kernel_rfl
theorem t46 (a b c d:D) :
 let X1:=[[D.l [[D.i (↑0:Int),D.i b.I]]]];let X2:=(↑(List.length X1):Int);let X3:=(c.L.length - Int.toNat (0:Int));xh2 C xV9 46 s46 [a,b,c,d] =
 T.need (yes (xh3 c.L d.L/\c.L.length<=60/\(∀ (j:Nat),j<c.L.length->List.length (lx (List.getD c.L j []) 7)<=10)/\(c.L.length:Int)=(c.L.length:Int)/\(0:Int)<=(0:Int)/\(0:Int)<=(c.L.length:Int)/\X2=X2/\0<List.length X1/\X2<=(2:Int)*(0:Int)+(1:Int))) (T.leaf [D.i (↑(Int.toNat (↑(List.length (X1++xit c.L d.L (Int.toNat (0:Int)) X3)):Int)):Int),D.l ([D.l [[D.i 0,D.i b.I]]]::List.append._f [] PUnit.unit (xit c.L d.L (Int.toNat (0:Int)) X3))]):=by
 intros
 kernel_rfl
theorem yfc (a b c d e f:D) :
 let X1:=[[D.l [[D.i (↑(0+1+1):Int),D.i e.I,D.l [[D.i (D.I (List.getD (List.getD (D.L (List.getD (List.getD c.L e.I.toNat []) (0+1+1+1+1+1+1+1) default)) (Int.toNat (D.I (List.getD (List.getD a.L e.I.toNat []) 0 default))) []) 0 default)),D.i (D.I (List.getD (List.getD (D.L (List.getD (List.getD c.L e.I.toNat []) (0+1+1+1+1+1+1+1) default)) (Int.toNat (D.I (List.getD (List.getD a.L e.I.toNat []) 0 default))) []) (0+1) default)),D.i (D.I (List.getD (List.getD (D.L (List.getD (List.getD c.L e.I.toNat []) (0+1+1+1+1+1+1+1) default)) (Int.toNat (D.I (List.getD (List.getD a.L e.I.toNat []) 0 default))) []) (0+1+1) default))]]]]]];let X3:=(IntKind.i64.wrap (e.I+(1:Int)));let X4:=(decide ((0:Int)<=D.I (List.getD (List.getD a.L e.I.toNat []) 0 default)/\D.I (List.getD (List.getD a.L e.I.toNat []) 0 default)<(↑(List.length (D.L (List.getD (List.getD c.L e.I.toNat []) (0+1+1+1+1+1+1+1) default))):Int)));let X5:=decide (b.I.toNat<=f.L.length/\b.I.toNat+1<=2 ^ 62/\(b.I.toNat+1)*Tryz.prog.types[118].bytes<=2 ^ 47);let X6:=(decide ((0:Int)<=e.I/\e.I<(a.L.length:Int)));let X7:=[[D.l [[D.i (↑(0+1+1):Int),D.i e.I,D.l []]]]];let X10:=T.leaf (Rd.again [D.l a.L,D.i (b.I.toNat:Int),D.l c.L,D.i d.I,D.i X3,D.l f.L]);let X11:=(decide (D.I (List.getD (List.getD a.L e.I.toNat []) 0 default)>=(0:Int)));let X12:=(↑(b.I.toNat+1+1):Int);let X2:=List.take b.I.toNat f.L++List.take (List.length [[D.l [[D.i (↑(0+1):Int),D.i X3]]]]) [[D.l [[D.i (↑(0+1):Int),D.i X3]]]];let X8:=decide (b.I.toNat+1<=List.length X2/\b.I.toNat+1+1<=2 ^ 62/\(b.I.toNat+1+1)*Tryz.prog.types[118].bytes<=2 ^ 47);let X9:=T.leaf (Rd.again [D.l a.L,D.i (↑(b.I.toNat+1):Int),D.l c.L,D.i d.I,D.i X3,D.l X2]);xb4 C xV9 46 (xaa C.P 46 3) xFt [a,b,c,d,e,f] =
 T.ite (decide (e.I<d.I)) (T.need (decide ((0:Int)<=e.I/\e.I<(c.L.length:Int))) (T.need true (T.ite false (T.need X6 (T.ite X11 (T.need X6 (T.need X4 (T.need true (T.ite false X10 (T.need X5 (T.leaf (Rd.again [D.l a.L,D.i (↑(b.I.toNat+1):Int),D.l c.L,D.i d.I,D.i X3,D.l (List.take b.I.toNat f.L++List.take (List.length X1) X1)]))))))) (T.need true (T.ite false X10 (T.need X5 (T.leaf (Rd.again [D.l a.L,D.i (↑(b.I.toNat+1):Int),D.l c.L,D.i d.I,D.i X3,D.l (List.take b.I.toNat f.L++List.take (List.length X7) X7)]))))))) (T.need X5 (T.need X6 (T.ite X11 (T.need X6 (T.need X4 (T.need true (T.ite false X9 (T.need X8 (T.leaf (Rd.again [D.l a.L,D.i X12,D.l c.L,D.i d.I,D.i X3,D.l (List.take (b.I.toNat+1) X2++List.take (List.length X1) X1)]))))))) (T.need true (T.ite false X9 (T.need X8 (T.leaf (Rd.again [D.l a.L,D.i X12,D.l c.L,D.i d.I,D.i X3,D.l (List.take (b.I.toNat+1) X2++List.take (List.length X7) X7)]))))))))))) (T.leaf (Rd.out (Ex.exit 0) [D.i (b.I.toNat:Int),D.l f.L])):=by
 intros
 kernel_rfl
set_option maxRecDepth 100000
theorem xVf:Tryz.prog.types[118].bytes=16:=by kernel_rfl
theorem ybk {α:Type} {a b:T α}:(T.ite false a b).run=b.run:=rfl
theorem xN3 (n:Nat):xbo C (n+1) 136 (mkF xHa xJ5):=by
 refine xbk hC (sp:=xWk) (lp:=xWs) (sw:=xWf) trivial trivial (by kernel_rfl) [] (by kernel_rfl) rfl (fun k hk=>by cases hk) fun ds rr h=>?_
 unfold xJ5 at h;split at h
 ·rename_i k;obtain ⟨hp,h⟩:=xab h;rw [xad] at hp;refine (congrArg T.run (ygl k)).trans ?_;rw [<- h,xas (x:=1+k.I) (by omega) (by omega),Int.add_comm]
 ·cases h
theorem xN4 (n:Nat):xeu C (n+1) 135 (xdm xHb xJ6):=by
 refine xfi hC (sp:=xWl) (lp:=xWt) (sw:=xWg) trivial trivial (by kernel_rfl) [] (by kernel_rfl) (by kernel_rfl) (fun k hk=>by cases hk) fun ds rr h=>?_
 unfold xJ6 at h;split at h
 ·rename_i m r;obtain ⟨hp,h⟩:=xab h;rw [xad] at hp;refine (congrArg T.run (ygm m r)).trans ?_;rw [<- h,Int.toNat_of_nonneg hp]
 ·cases h
theorem xN5 (n:Nat):xbo C (n+2) 134 (mkF xTx xV1):=by
 refine xbk hC (sp:=xWm) (lp:=xWu) (sw:=xWh) ⟨xN3 n,trivial⟩ ⟨xN4 n,trivial⟩ (by kernel_rfl) [] (by kernel_rfl) rfl (fun k hk=>by cases hk) fun ds rr h=>?_
 unfold xV1 at h;split at h
 ·rename_i a c f w;refine (congrArg T.run (ygn a c f w)).trans ?_;rw [<- h];exact xai (by omega) (xai (by omega) rfl)
 ·cases h
theorem xN2 (n:Nat):xbo C (n+2) 137 (mkF xTw xV0):=by
 refine xbk hC (sp:=xWj) (lp:=xWr) (sw:=xWe) ⟨xN3 n,trivial⟩ ⟨xN4 n,trivial⟩ (by kernel_rfl) [] (by kernel_rfl) rfl (fun k hk=>by cases hk) fun ds rr h=>?_
 unfold xV0 at h;split at h
 ·rename_i a c f w;obtain ⟨hp,h⟩:=xab h;rw [xad] at hp;obtain ⟨hp,h1,h2⟩:=hp;refine (congrArg T.run (ygk a c f w)).trans ?_;rw [<- h];obtain ⟨p1,p2,-⟩:=xb1 hp;obtain ⟨k,hk⟩:∃ k:Nat,a.I=(k:Int)+1:=⟨(a.I - 1).toNat,by omega⟩;have hkl:k<w.L.length:=by omega
  have s1:=xqw hp hkl;have c1:=xdh (xdt hp hkl).1;have e0:IntKind.i64.wrap ((k:Int)+1 - 1)=(k:Int):=(xas (by omega) (by omega)).trans (by omega);have e1:((k:Int)+1 - 1).toNat=k:=by omega
  have e2:((k:Int)+1).toNat=k+1:=by omega
  have e3:IntKind.i64.wrap (c.I - 1)=c.I - 1:=xas (by omega) (by omega);unfold xnz at s1;have e4:IntKind.i64.wrap ((c.I - 1)*ix (w.L.getD k []) 3)=(c.I - 1)*ix (w.L.getD k []) 3:=xas (by omega) (by omega);have e5:IntKind.i64.wrap (ix (w.L.getD k []) 0+(c.I - 1)*ix (w.L.getD k []) 3)=ix (w.L.getD k []) 0+(c.I - 1)*ix (w.L.getD k []) 3:=xas (by omega) (by omega);have e6:IntKind.i64.wrap (0 - ix (w.L.getD k []) 0)=0 - ix (w.L.getD k []) 0:=xas (by omega) (by omega);simp only [hk,e0,e1,e2,e3,Nat.reduceAdd,xfh,Int.toNat_natCast,e4,e5,e6];refine xai (by omega) (xai (by omega) (xau (by omega) (xdk (fun hlt=>?_) fun hge=>?_)))
  ·have c2:=xdh (xdt hp (k:=k+1) (by omega)).1;refine xau (by omega) (xhc (fun hb=>xau (by omega) (xau (by omega) ?_)) fun hb=>?_)
   ·rw [xas (x:=ix (w.L.getD k []) 0+(c.I - 1)*ix (w.L.getD k []) 3+ix (w.L.getD (k+1) []) 5) (by omega) (by omega),xas (x:=ix (w.L.getD k []) 0+(c.I - 1)*ix (w.L.getD k []) 3+ix (w.L.getD (k+1) []) 6) (by omega) (by omega),
     xas (x:=0 - (ix (w.L.getD k []) 0+(c.I - 1)*ix (w.L.getD k []) 3+ix (w.L.getD (k+1) []) 6)) (by omega) (by omega)]
    have hc:k+1<w.L.length/\bx (w.L.getD (k+1) []) 4=true:=⟨by omega,hb⟩;unfold xgu leW moW lk3 xnz;rw [if_pos hc,if_pos hc];refine xai (by omega) ?_;simp only [xd7,Option.some.injEq,List.cons.injEq,D.i.injEq,D.l.injEq,and_true,true_and];omega
   ·have hc:¬ (k+1<w.L.length/\bx (w.L.getD (k+1) []) 4=true):=fun hh=>by
     have:bx (w.L.getD (k+1) []) 4=false:=hb;rw [this] at hh;cases hh.2
    unfold xgu leW moW lk3;rw [if_neg hc,if_neg hc];refine xai (by omega) ?_;simp only [xd7,Option.some.injEq,List.cons.injEq,D.i.injEq,D.l.injEq,and_true,true_and];omega
  ·have hc:¬ (k+1<w.L.length/\bx (w.L.getD (k+1) []) 4=true):=fun hh=>by omega
   unfold xgu leW moW lk3;rw [if_neg hc,if_neg hc];refine xai (by omega) ?_;simp only [xd7,Option.some.injEq,List.cons.injEq,D.i.injEq,D.l.injEq,and_true,true_and];omega
 ·cases h
theorem xU1 {l:List (List D)} {k:Nat} (h:xik l k=true):(0<=ix (l.getD k []) 0/\ix (l.getD k []) 0<=ix (l.getD k []) 1)/\ix (l.getD k []) 1<=200000/\0<=ix (l.getD k []) 2/\ix (l.getD k []) 2<=200000:=of_decide_eq_true h
theorem xN1 (n:Nat):xbo C (n+2) 138 (mkF xTv xVz):=by
 refine xbk hC (sp:=xWi) (lp:=xWq) (sw:=xWd) ⟨xN3 n,xUc n,trivial⟩ ⟨xN4 n,trivial⟩ (by kernel_rfl) [] (by kernel_rfl) rfl (fun k hk=>by cases hk) fun ds rr h=>?_
 unfold xVz at h;split at h
 ·rename_i j o c f w;obtain ⟨hp,h⟩:=xab h;rw [xad] at hp;obtain ⟨hp,h1,h2,hw⟩:=hp;refine (congrArg T.run (ygj j o c f w)).trans ?_;rw [<- h];obtain ⟨p1,p2,-⟩:=xb1 hp;have hjl:j.I.toNat<w.L.length:=by omega
  have s1:=xqw hp hjl;have c1:=xdh (xdt hp hjl).1;have hb:0<=xc0 c.I (w.L.getD j.I.toNat [])/\xc0 c.I (w.L.getD j.I.toNat [])<=14000:=by unfold xc0;omega
  simp only [Nat.reduceAdd,xfh];refine xau (by omega) (xai (by omega) ?_);cases hem:o.L.isEmpty with
  | true=>exact xai (by omega) rfl
  | false=>
    have hh:=xU1 (hw hem);have e1:IntKind.i64.wrap (ix (w.L.getD j.I.toNat []) 1+xc0 c.I (w.L.getD j.I.toNat []))=ix (w.L.getD j.I.toNat []) 1+xc0 c.I (w.L.getD j.I.toNat []):=xas (by omega) (by omega);have e2:IntKind.i64.wrap (ix (w.L.getD j.I.toNat []) 1+ix (o.L.getD 0 []) 0)=ix (w.L.getD j.I.toNat []) 1+ix (o.L.getD 0 []) 0:=xas (by omega) (by omega);have e3:IntKind.i64.wrap (xc0 c.I (w.L.getD j.I.toNat []) - ix (o.L.getD 0 []) 1)=xc0 c.I (w.L.getD j.I.toNat []) - ix (o.L.getD 0 []) 1:=xas (by omega) (by omega);simp only [e1,e2,e3];rw [ybk];refine xai ⟨hp,h1,h2⟩ (xv9 rfl ?_);rw [ybk];refine xdk (fun hgt=>?_) fun hle=>?_
    ·rw [xa5,if_pos (decide_eq_true hgt)]
    ·rw [xa5,if_neg (by simpa using hle)];exact xv9 rfl (xai ⟨hp,h1,h2⟩ (xv9 rfl (xai (by omega) rfl)))
 ·cases h
theorem xAf (w ch:List (List D)):∀ (k i:Nat),(xit w ch i k).length=2*k
 | 0,_=>rfl
 | k+1,i=>by simp only [xit,List.length_cons,xAf w ch k (i+1)];omega
theorem xl1 (f:Int) (w ch:List (List D)):(xeg f w ch).length=2*w.length+1:=by simp only [xeg,List.length_cons,xAf]
theorem yby (n:Nat):xb0 C (n+0) 0 46 (xaa C.P 46 3) (xde 0 xFt xGa):=by
 refine xbb hC (sp:=xM1) (lp:=xOg) (sw:=xMr) trivial trivial 0 [] (by kernel_rfl) rfl (fun k hk=>by cases hk) (by kernel_rfl) (fun ds=>((ds.getD 3 default).I - (ds.getD 4 default).I).toNat) fun ds rr h=>?_
 unfold xGa at h;split at h
 ·rename_i ch nn w m i r;obtain ⟨hp,h⟩:=xab h;rw [xad] at hp;obtain ⟨hc,hw,hh,hm,hi0,hi1,hn,hr0,hr1⟩:=hp;have hb:=xdg;refine ⟨by rw [xa9];simp;omega,?_⟩;rw [show xal C (xah xM1 xOg xMr) 46 (xaa C.P 46 3) 0 xFt [ch,nn,w,m,i,r]=_ from yfc ch nn w m i r];obtain ⟨k,hk⟩:∃ k:Nat,i.I=k:=⟨i.I.toNat,by omega⟩;have t1:∀ x:List D,List.take 1 [x]=[x]:=fun _=>rfl
  have t2:∀ x:List D,(r.L++[x]).take (r.L.length+1)=r.L++[x]:=fun x=>List.take_of_length_le (by simp)
  simp only [hk,hm,hn,Int.toNat_natCast,t1,xVf,Nat.reduceAdd,List.take_length,List.length_append,List.length_cons,List.length_nil,Nat.zero_add,t2] at h hi0 hi1 hr1 ⊢;refine xa2 (fun hlt=>?_) fun hge=>xao ?_
  ·have hkl:k<w.L.length:=by omega
   have w1:IntKind.i64.wrap ((k:Int)+1)=((k+1:Nat):Int):=xbd (by omega);have hmu:((w.L.length:Int) - ((k+1:Nat):Int)).toNat<(m.I - i.I).toNat:=by omega
   have hcj:=hc.2 k hkl;have hcl:=hc.1;have hhk:=hh k hkl;have rgd:ix (ch.L.getD k []) 0=rg ch.L k:=rfl;simp only [w1,xlz,xfh,rgd];rw [show w.L.length - k=(w.L.length - (k+1))+1 by omega] at h;have go:∀ o,xhk w.L ch.L k=o->(xGa [.l ch.L,.i ((r.L.length+1+1:Nat):Int),.l w.L,.i (w.L.length:Int),.i ((k+1:Nat):Int),.l (r.L++[[.l [[.i 1,.i ((k+1:Nat):Int)]]]]++[[.l [[.i 2,.i (k:Int),.l o]]]])]).run=some rr:=fun o ho=>by
    refine (xam ⟨hc,hw,hh,rfl,by simp only [I_i];omega,by simp only [I_i,L_l];omega,by simp only [I_i,L_l,List.length_append,List.length_cons,List.length_nil],by simp only [L_l,List.length_append,List.length_cons,List.length_nil];omega,by simp only [L_l,I_i,List.length_append,List.length_cons,List.length_nil];omega⟩).trans ?_;rw [<- h];have t3:((k:Int)+1).toNat=k+1:=by omega
    simp only [L_l,I_i,xit,yea,yd6,ho,t3,Int.add_assoc,List.append_assoc,List.cons_append,List.nil_append,List.length_append,List.length_cons,Int.natCast_add,Int.natCast_one]
   refine xac (by omega) (xdi rfl (xbr rfl (xac (by omega) (xac (by omega) (xa2 (fun hge=>?_) fun hlt2=>?_)))))
   ·have hne:¬ (lx (w.L.getD k []) 7).length=0:=fun e=>by rw [if_pos e] at hcj;omega
    rw [if_neg hne] at hcj;refine xac (by omega) (xac (by omega) (xdi rfl (xbr rfl (xac (by omega) (xaj (go _ ?_) hmu)))));unfold xhk;rw [if_pos hge];rfl
   ·refine xdi rfl (xbr rfl (xac (by omega) (xaj (go _ ?_) hmu)));unfold xhk;rw [if_neg (by omega)]
  ·rw [<- h,show w.L.length - k=0 by omega];simp only [xit,List.append_nil,xd7];rfl
 ·cases h
theorem xUe (n:Nat):xeu C (n+1) 46 (xdm s46 G46):=by
 refine xfi hC (sp:=xM1) (lp:=xOg) (sw:=xMr) trivial trivial (by kernel_rfl) [3] (by kernel_rfl) (by kernel_rfl) (fun k hk L hL=>by simp at hk;subst hk;cases hL;exact yby n) fun ds rr h=>?_
 unfold G46 at h;split at h
 ·rename_i c f w ch;obtain ⟨hp,h⟩:=xab h;rw [xad] at hp;obtain ⟨hp,hc⟩:=hp;refine (congrArg T.run (t46 c f w ch)).trans ?_;rw [<- h];obtain ⟨p1,p2,-⟩:=xb1 hp;refine xai ⟨hc,by omega,fun j hj=>(xdh (xdt hp hj).1).2.2.2.2.2.2,rfl,by omega,by omega,rfl,Nat.zero_lt_one,by show ((1:Nat):Int)<=2*0+1;omega⟩ rfl
 ·cases h
def s19:Sig:=⟨[.agg [kIn,kIn,kWs],kRo,.nils],[(.tup [.nils,kBo],[]),(.tup [.sub 0 1,kBo],[bRo])]⟩
def xv0:LSig:=xcu [2,3,6,7,8,24,25,26] [(86,[(2,.nils),(3,.ptr 0 3 0 0),(6,.ptr 1 1 0 0),(7,.ptr 2 1 0 0),(8,.ptr 3 2 0 0),(24,.sl 4 1),(25,kIn),(26,kIn)],[.box [kIn,kIn,kWs],.box [.nils],.box [kBo],.box [kIn,.nils],.row [.alt (KA.cons 150 [.int .i64] (KA.cons 152 [.int .i64] (KA.cons 155 [.int .i64,.opt [.int .i64,.int .i64,.int .i64]] KA.nil)))]]),(86,[(2,.nils),(3,.ptr 0 3 0 0),(6,.ptr 1 1 0 0),(7,.ptr 2 1 0 0),(8,.ptr 3 2 0 0),(24,.sl 4 1),(25,kIn),(26,kIn)],[.box [kIn,kIn,kWs],.box [.nils],.box [kBo],.box [kIn,.sl 5 3],.row [.alt (KA.cons 150 [.int .i64] (KA.cons 152 [.int .i64] (KA.cons 155 [.int .i64,.opt [.int .i64,.int .i64,.int .i64]] KA.nil)))],bKs])] [(.pan 109,[6,7],[(86,[(6,.ptr 1 1 0 0),(7,.ptr 2 1 0 0)],[.box [kIn,kIn,kWs],.box [.nils],.box [kBo]])]),(.exit 0,[2,6,7,8],[(86,[(2,.nils),(6,.ptr 1 1 0 0),(7,.ptr 2 1 0 0),(8,.ptr 3 2 0 0)],[.box [kIn,kIn,kWs],.box [.nils],.box [kBo],.box [kIn,.nils]]),(86,[(2,.nils),(6,.ptr 1 1 0 0),(7,.ptr 2 1 0 0),(8,.ptr 3 2 0 0)],[.box [kIn,kIn,kWs],.box [.nils],.box [kBo],.box [kIn,.sl 4 3],bKs])])]
def xF2:LSig:=xcu [2,6,7,8,45,46] [(86,[(2,.nils),(6,.ptr 1 1 0 0),(7,.ptr 2 1 0 0),(8,.ptr 3 2 0 0),(45,kIn),(46,kIn)],[.box [kIn,kIn,kWs],.box [.nils],.box [kBo],.box [kIn,.nils]]),(86,[(2,.nils),(6,.ptr 1 1 0 0),(7,.ptr 2 1 0 0),(8,.ptr 3 2 0 0),(45,kIn),(46,kIn)],[.box [kIn,kIn,kWs],.box [.nils],.box [kBo],.box [kIn,.sl 4 3],bKs])] [(.exit 2,[2,6,7,8],[(86,[(2,.nils),(6,.ptr 1 1 0 0),(7,.ptr 2 1 0 0),(8,.ptr 3 2 0 0)],[.box [kIn,kIn,kWs],.box [.nils],.box [kBo],.box [kIn,.nils]]),(86,[(2,.nils),(6,.ptr 1 1 0 0),(7,.ptr 2 1 0 0),(8,.ptr 3 2 0 0)],[.box [kIn,kIn,kWs],.box [.nils],.box [kBo],.box [kIn,.sl 4 3],bKs])])]
def s20:SigW:=⟨[.agg [kIn,kIn,kWs],kRo,.sub 0 1],[bRo],[(.agg [.sub 0 1,.sl 1 1,.sl 2 1,.sl 3 1],[bRo,bRo,bRo,bRo])]⟩
def xvy:LSig:=xcu [2,3,6,7,15,16,17] [(49,[(2,.sub 0 1),(3,.ptr 1 3 0 0),(6,.ptr 2 4 0 0),(7,.ptr 3 4 0 0),(15,kWs),(16,kIn),(17,kIn)],[bRo,.box [kIn,kIn,kWs],.box [.nils,.nils,.nils,.nils],.box [.sub 0 1,.nils,.nils,.sl 4 1],bRo]),(49,[(2,.sub 0 1),(3,.ptr 1 3 0 0),(6,.ptr 2 4 0 0),(7,.ptr 3 4 0 0),(15,kWs),(16,kIn),(17,kIn)],[bRo,.box [kIn,kIn,kWs],.box [.nils,.nils,.nils,.nils],.box [.sub 0 1,.sl 4 1,.sl 5 1,.sl 6 1],bRo,bRo,bRo])] [(.exit 0,[6,7],[(49,[(6,.ptr 1 4 0 0),(7,.ptr 2 4 0 0)],[bRo,.box [.nils,.nils,.nils,.nils],.box [.sub 0 1,.sl 3 1,.sl 4 1,.sl 5 1],bRo,bRo,bRo])])]
def s35:Sig:=⟨[kRo],[(.sl 0 1,[bRo]),(.emp 1,[])]⟩
noncomputable section
def rD (l:List (List D)) (i:Nat):List D:=((l.getD i []).getD 0 default).L.getD 0 []
def xn8 (c:Int) (w:List (List D)) (j:Nat) (o:List (List D)):List (List D):=
 if o.isEmpty then [lk3 0 ((j:Int)+1) (ix (w.getD j []) 1)] else [lk3 0 ((j:Int)+1) (ix (w.getD j []) 1+ix (o.getD 0 []) 0),lk3 ((j:Int)+1) 0 (xc0 c (w.getD j []) - ix (o.getD 0 []) 1)]
def xg8 (c:Int) (w:List (List D)) (x:List D):List (List D):=if ix x 0=0 then [lk3 0 1 (ix x 1)] else if ix x 0=1 then xgu c w (ix x 1 - 1).toNat else xn8 c w (ix x 1).toNat (lx x 2)
def xe0 (c:Int) (w:List (List D)) (x:List D):Bool:=decide (ix x 0=2->(lx x 2).isEmpty=false->ix (w.getD (ix x 1).toNat []) 1+xc0 c (w.getD (ix x 1).toNat [])<=ix ((lx x 2).getD 0 []) 2)
def yfy (w:List (List D)) (x:List D):Prop:=ix x 0=0\/(ix x 0=1/\1<=ix x 1/\ix x 1<=w.length)\/(ix x 0=2/\(0<=ix x 1/\ix x 1<w.length)/\xE4 (lx x 2))
def xf2 (c:Int) (w l:List (List D)):Nat->Nat->List (List D)
 | _,0=>[]
 | i,k+1=>xg8 c w (rD l i)++xf2 c w l (i+1) k
def xzr (w l:List (List D)):Prop:=l.length<=200/\∀ j,j<l.length->yfy w (rD l j)
def xis (c:Int) (w l:List (List D)) (j:Nat):Bool:=xe0 c w (rD l j)
def xBm (ds:List D):T (Ex×List D):=match ds with
 | [h, n,m,i,c,f,w,ok,nn,l]=>.need (yes (h.I=0/\xaw c.I f.I w.L=true/\xzr w.L l.L/\n.I=l.L.length/\m.I=l.L.length/\i.I=0/\0<l.L.length))
     (.ite (xay (xis c.I w.L l.L) 0 l.L.length) (.leaf (.exit 0,[.i 1,.i c.I,.i f.I,.l w.L,.b ok.B,.i nn.I,.i (xf2 c.I w.L l.L 0 l.L.length).length,.l (xf2 c.I w.L l.L 0 l.L.length)])) (.leaf (.pan 109,[.i c.I,.i f.I,.l w.L,.b ok.B])))
 | [h, n,m,i,c,f,w,ok,nn,ll,l,k]=>.need (yes (h.I=1/\xaw c.I f.I w.L=true/\xzr w.L l.L/\n.I=l.L.length/\m.I=l.L.length/\0<=i.I/\i.I<=l.L.length/\ll.I=k.L.length/\k.L.length<=2*i.I))
     (.ite (xay (xis c.I w.L l.L) i.I.toNat (l.L.length - i.I.toNat)) (.leaf (.exit 0,[.i 1,.i c.I,.i f.I,.l w.L,.b ok.B,.i nn.I,.i (k.L++xf2 c.I w.L l.L i.I.toNat (l.L.length - i.I.toNat)).length,.l (k.L++xf2 c.I w.L l.L i.I.toNat (l.L.length - i.I.toNat))])) (.leaf (.pan 109,[.i c.I,.i f.I,.l w.L,.b ok.B])))
 | _=>.fail
def xP7 (ds:List D):T (Ex×List D):=match ds with
 | [h, m,i,c,f,w,ok,nn,ll,k]=>.need (yes (h.I=1/\0<=i.I/\i.I<=m.I/\m.I<=500/\ll.I=k.L.length/\k.L.length+(m.I - i.I)<=5500))
     (.leaf (.exit 2,[.i 1,.i c.I,.i f.I,.l w.L,.b ok.B,.i nn.I,.i (k.L++xe2 i.I.toNat (m.I - i.I).toNat).length,.l (k.L++xe2 i.I.toNat (m.I - i.I).toNat)]))
 | _=>.fail
def G19 (ds:List D):T (List D):=match ds with
 | [c, f,w,ch]=>.need (yes (xaw c.I f.I w.L=true/\xh3 w.L ch.L))
     (.ite (xdx c.I f.I w.L ch.L) (.leaf [.i 1,.i 1,.i (w.L.length+1:Nat),.b true,.l (xd1 true c.I f.I w.L ch.L).1]) (.leaf [.i 0,.b false]))
 | _=>.fail
def xcy (g:Nat->Int):Nat->Nat->List (List D)
 | _,0=>[]
 | i,k+1=>[.i (g i)]::xcy g (i+1) k
def clG (w:List (List D)) (du:Nat->Int) (j:Nat):Int:=du j - ix (w.getD j []) 1
def opG (c:Int) (w:List (List D)) (du:Nat->Int) (j:Nat):Int:=du j+xc0 c (w.getD j [])
def duF (du:List (List D)) (j:Nat):Int:=rg du (j+1)
def xCp (w du:List (List D)):Prop:=du.length=w.length+2/\∀ j,0<=rg du j/\rg du j<=2000000000
def G20 (ds:List D):T (List D):=match ds with
 | [c, f,w,ch,lo,n,du]=>.need (yes (xaw c.I f.I w.L=true/\ch.L.length=w.L.length/\lo.I=1/\n.I=w.L.length+1/\xCp w.L du.L))
     (.leaf [.i 1,.i (w.L.length+1:Nat),.i w.L.length,.i w.L.length,.i ch.L.length,.l du.L,.l (xcy (clG w.L (duF du.L)) 0 w.L.length),.l (xcy (opG c.I w.L (duF du.L)) 0 w.L.length),.l ch.L])
 | _=>.fail
def xP3 (ds:List D):T (Ex×List D):=match ds with
 | [h, lo,n,w',m,i,du,c,f,w,lo2,n2,n3,ch]=>.need (yes (h.I=0/\xaw c.I f.I w.L=true/\lo.I=1/\n.I=w.L.length+1/\w'.L=w.L/\m.I=w.L.length/\i.I=0/\xCp w.L du.L/\lo2.I=1/\n2.I=w.L.length+1/\n3.I=ch.L.length))
     (.leaf (.exit 0,[.l du.L,.i 1,.i (w.L.length+1:Nat),.i w.L.length,.i w.L.length,.i ch.L.length,.l (xcy (clG w.L (duF du.L)) 0 w.L.length),.l (xcy (opG c.I w.L (duF du.L)) 0 w.L.length),.l ch.L]))
 | [h, lo,n,w',m,i,du,c,f,w,lo2,n2,n4,n5,n3,cl,op,ch]=>.need (yes (h.I=1/\xaw c.I f.I w.L=true/\lo.I=1/\n.I=w.L.length+1/\w'.L=w.L/\m.I=w.L.length/\(0<=i.I/\i.I<=w.L.length)/\xCp w.L du.L/\lo2.I=1/\n2.I=w.L.length+1/\n3.I=ch.L.length /\
       n4.I=i.I/\n5.I=i.I/\cl.L=xcy (clG w.L (duF du.L)) 0 i.I.toNat/\op.L=xcy (opG c.I w.L (duF du.L)) 0 i.I.toNat))
     (.leaf (.exit 0,[.l du.L,.i 1,.i (w.L.length+1:Nat),.i w.L.length,.i w.L.length,.i ch.L.length,.l (xcy (clG w.L (duF du.L)) 0 w.L.length),.l (xcy (opG c.I w.L (duF du.L)) 0 w.L.length),.l ch.L]))
 | _=>.fail
end
def xxr:SpL:=[(134,mkF xTx xV1),(137,mkF xTw xV0),(138,mkF xTv xVz)]
def xya:LpL:=[(4,xde 3 xv0 xBm),(9,xde 3 xF2 xP7)]
def xxl:SwL:=[(46,xdm s46 G46),(47,xdm s47 G47)]
def xFa:Tab:=xah xxr xya xxl
def xG4:SpL:=[(35,mkF s35 xVw),(48,mkF s48 G48)]
def xH3:LpL:=[(3,xde 1 xvy xP3)]
def xGs:SwL:=[]
def xMk:Tab:=xah xG4 xH3 xGs
def ya7:SpL:=[]
def ydh:LpL:=[]
def yac:SwL:=[]
def yev:Tab:=xah ya7 ydh yac
set_option linter.unusedVariables false
set_option maxRecDepth 100000
theorem t19 (a b c d:D) :
 let X4:=((c.L.length:Int)+(2:Int));let X5:=List.length (xeg b.I c.L d.L);let X6:=(↑(List.length (xf2 a.I c.L (xeg b.I c.L d.L) 0 X5)):Int);let X9:=T.leaf [D.i 0,D.b false];let X10:=(↑(Int.toNat (↑X5:Int)):Int);let X2:=List.replicate (Int.toNat (IntKind.i64.wrap X4)) [D.i 0];let X3:=(xf2 a.I c.L (xeg b.I c.L d.L) 0 X5++xe2 (Int.toNat (0:Int)) (Int.toNat (IntKind.i64.wrap X4 - (0:Int))));let X7:=(List.length X2 - Int.toNat (1:Int));let X8:=(decide ((0:Int)<=(1:Int)/\(1:Int)<=(↑(List.length X2):Int)));let X11:=(cpy X2 [] (Int.toNat (1:Int)) X7);let X1:=(xfp (IntKind.i64.wrap X4) (List.take (Int.toNat (↑(List.length X3):Int)) X3) X11);xO0 C xFa 3 19 s19 [a,b,c,d] =
 T.need (yes (xaw a.I b.I c.L=true/\xh3 c.L d.L)) (T.need (yes ((↑0:Int)=(0:Int)/\xaw a.I b.I c.L=true/\xzr c.L (xeg b.I c.L d.L)/\X10=(↑X5:Int)/\X10=(↑X5:Int)/\(0:Int)=(0:Int)/\0<List.length (xeg b.I c.L d.L))) (T.ite (xay (xis a.I c.L (xeg b.I c.L d.L)) 0 X5) (T.need (yes ((↑(0+1):Int)=(1:Int)/\(0:Int)<=(0:Int)/\(0:Int)<=IntKind.i64.wrap X4/\IntKind.i64.wrap X4<=(500:Int)/\(↑(Int.toNat X6):Int)=X6/\X6+(IntKind.i64.wrap X4 - (0:Int))<=(5500:Int))) (T.need (decide ((0:Int)<=IntKind.i64.wrap X4/\IntKind.i64.wrap X4=IntKind.i64.wrap X4/\IntKind.i64.wrap X4<=(2:Int) ^ 40/\(↑Tryz.prog.types[3].bytes:Int)*IntKind.i64.wrap X4<=(2:Int) ^ 46)) (T.need X8 (T.need (decide (Int.toNat (1:Int)+X7<=List.length X2)) (T.need (decide (Int.toNat (↑(List.length X3):Int)<=List.length X3)) (T.need (yes (xe9 (IntKind.i64.wrap X4) (List.take (Int.toNat (↑(List.length X3):Int)) X3)/\(↑(List.length X2):Int)=IntKind.i64.wrap X4/\(↑(List.length X11):Int)=IntKind.i64.wrap X4/\xPf X11 (1099511627776:Int))) (T.ite (decide (X1.snd.snd>=(0:Int))) X9 (T.need (decide ((0:Int)<=(0:Int)/\(0:Int)<(↑(List.length X2):Int))) (T.need (decide (Int.toNat (0:Int)<List.length X1.fst)) (T.ite (D.I (List.getD (List.getD X1.fst (Int.toNat (0:Int)) []) 0 default) != (0:Int)) X9 (T.need X8 (T.leaf [D.i 1,D.i 1,D.i (↑X7:Int),D.b true,D.l X1.fst])))))))))))) (T.ite true X9 X9))):=by
 intros
 kernel_rfl
theorem xXv (a b c d e f g h i:D) :
 let X1:=List.getD (D.L (List.getD (List.getD i.L c.I.toNat []) 0 default)) 0 [];let X3:=List.getD X1 1 default;let X4:=(Int.toNat (D.I X3 - (1:Int)));let X5:=List.getD f.L (Int.toNat (D.I X3)) [];let X6:=D.L (List.getD X1 (1+1) default);let X7:=(IntKind.i64.wrap (c.I+(1:Int)));let X8:=List.getD X1 0 default;let X2:=T.leaf (Rd.again [D.i 0,D.i (a.I.toNat:Int),D.i b.I,D.i X7,D.i d.I,D.i e.I,D.l f.L,D.b g.B,D.i h.I,D.l i.L]);xal C xFa 19 (xaa C.P 19 4) 3 xv0 [.i 0,a,b,c,d,e,f,g,h,i] =
 T.ite (decide (c.I<b.I)) (T.need (decide ((0:Int)<=c.I/\c.I<(a.I.toNat:Int))) (T.need (decide (c.I.toNat<i.L.length)) (T.ite (decide (D.I X8=(↑0:Int))) (T.need true (T.ite false X2 (T.need true (T.leaf (Rd.again [D.i 1,D.i (a.I.toNat:Int),D.i b.I,D.i X7,D.i d.I,D.i e.I,D.l f.L,D.b g.B,D.i h.I,D.i 1,D.l i.L,D.l [[D.i 0,D.i 1,D.i (D.I X3)]]]))))) (T.ite (decide (D.I X8=(↑(0+1):Int))) (T.need (yes (xaw d.I e.I f.L=true/\(1:Int)<=D.I X3/\D.I X3<=(f.L.length:Int))) (T.need true (T.ite false X2 (T.need true (T.leaf (Rd.again [D.i 1,D.i (a.I.toNat:Int),D.i b.I,D.i X7,D.i d.I,D.i e.I,D.l f.L,D.b g.B,D.i h.I,D.i 2,D.l i.L,D.l [[D.i ((↑X4:Int)+(1:Int)),D.i ((↑X4:Int)+(2:Int)),D.i (leW d.I f.L X4)],[D.i ((↑X4:Int)+(2:Int)),D.i ((↑X4:Int)+(1:Int)),D.i (-moW d.I f.L X4)]]])))))) (T.need (decide (D.I X8=(↑(0+1+1):Int))) (T.need (yes (xaw d.I e.I f.L=true/\(0:Int)<=D.I X3/\D.I X3<(f.L.length:Int)/\xE4 X6)) (T.ite (List.isEmpty X6) (T.need true (T.ite false X2 (T.need true (T.leaf (Rd.again [D.i 1,D.i (a.I.toNat:Int),D.i b.I,D.i X7,D.i d.I,D.i e.I,D.l f.L,D.b g.B,D.i h.I,D.i 1,D.l i.L,D.l [[D.i 0,D.i (D.I X3+(1:Int)),D.i (ix X5 1)]]]))))) (T.ite (decide (ix X5 1+xc0 d.I X5 > ix (List.getD X6 0 []) 2)) (T.leaf (Rd.out (Ex.pan 109) [D.i d.I,D.i e.I,D.l f.L,D.b g.B])) (T.need true (T.ite false X2 (T.need true (T.leaf (Rd.again [D.i 1,D.i (a.I.toNat:Int),D.i b.I,D.i X7,D.i d.I,D.i e.I,D.l f.L,D.b g.B,D.i h.I,D.i 2,D.l i.L,D.l [[D.i 0,D.i (D.I X3+(1:Int)),D.i (ix X5 1+ix (List.getD X6 0 []) 0)],[D.i (D.I X3+(1:Int)),D.i 0,D.i (xc0 d.I X5 - ix (List.getD X6 0 []) 1)]]]))))))))))))) (T.leaf (Rd.out (Ex.exit 0) [D.i 0,D.i d.I,D.i e.I,D.l f.L,D.b g.B,D.i h.I])):=by
 intros
 kernel_rfl
theorem xXu (a b c d e f g h i j k:D) :
 let X1:=List.getD (D.L (List.getD (List.getD j.L c.I.toNat []) 0 default)) 0 [];let X3:=List.getD X1 1 default;let X4:=List.getD f.L (Int.toNat (D.I X3)) [];let X5:=D.L (List.getD X1 (1+1) default);let X6:=(IntKind.i64.wrap (c.I+(1:Int)));let X7:=decide (i.I.toNat<=k.L.length/\i.I.toNat+1<=2 ^ 62/\(i.I.toNat+1)*Tryz.prog.types[121].bytes<=2 ^ 47);let X8:=decide (i.I.toNat<=k.L.length/\i.I.toNat+2<=2 ^ 62/\(i.I.toNat+2)*Tryz.prog.types[121].bytes<=2 ^ 47);let X9:=List.getD X1 0 default;let X2:=T.leaf (Rd.again [D.i 1,D.i (a.I.toNat:Int),D.i b.I,D.i X6,D.i d.I,D.i e.I,D.l f.L,D.b g.B,D.i h.I,D.i (i.I.toNat:Int),D.l j.L,D.l k.L]);xal C xFa 19 (xaa C.P 19 4) 3 xv0 [.i 1,a,b,c,d,e,f,g,h,i,j,k] =
 T.ite (decide (c.I<b.I)) (T.need (decide ((0:Int)<=c.I/\c.I<(a.I.toNat:Int))) (T.need (decide (c.I.toNat<j.L.length)) (T.ite (decide (D.I X9=(↑0:Int))) (T.need true (T.ite false X2 (T.need X7 (T.leaf (Rd.again [D.i 1,D.i (a.I.toNat:Int),D.i b.I,D.i X6,D.i d.I,D.i e.I,D.l f.L,D.b g.B,D.i h.I,D.i (↑(i.I.toNat+1):Int),D.l j.L,D.l (List.take i.I.toNat k.L++List.take (Int.toNat (1:Int)) [lk3 (0:Int) (1:Int) (D.I X3)])]))))) (T.ite (decide (D.I X9=(↑(0+1):Int))) (T.need (yes (xaw d.I e.I f.L=true/\(1:Int)<=D.I X3/\D.I X3<=(f.L.length:Int))) (T.need true (T.ite false X2 (T.need X8 (T.leaf (Rd.again [D.i 1,D.i (a.I.toNat:Int),D.i b.I,D.i X6,D.i d.I,D.i e.I,D.l f.L,D.b g.B,D.i h.I,D.i (↑(i.I.toNat+2):Int),D.l j.L,D.l (List.take i.I.toNat k.L++List.take (Int.toNat (2:Int)) (xgu d.I f.L (Int.toNat (D.I X3 - (1:Int)))))])))))) (T.need (decide (D.I X9=(↑(0+1+1):Int))) (T.need (yes (xaw d.I e.I f.L=true/\(0:Int)<=D.I X3/\D.I X3<(f.L.length:Int)/\xE4 X5)) (T.ite (List.isEmpty X5) (T.need true (T.ite false X2 (T.need X7 (T.leaf (Rd.again [D.i 1,D.i (a.I.toNat:Int),D.i b.I,D.i X6,D.i d.I,D.i e.I,D.l f.L,D.b g.B,D.i h.I,D.i (↑(i.I.toNat+1):Int),D.l j.L,D.l (List.take i.I.toNat k.L++List.take (Int.toNat (1:Int)) [lk3 (0:Int) (D.I X3+(1:Int)) (ix X4 1)])]))))) (T.ite (decide (ix X4 1+xc0 d.I X4 > ix (List.getD X5 0 []) 2)) (T.leaf (Rd.out (Ex.pan 109) [D.i d.I,D.i e.I,D.l f.L,D.b g.B])) (T.need true (T.ite false X2 (T.need X8 (T.leaf (Rd.again [D.i 1,D.i (a.I.toNat:Int),D.i b.I,D.i X6,D.i d.I,D.i e.I,D.l f.L,D.b g.B,D.i h.I,D.i (↑(i.I.toNat+2):Int),D.l j.L,D.l (List.take i.I.toNat k.L++List.take (Int.toNat (2:Int)) [lk3 (0:Int) (D.I X3+(1:Int)) (ix X4 1+ix (List.getD X5 0 []) 0),lk3 (D.I X3+(1:Int)) (0:Int) (xc0 d.I X4 - ix (List.getD X5 0 []) 1)])]))))))))))))) (T.leaf (Rd.out (Ex.exit 0) [D.i 1,D.i d.I,D.i e.I,D.l f.L,D.b g.B,D.i h.I,D.i (i.I.toNat:Int),D.l k.L])):=by
 intros
 kernel_rfl
theorem xXt (a b c d e f g h i:D):xal C xFa 19 (xaa C.P 19 9) 3 xF2 [.i 1,a,b,c,d,e,f,g,h,i] =
 T.ite (decide (b.I<a.I)) (T.need true (T.ite false (T.leaf (Rd.again [D.i 1,D.i a.I,D.i (IntKind.i64.wrap (b.I+(1:Int))),D.i c.I,D.i d.I,D.l e.L,D.b f.B,D.i g.I,D.i (h.I.toNat:Int),D.l i.L])) (T.need (decide (h.I.toNat<=i.L.length/\h.I.toNat+1<=2 ^ 62/\(h.I.toNat+1)*Tryz.prog.types[121].bytes<=2 ^ 47)) (T.leaf (Rd.again [D.i 1,D.i a.I,D.i (IntKind.i64.wrap (b.I+(1:Int))),D.i c.I,D.i d.I,D.l e.L,D.b f.B,D.i g.I,D.i (↑(h.I.toNat+1):Int),D.l (List.take h.I.toNat i.L++List.take (List.length [[D.i 0,D.i b.I,D.i 0]]) [[D.i 0,D.i b.I,D.i 0]])]))))) (T.leaf (Rd.out (Ex.exit 2) [D.i 1,D.i c.I,D.i d.I,D.l e.L,D.b f.B,D.i g.I,D.i (h.I.toNat:Int),D.l i.L])):=by kernel_rfl
theorem t20 (a b c d e f g:D) :
 let X1:=(↑(Int.toNat (d.L.length:Int)):Int);let X2:=(↑(Int.toNat (c.L.length:Int)):Int);xh2 C xMk 20 s20 [a,b,c,d,e,f,g] =
 T.need (yes (d.L≠[]/\d.L.length<=1073741824)) (T.need (yes ((↑0:Int)=(0:Int)/\xaw a.I b.I c.L=true/\(e.I.toNat:Int)=(1:Int)/\(f.I.toNat:Int)=(c.L.length:Int)+(1:Int)/\c.L=c.L/\(c.L.length:Int)=(c.L.length:Int)/\(0:Int)=(0:Int)/\xCp c.L g.L/\(e.I.toNat:Int)=(1:Int)/\(f.I.toNat:Int)=(c.L.length:Int)+(1:Int)/\X1=(d.L.length:Int))) (T.leaf [D.i 1,D.i (↑(Int.toNat (↑(c.L.length+1):Int)):Int),D.i X2,D.i X2,D.i X1,D.l g.L,D.l (xcy (clG c.L (duF g.L)) 0 c.L.length),D.l (xcy (opG a.I c.L (duF g.L)) 0 c.L.length),D.l d.L])):=by
 intros
 kernel_rfl
theorem xXr (a b c d e f g h i j k l m:D) :
 let X1:=(decide ((0:Int)<=e.I/\e.I<(b.I.toNat:Int)));let X2:=decide (a.I.toNat+e.I.toNat<f.L.length);let X3:=(yes (xaw g.I h.I i.L=true/\(0:Int)<=e.I/\e.I<(i.L.length:Int)));let X4:=List.getD (List.getD f.L (a.I.toNat+e.I.toNat) []) 0 default;let X5:=(IntKind.i64.wrap (e.I+(1:Int)));xal C xMk 20 (xaa C.P 20 3) 1 xvy [.i 0,a,b,c,d,e,f,g,h,i,j,k,l,m] =
 T.ite (decide (e.I<d.I)) (T.need (decide ((0:Int)<=e.I/\e.I<(c.L.length:Int))) (T.need X1 (T.need X2 (T.need true (T.ite false (T.need X1 (T.need X2 (T.need X3 (T.need true (T.ite false (T.leaf (Rd.again [D.i 0,D.i (a.I.toNat:Int),D.i (b.I.toNat:Int),D.l c.L,D.i d.I,D.i X5,D.l f.L,D.i g.I,D.i h.I,D.l i.L,D.i (j.I.toNat:Int),D.i (k.I.toNat:Int),D.i (l.I.toNat:Int),D.l m.L])) (T.need true T.fail)))))) (T.need true (T.need X1 (T.need X2 (T.need X3 (T.need true (T.ite false T.fail (T.need true (T.leaf (Rd.again [D.i 1,D.i (a.I.toNat:Int),D.i (b.I.toNat:Int),D.l c.L,D.i d.I,D.i X5,D.l f.L,D.i g.I,D.i h.I,D.l i.L,D.i (j.I.toNat:Int),D.i (k.I.toNat:Int),D.i 1,D.i 1,D.i (l.I.toNat:Int),D.l [[D.i (IntKind.i64.wrap (D.I X4 - D.I (List.getD (List.getD c.L e.I.toNat []) (0+1) default)))]],D.l [[D.i (IntKind.i64.wrap (D.I X4+xc0 g.I (List.getD i.L e.I.toNat [])))]],D.l m.L])))))))))))))) T.fail:=by
 intros
 kernel_rfl
theorem xXq (a b c d e f g h i j k l m n o p q:D) :
 let X1:=[[D.i (IntKind.i64.wrap (D.I (List.getD (List.getD f.L (a.I.toNat+e.I.toNat) []) 0 default) - D.I (List.getD (List.getD c.L e.I.toNat []) (0+1) default)))]];let X2:=[[D.i (IntKind.i64.wrap (D.I (List.getD (List.getD f.L (a.I.toNat+e.I.toNat) []) 0 default)+xc0 g.I (List.getD i.L e.I.toNat [])))]];let X3:=(IntKind.i64.wrap (e.I+(1:Int)));let X4:=decide (m.I.toNat<=p.L.length/\m.I.toNat+1<=2 ^ 62/\(m.I.toNat+1)*Tryz.prog.types[3].bytes<=2 ^ 47);let X5:=(decide ((0:Int)<=e.I/\e.I<(b.I.toNat:Int)));let X6:=decide (a.I.toNat+e.I.toNat<f.L.length);let X7:=(yes (xaw g.I h.I i.L=true/\(0:Int)<=e.I/\e.I<(i.L.length:Int)));let X8:=List.take m.I.toNat p.L++List.take (List.length X2) X2;let X9:=List.take l.I.toNat o.L++List.take (List.length X1) X1;xal C xMk 20 (xaa C.P 20 3) 1 xvy [.i 1,a,b,c,d,e,f,g,h,i,j,k,l,m,n,o,p,q] =
 T.ite (decide (e.I<d.I)) (T.need (decide ((0:Int)<=e.I/\e.I<(c.L.length:Int))) (T.need X5 (T.need X6 (T.need true (T.ite false (T.need X5 (T.need X6 (T.need X7 (T.need true (T.ite false (T.leaf (Rd.again [D.i 1,D.i (a.I.toNat:Int),D.i (b.I.toNat:Int),D.l c.L,D.i d.I,D.i X3,D.l f.L,D.i g.I,D.i h.I,D.l i.L,D.i (j.I.toNat:Int),D.i (k.I.toNat:Int),D.i (l.I.toNat:Int),D.i (m.I.toNat:Int),D.i (n.I.toNat:Int),D.l o.L,D.l p.L,D.l q.L])) (T.need X4 (T.leaf (Rd.again [D.i 1,D.i (a.I.toNat:Int),D.i (b.I.toNat:Int),D.l c.L,D.i d.I,D.i X3,D.l f.L,D.i g.I,D.i h.I,D.l i.L,D.i (j.I.toNat:Int),D.i (k.I.toNat:Int),D.i (l.I.toNat:Int),D.i (↑(m.I.toNat+1):Int),D.i (n.I.toNat:Int),D.l o.L,D.l X8,D.l q.L])))))))) (T.need (decide (l.I.toNat<=o.L.length/\l.I.toNat+1<=2 ^ 62/\(l.I.toNat+1)*Tryz.prog.types[3].bytes<=2 ^ 47)) (T.need X5 (T.need X6 (T.need X7 (T.need true (T.ite false (T.leaf (Rd.again [D.i 1,D.i (a.I.toNat:Int),D.i (b.I.toNat:Int),D.l c.L,D.i d.I,D.i X3,D.l f.L,D.i g.I,D.i h.I,D.l i.L,D.i (j.I.toNat:Int),D.i (k.I.toNat:Int),D.i (↑(l.I.toNat+1):Int),D.i (m.I.toNat:Int),D.i (n.I.toNat:Int),D.l X9,D.l p.L,D.l q.L])) (T.need X4 (T.leaf (Rd.again [D.i 1,D.i (a.I.toNat:Int),D.i (b.I.toNat:Int),D.l c.L,D.i d.I,D.i X3,D.l f.L,D.i g.I,D.i h.I,D.l i.L,D.i (j.I.toNat:Int),D.i (k.I.toNat:Int),D.i (↑(l.I.toNat+1):Int),D.i (↑(m.I.toNat+1):Int),D.i (n.I.toNat:Int),D.l X9,D.l X8,D.l q.L])))))))))))))) (T.leaf (Rd.out (Ex.exit 0) [D.l f.L,D.i (j.I.toNat:Int),D.i (k.I.toNat:Int),D.i (l.I.toNat:Int),D.i (m.I.toNat:Int),D.i (n.I.toNat:Int),D.l o.L,D.l p.L,D.l q.L])):=by
 intros
 kernel_rfl
theorem t35 (a:D):fnT C yev 35 s35 [a] =
 T.need (!List.isEmpty a.L) (T.ite (List.isEmpty a.L) (T.leaf [D.i 1]) (T.need (decide (a.L.length<=2 ^ 62/\a.L.length*Tryz.prog.types[3].bytes<=2 ^ 47)) (T.leaf [D.i 0,D.i (a.L.length:Int),D.l a.L]))):=by kernel_rfl
set_option maxRecDepth 100000
def xqi (c f:Int) (w ch:List (List D)) (d:Nat->Int):Prop:=
 f <= d 0/\(∀ j,0<=d j)/\∀ j,j<w.length->d j+leW c w j<=d (j+1)/\d (j+1) - moW c w j<=d j/\ix (w.getD j []) 1+xwd w ch j<=d j
def xzn (d:Nat->Int):Nat->Int
 | 0=>0
 | j+1=>d j
def xqa (c:Int) (w ch:List (List D)) (d:Nat->Int):Prop:=∀ j,j<w.length->0<=rg ch j->d j+xc0 c (w.getD j [])<=ix (xj8 w ch j) 1
theorem xIh {u:Bool} {c f:Int} {w ch:List (List D)} {d:Nat->Int} (h0:∀ j,0<=d j):(xfs (nP w) (xfj (nP w) (xff u c f w ch))).kept (xzn d) ↔ xqi c f w ch d/\(u=true->xqa c w ch d):=by
 rw [xEc];unfold xAo xqi xqa;simp only [xzn,Int.zero_add];constructor
 ·rintro ⟨h1,h2,-⟩
  refine ⟨⟨h1,h0,fun j hj=>?_⟩,fun hu j hj hc=>?_⟩
  ·obtain ⟨a,b,c,-⟩:=h2 j hj;exact ⟨a,b,c⟩
  ·obtain ⟨-,-,-,e⟩:=h2 j hj;have:=e hu hc;omega
 ·rintro ⟨⟨h1,-,h2⟩,h3⟩
  refine ⟨h1,fun j hj=>?_,fun j _=>?_⟩
  ·obtain ⟨a,b,c⟩:=h2 j hj;exact ⟨a,b,c,fun hu hc=>by have:=h3 hu j hj hc;omega⟩
  ·cases j with
   | zero=>exact Int.le_refl _
   | succ j=>exact h0 j
theorem xOr {u:Bool} {c f:Int} {w ch:List (List D)} {p:Nat->Int} (h0:p 0=0) (h:(xfs (nP w) (xfj (nP w) (xff u c f w ch))).kept p) (hn:∀ j,0<=p j):xqi c f w ch (fun j=>p (j+1))/\(u=true->xqa c w ch fun j=>p (j+1)):=by
 rw [<- xIh (fun j=>hn _)];rw [xEc] at h ⊢;have e:∀ j,xzn (fun j=>p (j+1)) j=p j:=fun j=>by cases j with
  | zero=>exact h0.symm
  | succ j=>rfl
 unfold xAo at h ⊢;simp only [e];exact h
section
variable {c f:Int} {w ch:List (List D)}
theorem xU0 {l:List (List D)} (h:xkn l=true) {k:Nat} (hk:k<l.length):(0<=ix (l.getD k []) 0/\ix (l.getD k []) 0<=ix (l.getD k []) 1)/\ix (l.getD k []) 1<=200000/\0<=ix (l.getD k []) 2/\ix (l.getD k []) 2<=200000:=by
 unfold xkn at h;exact of_decide_eq_true (xdz.1 h k (Nat.zero_le _) (by omega))
theorem xGi (hp:xaw c f w=true) (hc:xh3 w ch) {j:Nat} (hj:j<w.length) (h0:0<=rg ch j):(0<=ix (xj8 w ch j) 0/\ix (xj8 w ch j) 0<=ix (xj8 w ch j) 1)/\ix (xj8 w ch j) 1<=200000/\0<=ix (xj8 w ch j) 2/\ix (xj8 w ch j) 2<=200000:=by
 have h1:=hc.2 j hj;split at h1
 ·omega
 ·exact xU0 (xdt hp hj).2 (by omega)
theorem xYz (hp:xaw c f w=true) (hc:xh3 w ch) {j:Nat} (hj:j<w.length):0<=xwd w ch j/\xwd w ch j<=200000:=by
 unfold xwd;split
 ·have:=xGi hp hc hj (by assumption);omega
 ·omega
theorem xCb (hp:xaw c f w=true) {j:Nat} (hj:j<w.length):0<=leW c w j/\leW c w j<=moW c w j/\moW c w j<=14000:=by
 have h1:=xdh (xdt hp hj).1;have h2:=xqw hp hj;unfold leW moW;by_cases hg:j+1<w.length/\bx (w.getD (j+1) []) 4=true
 ·have h3:=xdh (xdt hp hg.1).1;rw [if_pos hg,if_pos hg];omega
 ·rw [if_neg hg,if_neg hg];omega
theorem xCt (hp:xaw c f w=true) {j:Nat} (hj:j<w.length):0<=xc0 c (w.getD j [])/\xc0 c (w.getD j [])<=14000:=by
 have h1:=xdh (xdt hp hj).1;have h2:=xqw hp hj;unfold xc0;omega
def qD (c:Int) (w:List (List D)):Nat->Int
 | 0=>300000
 | j+1=>if j<w.length then qD c w j+leW c w j else 300000
theorem xzx (hp:xaw c f w=true):∀ j,300000<=qD c w j/\qD c w j<=300000+14000*j
 | 0=>by simp [qD]
 | j + 1=>by
   have:=xzx hp j;simp only [qD];split
   ·have:=xCb hp (j:=j) (by assumption);omega
   ·omega
theorem xRa (hp:xaw c f w=true) (hc:xh3 w ch):xqi c f w ch (qD c w):=by
 obtain ⟨-,-,p1,p2⟩:=xb1 hp;refine ⟨by simp only [qD];omega,fun j=>by have:=xzx hp j;omega,fun j hj=>?_⟩;have h1:=xCb hp hj;have h2:=xzx hp j;have h3:=xYz hp hc hj;have h4:=xdh (xdt hp hj).1;simp only [qD];rw [if_pos hj];omega
theorem xsf (u:Bool):∀ (k i:Nat),(xkh u c w ch i k).length<=4*k
 | 0,_=>by simp [xkh]
 | k + 1,i=>by
   have h1:=xsf u k (i+1);have h2:(xpu u c w ch i).length<=4:=by
    unfold xpu xgu xwl;split
    ·cases u <;> simp
    ·simp
   simp only [xkh,List.length_append];omega
theorem xx4 (u:Bool) (hp:xaw c f w=true) (hc:xh3 w ch):xx5 (nP w) (xff u c f w ch):=by
 obtain ⟨p0,p1,p2,p3⟩:=xb1 hp;have hl:=xsf (c:=c) (w:=w) (ch:=ch) u w.length 0;unfold xx5 xN9;simp only [Bool.and_eq_true,Lite.xrt,decide_eq_true_eq,xdz];refine ⟨⟨by unfold nP;omega,by unfold xff;simp only [List.length_cons];omega⟩,fun i _ hi=>?_⟩;have key : ∀ x∈xff u c f w ch,xsd (nP w) (ix x 0) (ix x 1) (ix x 2)=true:=by
  have g:∀ a b y:Int,xsd (nP w) (ix (lk3 a b y) 0) (ix (lk3 a b y) 1) (ix (lk3 a b y) 2)=xsd (nP w) a b y:=fun _ _ _=>rfl
  have g2:∀ a b y:Int,(0<=a/\a<=w.length+1)->(0<=b/\b<=w.length+1)->(-1000000<=y/\y<=1000000)->xsd (nP w) a b y=true:=fun a b y h1 h2 h3=>by
   unfold xsd nP;simp only [Bool.and_eq_true,Lite.xrt];omega
  intro x hx;unfold xff at hx;rw [List.mem_cons,xn4] at hx;rcases hx with rfl | ⟨j,-,hj,hx⟩
  ·rw [g];exact g2 _ _ _ (by omega) (by omega) (by omega)
  ·have hjl:j<w.length:=by omega
   have h1:=xCb hp hjl;have h2:=xCt hp hjl;have h3:=xdh (xdt hp hjl).1;unfold xpu xgu xwl at hx;rw [List.mem_append,List.mem_cons,List.mem_cons] at hx;rcases hx with (rfl | rfl | hx) | hx
   ·rw [g];exact g2 _ _ _ (by omega) (by omega) (by omega)
   ·rw [g];exact g2 _ _ _ (by omega) (by omega) (by omega)
   ·cases hx
   ·by_cases h0:0<=rg ch j
    ·have h4:=xGi hp hc hjl h0;rw [if_pos h0,List.mem_cons] at hx;rcases hx with rfl | hx
     ·rw [g];exact g2 _ _ _ (by omega) (by omega) (by omega)
     ·cases u with
      | false=>cases hx
      | true=>
        simp only [if_true,List.mem_cons,List.not_mem_nil,or_false] at hx;subst hx;rw [g];exact g2 _ _ _ (by omega) (by omega) (by omega)
    ·rw [if_neg h0,List.mem_cons] at hx;rcases hx with rfl | hx
     ·rw [g];exact g2 _ _ _ (by omega) (by omega) (by omega)
     ·cases hx
 have:=key ((xff u c f w ch).getD i []) (by
  have hi':i<(xff u c f w ch).length:=by omega
  rw [List.getD_eq_getElem?_getD,List.getElem?_eq_getElem hi'];exact List.getElem_mem hi')
 exact this
theorem xTu {d:Nat->Int} (h:∀ j,0<=d j) (j:Nat):0<=xzn d j:=by
 cases j with
 | zero=>exact Int.le_refl _
 | succ j=>exact h j
theorem xnd (u:Bool) (hp:xaw c f w=true) (hc:xh3 w ch) (hr:(xd1 u c f w ch).2.2<0) :
    rg (xd1 u c f w ch).1 0=0/\(∀ j,0<=rg (xd1 u c f w ch).1 j)/\(xd1 u c f w ch).1.length=w.length+2/\xqi c f w ch (fun j=>rg (xd1 u c f w ch).1 (j+1))/\(u=true->xqa c w ch fun j=>rg (xd1 u c f w ch).1 (j+1)):=by
 have hn:=xx4 u hp hc;have h0:rg (xd1 u c f w ch).1 0=0:=xRb hn hr;have h1:(∀ j,0<=rg (xd1 u c f w ch).1 j)/\(xd1 u c f w ch).1.length=(nP w).toNat:=⟨fun j=>by have:=xB2 (xmp hn) (xgd _) j;rw [xou] at this;exact this,(xop (xmp hn) (xgd _)).l1⟩;have hk:=xEb (xmp hn) (xgd _) hr;have h2:=xOr h0 hk h1.1;have h3:(xd1 u c f w ch).1.length=(nP w).toNat:=h1.2;exact ⟨h0,h1.1,by rw [h3];unfold nP;omega,h2.1,h2.2⟩
theorem xlv (u:Bool) (hp:xaw c f w=true) (hc:xh3 w ch) {d:Nat->Int} (hd:xqi c f w ch d) (he:u=true->xqa c w ch d) :
    (xd1 u c f w ch).2.2<0/\∀ j,rg (xd1 u c f w ch).1 (j+1)<=d j:=by
 have h:=xNn (xx4 u hp hc) ((xIh hd.2.1).2 ⟨hd,he⟩) (xTu hd.2.1);exact ⟨h.1,fun j=>h.2 (j+1)⟩
theorem xLc (c f:Int) (w ch:List (List D)) (j:Nat):rg (xaf c f w ch) j=rg (xd1 false c f w ch).1 (j+1):=by
 unfold xaf;rw [xvo,Nat.add_comm]
theorem xu6 (hp:xaw c f w=true) (hc:xh3 w ch):(xaf c f w ch).length=w.length+1/\xgw (xaf c f w ch)/\xqi c f w ch (rg (xaf c f w ch))/\(∀ j,rg (xaf c f w ch) j<=2000000)/\∀ d,xqi c f w ch d->∀ j,rg (xaf c f w ch) j<=d j:=by
 have h1:=xlv false hp hc (xRa hp hc) (fun h=>by cases h);have h2:=xnd false hp hc h1.1;have hl:(xaf c f w ch).length=w.length+1:=by unfold xaf;rw [List.length_drop,h2.2.2.1];rfl
 have hle:∀ d,xqi c f w ch d->∀ j,rg (xaf c f w ch) j<=d j:=fun d hd j=>by
  rw [xLc];exact (xlv false hp hc hd (fun h=>by cases h)).2 j
 refine ⟨hl,xBd (xBb _ _) 1,?_,fun j=>?_,hle⟩
 ·have h3:=h2.2.2.2.1;have e:rg (xaf c f w ch)=fun j=>rg (xd1 false c f w ch).1 (j+1):=funext fun j=>xLc c f w ch j
  rw [e];exact h3
 ·by_cases hj:j<w.length+1
  ·have h4:=hle _ (xRa hp hc) j;have h5:=xzx hp j;have h6:=(xb1 hp).2.1;omega
  ·rw [xNl (by omega)];omega
theorem xDo (hp:xaw c f w=true) (hc:xh3 w ch):((xd1 true c f w ch).2.2<0 ↔ xqa c w ch (rg (xaf c f w ch)))/\((xd1 true c f w ch).2.2<0->(xd1 true c f w ch).1.drop 1=xaf c f w ch):=by
 obtain ⟨d1,d2,d3,d4,d5⟩:=xu6 (f:=f) hp hc;have key:(xd1 true c f w ch).2.2<0->xqa c w ch (rg (xaf c f w ch)):=fun hr=>by
  obtain ⟨e1,e2,e3,e4,e5⟩:=xnd true hp hc hr;intro j hj h0;have h1:=e5 rfl j hj h0;have h2:=d5 _ e4 j;simp only at h1 h2;omega
 refine ⟨⟨key,fun he=>(xlv true hp hc d3 (fun _=>he)).1⟩,fun hr=>?_⟩;obtain ⟨e1,e2,e3,e4,e5⟩:=xnd true hp hc hr;refine xEr (xBd (xBb _ _) 1) d2 (by rw [List.length_drop,e3,d1];rfl) fun j _=>?_
 rw [xvo,Nat.add_comm];have h1:=(xlv true hp hc d3 (fun _=>key hr)).2 j;have h2:=d5 _ e4 j;omega
end
set_option maxRecDepth 100000
theorem xQ9 (l:List (List D)) (k:Nat):(lx (l.getD k []) 0).getD 0 []=rD l k:=rfl
theorem all_cons {p:Nat->Bool} {k n:Nat} (h:k<n):xay p k (n - k)=(p k && xay p (k+1) (n - (k+1))):=by
 rw [show n - k=(n - (k+1))+1 by omega];rfl
theorem ycp (n:Nat):xb0 C (n+2) 3 19 (xaa C.P 19 4) (xde 3 xv0 xBm):=by
 refine xbb hC (sp:=xxr) (lp:=xya) (sw:=xxl) ⟨xN5 n,xN2 n,xN1 n,trivial⟩ ⟨xUe (n+1),xUd (n+1),trivial⟩ 3 [] (by kernel_rfl) rfl (fun k hk=>by cases hk) (by kernel_rfl) (fun ds=>((ds.getD 2 default).I - (ds.getD 3 default).I).toNat) fun ds rr h=>?_
 unfold xBm at h;split at h
 ·rename_i hd nn m i c f w ok z l;obtain ⟨hp,h⟩:=xab h;rw [xad] at hp;obtain ⟨e0,hp,hv,hn,hm,hi,hl0⟩:=hp;have hb:=xdg;have hl:=hv.1;refine ⟨by rw [xa9];simp;omega,?_⟩;rw [xar (j:=hd) (n:=0) e0 (by decide),show xal C (xah xxr xya xxl) 19 (xaa C.P 19 4) 3 xv0 [.i 0,nn,m,i,c,f,w,ok,z,l]=_ from xXv nn m i c f w ok z l];have hx:=hv.2 0 hl0;have e1:xay (xis c.I w.L l.L) 0 l.L.length=(xe0 c.I w.L (rD l.L 0) && xay (xis c.I w.L l.L) 1 (l.L.length - 1)):=all_cons (p:=xis c.I w.L l.L) (k:=0) hl0;have e2:xf2 c.I w.L l.L 0 l.L.length=xg8 c.I w.L (rD l.L 0)++xf2 c.I w.L l.L 1 (l.L.length - 1):=by
   obtain ⟨q,hq⟩:∃ q,l.L.length=q+1:=⟨l.L.length - 1,by omega⟩;rw [hq];rfl
  have w1:IntKind.i64.wrap ((0:Int)+1)=1:=by decide
  simp only [hi,hm,hn,Int.toNat_natCast,Int.toNat_zero,xQ9,xfh,xlz,Nat.reduceAdd,w1,e1,e2] at h hx ⊢;generalize rD l.L 0=x at h hx ⊢;have hmu:(((l.L.length:Nat):Int) - 1).toNat<(m.I - i.I).toNat:=by omega
  have go:xe0 c.I w.L x=true->∀ (y:List (List D)) (q:Int),q=y.length->xg8 c.I w.L x=y->y.length<=2->(xBm [.i 1,.i (l.L.length:Int),.i (l.L.length:Int),.i 1,.i c.I,.i f.I,.l w.L,.b ok.B,.i z.I,.i q,.l l.L,.l y]).run=some rr:=fun hk y q hq hy hy2=>by
   subst hq;rw [hk,Bool.true_and,hy] at h;refine (xam ⟨rfl,hp,hv,rfl,rfl,by simp only [I_i];omega,by simp only [I_i,L_l];omega,rfl,by simp only [I_i,L_l];omega⟩).trans ?_;exact h
  refine xgl (by omega) (xac (by omega) (xac (by omega) ?_));rcases hx with hx | ⟨hx,h1,h2⟩ | ⟨hx,h1,h2⟩
  ·refine xgl hx (xdi rfl (xbr rfl (xdi rfl (xaj (go ?_ _ _ ?_ ?_ ?_) hmu))))
   ·unfold xe0;exact decide_eq_true (fun hh=>by omega)
   ·rfl
   ·unfold xg8 lk3;rw [if_pos hx]
   ·simp
  ·have hx':¬ ix x 0=((0:Nat):Int):=by omega
   refine xem hx' (xgl hx (xbe ⟨hp,h1,h2⟩ (xdi rfl (xbr rfl (xdi rfl (xaj (go ?_ _ _ ?_ ?_ ?_) hmu))))))
   ·unfold xe0;exact decide_eq_true (fun hh=>by omega)
   ·rfl
   ·unfold xg8;rw [if_neg (by omega),if_pos hx];rfl
   ·simp
  ·have hx0:¬ ix x 0=((0:Nat):Int):=by omega
   have hx1:¬ ix x 0=((1:Nat):Int):=by omega
   refine xem hx0 (xem hx1 (xac hx (xbe ⟨hp,h1.1,h1.2,h2⟩ ?_)));have hr:xg8 c.I w.L x=xn8 c.I w.L (ix x 1).toNat (lx x 2):=by unfold xg8;rw [if_neg (by omega),if_neg (by omega)]
   have e3:(((ix x 1).toNat:Nat):Int)=ix x 1:=by omega
   refine xcm (fun hem=>?_) fun hem=>?_
   ·refine xdi rfl (xbr rfl (xdi rfl (xaj (go ?_ _ _ ?_ ?_ ?_) hmu)))
    ·unfold xe0;exact decide_eq_true (fun _ hh=>by rw [hem] at hh;cases hh)
    ·rfl
    ·rw [hr];unfold xn8;rw [if_pos hem,e3];rfl
    ·simp
   ·refine xa2 (fun hgt=>xao ?_) fun hle=>xdi rfl (xbr rfl (xdi rfl (xaj (go ?_ _ _ ?_ ?_ ?_) hmu)))
    ·have hk:xe0 c.I w.L x=false:=by
      unfold xe0;exact decide_eq_false (fun hh=>by have:=hh hx hem;omega)
     rw [hk,Bool.false_and] at h;exact h
    ·unfold xe0;exact decide_eq_true (fun _ _=>by omega)
    ·rfl
    ·rw [hr];unfold xn8;rw [if_neg (by rw [hem];exact Bool.false_ne_true),e3];rfl
    ·simp
 ·rename_i hd nn m i c f w ok z ll l k;obtain ⟨hp,h⟩:=xab h;rw [xad] at hp;obtain ⟨e0,hp,hv,hn,hm,hi0,hi1,hll,hkl⟩:=hp;have hb:=xdg;have hl:=hv.1;refine ⟨by rw [xa9];simp;omega,?_⟩;rw [xar (j:=hd) (n:=1) e0 (by decide),show xal C (xah xxr xya xxl) 19 (xaa C.P 19 4) 3 xv0 [.i 1,nn,m,i,c,f,w,ok,z,ll,l,k]=_ from xXu nn m i c f w ok z ll l k];obtain ⟨j,hj⟩:∃ j:Nat,i.I=j:=⟨i.I.toNat,by omega⟩;have t1:∀ y:List D,List.take 1 [y]=[y]:=fun _=>rfl
  have t2:∀ y z:List D,List.take 2 [y,z]=[y,z]:=fun _ _=>rfl
  have t3:∀ q:Nat,List.take 2 (xgu c.I w.L q)=xgu c.I w.L q:=fun _=>rfl
  have t4:List.take k.L.length k.L=k.L:=List.take_length;simp only [hj,hm,hn,hll,Int.toNat_natCast,xQ9,xfh,xlz,Nat.reduceAdd,t4,xJa] at h hi0 hi1 hkl ⊢;refine xa2 (fun hlt=>?_) fun hge=>xao ?_
  ·have hjl:j<l.L.length:=by omega
   have hx:=hv.2 j hjl;rw [xbd (by omega)];have e2:xf2 c.I w.L l.L j (l.L.length - j)=xg8 c.I w.L (rD l.L j)++xf2 c.I w.L l.L (j+1) (l.L.length - (j+1)):=by
    rw [show l.L.length - j=(l.L.length - (j+1))+1 by omega];rfl
   rw [all_cons hjl,e2,show xis c.I w.L l.L j=xe0 c.I w.L (rD l.L j) from rfl] at h;generalize rD l.L j=x at h hx ⊢;have hmu:(((l.L.length:Nat):Int) - ((j+1:Nat):Int)).toNat<(m.I - i.I).toNat:=by omega
   have go:xe0 c.I w.L x=true->∀ (y:List (List D)) (q:Int),q=((k.L.length+y.length:Nat):Int)->xg8 c.I w.L x=y->y.length<=2->(xBm [.i 1,.i (l.L.length:Int),.i (l.L.length:Int),.i ((j+1:Nat):Int),.i c.I,.i f.I,.l w.L,.b ok.B,.i z.I,.i q,.l l.L,.l (k.L++y)]).run=some rr:=fun hk y q hq hy hy2=>by
    subst hq;rw [hk,Bool.true_and,hy,<- List.append_assoc] at h;refine (xam ⟨rfl,hp,hv,rfl,rfl,by simp only [I_i];omega,by simp only [I_i,L_l];omega,by simp only [I_i,L_l,List.length_append],by simp only [I_i,L_l,List.length_append];omega⟩).trans ?_;simp only [I_i,L_l,Int.toNat_natCast];exact h
   refine xac (by omega) (xac (by omega) ?_);rcases hx with hx | ⟨hx,h1,h2⟩ | ⟨hx,h1,h2⟩
   ·refine xgl hx (xdi rfl (xbr rfl (xac (by omega) (xaj (go ?_ _ _ ?_ ?_ ?_) hmu))))
    ·unfold xe0;exact decide_eq_true (fun hh=>by omega)
    ·rfl
    ·unfold xg8;rw [if_pos hx];rfl
    ·simp
   ·have hx':¬ ix x 0=((0:Nat):Int):=by omega
    refine xem hx' (xgl hx (xbe ⟨hp,h1,h2⟩ (xdi rfl (xbr rfl (xac (by omega) (xaj (go ?_ _ _ ?_ ?_ ?_) hmu))))))
    ·unfold xe0;exact decide_eq_true (fun hh=>by omega)
    ·rfl
    ·unfold xg8;rw [if_neg (by omega),if_pos hx];rfl
    ·simp [xgu]
   ·have hx0:¬ ix x 0=((0:Nat):Int):=by omega
    have hx1:¬ ix x 0=((1:Nat):Int):=by omega
    refine xem hx0 (xem hx1 (xac hx (xbe ⟨hp,h1.1,h1.2,h2⟩ ?_)));have hr:xg8 c.I w.L x=xn8 c.I w.L (ix x 1).toNat (lx x 2):=by unfold xg8;rw [if_neg (by omega),if_neg (by omega)]
    have e3:(((ix x 1).toNat:Nat):Int)=ix x 1:=by omega
    refine xcm (fun hem=>?_) fun hem=>?_
    ·refine xdi rfl (xbr rfl (xac (by omega) (xaj (go ?_ _ _ ?_ ?_ ?_) hmu)))
     ·unfold xe0;exact decide_eq_true (fun _ hh=>by rw [hem] at hh;cases hh)
     ·rfl
     ·rw [hr];unfold xn8;rw [if_pos hem,e3];rfl
     ·simp
    ·refine xa2 (fun hgt=>xao ?_) fun hle=>xdi rfl (xbr rfl (xac (by omega) (xaj (go ?_ _ _ ?_ ?_ ?_) hmu)))
     ·have hk:xe0 c.I w.L x=false:=by
       unfold xe0;exact decide_eq_false (fun hh=>by have:=hh hx hem;omega)
      rw [hk,Bool.false_and] at h;exact h
     ·unfold xe0;exact decide_eq_true (fun _ _=>by omega)
     ·rfl
     ·rw [hr];unfold xn8;rw [if_neg (by rw [hem];exact Bool.false_ne_true),e3];rfl
     ·simp
  ·rw [show l.L.length - j=0 by omega] at h;simp only [xay,xf2,List.append_nil] at h;exact h
 ·cases h
theorem yco (n:Nat):xb0 C (n+2) 3 19 (xaa C.P 19 9) (xde 3 xF2 xP7):=by
 refine xbb hC (sp:=xxr) (lp:=xya) (sw:=xxl) ⟨xN5 n,xN2 n,xN1 n,trivial⟩ ⟨xUe (n+1),xUd (n+1),trivial⟩ 3 [] (by kernel_rfl) rfl (fun k hk=>by cases hk) (by kernel_rfl) (fun ds=>((ds.getD 1 default).I - (ds.getD 2 default).I).toNat) fun ds rr h=>?_
 unfold xP7 at h;split at h
 ·rename_i hd m i c f w ok z ll r;obtain ⟨hp,h⟩:=xab h;rw [xad] at hp;obtain ⟨e0,h1,h2,h3,h4,h5⟩:=hp;have hb:=xdg;refine ⟨by rw [xa9];simp;omega,?_⟩;rw [xar (j:=hd) (n:=1) e0 (by decide),show xal C (xah xxr xya xxl) 19 (xaa C.P 19 9) 3 xF2 [.i 1,m,i,c,f,w,ok,z,ll,r]=_ from xXt m i c f w ok z ll r];obtain ⟨q,hq⟩:∃ q:Nat,i.I=q:=⟨i.I.toNat,by omega⟩;have e1:[[D.i 0,D.i (q:Int),D.i 0]].take 1=[[D.i 0,D.i (q:Int),D.i 0]]:=rfl;simp only [hq,h4,Int.toNat_natCast,e1,List.length_cons,List.length_nil,Nat.zero_add,List.take_length,xJa] at h h2 h5 ⊢;refine xa2 (fun hlt=>?_) fun hge=>xao ?_
  ·refine xdi rfl (xbr rfl (xac (by omega) ?_));rw [xbd (by omega)];have e2:(m.I - (q:Int)).toNat=(m.I - ((q+1:Nat):Int)).toNat+1:=by omega
   refine xaj ((xam ⟨rfl,by simp only [I_i];omega,by simp only [I_i];omega,h3,by simp only [I_i,L_l,List.length_append,List.length_cons,List.length_nil],by simp only [I_i,L_l,List.length_append,List.length_cons,List.length_nil];omega⟩).trans ?_) (show (m.I - ((q+1:Nat):Int)).toNat<(m.I - i.I).toNat by omega);rw [<- h];simp only [L_l,I_i,Int.toNat_natCast,e2,xKt];rfl
  ·rw [<- h];have e3:(m.I - (q:Int)).toNat=0:=by omega
   simp only [e3,xe2,List.append_nil,xd7]
 ·cases h
def s18:SigW:=⟨[.agg [kIn,kIn,kWs]],[],[(.fn 44 [] [.ptr 0 3 0 0],[.box [kIn,kIn,kWs]])]⟩
def s44:SigI:=⟨[.yl,.ptr 0 3 0 0],[.box [kIn,kIn,kWs]]⟩
def y44:YS:=mkY [.sl 0 1] [bRo] true
def xFw:LSig:=xcu [0,1,3,12,13,14] [(69,[(0,.yl),(1,.ptr 0 3 0 0),(3,.sl 1 1),(12,kWs),(13,kIn),(14,kIn)],[.box [kIn,kIn,kWs],bRo])] [(.exit 0,[0,1,3],[(69,[(0,.yl),(1,.ptr 0 3 0 0),(3,.sl 1 1)],[.box [kIn,kIn,kWs],bRo])])]
def xFv:LSig:=xcu [0,1,3] [(69,[(0,.yl),(1,.ptr 0 3 0 0),(3,.sl 1 1)],[.box [kIn,kIn,kWs],bRo])] [(.ret,[],[(69,[],[.box [kIn,kIn,kWs]])])]
def xFu:LSig:=xcu [0,1,3,6] [(69,[(0,.yl),(1,.ptr 0 3 0 0),(3,.sl 1 1),(6,kIn)],[.box [kIn,kIn,kWs],bRo])] [(.exit 4,[0,1,3,6],[(69,[(0,.yl),(1,.ptr 0 3 0 0),(3,.sl 1 1),(6,kIn)],[.box [kIn,kIn,kWs],bRo])])]
noncomputable section
def xH9 (x:D):D:=.i (x.I.toNat:Nat)
def xll (n:Nat):List (List D):=List.replicate n [.i 0]
def clR (c f:Int) (w ch:List (List D)):List (List D):=xcy (clG w (rg (xaf c f w ch))) 0 w.length
def opR (c f:Int) (w ch:List (List D)):List (List D):=xcy (opG c w (rg (xaf c f w ch))) 0 w.length
def xb8 (w:List (List D)) (j:Nat):Int:=(lx (w.getD j []) 7).length
def xdc (w:List (List D)) (j:Nat):Int:=if xb8 w j=0 then -1 else 0
def xdw (w:List (List D)):List (List D):=xcy (xdc w) 0 w.length
def xa7 (w:List (List D)):Nat->List (List D)->List (List D)×Int
 | 0,ch=>(ch,-1)
 | k+1,ch=>if rg ch k+1>=xb8 w k then xa7 w k (rs ch k (xdc w k)) else (ch,k)
def xlo (x:List (List D)×Int):List (List D):=rs x.1 x.2.toNat (rg x.1 x.2.toNat+1)
def xk3 (w:List (List D)):Nat->List (List D)->List (List D)
 | 0,_=>[]
 | n+1,ch=>[.i ch.length,.l ch]::(if (xa7 w w.length ch).2<0 then [] else xk3 w n (xlo (xa7 w w.length ch)))
def xhr (c f:Int) (w:List (List D)):Nat->List (List D)->Int×List (List D)
 | 0,ch=>(9,ch)
 | n+1,ch=>if xdx c f w ch then (0,ch) else if (xa7 w w.length ch).2<0 then (5,ch) else xhr c f w n (xlo (xa7 w w.length ch))
def xtj:Nat:=20000
def xdf (c f:Int) (w:List (List D)):Int×List (List D):=xhr c f w xtj (xdw w)
def xie (w:List (List D)):Nat->Nat
 | 0=>1
 | k+1=>xie w k*(max 1 (xb8 w k)).toNat
def xqn (w:List (List D)):Prop:=xie w w.length<=1000000000000
def xdo (w ch:List (List D)):Prop:=xh3 w ch/\xgw ch
def G18 (ds:List D):T (List D):=match ds with
 | [c,f,w]=>.leaf [.i c.I,.i f.I,.l w.L]
 | _=>.fail
def G44 (ds:List D):T (List (List D)):=match ds with
 | [c,f,w]=>.need (yes (xaw c.I f.I w.L=true/\xqn w.L)) (.leaf (xk3 w.L (xie w.L w.L.length) (xdw w.L)))
 | _=>.fail
def xGc (_:Nat) (ds:List D):T (Ex×List D):=match ds with
 | [g, n,w',m,i,c,f,w,ch]=>.need (yes (xaw c.I f.I w.L=true/\w'.L=w.L/\m.I=w.L.length/\n.I=w.L.length/\(0<=i.I/\i.I<=m.I)/\ch.L=xcy (xdc w.L) 0 i.I.toNat++xll (w.L.length - i.I.toNat)))
     (.leaf (.exit 0,[.l g.L,xH9 n,.i c.I,.i f.I,.l w.L,.l (xdw w.L)]))
 | _=>.fail
def xhh (w ch:List (List D)):Nat->Nat
 | 0=>0
 | k+1=>xhh w ch k*(max 1 (xb8 w k)).toNat+(max 0 (rg ch k)).toNat
def xfm (w ch:List (List D)):Nat:=xie w w.length - xhh w ch w.length
def xPt (q:Nat) (ds:List D):T (Ex×List D):=match ds with
 | [g, n,c,f,w,ch]=>.need (yes (xaw c.I f.I w.L=true/\xqn w.L/\n.I=w.L.length/\xdo w.L ch.L/\g.L.length<=q))
     (.leaf (.ret,[.l (g.L++(xk3 w.L (xfm w.L ch.L) ch.L).take (q+1 - g.L.length)),.i c.I,.i f.I,.l w.L]))
 | _=>.fail
def xGb (_:Nat) (ds:List D):T (Ex×List D):=match ds with
 | [g, n,j,c,f,w,ch]=>.need (yes (xaw c.I f.I w.L=true/\n.I=w.L.length/\xdo w.L ch.L /\ -1<=j.I/\j.I<w.L.length))
     (.leaf (.exit 4,[.l g.L,xH9 n,.i (xa7 w.L (j.I+1).toNat ch.L).2,.i c.I,.i f.I,.l w.L,.l (xa7 w.L (j.I+1).toNat ch.L).1]))
 | _=>.fail
end
set_option maxRecDepth 100000
theorem xY2 {α:Type} (l:List α) (i n:Nat):cpy l [] i n=l:=rfl
theorem xr0 {w ch:List (List D)}:∀ (k i q:Nat),q<k->rD (xit w ch i k) (2*q)=[.i 1,.i (((i+q:Nat):Int)+1)]/\rD (xit w ch i k) (2*q+1)=[.i 2,.i ((i+q:Nat):Int),.l (xhk w ch (i+q))]
 | k+1,i,0,_=>⟨rfl,rfl⟩
 | k + 1,i,q+1,h=>by
   have:=xr0 (w:=w) (ch:=ch) k (i+1) q (by omega);rw [show i+1+q=i+(q+1) by omega] at this;exact this
section
variable {c f:Int} {w ch:List (List D)}
theorem ybl:rD (xeg f w ch) 0=[.i 0,.i f]:=rfl
theorem xxw {q:Nat} (h:q<w.length):rD (xeg f w ch) (2*q+1)=[.i 1,.i ((q:Int)+1)]:=by
 have:=(xr0 (w:=w) (ch:=ch) w.length 0 q h).1;rw [Nat.zero_add] at this;exact this
theorem xxv {q:Nat} (h:q<w.length):rD (xeg f w ch) (2*q+2)=[.i 2,.i (q:Int),.l (xhk w ch q)]:=by
 have:=(xr0 (w:=w) (ch:=ch) w.length 0 q h).2;rw [Nat.zero_add] at this;exact this
theorem xt5 (q:Nat):(xhk w ch q).isEmpty=!decide (0<=rg ch q):=by
 unfold xhk;split
 ·rename_i h;rw [decide_eq_true h];rfl
 ·rename_i h;rw [decide_eq_false h];rfl
theorem xQ4 (q:Nat):xg8 c w [.i 2,.i (q:Int),.l (xhk w ch q)]=xwl true c w ch q:=by
 have e:xg8 c w [.i 2,.i (q:Int),.l (xhk w ch q)]=xn8 c w q (xhk w ch q):=rfl;rw [e];unfold xn8 xwl;rw [xt5];by_cases h:0<=rg ch q
 ·rw [if_neg (by rw [decide_eq_true h];exact Bool.false_ne_true),if_pos h,if_pos rfl];unfold xhk;rw [if_pos h];rfl
 ·rw [if_pos (by rw [decide_eq_false h];rfl),if_neg h]
theorem xQ5 (q:Nat):xe0 c w [.i 2,.i (q:Int),.l (xhk w ch q)]=xOn c w ch q:=by
 have e:xe0 c w [.i 2,.i (q:Int),.l (xhk w ch q)]=decide ((2:Int)=2->(xhk w ch q).isEmpty=false->ix (w.getD q []) 1+xc0 c (w.getD q [])<=ix ((xhk w ch q).getD 0 []) 2):=rfl;rw [e,xt5];unfold xOn;by_cases h:0<=rg ch q
 ·have e2:ix ((xhk w ch q).getD 0 []) 2=ix (xj8 w ch q) 2:=by unfold xhk;rw [if_pos h];rfl
  rw [e2];simp [h]
 ·simp [h]
theorem xw7:∀ (k i:Nat),i+k<=w.length->xf2 c w (xeg f w ch) (2*i+1) (2*k)=xkh true c w ch i k
 | 0,_,_=>rfl
 | k + 1,i,h=>by
   have ih:=xw7 (k:=k) (i:=i+1) (by omega);rw [show 2*(k+1)=2*k+1+1 by omega];simp only [xf2];rw [show 2*i+1+1=2*i+2 by omega,xxw (show i<w.length by omega),xxv (show i<w.length by omega),xQ4,show 2*i+2+1=2*(i+1)+1 by omega,ih];have e:xg8 c w [.i 1,.i ((i:Int)+1)]=xgu c w i:=by
    have:xg8 c w [.i 1,.i ((i:Int)+1)]=xgu c w ((i:Int)+1 - 1).toNat:=rfl;rw [this,show ((i:Int)+1 - 1).toNat=i by omega]
   rw [e];simp only [xkh,xpu,List.append_assoc]
theorem xOm:xf2 c w (xeg f w ch) 0 (xeg f w ch).length=xff true c f w ch:=by
 rw [xl1];simp only [xf2];rw [show 0+1=2*0+1 by rfl,xw7 w.length 0 (by omega)];rfl
theorem xD7:∀ (k i:Nat),i+k<=w.length->xay (xis c w (xeg f w ch)) (2*i+1) (2*k)=xay (xOn c w ch) i k
 | 0,_,_=>rfl
 | k + 1,i,h=>by
   have ih:=xD7 (k:=k) (i:=i+1) (by omega);rw [show 2*(k+1)=2*k+1+1 by omega];simp only [xay,xis];rw [show 2*i+1+1=2*i+2 by omega,xxw (show i<w.length by omega),xxv (show i<w.length by omega),xQ5,show 2*i+2+1=2*(i+1)+1 by omega];have e:xe0 c w [.i 1,.i ((i:Int)+1)]=true:=by
    have:xe0 c w [.i 1,.i ((i:Int)+1)]=decide ((1:Int)=2->(D.i 1).L.isEmpty=false->_):=rfl;rw [this];exact decide_eq_true (fun h=>by omega)
   rw [e,Bool.true_and];rw [<- ih]
theorem xUu:xay (xis c w (xeg f w ch)) 0 (xeg f w ch).length=yds c w ch:=by
 rw [xl1];simp only [xay];rw [show 0+1=2*0+1 by rfl,xD7 w.length 0 (by omega)];have e:xis c w (xeg f w ch) 0=true:=by
  unfold xis;rw [ybl];unfold xe0;exact decide_eq_true (fun h=>by
   have h:(0:Int)=2:=h;omega)
 rw [e,Bool.true_and];rfl
theorem xKm (hp:xaw c f w=true) (hc:xh3 w ch):xzr w (xeg f w ch):=by
 have h1:=(xb1 hp).2.1;refine ⟨by rw [xl1];omega,fun j hj=>?_⟩;rw [xl1] at hj;cases j with
 | zero=>exact .inl rfl
 | succ j=>
   obtain ⟨q,hq⟩:∃ q,j=2*q\/j=2*q+1:=⟨j / 2,by omega⟩;rcases hq with rfl | rfl
   ·rw [xxw (by omega)];refine .inr (.inl ⟨rfl,?_,?_⟩)
    ·show (1:Int)<=(q:Int)+1;omega
    ·show (q:Int)+1<=w.length;omega
   ·rw [show 2*q+1+1=2*q+2 by rfl,xxv (by omega)];refine .inr (.inr ⟨rfl,⟨?_,?_⟩,fun he=>?_⟩)
    ·show (0:Int)<=(q:Int);omega
    ·show (q:Int)<w.length;omega
    ·have he:(xhk w ch q).isEmpty=false:=he;rw [xt5] at he;have h0:0<=rg ch q:=by
      have:decide (0<=rg ch q)=true:=by simpa using he
      exact of_decide_eq_true this
     have hw:=xGi hp hc (j:=q) (by omega) h0;show xik (xhk w ch q) 0=true;unfold xhk;rw [if_pos h0];exact decide_eq_true hw
end
theorem ycq (n:Nat):xbo C (n+3) 19 (mkF s19 G19):=by
 refine yd0 hC (sp:=xxr) (lp:=xya) (sw:=xxl) ⟨xN5 n,xN2 n,xN1 n,trivial⟩ ⟨xUe (n+1),xUd (n+1),trivial⟩ (by kernel_rfl) 3 [4,9] (by kernel_rfl) (by kernel_rfl) (fun k hk L hL=>by
     simp at hk;rcases hk with rfl | rfl <;> cases hL
     ·exact ycp n
     ·exact yco n) fun ds rr h=>?_
 unfold G19 at h;split at h
 ·rename_i c f w ch;obtain ⟨hp,h⟩:=xab h;rw [xad] at hp;obtain ⟨hp,hc⟩:=hp;refine (congrArg T.run (t19 c f w ch)).trans ?_;obtain ⟨p0,p1,p2,p3⟩:=xb1 hp;have hnet:=xx4 (f:=f.I) true hp hc;have hgood:=xmp hnet;have w2:IntKind.i64.wrap ((w.L.length:Int)+2)=nP w.L:=xas (by omega) (by omega);have hn:nP w.L=(w.L.length:Int)+2:=rfl;have hnn:(nP w.L).toNat=w.L.length+2:=by omega
  have hll:=xsf (c:=c.I) (w:=w.L) (ch:=ch.L) true w.L.length 0;have hpl:(xff true c.I f.I w.L ch.L).length<=4*w.L.length+1:=by unfold xff;simp only [List.length_cons];omega
  have e1:xff true c.I f.I w.L ch.L++xe2 0 (nP w.L).toNat=xfj (nP w.L) (xff true c.I f.I w.L ch.L):=rfl;have e2:List.replicate (nP w.L).toNat [D.i 0]=xg6 (nP w.L):=rfl;have e3:xfp (nP w.L) (xfj (nP w.L) (xff true c.I f.I w.L ch.L)) (xg6 (nP w.L))=xd1 true c.I f.I w.L ch.L:=rfl;have lz:=xgd (nP w.L);rw [hnn] at lz;have t1:Int.toNat 1=1:=rfl;simp only [xUu,xOm,w2,Int.toNat_natCast,Int.toNat_zero,Int.sub_zero,List.take_length,e1,e2,e3,xI9,xHg,t1,lz,xY2];refine xai ⟨hp,hc⟩ (xai ⟨by trivial,hp,xKm hp hc,by trivial,by trivial,by trivial,by rw [xl1];omega⟩ ?_);unfold xdx at h;refine xhc (fun hl=>?_) fun hl=>?_
  ·rw [hl,Bool.true_and] at h;have h1:(0:Int)<=1/\(1:Int)<=((w.L.length+2:Nat):Int):=by omega
   refine xai ⟨by trivial,by omega,by omega,by omega,by trivial,by omega⟩ (xau ⟨by omega,by trivial,by omega,by omega⟩ (xau h1 (xau (by omega) (xau (by omega) (xai ⟨hgood,by trivial,by omega,xSt _ (by omega)⟩ (xdk (fun hge=>?_) fun hlt=>?_))))))
   ·rw [<- h,decide_eq_false (by omega)];rfl
   ·have hneg:(xd1 true c.I f.I w.L ch.L).2.2<0:=by omega
    obtain ⟨q1,q2,q3,-⟩:=xnd true hp hc hneg;rw [decide_eq_true hneg] at h;refine xau (by omega) (xau (by omega) (xaq ?_ (xau h1 ?_)))
    ·rw [q1];rfl
    ·rw [<- h,xa5,if_pos rfl,show w.L.length+2 - 1=w.L.length+1 by omega]
  ·rw [hl,Bool.false_and] at h;rw [<- h];rfl
 ·cases h
theorem yb7 (n:Nat):xbo C (n+1) 35 (mkF s35 xVw):=by
 refine xbk hC (sp:=ya7) (lp:=ydh) (sw:=yac) trivial trivial (by kernel_rfl) [] (by kernel_rfl) rfl (fun k hk=>by cases hk) fun ds rr h=>?_
 unfold xVw at h;split at h
 ·rename_i l;obtain ⟨hp,h⟩:=xab h;rw [xad] at hp;obtain ⟨h1,h2⟩:=hp;refine (congrArg T.run (t35 l)).trans ?_;have hne:l.L.isEmpty=false:=by cases hl:l.L with
   | nil=>exact absurd hl h1
   | cons c cs=>rfl
  have b3:Tryz.prog.types[3].bytes=8:=by kernel_rfl
  rw [b3];refine xv9 (by rw [hne];rfl) (xaq hne (xau (by omega) h))
 ·cases h
theorem xhl (g:Nat->Int):∀ (k i:Nat),(xcy g i k).length=k
 | 0,_=>rfl
 | k+1,i=>by simp only [xcy,List.length_cons,xhl g k (i+1)]
theorem xpo (g:Nat->Int):∀ (k i:Nat),xcy g i k++[[.i (g (i+k))]]=xcy g i (k+1)
 | 0,_=>rfl
 | k + 1,i=>by
   have:=xpo g k (i+1);rw [show i+1+k=i+(k+1) by omega] at this;simp only [xcy,List.cons_append] at this ⊢;rw [this]
theorem xxy (g:Nat->Int):∀ (k i j:Nat),j<k->(xcy g i k).getD j []=[.i (g (i+j))]
 | k+1,i,0,_=>rfl
 | k + 1,i,j+1,h=>by
   have:=xxy g k (i+1) j (by omega);rw [show i+1+j=i+(j+1) by omega] at this;exact this
theorem xqz {g:Nat->Int} {k i j:Nat} (h:j<k):rg (xcy g i k) j=g (i+j):=by
 unfold rg;rw [xxy g k i j h];rfl
theorem xPb (g:Nat->Int) (k i:Nat):xgw (xcy g i k):=by
 intro j hj;rw [xhl] at hj;rw [xxy g k i j hj,xqz hj]
theorem xxz {g g':Nat->Int}:∀ (k i:Nat),(∀ j,i<=j->j<i+k->g j=g' j)->xcy g i k=xcy g' i k
 | 0,_,_=>rfl
 | k + 1,i,h=>by
   simp only [xcy];rw [h i (Nat.le_refl _) (by omega),xxz k (i+1) (fun j h1 h2=>h j (by omega) (by omega))]
theorem xHi (n:Nat):xll (n+1)=[.i 0]::xll n:=rfl
theorem xT0 (g:Nat->Int) (i k:Nat) (v:Int) (hv:v=g i):rs (xcy g 0 i++xll (k+1)) i v=xcy g 0 (i+1)++xll k:=by
 unfold rs;rw [List.set_append_right _ _ (by rw [xhl];exact Nat.le_refl _),xhl,Nat.sub_self,xHi,List.set_cons_zero,hv];have:=xpo g i 0;rw [Nat.zero_add] at this;rw [<- this,List.append_assoc];rfl
set_option maxRecDepth 100000
theorem xX7 {t:List (List D)} (h:xgw t) (j:Nat):rs t j (rg t j)=t:=by
 by_cases hj:j<t.length
 ·refine xEr (xyk h _ _) h (xl2 _ _ _) fun i hi=>?_
  rw [xkl hj];split
  ·rename_i e;rw [e]
  ·rfl
 ·unfold rs;exact List.set_eq_of_length_le (by omega)
section
variable {w:List (List D)}
theorem xKz (w:List (List D)) (j:Nat):xdc w j=min 0 (xb8 w j - 1):=by
 unfold xdc xb8;by_cases h:((lx (w.getD j []) 7).length:Int)=0
 ·rw [if_pos h,h];rfl
 ·rw [if_neg h];omega
theorem xk1 {ch:List (List D)} (hc:xh3 w ch) {j:Nat} (hj:j<w.length):(xb8 w j=0/\rg ch j = -1)\/(0<=rg ch j/\rg ch j<xb8 w j):=by
 have:=hc.2 j hj;unfold xb8;split at this
 ·rename_i h;exact .inl ⟨by omega,this⟩
 ·exact .inr this
theorem xI1 {ch:List (List D)} (hl:ch.length=w.length) (h:∀ j,j<w.length->(xb8 w j=0/\rg ch j = -1)\/(0<=rg ch j/\rg ch j<xb8 w j)):xh3 w ch:=by
 refine ⟨hl,fun j hj=>?_⟩;have:=h j hj;unfold xb8 at this;split
 ·rename_i e;rcases this with h | h
  ·exact h.2
  ·omega
 ·rcases this with h | h
  ·omega
  ·exact h
theorem xjx (j:Nat):(xb8 w j=0/\xdc w j = -1)\/(0<=xdc w j/\xdc w j<xb8 w j):=by
 unfold xdc;by_cases h:xb8 w j=0
 ·rw [if_pos h];exact .inl ⟨h,rfl⟩
 ·rw [if_neg h];have:0<=xb8 w j:=by unfold xb8;omega
  exact .inr ⟨Int.le_refl _,by omega⟩
theorem xmr:xdo w (xdw w):=by
 refine ⟨xI1 (xhl _ _ _) fun j hj=>?_,xPb _ _ _⟩;unfold xdw;rw [xqz hj,Nat.zero_add];exact xjx j
theorem xzo {ch:List (List D)} (h:xdo w ch) {k:Nat} (hk:k<w.length) {v:Int} (hv:(xb8 w k=0/\v = -1)\/(0<=v/\v<xb8 w k)):xdo w (rs ch k v):=by
 refine ⟨xI1 (by rw [xl2];exact h.1.1) fun j hj=>?_,xyk h.2 _ _⟩;rw [xkl (by rw [h.1.1];exact hk)];split
 ·rename_i e;subst e;exact hv
 ·exact xk1 h.1 hj
theorem xsx:∀ (k:Nat) {ch:List (List D)},k<=w.length->xdo w ch->xdo w (xa7 w k ch).1 /\ -1<=(xa7 w k ch).2/\(xa7 w k ch).2<k/\(0<=(xa7 w k ch).2->rg (xa7 w k ch).1 (xa7 w k ch).2.toNat+1<xb8 w (xa7 w k ch).2.toNat)/\∀ j,k<=j->rg (xa7 w k ch).1 j=rg ch j
 | 0,ch,_,h=>⟨h,by simp [xa7],by simp [xa7],by simp [xa7],fun _ _=>rfl⟩
 | k + 1,ch,hk,h=>by
   simp only [xa7];by_cases hc:rg ch k+1>=xb8 w k
   ·rw [if_pos hc];obtain ⟨a,b,c,d,e⟩:=xsx k (by omega) (xzo h (by omega) (xjx (w:=w) k));refine ⟨a,b,by omega,d,fun j hj=>?_⟩;rw [e j (by omega),xkl (by rw [h.1.1];omega),if_neg (by omega)]
   ·rw [if_neg hc];exact ⟨h,by omega,by omega,fun _=>by simp only [Int.toNat_natCast];omega,fun _ _=>rfl⟩
theorem xqv {ch:List (List D)} (h:xdo w ch) (h0:0<=(xa7 w w.length ch).2):xdo w (xlo (xa7 w w.length ch)):=by
 obtain ⟨a,b,c,d,e⟩:=xsx w.length (Nat.le_refl _) h;have hj:(xa7 w w.length ch).2.toNat<w.length:=by omega
 refine xzo a hj ?_;have h1:=xk1 a.1 hj;have h2:=d h0;rcases h1 with h1 | h1
 ·omega
 ·exact .inr ⟨by omega,h2⟩
theorem xtg {ch ch':List (List D)}:∀ (k:Nat),(∀ j,j<k->rg ch j=rg ch' j)->xhh w ch k=xhh w ch' k
 | 0,_=>rfl
 | k + 1,h=>by
   simp only [xhh];rw [xtg k (fun j hj=>h j (by omega)),h k (by omega)]
theorem xQg {ch:List (List D)} (hc:xh3 w ch):∀ (k:Nat),k<=w.length->xhh w ch k<xie w k
 | 0,_=>Nat.zero_lt_one
 | k + 1,hk=>by
   have ih:=xQg hc k (by omega);have hd:=xk1 hc (show k<w.length by omega);have hL:(max 0 (rg ch k)).toNat<(max 1 (xb8 w k)).toNat:=by omega
   simp only [xhh,xie];generalize (max 0 (rg ch k)).toNat=d at hL;generalize (max 1 (xb8 w k)).toNat=L at hL ⊢
   calc xhh w ch k*L+d<xhh w ch k*L+L:=by omega
    _ = (xhh w ch k+1)*L:=by rw [Nat.add_mul,Nat.one_mul]
    _ <= xie w k*L:=Nat.mul_le_mul_right _ ih
theorem xth:∀ (k:Nat) {ch:List (List D)},k<=w.length->xdo w ch->((xa7 w k ch).2<0->xhh w ch k+1=xie w k)/\(0<=(xa7 w k ch).2->xhh w (xlo (xa7 w k ch)) k=xhh w ch k+1)
 | 0,ch,_,h=>⟨fun _=>rfl,fun h=>by simp [xa7] at h⟩
 | k + 1,ch,hk,h=>by
   have hkl:k<w.length:=by omega
   have hd:=xk1 h.1 hkl;by_cases hc:rg ch k+1>=xb8 w k
   ·have xb7:=xzo h hkl (xjx (w:=w) k);have hL:(max 0 (rg ch k)).toNat+1=(max 1 (xb8 w k)).toNat:=by omega
    have hv:xhh w (rs ch k (xdc w k)) k=xhh w ch k:=xtg k fun j hj=>by rw [xkl (by rw [h.1.1];exact hkl),if_neg (by omega)]
    obtain ⟨i1,i2⟩:=xth k (by omega) xb7;obtain ⟨a,b,c,d,e⟩:=xsx k (by omega) xb7;simp only [xa7];rw [if_pos hc];simp only [xhh,xie];generalize (max 1 (xb8 w k)).toNat=L at hL ⊢;refine ⟨fun hn=>?_,fun hp=>?_⟩
    ·have:=i1 hn;rw [hv] at this;rw [<- this,Nat.add_mul,Nat.one_mul];omega
    ·have:=i2 hp;rw [hv] at this;have e1:rg (xlo (xa7 w k (rs ch k (xdc w k)))) k=xdc w k:=by
      unfold xlo;rw [xkl (by rw [a.1.1];omega),if_neg (by omega),e k (Nat.le_refl _),xkl (by rw [h.1.1];exact hkl),if_pos rfl]
     have hz:=xjx (w:=w) k;have e2:(max 0 (xdc w k)).toNat=0:=by rw [xKz] at hz ⊢;omega
     rw [this,e1,e2,Nat.add_mul,Nat.one_mul];omega
   ·simp only [xa7];rw [if_neg hc];refine ⟨fun hn=>by simp only at hn;omega,fun _=>?_⟩;simp only [xlo,Int.toNat_natCast,xhh];have hv:xhh w (rs ch k (rg ch k+1)) k=xhh w ch k:=xtg k fun j hj=>by rw [xkl (by rw [h.1.1];exact hkl),if_neg (by omega)]
    rw [hv,xkl (by rw [h.1.1];exact hkl),if_pos rfl];omega
theorem xQ7 {ch:List (List D)} (h:xdo w ch) (hn:(xa7 w w.length ch).2<0):xfm w ch=1:=by
 have:=(xth w.length (Nat.le_refl _) h).1 hn;unfold xfm;omega
theorem xDj {ch:List (List D)} (h:xdo w ch) (hn:0<=(xa7 w w.length ch).2):xfm w ch=xfm w (xlo (xa7 w w.length ch))+1:=by
 have h1:=(xth w.length (Nat.le_refl _) h).2 hn;have h2:=xQg (xqv h hn).1 w.length (Nat.le_refl _);unfold xfm;omega
theorem xDa:∀ (k:Nat),k<=w.length->xhh w (xdw w) k=0
 | 0,_=>rfl
 | k + 1,hk=>by
   simp only [xhh];have hz:=xjx (w:=w) k;have e2:(max 0 (xdc w k)).toNat=0:=by rw [xKz] at hz ⊢;omega
   rw [xDa k (by omega)];unfold xdw;rw [xqz (by omega),Nat.zero_add,e2];omega
theorem xzu:xfm w (xdw w)=xie w w.length:=by
 unfold xfm;rw [xDa _ (Nat.le_refl _)];rfl
theorem xyl {ch:List (List D)} (h:xdo w ch):xk3 w (xfm w ch) ch=[.i ch.length,.l ch]::(if (xa7 w w.length ch).2<0 then [] else xk3 w (xfm w (xlo (xa7 w w.length ch))) (xlo (xa7 w w.length ch))):=by
 by_cases hn:(xa7 w w.length ch).2<0
 ·rw [xQ7 h hn];simp only [xk3];rw [if_pos hn,if_pos hn]
 ·rw [xDj h (by omega)];simp only [xk3]
end
set_option maxRecDepth 100000
section
variable {c f:Int} {w ch:List (List D)}
theorem xS8 {l:List (List D)} {n:Int} (hl:(l.length:Int)=n) (h:∀ j,j<l.length->0<=rg l j/\rg l j<=1000000000):xnb l n=true:=by
 unfold xnb;rw [Bool.and_eq_true,decide_eq_true_eq,xdz];exact ⟨hl,fun j _ hj=>by unfold xi3;exact decide_eq_true (h j (by omega))⟩
end
def ybf:SpL:=[]
def ydp:LpL:=[]
def yak:SwL:=[]
def ye3:Tab:=xah ybf ydp yak
def xtu:SpL:=[]
def xuf (q:Nat):LpL:=[(2,xr9 1 xFw (xGc q)),(7,xr9 1 xFv (xPt q)),(9,xr9 1 xFu (xGb q))]
def xtp:SwL:=[]
def xvl (q:Nat):Tab:=xjj xtu (xuf q) xtp y44 q
end Go.Proofs.YtgoedfonmocafaaGreat
