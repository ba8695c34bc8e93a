/-
 The statement of RescueFewest holds for every input; what it rests on stands in the parts before.
-/
import Derived.Test.YtgmefblkmidglaaZM7
import Derived.Test.YtgmefblkmidglaaRows
namespace Go.Proofs.Ytgmefblkmidglaa
open Go.Lite Go.ChangeShapes Go.WideShapes Go.ChangeAt Go.RowKit
theorem kids:Kids Try.prog (· < Try.prog.types.size):=kids_rows (by kernel_rfl) (by kernel_rfl)
theorem full:∀ t e,t < Try.prog.types.size → Try.prog.underlying t = some (.slice e) → 0 < Try.prog.cellsOf e:=slices_full_of Try.prog (by kernel_rfl)
set_option maxRecDepth 100000
set_option linter.unusedVariables false
theorem incL_len {n:Nat}:∀ {l:List (List D)} {i:Nat},i ≤ n → incL i n l → l.length + i ≤ n
 | [],i,h,_=>by simpa using h
 | _ :: l,i,h,⟨k,_,h1,h2,h3⟩=>by
   have:=incL_len (l:=l) (by omega) h3
   simp only [List.length_cons]
   omega
set_option maxRecDepth 100000
theorem mask_step {o:Int} {i n:Nat} (h:i < n):maskI o i (n - i) = if bitO o i then [.i i] :: maskI o (i + 1) (n - (i + 1)) else maskI o (i + 1) (n - (i + 1)):=by
 rw [show n - i = (n - (i + 1)) + 1 by omega]
 rfl
theorem prop_in {l:List (List D)} {o:Int} {i:Nat} (h:i < l.length) (hb:bitO o i = true):propT l o i = vehR (l.getD i []) :: propT l o (i + 1):=by
 unfold propT
 rw [mask_step h,if_pos hb]
 rfl
theorem prop_out {l:List (List D)} {o:Int} {i:Nat} (h:i < l.length) (hb:bitO o i = false):propT l o i = propT l o (i + 1):=by
 unfold propT
 rw [mask_step h,if_neg (by rw [hb]; decide)]
theorem prop_end {l:List (List D)} {o:Int} {i:Nat} (h:l.length ≤ i):propT l o i = []:=by
 unfold propT
 rw [show l.length - i = 0 by omega]
 rfl
theorem mask_inc {o:Int} {n:Nat}:∀ k i,i + k ≤ n → incL i n (maskI o i k)
 | 0,_,_=>trivial
 | k + 1,i,h=>by
   simp only [maskI]
   split
   ·exact ⟨i,rfl,Nat.le_refl _,by omega,mask_inc k (i + 1) (by omega)⟩
   ·exact incL_le (by omega) (mask_inc k (i + 1) (by omega))
theorem incL_at {n:Nat}:∀ {l:List (List D)} {i:Nat},incL i n l → (∀ j,j < l.length → (i:Int) ≤ ix (l.getD j []) 0 ∧ ix (l.getD j []) 0 < n) ∧ ∀ j,j + 1 < l.length → ix (l.getD j []) 0 < ix (l.getD (j + 1) []) 0
 | [],_,_=>⟨fun j h=>by simp at h,fun j h=>by simp at h⟩
 | x :: l,i,⟨k,e,h1,h2,h3⟩=>by
   obtain ⟨a1,a2⟩:=incL_at h3
   subst e
   refine ⟨fun j hj=>?_,fun j hj=>?_⟩
   ·cases j with
    | zero=>show (i:Int) ≤ k ∧ (k:Int) < n; omega
    | succ j=>
      have:=a1 j (by simpa using hj)
      show (i:Int) ≤ ix (l.getD j []) 0 ∧ ix (l.getD j []) 0 < n
      omega
   ·cases j with
    | zero=>
      have:=a1 0 (by simpa using hj)
      show (k:Int) < ix (l.getD 0 []) 0
      omega
    | succ j=>exact a2 j (by simpa using hj)
theorem inc_cOk {l c:List (List D)} (h12:l.length ≤ 12) (h:incL 0 l.length c):cOk l c:=by
 obtain ⟨a1,a2⟩:=incL_at h
 have:=incL_len (Nat.zero_le _) h
 exact ⟨⟨by omega,fun j hj=>by have:=a1 j hj; omega⟩,a2⟩
def μ105 (ds:List D):Nat:=match ds with
 | [_,l,_,_,_,i,_,_]=>((l.L.length:Int) - i.I).toNat
 | [_,l,_,_,_,_,i,_,_,_]=>((l.L.length:Int) - i.I).toNat
 | _=>0
set_option maxHeartbeats 1000000 in
theorem ok10_5 (n:Nat) (hA:AllOK C n sp10) (hW:AllOKW C n sw10):LoopSim C n 10 (loopOf C.P 10 5) (mkL l10_5 G10_5):=by
 refine loop_ofK hC (sp:=sp10) (lp:=lp10) (sw:=sw10) hA hW 0 [] (by kernel_rfl) rfl (fun k hk=>by cases hk) (by kernel_rfl) μ105 fun ds rr h=>?_
 unfold G10_5 at h
 split at h
 ·rename_i y l z h' o i nn r
  obtain ⟨hp,h⟩:=need_some h
  rw [yes_iff] at hp
  obtain ⟨hy,h12,i0,i1⟩:=hp
  refine ⟨by rw [fuelC]; show ((l.L.length:Int) - i.I).toNat < _; omega,?_⟩
  rw [roundTK_head (j:=y) (n:=0) hy (by decide)]
  refine rd_runT (t10_5_0 l z h' o i nn r) ?_
  obtain ⟨k,hk⟩:∃ k:Nat,i.I = k:=⟨i.I.toNat,by omega⟩
  have hbit:bitO o.I (k:Int) = _:=rfl
  simp only [hk,Int.toNat_natCast,ix_def] at h i0 i1 ⊢
  refine rd_if (fun hlt=>?_) fun hge=>?_
  ·have hkl:k < l.L.length:=by omega
   have hmu:((l.L.length:Int) - ((k + 1:Nat):Int)).toNat < ((l.L.length:Int) - i.I).toNat:=by omega
   refine rd_need (by rw [decide_eq_false (by omega)]; rfl) (rd_ite (fun c=>?_) fun c=>?_)
   ·have hb:bitO o.I (k:Int) = true:=c
    rw [prop_in hkl hb] at h
    rw [wrap_succ (by omega)]
    refine rd_dec (by omega) (rd_again ((need_yes ⟨rfl,h12,⟨by simp only [I_i]; omega,by simp only [I_i,L_l]; omega⟩,rfl,by simp only [I_i]; omega⟩).trans ?_) hmu)
    simp only [I_i,L_l,Int.toNat_natCast]
    exact h
   ·have hb:bitO o.I (k:Int) = false:=c
    rw [prop_out hkl hb] at h
    rw [wrap_succ (by omega)]
    refine rd_again ((need_yes ⟨rfl,h12,by simp only [I_i]; omega,by simp only [I_i,L_l]; omega⟩).trans ?_) hmu
    simp only [I_i,L_l,Int.toNat_natCast]
    exact h
  ·rw [prop_end (by omega)] at h
   exact rd_out h
 ·rename_i y l z h' o s i nn r w
  obtain ⟨hp,h⟩:=need_some h
  rw [yes_iff] at hp
  obtain ⟨hy,h12,⟨i0,i1⟩,hs,hsi⟩:=hp
  refine ⟨by rw [fuelC]; show ((l.L.length:Int) - i.I).toNat < _; omega,?_⟩
  rw [roundTK_head (j:=y) (n:=1) hy (by decide)]
  refine rd_runT (t10_5_1 l z h' o s i nn r w) ?_
  obtain ⟨k,hk⟩:∃ k:Nat,i.I = k:=⟨i.I.toNat,by omega⟩
  have es:s.I.toNat = w.L.length:=by omega
  have eo:w.L.take w.L.length = w.L:=List.take_length
  simp only [hk,es,eo,Int.toNat_natCast,ix_def,bytes60] at h i0 i1 hsi ⊢
  refine rd_if (fun hlt=>?_) fun hge=>?_
  ·have hkl:k < l.L.length:=by omega
   have hmu:((l.L.length:Int) - ((k + 1:Nat):Int)).toNat < ((l.L.length:Int) - i.I).toNat:=by omega
   refine rd_need (by rw [decide_eq_false (by omega)]; rfl) (rd_ite (fun c=>?_) fun c=>?_)
   ·have hb:bitO o.I (k:Int) = true:=c
    rw [prop_in hkl hb] at h
    rw [wrap_succ (by omega)]
    refine rd_dec (by omega) (rd_dec (by omega) (rd_again ((need_yes ⟨rfl,h12,⟨by simp only [I_i]; omega,by simp only [I_i,L_l]; omega⟩,by simp only [I_i,L_l,List.length_append,List.length_take,List.length_cons,List.length_nil]; omega,by simp only [I_i]; omega⟩).trans ?_) hmu))
    simp only [I_i,L_l,Int.toNat_natCast,List.append_assoc]
    exact h
   ·have hb:bitO o.I (k:Int) = false:=c
    rw [prop_out hkl hb] at h
    rw [wrap_succ (by omega)]
    refine rd_again ((need_yes ⟨rfl,h12,⟨by simp only [I_i]; omega,by simp only [I_i,L_l]; omega⟩,by simp only [I_i,L_l],by simp only [I_i]; omega⟩).trans ?_) hmu
    simp only [I_i,L_l,Int.toNat_natCast]
    exact h
  ·rw [prop_end (by omega),List.append_nil] at h
   exact rd_out h
 ·cases h
def μ1017 (ds:List D):Nat:=match ds with
 | [_,_,_,_,_,_,c,i,_,_]=>((c.L.length:Int) - i.I).toNat
 | [_,_,_,_,_,_,c,_,i,_,_,_]=>((c.L.length:Int) - i.I).toNat
 | _=>0
set_option maxHeartbeats 1000000 in
theorem ok10_17 (n:Nat) (hA:AllOK C n sp10) (hW:AllOKW C n sw10):LoopSim C n 10 (loopOf C.P 10 17) (mkL l10_17 G10_17):=by
 refine loop_ofK hC (sp:=sp10) (lp:=lp10) (sw:=sw10) hA hW 0 [] (by kernel_rfl) rfl (fun k hk=>by cases hk) (by kernel_rfl) μ1017 fun ds rr h=>?_
 unfold G10_17 at h
 split at h
 ·rename_i y l z h' v g c i nn r
  obtain ⟨hp,h⟩:=need_some h
  rw [yes_iff] at hp
  obtain ⟨hy,hC,i0,i1⟩:=hp
  obtain ⟨⟨c12,hin⟩,hinc⟩:=id hC
  refine ⟨by rw [fuelC]; show ((c.L.length:Int) - i.I).toNat < _; omega,?_⟩
  rw [roundTK_head (j:=y) (n:=0) hy (by decide)]
  refine rd_runT (t10_17_0 l z h' v g c i nn r) ?_
  obtain ⟨k,hk⟩:∃ k:Nat,i.I = k:=⟨i.I.toNat,by omega⟩
  simp only [hk,Int.toNat_natCast,ix_def] at h i0 i1 ⊢
  refine rd_if (fun hlt=>?_) fun hge=>?_
  ·have hkl:k < c.L.length:=by omega
   obtain ⟨r0,r1⟩:=hin k hkl
   rw [run_ite,if_neg (by rw [drop_ne hkl]; decide),drop_team hkl] at h
   have hmu:((c.L.length:Int) - ((k + 1:Nat):Int)).toNat < ((c.L.length:Int) - i.I).toNat:=by omega
   have fin:(G10_17 [.i 1,.l l.L,.l z.L,.i h'.I,.l v.L,.l g.L,.l c.L,.i 1,.i ((k + 1:Nat):Int),.i nn.I,.l r.L,.l [vehR (l.L.getD (ix (c.L.getD k []) 0).toNat [])]]).run = some rr:=by
    refine (need_yes ⟨rfl,hC,⟨by simp only [I_i]; omega,by simp only [I_i,L_l]; omega⟩,rfl,by simp only [I_i]; omega⟩).trans ?_
    simp only [I_i,L_l,Int.toNat_natCast]
    exact h
   rw [wrap_succ (by omega)]
   refine rd_dec (by omega) (rd_if (fun c0=>by omega) fun _=>rd_dec (by omega) (rd_if (fun c0=>by omega) fun _=>rd_if (fun c1=>?_) fun c1=>?_))
   ·have hi:=hinc (k - 1) (by omega)
    rw [show k - 1 + 1 = k by omega] at hi
    have hw:IntKind.i64.wrap ((k:Int) - 1) = ((k - 1:Nat):Int):=by rw [wrap_id (by omega) (by omega)]; omega
    simp only [hw,Int.toNat_natCast]
    exact rd_dec (by omega) (rd_dec (by omega) (rd_if (fun c2=>by omega) fun _=>rd_dec (by omega) (rd_dec ⟨r0,r1⟩ (rd_again fin hmu))))
   ·exact rd_dec (by omega) (rd_dec ⟨r0,r1⟩ (rd_again fin hmu))
  ·rw [drop_e (by omega)] at h
   exact rd_out h
 ·rename_i y l z h' v g c s i nn r w
  obtain ⟨hp,h⟩:=need_some h
  rw [yes_iff] at hp
  obtain ⟨hy,hC,⟨i0,i1⟩,hs,hsi⟩:=hp
  obtain ⟨⟨c12,hin⟩,hinc⟩:=id hC
  refine ⟨by rw [fuelC]; show ((c.L.length:Int) - i.I).toNat < _; omega,?_⟩
  rw [roundTK_head (j:=y) (n:=1) hy (by decide)]
  refine rd_runT (t10_17_1 l z h' v g c s i nn r w) ?_
  obtain ⟨k,hk⟩:∃ k:Nat,i.I = k:=⟨i.I.toNat,by omega⟩
  have es:s.I.toNat = w.L.length:=by omega
  have eo:w.L.take w.L.length = w.L:=List.take_length
  simp only [hk,es,eo,Int.toNat_natCast,ix_def,bytes60] at h i0 i1 hsi ⊢
  refine rd_if (fun hlt=>?_) fun hge=>?_
  ·have hkl:k < c.L.length:=by omega
   obtain ⟨r0,r1⟩:=hin k hkl
   rw [drop_team hkl] at h
   have hmu:((c.L.length:Int) - ((k + 1:Nat):Int)).toNat < ((c.L.length:Int) - i.I).toNat:=by omega
   have fin:(G10_17 [.i 1,.l l.L,.l z.L,.i h'.I,.l v.L,.l g.L,.l c.L,.i ((w.L.length + 1:Nat):Int),.i ((k + 1:Nat):Int),.i nn.I,.l r.L,.l (w.L ++ [vehR (l.L.getD (ix (c.L.getD k []) 0).toNat [])])]).run = some rr:=by
    refine (need_yes ⟨rfl,hC,⟨by simp only [I_i]; omega,by simp only [I_i,L_l]; omega⟩,by simp only [I_i,L_l,List.length_append,List.length_singleton],by simp only [I_i]; omega⟩).trans ?_
    simp only [I_i,L_l,Int.toNat_natCast,List.append_assoc]
    exact h
   rw [wrap_succ (by omega)]
   refine rd_dec (by omega) (rd_if (fun c0=>by omega) fun _=>rd_dec (by omega) (rd_if (fun c0=>by omega) fun _=>rd_if (fun c1=>?_) fun c1=>?_))
   ·have hi:=hinc (k - 1) (by omega)
    rw [show k - 1 + 1 = k by omega] at hi
    have hw:IntKind.i64.wrap ((k:Int) - 1) = ((k - 1:Nat):Int):=by rw [wrap_id (by omega) (by omega)]; omega
    simp only [hw,Int.toNat_natCast]
    exact rd_dec (by omega) (rd_dec (by omega) (rd_if (fun c2=>by omega) fun _=>rd_dec (by omega) (rd_dec ⟨r0,r1⟩ (rd_dec (by omega) (rd_again fin hmu)))))
   ·exact rd_dec (by omega) (rd_dec ⟨r0,r1⟩ (rd_dec (by omega) (rd_again fin hmu)))
  ·rw [drop_e (by omega)] at h
   simp only [teamL,List.map_nil,List.append_nil] at h
   exact rd_out h
 ·cases h
end Go.Proofs.Ytgmefblkmidglaa
namespace Go.Proofs.Ytgmefblkmidglaa
open Go.Lite Go.ChangeShapes Go.WideShapes Go.ChangeAt Go.RowKit
def rescueFewestLaw:Prop:=∀ xs:List AV,ArgsShape Try.prog 12 [24,47,48,3,3] xs → ∃ n h',callA C n Unit none 10 xs [] () = some (.bool true,h',())
theorem rescueFewest_plain:∀ t ∈ [24,47,48,3,3],plainTy Try.prog 12 t = true:=by
 intro t ht
 have h:[24,47,48,3,3].all (plainTy Try.prog 12) = true:=by kernel_rfl
 exact List.all_eq_true.1 h t ht
set_option maxRecDepth 100000 in
theorem rescueFewest_lifted (law:rescueFewestLaw) (os:Os) (started:os.Started) (H:Type) (enc:TypeId × Value → H) :
    ReturnsInHanded {} Try.checked os 10 .any (Rows.rescueFewestSpec.pre6 enc Try.prog Try.f10 Rows.rescueFewestRow.domain false) (Rows.rescueFewestSpec.post enc Try.prog Try.f10 false true false false):=by
 refine returnsInHanded_of_change (C:=Try.checked) own started (by kernel_rfl) Try.func10
  (ChangeSpec.witness6 (enc:=enc) (C:=Try.checked) false ⟨#[],#[.agg #[.int .i64 0,.slice none 0 0],.slice none 0 0,.slice none 0 0,.int .i64 0,.int .i64 0],[]⟩ 8 (by kernel_rfl) (by kernel_rfl) (by kernel_rfl) (by kernel_rfl)) ?_
 intro W base args ds gs before hval0 hW hcnd _
 have hval:∀ (j:Nat) t v,Try.f10.params[j]? = some t → args[j]? = some v → Value.okWide Try.prog W .any base t v:=hval0
 have hW':=hW
 obtain ⟨p,q,hA0,hV,rfl,hfz,hnd⟩:=hW
 have hA:DataW.TrodAll enc Try.prog W 0 (fun _=>true) true Try.f10.params.toList args.toList ds p:=hA0
 have hAk:=hA
 rw [Try.params10] at hA hval
 obtain ⟨xs,hs,hr⟩:=args_shape (J:=fun _=>False) (d:=12) (fun t ht=>rescueFewest_plain t (by simpa using ht)) (fun j t v h1 h2=>hval j t v (by simpa using h1) (by simpa using h2)) hA
 obtain ⟨n,h',hc⟩:=law xs hs
 obtain ⟨v0,vs0,d0,ds0,p0,q0,hargs,rfl,rfl,h0,r0⟩:=trodAll_cons hA
 obtain ⟨v1,vs1,d1,ds1,p1,q1,rfl,rfl,rfl,h1,r1⟩:=trodAll_cons r0
 obtain ⟨v2,vs2,d2,ds2,p2,q2,rfl,rfl,rfl,h2,r2⟩:=trodAll_cons r1
 obtain ⟨v3,vs3,d3,ds3,p3,q3,rfl,rfl,rfl,h3,r3⟩:=trodAll_cons r2
 obtain ⟨v4,vs4,d4,ds4,p4,q4,rfl,rfl,rfl,h4,r4⟩:=trodAll_cons r3
 obtain ⟨rfl,rfl,rfl⟩:=trodAll_nil r4
 obtain rfl:args = #[v0,v1,v2,v3,v4]:=by cases args; simp_all
 obtain ⟨rfl,rfl⟩:=trodVars_none hV
 clear hA0 hval0
 simp only [List.append_nil] at hW'
 refine (law_calls (callsOk n) hc hr).mono fun e W' ⟨he,h1,h2,hk⟩=>?_
 subst he
 have hlt:∀ x ∈ p0 ++ p1 ++ p2 ++ p3 ++ p4,x.block < W.heap.size:=fun x hx=>hW'.lt x (by simpa [List.append_assoc] using hx)
 exact ⟨_,rfl,post_of_kept (pa:=p0 ++ p1 ++ p2 ++ p3 ++ p4) (pv:=[]) hW' (fun _ _ _=>trodAll_mk1 (shut_bool Try.underlying4 _))
  (fun sp hsp=>trodAll_carry (DataW.TrodAll.respare kids full (by rw [Try.params10]; decide) (by simpa [List.append_assoc,Rows.rescueFewestSpec] using hAk) (fun x hx=>hsp x (by simpa [List.append_assoc] using hx))) (fun x hx=>sameAt_of (hk _ (hlt x hx))))
  (fun _ _=>rfl) (by simp [List.append_assoc]) h1 h2 hk (ok_one (by kernel_rfl) rfl (okWide_bool_mk Try.underlying4 _))⟩
theorem rescueFewest_over (law:rescueFewestLaw):Rows.RescueFewestSaid:=
 OpenClaim.holds_of_wide 10 Try.f10 rfl rfl rfl rfl rfl rfl rfl ⟨rfl,rfl,rfl,rfl,rfl⟩ rfl rfl rfl rfl rfl (by kernel_rfl) Try.func10 (by kernel_rfl)
  (of_decide_eq_true (by kernel_rfl)) (by unfold Func.isWrapper; first | (rw [if_pos (by decide +kernel)]; kernel_rfl) | (rw [if_neg (by decide +kernel)]; exact ⟨rfl,rfl⟩))
  (fun os started H enc _=>rescueFewest_lifted law os started H enc)
set_option maxRecDepth 100000
set_option linter.unusedVariables false
set_option linter.unusedSimpArgs false
theorem cover_mk {n:Int} {r v z:List (List D)} {h:Int} {m:Int} (hG:okG n r v z h) (hm:(v.length:Int) ≤ m):coverB n r v m z h = true:=by
 obtain ⟨h1,h2,h3,h4,h5,h6,h7⟩:=hG
 unfold coverB
 rw [h1,h2,h3,decide_eq_true ⟨hm,h5,h6,h7⟩]
 rfl
set_option maxHeartbeats 2000000 in
theorem law10 (a b c d e f:D):(fnT C (mkTab sp10 lp10 sw10) 10 s10 [a,b,c,d,e,f]).run = some [D.b true]:=by
 have hb:=big_eq
 refine (t10 a b c d e f).trans (go_not (fun _=>rfl) fun _=>go_if (fun _=>rfl) fun q1=>go_if (fun _=>rfl) fun q2=>go_not (fun _=>rfl) fun hN=>?_)
 obtain ⟨p1,p2,p3⟩:=net_parts hN
 refine go_yes ⟨p1,by omega⟩ (go_not (fun _=>rfl) fun hv=>go_yes ⟨p1,by omega⟩ (go_not (fun _=>rfl) fun hz=>go_if (fun _=>rfl) fun q3=>go_if (fun _=>rfl) fun q4=>go_if (fun _=>rfl) fun q5=>?_))
 rw [Bool.and_eq_true,decide_eq_true_iff] at hz
 have h12:c.L.length ≤ 12:=by omega
 have hG:okG a.I b.L c.L d.L e.I:=⟨hN,hv,hz.1,by omega,hz.2,by omega,by omega⟩
 have hC:coverB a.I b.L c.L 12 d.L e.I = true:=cover_mk hG (by omega)
 have hmi:=mask_inc (o:=f.I) (n:=c.L.length) c.L.length 0 (by omega)
 have hcov:∀ cs,chosOk c.L cs → okG a.I b.L (teamL c.L cs) d.L e.I ∧ coverB a.I b.L (teamL c.L cs) 60 d.L e.I = true:=fun cs hc=>by
  have h1:=chos_ok hG hc
  have h2:=hc.1
  exact ⟨h1,cover_mk h1 (by unfold teamL; rw [List.length_map]; omega)⟩
 obtain ⟨-,cV⟩:=hcov _ (inc_cOk h12 hmi).1
 have lV:(propT c.L f.I 0).length = (maskI f.I 0 c.L.length).length:=by unfold propT teamL; rw [List.length_map,Nat.sub_zero]
 have lM:(maskI f.I 0 c.L.length).length ≤ c.L.length:=by have:=incL_len (Nat.zero_le _) hmi; omega
 have eV:teamL c.L (maskI f.I 0 c.L.length) = propT c.L f.I 0:=by unfold propT; rw [Nat.sub_zero]
 have z0:Int.toNat 0 = 0:=rfl
 have et:∀ l:List (List D),l.take l.length = l:=fun l=>List.take_length
 have gV:covT a.I b.L c.L d.L e.I (maskI f.I 0 c.L.length) = (gapsA a.I b.L (propT c.L f.I 0) d.L e.I).isEmpty:=by unfold covT; rw [eV]
 rw [eV] at cV
 simp only [z0,Int.toNat_natCast,et,List.drop_zero,Nat.sub_zero]
 refine go_yes ⟨by trivial,h12,by omega,by omega⟩ (go_ite (fun c1=>?_) fun c1=>?_)
 ·have hV0:propT c.L f.I 0 = []:=List.isEmpty_iff.1 c1
  have cW:=cV
  have gW:=gV
  rw [hV0] at cW gW lV
  have lW:=lV
  simp only [List.length_nil] at lW
  refine go_true cW ?_
  refine go_ite (fun cg=>?_) fun cg=>?_
  ·rw [cg] at gW
   obtain ⟨cc,hcc,hle⟩:=leastP_le hmi gW (c.L.length + 1) 0 (Nat.zero_le _) (by omega)
   have hL:leastF a.I b.L c.L d.L e.I = some cc:=hcc
   obtain ⟨k1,k2,-⟩:=leastP_mem (c.L.length + 1) 0 hcc
   have kO:=inc_cOk h12 k2
   have kl:=kO.1.1
   obtain ⟨tG,tC⟩:=hcov cc kO.1
   have tE:(gapsA a.I b.L (teamL c.L cc) d.L e.I).isEmpty = true:=k1
   have hT:(teamL c.L cc).length = cc.length:=List.length_map ..
   refine go_true hC (go_true (by rw [hL]; rfl) ?_)
   simp only [hL,Option.getD_some]
   refine go_yes ⟨by trivial,kO,by omega,by omega⟩ (go_ite (fun c2=>?_) fun c2=>?_)
   ·have en:teamL c.L cc = []:=by rw [List.isEmpty_iff.1 c2]; rfl
    rw [en] at tC tE
    exact go_true tC (go_true tE (go_pos (by omega) rfl))
   ·exact go_dec (by omega) (go_true tC (go_true tE (go_pos (by omega) rfl)))
  ·have gl:0 < (gapsA a.I b.L [] d.L e.I).length:=by
    cases hq:gapsA a.I b.L [] d.L e.I with
    | nil=>rw [hq] at cg; cases cg
    | cons _ _=>simp
   refine go_true hC (go_ite (fun cl=>?_) fun cl=>?_)
   ·obtain ⟨cc,hL⟩:=Option.isSome_iff_exists.1 cl
    obtain ⟨k1,k2,-⟩:=leastP_mem (c.L.length + 1) 0 hL
    have kO:=inc_cOk h12 k2
    have kl:=kO.1.1
    obtain ⟨tG,tC⟩:=hcov cc kO.1
    have tE:(gapsA a.I b.L (teamL c.L cc) d.L e.I).isEmpty = true:=k1
    simp only [hL,Option.getD_some]
    refine go_dec (by omega) (go_yes ⟨by trivial,kO,by omega,by omega⟩ (go_ite (fun c2=>?_) fun c2=>?_))
    ·have en:teamL c.L cc = []:=by rw [List.isEmpty_iff.1 c2]; rfl
     rw [en] at tC tE
     exact go_true tC (go_true tE (go_pos (by omega) rfl))
    ·exact go_dec (by omega) (go_true tC (go_true tE (go_pos (by omega) rfl)))
   ·exact go_dec (by omega) (go_pos (by omega) rfl)
 ·have cW:=cV
  have gW:=gV
  refine go_dec (by omega) ?_
  have lW:=lV
  refine go_true cW ?_
  refine go_ite (fun cg=>?_) fun cg=>?_
  ·rw [cg] at gW
   obtain ⟨cc,hcc,hle⟩:=leastP_le hmi gW (c.L.length + 1) 0 (Nat.zero_le _) (by omega)
   have hL:leastF a.I b.L c.L d.L e.I = some cc:=hcc
   obtain ⟨k1,k2,-⟩:=leastP_mem (c.L.length + 1) 0 hcc
   have kO:=inc_cOk h12 k2
   have kl:=kO.1.1
   obtain ⟨tG,tC⟩:=hcov cc kO.1
   have tE:(gapsA a.I b.L (teamL c.L cc) d.L e.I).isEmpty = true:=k1
   have hT:(teamL c.L cc).length = cc.length:=List.length_map ..
   refine go_true hC (go_true (by rw [hL]; rfl) ?_)
   simp only [hL,Option.getD_some]
   refine go_yes ⟨by trivial,kO,by omega,by omega⟩ (go_ite (fun c2=>?_) fun c2=>?_)
   ·have en:teamL c.L cc = []:=by rw [List.isEmpty_iff.1 c2]; rfl
    rw [en] at tC tE
    exact go_true tC (go_true tE (go_pos (by omega) rfl))
   ·exact go_dec (by omega) (go_true tC (go_true tE (go_pos (by omega) rfl)))
  ·have gl:0 < (gapsA a.I b.L (propT c.L f.I 0) d.L e.I).length:=by
    cases hq:gapsA a.I b.L (propT c.L f.I 0) d.L e.I with
    | nil=>rw [hq] at cg; cases cg
    | cons _ _=>simp
   refine go_true hC (go_ite (fun cl=>?_) fun cl=>?_)
   ·obtain ⟨cc,hL⟩:=Option.isSome_iff_exists.1 cl
    obtain ⟨k1,k2,-⟩:=leastP_mem (c.L.length + 1) 0 hL
    have kO:=inc_cOk h12 k2
    have kl:=kO.1.1
    obtain ⟨tG,tC⟩:=hcov cc kO.1
    have tE:(gapsA a.I b.L (teamL c.L cc) d.L e.I).isEmpty = true:=k1
    simp only [hL,Option.getD_some]
    refine go_dec (by omega) (go_yes ⟨by trivial,kO,by omega,by omega⟩ (go_ite (fun c2=>?_) fun c2=>?_))
    ·have en:teamL c.L cc = []:=by rw [List.isEmpty_iff.1 c2]; rfl
     rw [en] at tC tE
     exact go_true tC (go_true tE (go_pos (by omega) rfl))
    ·exact go_dec (by omega) (go_true tC (go_true tE (go_pos (by omega) rfl)))
   ·exact go_dec (by omega) (go_pos (by omega) rfl)
theorem rescueFewest_law:rescueFewestLaw:=fun xs hx=>
 law_true_wfW hC (sp:=sp10) (lp:=lp10) (sw:=sw10) (n:=23) ⟨ok15 22,ok19 20,ok28 21,ok29 21,ok27 14,trivial⟩ ⟨ok32 0,trivial⟩ (by kernel_rfl) [5,17] (by kernel_rfl) (by kernel_rfl) (fun k hk L hL=>by
     simp only [List.mem_cons,List.not_mem_nil,or_false] at hk
     rcases hk with rfl | rfl <;> cases hL
     ·exact ok10_5 23 ⟨ok15 22,ok19 20,ok28 21,ok29 21,ok27 14,trivial⟩ ⟨ok32 0,trivial⟩
     ·exact ok10_17 23 ⟨ok15 22,ok19 20,ok28 21,ok29 21,ok27 14,trivial⟩ ⟨ok32 0,trivial⟩)
  (ts:=[24,47,48,3,3]) (ks:=s10.args) (by kernel_rfl) (of_decide_eq_true (by kernel_rfl)) (m:=6) (by kernel_rfl) (fun ds hl _=>by
   match ds,hl with
   | [a,b,c,d,e,f],_=>exact law10 a b c d e f) 12 xs hx
theorem rescue_fewest:Rows.RescueFewestSaid:=rescueFewest_over rescueFewest_law
end Go.Proofs.Ytgmefblkmidglaa
