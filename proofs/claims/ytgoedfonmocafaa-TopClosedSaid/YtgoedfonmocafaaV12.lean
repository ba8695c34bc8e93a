/-
 The statement of TopP7c holds for every input; what it rests on stands in the parts before.
-/
import Derived.Test.YtgoedfonmocafaaV11
import Derived.Test.YtgoedfonmocafaaRows
namespace Go.Proofs.Ytgoedfonmocafaa
open Go.Lite Go.ChangeShapes Go.WideShapes Go.ChangeAt Go.RowKit
def topClosedLaw:Prop:=∀ xs:List AV,ArgsShape Try.prog 12 [63,28,28,3,3,3] xs → ∃ n h',callA C n Unit none 7 xs [] () = some (.bool true,h',())
theorem topClosed_plain:∀ t ∈ [63,28,28,3,3,3],plainTy Try.prog 12 t = true:=by
 intro t ht
 have h:[63,28,28,3,3,3].all (plainTy Try.prog 12) = true:=by kernel_rfl
 exact List.all_eq_true.1 h t ht
set_option maxRecDepth 100000 in
theorem topClosed_lifted (law:topClosedLaw) (os:Os) (started:os.Started) (H:Type) (enc:TypeId × Value → H) :
    ReturnsInHanded {} Try.checked os 7 .any (Rows.topClosedSpec.pre6 enc Try.prog Try.f7 Rows.topClosedRow.domain false) (Rows.topClosedSpec.post enc Try.prog Try.f7 false true false false):=by
 refine returnsInHanded_of_change (C:=Try.checked) own started (by kernel_rfl) Try.func7
  (ChangeSpec.witness6 (enc:=enc) (C:=Try.checked) false ⟨#[],#[.agg #[.int .i64 0,.int .i64 0,.slice none 0 0],.slice none 0 0,.slice none 0 0,.int .i64 0,.int .i64 0,.int .i64 0],[]⟩ 8 (by kernel_rfl) (by kernel_rfl) (by kernel_rfl) (by kernel_rfl)) ?_
 intro W base args ds gs before hval0 hW hcnd _
 have hval:∀ (j:Nat) t v,Try.f7.params[j]? = some t → args[j]? = some v → Value.okWide Try.prog W .any base t v:=hval0
 have hW':=hW
 obtain ⟨p,q,hA0,hV,rfl,hfz,hnd⟩:=hW
 have hA:DataW.TrodAll enc Try.prog W 0 (fun _=>true) true Try.f7.params.toList args.toList ds p:=hA0
 have hAk:=hA
 rw [Try.params7] at hA hval
 obtain ⟨xs,hs,hr⟩:=args_shape (J:=fun _=>False) (d:=12) (fun t ht=>topClosed_plain t (by simpa using ht)) (fun j t v h1 h2=>hval j t v (by simpa using h1) (by simpa using h2)) hA
 obtain ⟨n,h',hc⟩:=law xs hs
 obtain ⟨v0,vs0,d0,ds0,p0,q0,hargs,rfl,rfl,h0,r0⟩:=trodAll_cons hA
 obtain ⟨v1,vs1,d1,ds1,p1,q1,rfl,rfl,rfl,h1,r1⟩:=trodAll_cons r0
 obtain ⟨v2,vs2,d2,ds2,p2,q2,rfl,rfl,rfl,h2,r2⟩:=trodAll_cons r1
 obtain ⟨v3,vs3,d3,ds3,p3,q3,rfl,rfl,rfl,h3,r3⟩:=trodAll_cons r2
 obtain ⟨v4,vs4,d4,ds4,p4,q4,rfl,rfl,rfl,h4,r4⟩:=trodAll_cons r3
 obtain ⟨v5,vs5,d5,ds5,p5,q5,rfl,rfl,rfl,h5,r5⟩:=trodAll_cons r4
 obtain ⟨rfl,rfl,rfl⟩:=trodAll_nil r5
 obtain rfl:args = #[v0,v1,v2,v3,v4,v5]:=by cases args; simp_all
 obtain ⟨rfl,rfl⟩:=trodVars_none hV
 clear hA0 hval0
 simp only [List.append_nil] at hW'
 refine (law_calls (callsOk n) hc hr).mono fun e W' ⟨he,h1,h2,hk⟩=>?_
 subst he
 have hlt:∀ x ∈ p0 ++ p1 ++ p2 ++ p3 ++ p4 ++ p5,x.block < W.heap.size:=fun x hx=>hW'.lt x (by simpa [List.append_assoc] using hx)
 exact ⟨_,rfl,post_of_kept (pa:=p0 ++ p1 ++ p2 ++ p3 ++ p4 ++ p5) (pv:=[]) hW' (fun _ _ _=>trodAll_mk1 (shut_bool Try.underlying4 _))
  (fun sp hsp=>trodAll_carry (DataW.TrodAll.respare kids full (by rw [Try.params7]; decide) (by simpa [List.append_assoc,Rows.topClosedSpec] using hAk) (fun x hx=>hsp x (by simpa [List.append_assoc] using hx))) (fun x hx=>sameAt_of (hk _ (hlt x hx))))
  (fun _ _=>rfl) (by simp [List.append_assoc]) h1 h2 hk (ok_one (by kernel_rfl) rfl (okWide_bool_mk Try.underlying4 _))⟩
theorem topClosed_over (law:topClosedLaw):Rows.TopClosedSaid:=
 OpenClaim.holds_of_wide 7 Try.f7 rfl rfl rfl rfl rfl rfl rfl ⟨rfl,rfl,rfl,rfl,rfl⟩ rfl rfl rfl rfl rfl (by kernel_rfl) Try.func7 (by kernel_rfl)
  (of_decide_eq_true (by kernel_rfl)) (by unfold Func.isWrapper; first | (rw [if_pos (by decide +kernel)]; kernel_rfl) | (rw [if_neg (by decide +kernel)]; exact ⟨rfl,rfl⟩))
  (fun os started H enc _=>topClosed_lifted law os started H enc)
set_option maxRecDepth 100000
set_option maxHeartbeats 2000000 in
theorem ok7_28 (hA:AllOK C 12 sp7) (hW:AllOKW C 12 sw7):LoopSim C 12 7 (loopOf C.P 7 28) (mkL l7_28 G7_28):=by
 refine loop_ofK hC (sp:=sp7) (lp:=lp7) (sw:=sw7) hA hW 0 [35] (by kernel_rfl) (by kernel_rfl) (fun k hk L hL=>by simp at hk; subst hk; cases hL; exact ok7_35 hA hW) (by kernel_rfl) (fun ds=>(((ds.getD 4 default).L.length:Int) - (ds.getD 6 default).I).toNat) fun ds rr h=>?_
 unfold G7_28 at h
 split at h
 ·rename_i de fr a to wy best i c f w lo n n1 n2 n3 nn nl du cl op ch rs
  obtain ⟨hp,h⟩:=need_some h
  rw [yes_iff] at hp
  obtain ⟨hf,hnl,⟨i0,i1,i2⟩,hall⟩:=id hp
  obtain ⟨hpl,-,-,-,-,-,hlo,hn,hn1,hn2,hn3⟩:=id hf
  have hcc:=(plan_of hpl).1
  refine ⟨by rw [fuelC]; show ((wy.L.length:Int) - i.I).toNat < _; omega,?_⟩
  refine rd_runR (t7_28 de fr a to wy best i c f w lo n n1 n2 n3 nn nl du cl op ch rs) ?_
  have z0:lo.I.toNat = 1:=by omega
  have z1:n.I.toNat = w.L.length + 1:=by omega
  have z2:n1.I.toNat = w.L.length:=by omega
  have z3:n2.I.toNat = w.L.length:=by omega
  have z4:n3.I.toNat = w.L.length:=by omega
  have z5:nl.I.toNat = rs.L.length:=by omega
  have z6:(0:Nat) + 1 + 1 + 1 = 3:=rfl
  have z7:(0:Nat) + 1 + 1 = 2:=rfl
  obtain ⟨x,hx⟩:∃ x:Nat,i.I = x:=⟨i.I.toNat,by omega⟩
  simp only [hx,z0,z1,z2,z3,z4,z5,z6,z7,Int.toNat_natCast,ix_def,lx_def] at i0 i1 ⊢
  refine rd_if (fun hlt=>?_) fun hge=>rd_out h
  have hxl:x < wy.L.length:=by omega
  obtain ⟨⟨q0,q1⟩,hfr⟩:=hall x hxl
  have hf':fndT c.I f.I w.L du.L cl.L op.L ch.L ((1:Nat):Int) ((w.L.length + 1:Nat):Int) w.L.length w.L.length w.L.length:=by
   rw [hlo,hn,hn1,hn2,hn3] at hf
   exact hf
  have fin:(G7_28 [D.l de.L,D.i fr.I,D.i a.I,D.i to.I,D.l wy.L,D.i best.I,D.i ((x + 1:Nat):Int),D.i c.I,D.i f.I,D.l w.L,D.i ((1:Nat):Int),D.i ((w.L.length + 1:Nat):Int),D.i (w.L.length:Int),D.i (w.L.length:Int),D.i (w.L.length:Int),D.i nn.I,D.i (rs.L.length:Int),D.l du.L,D.l cl.L,D.l op.L,D.l ch.L,D.l rs.L]).run = some rr:=
   (need_yes ⟨hf',rfl,⟨by simp only [I_i]; omega,by simp only [I_i,L_l]; omega,i2⟩,hall⟩).trans h
  have hlt':((wy.L.length:Int) - ((x + 1:Nat):Int)).toNat < ((wy.L.length:Int) - i.I).toNat:=by omega
  rw [wrap_succ (by omega)]
  generalize hK:ix (wy.L.getD x []) 0 = K at q0 q1 hfr ⊢
  refine rd_dec (by omega) (rd_neg (by omega) (rd_dec (by omega) (rd_neg (by omega) (rd_dec (by omega) (rd_dec (by omega) (rd_dec (by omega) (rd_ite (fun c1=>rd_again fin hlt') fun c1=>?_)))))))
  have hne:(lx (rs.L.getD K.toNat []) 3).length ≠ 0:=by
   intro hz
   rw [hz] at c1
   cases c1
  refine rd_yes ⟨hf',by trivial,⟨by omega,by omega⟩,⟨by omega,by omega⟩,hfr hne⟩ (rd_again fin hlt')
 ·cases h
set_option maxHeartbeats 4000000 in
theorem law7 (a b c d e f g h:D):(fnT C tab7 7 s7 [a,b,c,d,e,f,g,h]).run = some [D.b true]:=by
 have hbig:=big_eq
 refine (t7 a b c d e f g h).trans ?_
 generalize fnT C tab7 7 s7 [a,b,c,d,e,f,g,h] = XX
 refine go_not (fun _=>rfl) fun h1=>go_ite (fun _=>rfl) fun h2=>go_ite (fun _=>rfl) fun h3=>go_if (fun _=>rfl) fun h4=>go_if (fun _=>rfl) fun h5=>go_if (fun _=>rfl) fun h6=>go_if (fun _=>rfl) fun h7=>go_if (fun _=>rfl) fun h8=>go_if (fun _=>rfl) fun h9=>?_
 have h2:d.L.length = c.L.length:=Int.ofNat_inj.1 (by simpa using h2)
 have h3:e.L.length = c.L.length:=Int.ofNat_inj.1 (by simpa using h3)
 obtain ⟨hp,hfew,h6'⟩:=few_plan h1
 refine go_yes ⟨by omega,by omega,by omega,by omega⟩ (go_ite (fun hdet=>?_) fun _=>rfl)
 refine go_yes ⟨hp,hfew⟩ (go_if (fun h0=>?_) fun _=>go_if (fun _=>rfl) fun _=>rfl)
 obtain ⟨hc,hd⟩:=found_ok h0
 obtain ⟨l1,l2,l3,l4,e1,e2,e3,e4,l5⟩:=found_lent hp hc hd
 have hF:=found_fnd hp hc hd
 have hfit:=fnd_fits hF
 have z1:Int.toNat (1:Int) = 1:=rfl
 have z0:Int.toNat (0:Int) = 0:=rfl
 simp only [Int.toNat_natCast,z0,z1,e1,e2,e3,e4,Nat.sub_zero] at hdet ⊢
 have hnode:∀ v t:Int,0 ≤ v → v ≤ c.L.length → 0 ≤ t → t ≤ 100000 → Rs.nodeB ((c.L.length + 1:Nat):Int) v t = true:=fun v t k0 k1 k2 k3=>decide_eq_true (by omega)
 have b1:(dueL a.I b.I c.L (foundC a.I b.I c.L).2).length < big:=by omega
 generalize dueL a.I b.I c.L (foundC a.I b.I c.L).2 = dl at hfit b1 ⊢
 generalize rowP a.I b.I c.L (foundC a.I b.I c.L).2 = du at hF l1 ⊢
 generalize clR a.I b.I c.L (foundC a.I b.I c.L).2 = cl at hF hfit l2 ⊢
 generalize opR a.I b.I c.L (foundC a.I b.I c.L).2 = op at hF hfit l3 ⊢
 generalize (foundC a.I b.I c.L).2 = ch at hF hfit l4 ⊢
 refine go_dec (by omega) (go_dec (by omega) (go_dec (by omega) (go_dec (by omega) (go_yes ⟨⟨b1,by omega,by omega,by omega⟩,hfit⟩ (go_false (by simp) (go_false (by simp) (go_yes ⟨hF,by omega,by omega⟩ (go_ite (fun hcut=>?_) fun _=>rfl))))))))
 have hC:cutP c.L d.L e.L cl op:=cut_of hF h6' h2 h3 (by rw [← hdet]) hcut
 have hN:=cut_net hC
 have htk:(cutN d.L e.L cl op c.L.length).take (cutN d.L e.L cl op c.L.length).length = cutN d.L e.L cl op c.L.length:=List.take_length
 simp only [htk]
 obtain ⟨hO,-⟩:=Rs.arr_ok hN (v:=f.I) (t:=g.I) (by omega) (by omega)
 have hOl:(Rs.arrF ((c.L.length + 1:Nat):Int) (cutN d.L e.L cl op c.L.length) f.I g.I).length = c.L.length + 1:=by have:=hO.1; omega
 have hbest:rgI (Rs.arrF ((c.L.length + 1:Nat):Int) (cutN d.L e.L cl op c.L.length) f.I g.I) h.I.toNat = Rs.bestF ((c.L.length + 1:Nat):Int) (cutN d.L e.L cl op c.L.length) f.I g.I h.I:=rfl
 have hlow:=(hO.2 h.I.toNat).1
 have hlow:-1 ≤ Rs.bestF ((c.L.length + 1:Nat):Int) (cutN d.L e.L cl op c.L.length) f.I g.I h.I:=hlow
 have n1:=hnode f.I g.I (by omega) (by omega) (by omega) (by omega)
 have n2:=hnode h.I 0 (by omega) (by omega) (by omega) (by omega)
 obtain ⟨p1,p2⟩:=prog_free hC (v:=f.I) (t:=g.I) (to:=h.I) (by omega)
 have hdb:∀ (fr to:Nat),f.I = fr → h.I = to → fr ≤ to → (∀ j,fr ≤ j → j < to → rgI e.L j > 0) → ¬ Rs.bestF ((c.L.length + 1:Nat):Int) (cutN d.L e.L cl op c.L.length) f.I g.I h.I < 0 →
     Rs.bestF ((c.L.length + 1:Nat):Int) (cutN d.L e.L cl op c.L.length) f.I g.I h.I ≤ g.I + sumD e.L fr (to - fr):=fun fr to k1 k2 k3 k4 k5=>by
  rw [k1,k2] at k5 ⊢
  exact det_best hC k3 (by omega) (by omega) k4 k5
 simp only [rgI_def,hbest,hOl]
 refine go_yes ⟨hC,by trivial,by trivial⟩ (go_dec (by omega) (go_yes ⟨⟨hN,n1⟩,n2⟩ ?_))
 have hdr:∀ j,j < e.L.length → 0 ≤ rgI e.L j ∧ rgI e.L j ≤ 10000:=fun j hj=>(hC.2.2.2.2.2 j (by omega)).2.2
 clear hbest hO hOl
 generalize Rs.progW ((c.L.length + 1:Nat):Int) (cutN d.L e.L cl op c.L.length) f.I g.I h.I = W at p1 p2 ⊢
 generalize Rs.bestF ((c.L.length + 1:Nat):Int) (cutN d.L e.L cl op c.L.length) f.I g.I h.I = B at hlow hdb ⊢
 refine go_if (fun hb=>?_) fun hb=>?_
 ·exact go_dec (by omega) (go_yes ⟨hN,n1⟩ (go_dec (by omega) (go_yes hN (go_false (by simp) (go_dec (by omega) (go_true (by rw [show B = -1 by omega]; rfl) rfl))))))
 ·refine go_dec (by omega) (go_yes ⟨hN,n1⟩ (go_dec (by omega) (go_yes hN (go_false (by simp) (go_dec (by omega) (go_false (by simp) (go_yes ⟨hF,by trivial,⟨by omega,by omega,p1⟩,p2⟩ (go_yes ⟨hdr,by omega,by omega,by omega,by omega,by omega⟩ (go_ite (fun hpos=>?_) fun _=>rfl)))))))))
  refine go_if (fun _=>rfl) fun hfr=>go_if (fun _=>rfl) fun hle=>?_
  exfalso
  obtain ⟨fr,k1⟩:∃ fr:Nat,f.I = fr:=⟨f.I.toNat,by omega⟩
  obtain ⟨to,k2⟩:∃ to:Nat,h.I = to:=⟨h.I.toNat,by omega⟩
  rw [k1,k2] at hpos hle hfr
  have ez:((to:Int) - (fr:Int)).toNat = to - fr:=by omega
  rw [Int.toNat_natCast,ez] at hpos hle
  refine hle (hdb fr to k1 k2 (by omega) (fun j j1 j2=>?_) hb)
  have hx:=allFrom_iff.1 hpos j j1 (by omega)
  unfold posD at hx
  have hy:=(hdr j (by omega)).1
  have hz:¬ rgI e.L j = 0:=by simpa using hx
  omega
theorem all7:AllOK C 12 sp7:=⟨ok24 11 (ok66 9),ok34 4,ok2026 5,ok35x 4,ok37 5,ok33 5,ok38 10,ok30x 12 (ok30 4),trivial⟩
theorem allW7:AllOKW C 12 sw7:=⟨ok36 11,trivial⟩
theorem topClosed_law:topClosedLaw:=fun xs hx=>
 law_true_wfW hC (sp:=sp7) (lp:=lp7) (sw:=sw7) (n:=12) all7 allW7 (by kernel_rfl) [4,14,28,42] (by kernel_rfl) (by kernel_rfl) (fun k hk L hL=>by
  simp at hk
  rcases hk with rfl | rfl | rfl | rfl <;> cases hL
  ·exact ok7_4 all7 allW7
  ·exact ok7_14 all7 allW7
  ·exact ok7_28 all7 allW7
  ·exact ok7_42 all7 allW7)
  (ts:=[63,28,28,3,3,3]) (ks:=s7.args) (by kernel_rfl) (of_decide_eq_true (by kernel_rfl)) (m:=8) (by kernel_rfl) (fun ds hl _=>by
   match ds,hl with
   | [a,b,c,d,e,f,g,h],_=>exact law7 a b c d e f g h) 12 xs hx
theorem top_closed:Rows.TopClosedSaid:=topClosed_over topClosed_law
end Go.Proofs.Ytgoedfonmocafaa

