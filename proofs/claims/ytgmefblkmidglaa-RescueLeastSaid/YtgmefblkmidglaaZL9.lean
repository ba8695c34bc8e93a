/-
 The statement of RescueLeast holds for every input; what it rests on stands in the parts before.
-/
import Derived.Test.YtgmefblkmidglaaZL8
import Derived.Test.YtgmefblkmidglaaRows
namespace Go.Proofs.Ytgmefblkmidglaa
open Go.Lite Go.ChangeShapes Go.WideShapes Go.ChangeAt Go.RowKit
theorem kids:Kids Try.prog (· < Try.prog.types.size):=kids_rows (by kernel_rfl) (by kernel_rfl)
theorem full:∀ t e,t < Try.prog.types.size → Try.prog.underlying t = some (.slice e) → 0 < Try.prog.cellsOf e:=slices_full_of Try.prog (by kernel_rfl)
end Go.Proofs.Ytgmefblkmidglaa
namespace Go.Proofs.Ytgmefblkmidglaa
open Go.Lite Go.ChangeShapes Go.WideShapes Go.ChangeAt Go.RowKit
def rescueLeastLaw:Prop:=∀ xs:List AV,ArgsShape Try.prog 12 [24,47,48,3] xs → ∃ n h',callA C n Unit none 9 xs [] () = some (.bool true,h',())
theorem rescueLeast_plain:∀ t ∈ [24,47,48,3],plainTy Try.prog 12 t = true:=by
 intro t ht
 have h:[24,47,48,3].all (plainTy Try.prog 12) = true:=by kernel_rfl
 exact List.all_eq_true.1 h t ht
set_option maxRecDepth 100000 in
theorem rescueLeast_lifted (law:rescueLeastLaw) (os:Os) (started:os.Started) (H:Type) (enc:TypeId × Value → H) :
    ReturnsInHanded {} Try.checked os 9 .any (Rows.rescueLeastSpec.pre6 enc Try.prog Try.f9 Rows.rescueLeastRow.domain false) (Rows.rescueLeastSpec.post enc Try.prog Try.f9 false true false false):=by
 refine returnsInHanded_of_change (C:=Try.checked) own started (by kernel_rfl) Try.func9
  (ChangeSpec.witness6 (enc:=enc) (C:=Try.checked) false ⟨#[],#[.agg #[.int .i64 0,.slice none 0 0],.slice none 0 0,.slice none 0 0,.int .i64 0],[]⟩ 8 (by kernel_rfl) (by kernel_rfl) (by kernel_rfl) (by kernel_rfl)) ?_
 intro W base args ds gs before hval0 hW hcnd _
 have hval:∀ (j:Nat) t v,Try.f9.params[j]? = some t → args[j]? = some v → Value.okWide Try.prog W .any base t v:=hval0
 have hW':=hW
 obtain ⟨p,q,hA0,hV,rfl,hfz,hnd⟩:=hW
 have hA:DataW.TrodAll enc Try.prog W 0 (fun _=>true) true Try.f9.params.toList args.toList ds p:=hA0
 have hAk:=hA
 rw [Try.params9] at hA hval
 obtain ⟨xs,hs,hr⟩:=args_shape (J:=fun _=>False) (d:=12) (fun t ht=>rescueLeast_plain t (by simpa using ht)) (fun j t v h1 h2=>hval j t v (by simpa using h1) (by simpa using h2)) hA
 obtain ⟨n,h',hc⟩:=law xs hs
 obtain ⟨v0,vs0,d0,ds0,p0,q0,hargs,rfl,rfl,h0,r0⟩:=trodAll_cons hA
 obtain ⟨v1,vs1,d1,ds1,p1,q1,rfl,rfl,rfl,h1,r1⟩:=trodAll_cons r0
 obtain ⟨v2,vs2,d2,ds2,p2,q2,rfl,rfl,rfl,h2,r2⟩:=trodAll_cons r1
 obtain ⟨v3,vs3,d3,ds3,p3,q3,rfl,rfl,rfl,h3,r3⟩:=trodAll_cons r2
 obtain ⟨rfl,rfl,rfl⟩:=trodAll_nil r3
 obtain rfl:args = #[v0,v1,v2,v3]:=by cases args; simp_all
 obtain ⟨rfl,rfl⟩:=trodVars_none hV
 clear hA0 hval0
 simp only [List.append_nil] at hW'
 refine (law_calls (callsOk n) hc hr).mono fun e W' ⟨he,h1,h2,hk⟩=>?_
 subst he
 have hlt:∀ x ∈ p0 ++ p1 ++ p2 ++ p3,x.block < W.heap.size:=fun x hx=>hW'.lt x (by simpa [List.append_assoc] using hx)
 exact ⟨_,rfl,post_of_kept (pa:=p0 ++ p1 ++ p2 ++ p3) (pv:=[]) hW' (fun _ _ _=>trodAll_mk1 (shut_bool Try.underlying4 _))
  (fun sp hsp=>trodAll_carry (DataW.TrodAll.respare kids full (by rw [Try.params9]; decide) (by simpa [List.append_assoc,Rows.rescueLeastSpec] using hAk) (fun x hx=>hsp x (by simpa [List.append_assoc] using hx))) (fun x hx=>sameAt_of (hk _ (hlt x hx))))
  (fun _ _=>rfl) (by simp [List.append_assoc]) h1 h2 hk (ok_one (by kernel_rfl) rfl (okWide_bool_mk Try.underlying4 _))⟩
theorem rescueLeast_over (law:rescueLeastLaw):Rows.RescueLeastSaid:=
 OpenClaim.holds_of_wide 9 Try.f9 rfl rfl rfl rfl rfl rfl rfl ⟨rfl,rfl,rfl,rfl,rfl⟩ rfl rfl rfl rfl rfl (by kernel_rfl) Try.func9 (by kernel_rfl)
  (of_decide_eq_true (by kernel_rfl)) (by unfold Func.isWrapper; first | (rw [if_pos (by decide +kernel)]; kernel_rfl) | (rw [if_neg (by decide +kernel)]; exact ⟨rfl,rfl⟩))
  (fun os started H enc _=>rescueLeast_lifted law os started H enc)
set_option maxRecDepth 100000
set_option linter.unusedVariables false
theorem sameR_self (a:List (List D)):sameR a a = true:=by
 unfold sameR
 rw [decide_eq_true rfl,Bool.true_and,allFrom_iff]
 intro j _ _
 simp
theorem incL_len {n:Nat}:∀ {l:List (List D)} {i:Nat},i ≤ n → incL i n l → l.length + i ≤ n
 | [],i,h,_=>by simpa using h
 | _ :: l,i,h,⟨k,_,h1,h2,h3⟩=>by
   have:=incL_len (l:=l) (by omega) h3
   simp only [List.length_cons]
   omega
theorem least_same {n:Int} {r v z:List (List D)} {h:Int} (hG:okG n r v z h) (h12:v.length ≤ 12):(leastF n r v z h).isSome = (leastN n r v z h 0 (v.length + 1)).isSome ∧ (leastF n r v z h).getD [] = theC (leastN n r v z h 0 (v.length + 1)) ∧ ((leastF n r v z h).getD []).length ≤ 12:=by
 have e:=leastP_same hG (v.length + 1) 0 (by omega)
 have e':leastF n r v z h = (leastN n r v z h 0 (v.length + 1)).map fun c=>lx c 0:=e
 have hm:∀ c,leastF n r v z h = some c → c.length ≤ 12:=fun c hc=>by
  have:=incL_len (Nat.zero_le _) (leastP_mem (v.length + 1) 0 hc).2.1
  omega
 refine ⟨by rw [e']; cases leastN n r v z h 0 (v.length + 1) <;> rfl,by rw [e']; cases leastN n r v z h 0 (v.length + 1) <;> rfl,?_⟩
 cases hq:leastF n r v z h with
 | none=>simp
 | some c=>exact hm c hq
set_option maxHeartbeats 1000000 in
theorem law9 (a b c d e:D):(fnT C (mkTab sp9 lp9 sw9) 9 s9 [a,b,c,d,e]).run = some [D.b true]:=by
 have hb:=big_eq
 refine (t9 a b c d e).trans (go_not (fun _=>rfl) fun _=>go_not (fun _=>rfl) fun hf=>?_)
 have hf:(((c.L.length:Int) ≤ 6 ∨ 12 < (c.L.length:Int) ∧ (c.L.length:Int) < 200) ∧ ((d.L.length:Int) ≤ 5 ∨ 100 < (d.L.length:Int) ∧ (d.L.length:Int) < 200) ∧ (e.I ≤ 40 ∨ 100000 < e.I)):=of_decide_eq_true hf
 refine go_if (fun h5=>go_if (fun _=>rfl) fun h12=>go_if (fun hx=>go_if (fun _=>rfl) fun hy=>?_) fun hx=>?_) fun h5=>go_if (fun hx=>go_if (fun _=>rfl) fun hy=>?_) fun hx=>?_
 all_goals
  refine go_ite (fun hC'=>?_) fun hC'=>?_
  ·obtain ⟨hG,hv12⟩:=cover12 hC'
   obtain ⟨hN,hv,hz,hvl,hzl,hh0,hh1⟩:=id hG
   obtain ⟨p1,p2,p3⟩:=net_parts hN
   obtain ⟨e1,e2,e3⟩:=least_same hG hv12
   have hzz:(zons a.I d.L && decide (d.L.length ≤ 100)) = true:=by rw [hz,Bool.true_and]; exact decide_eq_true hzl
   refine go_ite (fun c1=>?_) fun c1=>?_
   ·rw [e1] at c1
    rw [← e2]
    exact go_notT hN (go_neg (by omega) (go_yes ⟨p1,by omega⟩ (go_notT hv (go_yes ⟨p1,by omega⟩ (go_notT hzz (go_neg (by omega) (go_neg (by omega) (go_yes ⟨hG,hv12⟩ (go_true c1 (go_yes (by omega) (go_true (sameR_self _) rfl)))))))))))
   ·rw [e1] at c1
    exact go_notT hN (go_neg (by omega) (go_yes ⟨p1,by omega⟩ (go_notT hv (go_yes ⟨p1,by omega⟩ (go_notT hzz (go_neg (by omega) (go_neg (by omega) (go_yes ⟨hG,hv12⟩ (go_false c1 rfl)))))))))
  ·refine go_not (fun hN=>rfl) fun hN=>?_
   obtain ⟨p1,p2,p3⟩:=net_parts hN
   refine go_if (fun _=>rfl) fun c1=>go_yes ⟨p1,by omega⟩ (go_not (fun _=>rfl) fun c2=>go_yes ⟨p1,by omega⟩ (go_not (fun _=>rfl) fun c3=>go_if (fun _=>rfl) fun c4=>go_if (fun _=>rfl) fun c5=>?_))
   rw [Bool.and_eq_true,decide_eq_true_iff] at c3
   unfold coverB at hC'
   rw [hN,c2,c3.1,decide_eq_true (by omega)] at hC'
   cases hC'
theorem rescueLeast_law:rescueLeastLaw:=fun xs hx=>
 law_true_wfW hC (sp:=sp9) (lp:=lp9) (sw:=sw9) (n:=23) ⟨ok15 22,ok26 22,ok19 20,ok28 21,ok29 21,ok21 22,trivial⟩ ⟨ok32 0,ok33 9,trivial⟩ (by kernel_rfl) [] (by kernel_rfl) (by kernel_rfl) (fun k hk L hL=>by cases hk)
  (ts:=[24,47,48,3]) (ks:=s9.args) (by kernel_rfl) (of_decide_eq_true (by kernel_rfl)) (m:=5) (by kernel_rfl) (fun ds hl _=>by
   match ds,hl with
   | [a,b,c,d,e],_=>exact law9 a b c d e) 12 xs hx
theorem rescue_least:Rows.RescueLeastSaid:=rescueLeast_over rescueLeast_law
end Go.Proofs.Ytgmefblkmidglaa
