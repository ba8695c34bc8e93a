/-
 The statement of CarTyres holds for every input; what it rests on stands in the parts before.
-/
import Derived.Test.YtlofnkkokcihnaaZT7
import Derived.Test.YtlofnkkokcihnaaRows
namespace Go.Proofs.Ytlofnkkokcihnaa
open Go.Lite Go.ChangeShapes Go.WideShapes Go.ChangeAt Go.RowKit
theorem kids:Kids Try.prog (· < Try.prog.types.size):=kids_rows (by kernel_rfl) (by kernel_rfl)
theorem full:∀ t e,t < Try.prog.types.size → Try.prog.underlying t = some (.slice e) → 0 < Try.prog.cellsOf e:=slices_full_of Try.prog (by kernel_rfl)
theorem small_of {a b c:List (List D)} (h:shortOk a b c = true):smallRows a ∧ smallRows b ∧ c.length < big ∧ a.length < big ∧ b.length < big:=by
 have hb:big = 4611686018427387904:=rfl
 simp only [shortOk,Bool.and_eq_true,decide_eq_true_eq,allFrom_iff] at h
 refine ⟨⟨by omega,fun j hj=>?_⟩,⟨by omega,fun j hj=>?_⟩,by omega,by omega,by omega⟩
 ·have:=h.1.2 j (by omega) (by omega); omega
 ·have:=h.2 j (by omega) (by omega); omega
theorem few_small {cs ls:List (List D)} (h:fewOk cs ls = true):smallCs cs ∧ ∀ j,j < ls.length → (rowAt ls j).length < lim:=by
 have hb:big = 4611686018427387904:=rfl
 have hl:lim = 9223372036854775808:=rfl
 simp only [fewOk,Bool.and_eq_true,decide_eq_true_eq,allFrom_iff] at h
 obtain ⟨⟨⟨h1,h2⟩,h3⟩,h4⟩:=h
 refine ⟨⟨by omega,fun j hj=>?_⟩,fun j hj=>?_⟩
 ·obtain ⟨k1,k2,k3,-,-⟩:=small_of (h3 j (Nat.zero_le _) (by omega))
  exact ⟨k1,k2,k3⟩
 ·have:=of_decide_eq_true (h4 j (Nat.zero_le _) (by omega))
  omega
theorem known13:callA C 13 Unit none 16 [] [] () = some (.bool true,[],()):=by kernel_rfl
theorem ok16b:FnOK C 13 16 (mkF s16 G16):=by
 intro args v hb h avs hv
 unfold mkF at h
 split at h
 ·rename_i ds hds
  have ha:args = []:=by
   cases args with
   | nil=>rfl
   | cons x y=>simp [s16,fitsVs] at hds
  subst ha
  simp only [VRL] at hv
  subst hv
  simp only [s16,fitsVs,Option.some.injEq] at hds
  subst hds
  simp only [G16,T.run_map,run_leaf,Option.map_some,Option.some.injEq] at h
  obtain ⟨rfl,rfl⟩:=Prod.mk.inj h
  exact ⟨_,_,known13,rfl,rfl,fun i=>by cases i <;> exact trivial⟩
 ·cases h
end Go.Proofs.Ytlofnkkokcihnaa
namespace Go.Proofs.Ytlofnkkokcihnaa
open Go.Lite Go.ChangeShapes Go.WideShapes Go.ChangeAt Go.RowKit
def carTyresLaw:Prop:=∀ xs:List AV,ArgsShape Try.prog 12 [33,34,3] xs → ∃ n h',callA C n Unit none 4 xs [] () = some (.bool true,h',())
theorem carTyres_plain:∀ t ∈ [33,34,3],plainTy Try.prog 12 t = true:=by
 intro t ht
 have h:[33,34,3].all (plainTy Try.prog 12) = true:=by kernel_rfl
 exact List.all_eq_true.1 h t ht
set_option maxRecDepth 100000 in
theorem carTyres_lifted (law:carTyresLaw) (os:Os) (started:os.Started) (H:Type) (enc:TypeId × Value → H) :
    ReturnsInHanded {} Try.checked os 4 .any (Rows.carTyresSpec.pre6 enc Try.prog Try.f4 Rows.carTyresRow.domain false) (Rows.carTyresSpec.post enc Try.prog Try.f4 false true false false):=by
 refine returnsInHanded_of_change (C:=Try.checked) own started (by kernel_rfl) Try.func4
  (ChangeSpec.witness6 (enc:=enc) (C:=Try.checked) false ⟨#[],#[.slice none 0 0,.slice none 0 0,.int .i64 0],[]⟩ 8 (by kernel_rfl) (by kernel_rfl) (by kernel_rfl) (by kernel_rfl)) ?_
 intro W base args ds gs before hval0 hW hcnd _
 have hval:∀ (j:Nat) t v,Try.f4.params[j]? = some t → args[j]? = some v → Value.okWide Try.prog W .any base t v:=hval0
 have hW':=hW
 obtain ⟨p,q,hA0,hV,rfl,hfz,hnd⟩:=hW
 have hA:DataW.TrodAll enc Try.prog W 0 (fun _=>true) true Try.f4.params.toList args.toList ds p:=hA0
 have hAk:=hA
 rw [Try.params4] at hA hval
 obtain ⟨xs,hs,hr⟩:=args_shape (J:=fun _=>False) (d:=12) (fun t ht=>carTyres_plain t (by simpa using ht)) (fun j t v h1 h2=>hval j t v (by simpa using h1) (by simpa using h2)) hA
 obtain ⟨n,h',hc⟩:=law xs hs
 obtain ⟨v0,vs0,d0,ds0,p0,q0,hargs,rfl,rfl,h0,r0⟩:=trodAll_cons hA
 obtain ⟨v1,vs1,d1,ds1,p1,q1,rfl,rfl,rfl,h1,r1⟩:=trodAll_cons r0
 obtain ⟨v2,vs2,d2,ds2,p2,q2,rfl,rfl,rfl,h2,r2⟩:=trodAll_cons r1
 obtain ⟨rfl,rfl,rfl⟩:=trodAll_nil r2
 obtain rfl:args = #[v0,v1,v2]:=by cases args; simp_all
 obtain ⟨rfl,rfl⟩:=trodVars_none hV
 clear hA0 hval0
 simp only [List.append_nil] at hW'
 refine (law_calls (callsOk n) hc hr).mono fun e W' ⟨he,h1,h2,hk⟩=>?_
 subst he
 have hlt:∀ x ∈ p0 ++ p1 ++ p2,x.block < W.heap.size:=fun x hx=>hW'.lt x (by simpa [List.append_assoc] using hx)
 exact ⟨_,rfl,post_of_kept (pa:=p0 ++ p1 ++ p2) (pv:=[]) hW' (fun _ _ _=>trodAll_mk1 (shut_bool Try.underlying4 _))
  (fun sp hsp=>trodAll_carry (DataW.TrodAll.respare kids full (by rw [Try.params4]; decide) (by simpa [List.append_assoc,Rows.carTyresSpec] using hAk) (fun x hx=>hsp x (by simpa [List.append_assoc] using hx))) (fun x hx=>sameAt_of (hk _ (hlt x hx))))
  (fun _ _=>rfl) (by simp [List.append_assoc]) h1 h2 hk (ok_one (by kernel_rfl) rfl (okWide_bool_mk Try.underlying4 _))⟩
theorem carTyres_over (law:carTyresLaw):Rows.CarTyresSaid:=
 OpenClaim.holds_of_wide 4 Try.f4 rfl rfl rfl rfl rfl rfl rfl ⟨rfl,rfl,rfl,rfl,rfl⟩ rfl rfl rfl rfl rfl (by kernel_rfl) Try.func4 (by kernel_rfl)
  (of_decide_eq_true (by kernel_rfl)) (by unfold Func.isWrapper; first | (rw [if_pos (by decide +kernel)]; kernel_rfl) | (rw [if_neg (by decide +kernel)]; exact ⟨rfl,rfl⟩))
  (fun os started H enc _=>carTyres_lifted law os started H enc)
set_option maxRecDepth 100000
set_option linter.unusedVariables false
theorem sameL_self (a:List (List D)):sameL a a = true:=by
 unfold sameL
 rw [decide_eq_true rfl,Bool.true_and,allFrom_iff]
 intro j _ _
 unfold sameAt
 simp
theorem tyre_len {cs ls:List (List D)} {A:Int} (ht:taskOk cs ls A = true) (hf:(tyreF cs ls A).fd = true):(tyreF cs ls A).sets.length = ls.length ∧ ((tyreF cs ls A).cp.length:Int) ≤ A:=by
 obtain ⟨d',-,h,-⟩:=tyre_inv ht
 obtain ⟨-,h2,h3,-,-⟩:=h hf
 exact ⟨h3,h2⟩
set_option maxHeartbeats 1000000 in
theorem law4 (a b c:D):(fnT C (mkTab sp4 lp4 sw4) 4 s4 [a,b,c]).run = some [D.b true]:=by
 have hb:big = 4611686018427387904:=rfl
 refine (t4 a b c).trans (go_not (fun _=>rfl) fun hf=>?_)
 obtain ⟨h1,h2⟩:=few_small hf
 refine go_if (fun x1=>go_if (fun _=>rfl) fun x2=>go_if (fun x3=>go_if (fun _=>rfl) fun x4=>go_if (fun x5=>go_if (fun _=>rfl) fun x6=>?_) fun x5=>?_) fun x3=>go_if (fun x5=>go_if (fun _=>rfl) fun x6=>?_) fun x5=>?_)
  fun x1=>go_if (fun x3=>go_if (fun _=>rfl) fun x4=>go_if (fun x5=>go_if (fun _=>rfl) fun x6=>?_) fun x5=>?_) fun x3=>go_if (fun x5=>go_if (fun _=>rfl) fun x6=>?_) fun x5=>?_
 all_goals
  refine go_yes h1 (go_ite (fun ht=>?_) fun ht=>?_)
  ·have ht':=ht
   simp only [taskOk,Bool.and_eq_true,Lite.within_iff,decide_eq_true_iff] at ht'
   have k1:(a.L.length:Int) ≤ 8:=ht'.1.1.1.1.2
   have k2:b.L.length ≤ 8:=ht'.1.1.1.2
   have k3:c.I ≤ 8:=ht'.1.1.2.2
   rw [tyre_same ht]
   have nt:∀ {x y:T (List D)},y.run = some [D.b true] → (T.ite (!taskOk a.L b.L c.I) x y).run = some [D.b true]:=fun h=>go_not (fun c=>by rw [ht] at c; cases c) fun _=>h
   refine go_ite (fun hfd=>?_) fun hfd=>?_
   ·obtain ⟨l1,l2⟩:=tyre_len ht hfd
    exact go_yes ⟨h1,h2⟩ (nt (go_yes ⟨ht,by omega,by omega,by omega⟩ (go_not (fun c=>by rw [hfd] at c; cases c) fun _=>
     go_yes (by omega) (go_true (sameL_self _) (go_yes (by omega) (go_true (sameL_self _) (go_true (by simp) rfl)))))))
   ·exact go_yes ⟨h1,h2⟩ (nt (go_yes ⟨ht,by omega,by omega,by omega⟩ (go_not (fun _=>rfl) fun c=>by rw [hfd] at c; cases c)))
  ·exact go_yes ⟨h1,h2⟩ (go_not (fun _=>rfl) fun c=>by rw [ht] at c; cases c)
theorem carTyres_law:carTyresLaw:=fun xs hx=>
 law_true_wfW hC (sp:=sp4) (lp:=lp4) (sw:=sw4) (n:=13) ⟨ok20 11,ok16b,ok22 9,ok24 12,trivial⟩ ⟨ok21 0,ok23 10 ⟨ok41 11 ⟨ok50 10,ok39 10,ok38 7,trivial⟩,trivial⟩,trivial⟩ (by kernel_rfl) [] (by kernel_rfl) rfl (fun k hk=>by cases hk)
  (ts:=[33,34,3]) (ks:=s4.args) (by kernel_rfl) (of_decide_eq_true (by kernel_rfl)) (m:=3) (by kernel_rfl) (fun ds hl _=>by
   match ds,hl with
   | [a,b,c],_=>exact law4 a b c) 12 xs hx
theorem car_tyres:Rows.CarTyresSaid:=carTyres_over carTyres_law
end Go.Proofs.Ytlofnkkokcihnaa
