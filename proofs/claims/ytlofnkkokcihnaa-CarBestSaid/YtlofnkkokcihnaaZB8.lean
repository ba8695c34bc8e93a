/-
 The statement of CarBest holds for every input; what it rests on stands in the parts before.
-/
import Derived.Test.YtlofnkkokcihnaaZB7
import Derived.Test.YtlofnkkokcihnaaRows
namespace Go.Proofs.Ytlofnkkokcihnaa
open Go.Lite Go.ChangeShapes Go.WideShapes Go.ChangeAt Go.RowKit
theorem kids:Kids Try.prog (· < Try.prog.types.size):=kids_rows (by kernel_rfl) (by kernel_rfl)
theorem full:∀ t e,t < Try.prog.types.size → Try.prog.underlying t = some (.slice e) → 0 < Try.prog.cellsOf e:=slices_full_of Try.prog (by kernel_rfl)
theorem small_of {a b c:List (List D)} (h:shortOk a b c = true):smallRows a ∧ smallRows b ∧ c.length < big ∧ a.length < big ∧ b.length < big:=by
 have hb:big = 4611686018427387904:=rfl
 simp only [shortOk,Bool.and_eq_true,decide_eq_true_eq,allFrom_iff] at h
 refine ⟨⟨by omega,fun j hj=>?_⟩,⟨by omega,fun j hj=>?_⟩,by omega,by omega,by omega⟩
 ·have:=h.1.2 j (by omega) (by omega); omega
 ·have:=h.2 j (by omega) (by omega); omega
theorem few_small {cs ls:List (List D)} (h:fewOk cs ls = true):smallCs cs ∧ ∀ j,j < ls.length → (rowAt ls j).length < lim:=by
 have hb:big = 4611686018427387904:=rfl
 have hl:lim = 9223372036854775808:=rfl
 simp only [fewOk,Bool.and_eq_true,decide_eq_true_eq,allFrom_iff] at h
 obtain ⟨⟨⟨h1,h2⟩,h3⟩,h4⟩:=h
 refine ⟨⟨by omega,fun j hj=>?_⟩,fun j hj=>?_⟩
 ·obtain ⟨k1,k2,k3,-,-⟩:=small_of (h3 j (Nat.zero_le _) (by omega))
  exact ⟨k1,k2,k3⟩
 ·have:=of_decide_eq_true (h4 j (Nat.zero_le _) (by omega))
  omega
end Go.Proofs.Ytlofnkkokcihnaa
namespace Go.Proofs.Ytlofnkkokcihnaa
open Go.Lite Go.ChangeShapes Go.WideShapes Go.ChangeAt Go.RowKit
def carBestLaw:Prop:=∀ xs:List AV,ArgsShape Try.prog 12 [33,34,3,37] xs → ∃ n h',callA C n Unit none 12 xs [] () = some (.bool true,h',())
theorem carBest_plain:∀ t ∈ [33,34,3,37],plainTy Try.prog 12 t = true:=by
 intro t ht
 have h:[33,34,3,37].all (plainTy Try.prog 12) = true:=by kernel_rfl
 exact List.all_eq_true.1 h t ht
set_option maxRecDepth 100000 in
theorem carBest_lifted (law:carBestLaw) (os:Os) (started:os.Started) (H:Type) (enc:TypeId × Value → H) :
    ReturnsInHanded {} Try.checked os 12 .any (Rows.carBestSpec.pre6 enc Try.prog Try.f12 Rows.carBestRow.domain false) (Rows.carBestSpec.post enc Try.prog Try.f12 false true false false):=by
 refine returnsInHanded_of_change (C:=Try.checked) own started (by kernel_rfl) Try.func12
  (ChangeSpec.witness6 (enc:=enc) (C:=Try.checked) false ⟨#[],#[.slice none 0 0,.slice none 0 0,.int .i64 0,.agg #[.slice none 0 0,.slice none 0 0,.int .i64 0]],[]⟩ 8 (by kernel_rfl) (by kernel_rfl) (by kernel_rfl) (by kernel_rfl)) ?_
 intro W base args ds gs before hval0 hW hcnd _
 have hval:∀ (j:Nat) t v,Try.f12.params[j]? = some t → args[j]? = some v → Value.okWide Try.prog W .any base t v:=hval0
 have hW':=hW
 obtain ⟨p,q,hA0,hV,rfl,hfz,hnd⟩:=hW
 have hA:DataW.TrodAll enc Try.prog W 0 (fun _=>true) true Try.f12.params.toList args.toList ds p:=hA0
 have hAk:=hA
 rw [Try.params12] at hA hval
 obtain ⟨xs,hs,hr⟩:=args_shape (J:=fun _=>False) (d:=12) (fun t ht=>carBest_plain t (by simpa using ht)) (fun j t v h1 h2=>hval j t v (by simpa using h1) (by simpa using h2)) hA
 obtain ⟨n,h',hc⟩:=law xs hs
 obtain ⟨v0,vs0,d0,ds0,p0,q0,hargs,rfl,rfl,h0,r0⟩:=trodAll_cons hA
 obtain ⟨v1,vs1,d1,ds1,p1,q1,rfl,rfl,rfl,h1,r1⟩:=trodAll_cons r0
 obtain ⟨v2,vs2,d2,ds2,p2,q2,rfl,rfl,rfl,h2,r2⟩:=trodAll_cons r1
 obtain ⟨v3,vs3,d3,ds3,p3,q3,rfl,rfl,rfl,h3,r3⟩:=trodAll_cons r2
 obtain ⟨rfl,rfl,rfl⟩:=trodAll_nil r3
 obtain rfl:args = #[v0,v1,v2,v3]:=by cases args; simp_all
 obtain ⟨rfl,rfl⟩:=trodVars_none hV
 clear hA0 hval0
 simp only [List.append_nil] at hW'
 refine (law_calls (callsOk n) hc hr).mono fun e W' ⟨he,h1,h2,hk⟩=>?_
 subst he
 have hlt:∀ x ∈ p0 ++ p1 ++ p2 ++ p3,x.block < W.heap.size:=fun x hx=>hW'.lt x (by simpa [List.append_assoc] using hx)
 exact ⟨_,rfl,post_of_kept (pa:=p0 ++ p1 ++ p2 ++ p3) (pv:=[]) hW' (fun _ _ _=>trodAll_mk1 (shut_bool Try.underlying4 _))
  (fun sp hsp=>trodAll_carry (DataW.TrodAll.respare kids full (by rw [Try.params12]; decide) (by simpa [List.append_assoc,Rows.carBestSpec] using hAk) (fun x hx=>hsp x (by simpa [List.append_assoc] using hx))) (fun x hx=>sameAt_of (hk _ (hlt x hx))))
  (fun _ _=>rfl) (by simp [List.append_assoc]) h1 h2 hk (ok_one (by kernel_rfl) rfl (okWide_bool_mk Try.underlying4 _))⟩
theorem carBest_over (law:carBestLaw):Rows.CarBestSaid:=
 OpenClaim.holds_of_wide 12 Try.f12 rfl rfl rfl rfl rfl rfl rfl ⟨rfl,rfl,rfl,rfl,rfl⟩ rfl rfl rfl rfl rfl (by kernel_rfl) Try.func12 (by kernel_rfl)
  (of_decide_eq_true (by kernel_rfl)) (by unfold Func.isWrapper; first | (rw [if_pos (by decide +kernel)]; kernel_rfl) | (rw [if_neg (by decide +kernel)]; exact ⟨rfl,rfl⟩))
  (fun os started H enc _=>carBest_lifted law os started H enc)
theorem known13:callA C 13 Unit none 16 [] [] () = some (.bool true,[],()):=by kernel_rfl
theorem ok16b:FnOK C 13 16 (mkF s16 G16):=by
 intro args v hb h avs hv
 unfold mkF at h
 split at h
 ·rename_i ds hds
  have ha:args = []:=by
   cases args with
   | nil=>rfl
   | cons x y=>simp [s16,fitsVs] at hds
  subst ha
  simp only [VRL] at hv
  subst hv
  simp only [s16,fitsVs,Option.some.injEq] at hds
  subst hds
  simp only [G16,T.run_map,run_leaf,Option.map_some,Option.some.injEq] at h
  obtain ⟨rfl,rfl⟩:=Prod.mk.inj h
  exact ⟨_,_,known13,rfl,rfl,fun i=>by cases i <;> exact trivial⟩
 ·cases h
set_option maxRecDepth 100000
theorem task_more {cs ls:List (List D)} {A:Int} (h:taskOk cs ls A = true) (h8:A < 8):taskOk cs ls (A + 1) = true:=by
 unfold taskOk at h ⊢
 simp only [Bool.and_eq_true,Lite.within_iff] at h ⊢
 exact ⟨⟨⟨h.1.1.1,by omega⟩,h.1.2⟩,h.2⟩
theorem law12 (a b c d e f:D):(fnT C (mkTab sp12 lp12 sw12) 12 s12 [a,b,c,d,e,f]).run = some [D.b true]:=by
 refine (t12 a b c d e f).trans ?_
 refine go_not (fun _=>rfl) fun hf=>?_
 obtain ⟨h1,h2⟩:=few_small hf
 refine go_yes ⟨h1,h2⟩ (go_not (fun _=>rfl) fun ht=>go_if (fun _=>rfl) fun _=>go_if (fun _=>rfl) fun _=>go_if (fun _=>rfl) fun _=>go_if (fun _=>rfl) fun _=>go_yes h1 (go_yes h1 (go_true ht ?_)))
 have hc:1 ≤ c.I ∧ c.I ≤ 8:=by
  have ht:=ht
  simp only [taskOk,Bool.and_eq_true,Lite.within_iff] at ht
  exact ht.1.1.2
 refine go_ite (fun hfd=>?_) fun hfd=>?_
 ·have hp:=tyre_poss ht hfd
  have next:T.run (T.ite (c.I == 8) (T.leaf [D.b true]) (T.need (yes (smallCs a.L)) (T.ite (taskOk a.L b.L (IntKind.i64.wrap (c.I + 1)))
      (T.ite (tyreF a.L b.L (IntKind.i64.wrap (c.I + 1))).fd (T.ite (decide ((tyreF a.L b.L (IntKind.i64.wrap (c.I + 1))).w ≤ (tyreF a.L b.L c.I).w)) (T.leaf [D.b true]) (T.leaf [D.b false])) (T.leaf [D.b false])) (T.leaf [D.b false])))) = some [D.b true]:=by
   refine go_ite (fun _=>rfl) fun c8=>go_yes h1 ?_
   have c8:¬ c.I = 8:=by simpa using c8
   have w:IntKind.i64.wrap (c.I + 1) = c.I + 1:=wrap_id (by omega) (by omega)
   rw [w]
   obtain ⟨m1,m2⟩:=poss_more (A:=c.I) (by omega) (by rw [hp]:(possC a.L b.L (tyreF a.L b.L c.I).sets (tyreF a.L b.L c.I).cp c.I).2 = true)
   obtain ⟨l1,l2⟩:=tyre_least m1
   rw [m2,hp] at l2
   exact go_true (task_more ht (by omega)) (go_true l1 (go_pos l2 rfl))
  refine go_yes h1 ?_
  rw [hp]
  refine go_false rfl (go_false (by simp) (go_ite (fun hd=>?_) fun _=>next))
  obtain ⟨-,l2⟩:=tyre_least hd
  exact go_neg (by show ¬ _ < (tyreF a.L b.L c.I).w; omega) next
 ·refine go_ite (fun _=>rfl) fun hd=>?_
  have hd:(possC a.L b.L d.L e.L c.I).2 = true:=by simpa using hd
  rw [(tyre_least hd).1] at hfd
  cases hfd
theorem carBest_law:carBestLaw:=fun xs hx=>
 law_true_wfW hC (sp:=sp12) (lp:=lp12) (sw:=sw12) (n:=13) ⟨ok20 11,ok22 9,ok16b,ok40 12 ⟨ok52 2,ok47 11,ok54 7,trivial⟩,trivial⟩ ⟨ok21 0,trivial⟩ (by kernel_rfl) [] (by kernel_rfl) rfl (fun k hk=>by cases hk)
  (ts:=[33,34,3,37]) (ks:=s12.args) (by kernel_rfl) (of_decide_eq_true (by kernel_rfl)) (m:=6) (by kernel_rfl) (fun ds hl _=>by
   match ds,hl with
   | [a,b,c,d,e,f],_=>exact law12 a b c d e f) 12 xs hx
theorem car_best:Rows.CarBestSaid:=carBest_over carBest_law
end Go.Proofs.Ytlofnkkokcihnaa
