/-
  What the claim rescue_more rests on, part 5.
-/
import Derived.Test.YtgmefblkmidglaaZ4
namespace Go.Lite
def mkY (es : List SK) (bs : List BK) (give : Bool) : YS where
  fit args h := match fitsVs es args, fitsH bs h with
    | some x, some y => some (x ++ y)
    | _, _ => none
  head d := ((headVs es d).1, (headH bs (headVs es d).2).1)
  give := give
theorem yOK_mk (es : List SK) (bs : List BK) (give : Bool) : YOK (mkY es bs give) := by
  intro cargs ch d h ya yh hv hh
  simp only [mkY] at h ⊢
  split at h
  · rename_i x y hx hy
    cases h
    obtain ⟨h1, h2⟩ := fitsVs_sim es y hx hv
    obtain ⟨h3, h4⟩ := fitsH_sim bs [] hy hh
    rw [List.append_nil] at h3
    rw [h2]
    exact ⟨h1, h3⟩
  · cases h
structure SigI where
  args : List SK
  hin : List BK
def fnTY (C : Cfg) (tab : Tab) (f : FuncId) (s : SigI) (ds : List D) : T (List (List D)) := callSY C tab f (headVs s.args ds).1 (headH s.hin (headVs s.args ds).2).1
def mkFY (s : SigI) (G : List D → T (List (List D))) : List SV → SHeap → T (List (List D)) := fun args h => match fitsVs s.args args, fitsH s.hin h with
  | some x, some y => G (x ++ y)
  | _, _ => .fail
theorem iter_ok {C : Cfg} (hC : ∀ t Y, C.ty t = some Y → tyOf C.P t = some Y) {n : Nat} {f : FuncId} {Y : YS} {tab : Nat → Tab} (hy : ∀ q, (tab q).y = some Y ∧ (tab q).q = q) (hS : ∀ q, SpOK C (tab q) n) {fn : Func} {c : Code} (hfn : C.P.funcs[f]? = some fn) (hbody : fn.body = some c)
    {s : SigI} (hl : ∀ q, LoopsOKK C (tab q) n s.hin.length f c) {G : List D → T (List (List D))} (hG : ∀ ds L, (G ds).run = some L → ∀ q, (fnTY C (tab q) f s ds).run = some (L.take (q + 1))) : IterOK C (n + 1) f Y (mkFY s G) := by
  intro args h L hr avs h0 hv hh S H P q hc s0 hs0
  unfold mkFY at hr
  split at hr
  · rename_i x y hx hy'
    have hf := hG _ L hr q
    unfold fnTY at hf
    obtain ⟨h1, h2⟩ := fitsVs_sim s.args y hx hv
    obtain ⟨h3, h4⟩ := fitsH_sim s.hin [] hy' hh
    rw [List.append_nil] at h3
    rw [← h2] at h3
    exact iter_sim hC (hS q) hfn hbody (by rw [headH_length]; exact hl q) hf h1 h3 (by rw [(hy q).1, (hy q).2]; exact hc) hs0
  · cases hr
abbrev ItL := List (FuncId × (List SV → SHeap → T (List (List D))))
def itOf : ItL → FuncId → Option (List SV → SHeap → T (List (List D)))
  | [], _ => none
  | p :: ps, f => if p.1 = f then some p.2 else itOf ps f
def AllOKI (C : Cfg) (n : Nat) (Y : YS) : ItL → Prop
  | [] => True
  | p :: ps => IterOK C n p.1 Y p.2 ∧ AllOKI C n Y ps
theorem allOKI_get {C : Cfg} {n : Nat} {Y : YS} : ∀ {it : ItL}, AllOKI C n Y it → ∀ f F, itOf it f = some F → IterOK C n f Y F
  | [], _, f, F, h => by cases h
  | p :: ps, ho, f, F, h => by
    simp only [itOf] at h
    split at h
    · rename_i e
      cases h
      subst e
      exact ho.1
    · exact allOKI_get ho.2 f F h
def rangeS (k : Nat) (live : List Nat) (g : Operand) (it : ItL) (head : List Shp) (G : List (List D) → List D → T (Ex × List D)) : SSt → T (Ex × SSt) := fun σ0 => match σ0.log with
  | _ :: _ => .fail
  | [] => match evS (normS k live σ0).tmps g with
    | .fn (.func gf) a cp => (match reachS (sget (normS k live σ0).h) wide ((a ++ cp).flatMap (idsS deep)) [] with
      | ms => match itOf it gf, fitsA head (normS k live { tmps := (normS k live σ0).tmps, h := sups (normS k live σ0).h (ms.map fun i => (i, none)) }) with
        | some F, some ds => (F (a.map (mvS true false (pos ms) deep) ++ [.yl] ++ cp.map (mvS true false (pos ms) deep)) (ms.map fun i => (sget (normS k live σ0).h i).map (mvSB true false (pos ms)))).bind fun L => (G L ds).bind fun r => .leaf (r.1, headA head r.2)
        | _, _ => .fail)
    | _ => .fail
def setParamsS (ps : List Tmp) (vs : List SV) (ts : List SV) : List SV := (ps.zip vs).foldl (fun ts p => ts.set p.1 p.2) ts
def givenHS (at_ : Nat) (y h : SHeap) : SHeap := (List.range y.length).map fun i => (sget y i).bind fun _ => (sget h (at_ + i)).map (mvSB false false (givenIn y.length at_))
def startR (ps : List Tmp) (σ : SSt) (y : List SV × SHeap) : SSt :=
  { tmps := setParamsS ps (y.1.map (mvS false false (roundIn y.2.length σ.h.length) deep)) σ.tmps, h := σ.h ++ (y.2.map fun b => b.map (mvSB false false (roundIn y.2.length σ.h.length))) }
def roundRT (C : Cfg) (tab : Tab) (f : FuncId) (r : Rg) (k kk : Nat) (live : List Nat) (head : List Shp) (Y : YS) (ds el : List D) : T (Rd × List D) :=
  if (Y.head el).1.length = r.2.1.size ∧ (headA head ds).h.length + (Y.head el).2.length = kk then
    (execS C tab f r.2.2.1 (startR r.2.1.toList (headA head ds) (Y.head el))).bind fun r1 => match r1.1 with
      | .normal => (execS C tab f r.2.2.2 r1.2).bind fun r2 => match r2.2.log with
        | [] => (match Y.give with
          | false => (match fitsA head (normS k live { tmps := (headA head ds).tmps, h := r2.2.h }) with
            | some ds' => (match r2.1 with
              | .normal => .leaf (.again ds', [])
              | e => .leaf (.out e ds', []))
            | none => .fail)
          | true => (match fitsA head (normS k live { tmps := (headA head ds).tmps, h := sups r2.2.h (((List.range (Y.head el).2.length).map ((headA head ds).h.length + ·)).map fun i => (i, none)) }), Y.fit (Y.head el).1 (givenHS (headA head ds).h.length (Y.head el).2 r2.2.h) with
            | some ds', some el' => (match r2.1 with
              | .normal => .leaf (.again ds', el')
              | e => .leaf (.out e ds', el'))
            | _, _ => .fail))
        | _ => .fail
      | _ => .fail
  else .fail
inductive FoldR (R : List D → List D → Option (Rd × List D)) (give : Bool) (E : List D → List D → Prop) : List D → List (List D) → Ex → List D → Prop
  | nil {ds r : List D} : E ds r → FoldR R give E ds [] .normal r
  | again {ds x ds' x' : List D} {xs : List (List D)} {e : Ex} {r : List D} : R ds x = some (.again ds', x') → (give = true → x' = x) → FoldR R give E ds' xs e r → FoldR R give E ds (x :: xs) e r
  | out {ds x x' : List D} {xs : List (List D)} {e : Ex} {r : List D} : R ds x = some (.out e r, x') → (give = true → x' = x) → e ≠ .normal → FoldR R give E ds (x :: xs) e r
theorem UR_kills (ms : List Nat) : UR (ms.map fun i => (i, none)) (ms.map fun i => (i, none)) := by
  induction ms with
  | nil => simp only [List.map_nil, UR]
  | cons m ms ih =>
    simp only [List.map_cons, UR]
    exact ⟨_, _, rfl, rfl, trivial, ih⟩
theorem HR.append {sh sh' : SHeap} {h h' : Heap} (H : HR sh h) (H' : HR sh' h') : HR (sh ++ sh') (h ++ h') := by
  refine ⟨by simp [H.1, H'.1], fun i => ?_⟩
  have h1 := H.2 i
  have h2 := H'.2 (i - sh.length)
  simp only [sget, hget, List.getElem?_append] at h1 h2 ⊢
  rw [← H.1]
  split
  · exact h1
  · exact h2
theorem HR.mapm {sh : SHeap} {h : Heap} (H : HR sh h) (ρ : Nat → Option Nat) {kb ky : Bool} : HR (sh.map fun b => b.map (mvSB kb ky ρ)) (h.map fun b => b.map (mvB kb ky ρ)) := by
  refine ⟨by simp [H.1], fun i => ?_⟩
  have h1 := H.2 i
  simp only [sget, hget, List.getElem?_map] at h1 ⊢
  cases e1 : sh[i]? with
  | none =>
    have : h[i]? = none := List.getElem?_eq_none_iff.2 (by have := List.getElem?_eq_none_iff.1 e1; have := H.1; omega)
    rw [this]
    trivial
  | some o =>
    cases e2 : h[i]? with
    | none => have h3 := List.getElem?_eq_none_iff.1 e2; have h4 := (List.getElem?_eq_some_iff.1 e1).1; have := H.1; omega
    | some o' =>
      rw [e1, e2] at h1
      exact OR.map h1 ρ
theorem HR.maps {f : Nat → Option SB} {g : Nat → Option Blk} (l : List Nat) (h : ∀ i ∈ l, OR (f i) (g i)) : HR (l.map f) (l.map g) := by
  refine ⟨by simp, fun i => ?_⟩
  simp only [sget, hget, List.getElem?_map]
  cases e : l[i]? with
  | none => trivial
  | some j => exact h j (List.mem_of_getElem? e)
theorem setParams_sim : ∀ (ps : List Tmp) {vs : List SV} {us : List AV} {ts : List SV} {as : List AV}, VRL vs us → VRL ts as → VRL (setParamsS ps vs ts) (setParams ps us as)
  | [], vs, us, ts, as, _, h => by simpa [setParamsS, setParams] using h
  | p :: ps, [], us, ts, as, hv, h => by simp only [VRL] at hv; subst hv; simpa [setParamsS, setParams] using h
  | p :: ps, v :: vs, us, ts, as, hv, h => by
    simp only [VRL] at hv
    obtain ⟨u, us', rfl, h1, h2⟩ := hv
    simp only [setParamsS, setParams, List.zip_cons_cons, List.foldl_cons]
    exact setParams_sim ps h2 (VRL_set p h h1)
def codeB : Ex → Bool
  | .normal => true
  | _ => false
def pendB : Ex → Option Ex
  | .normal => none
  | e => some e
section
variable {C : Cfg} (hC : ∀ t Y, C.ty t = some Y → tyOf C.P t = some Y) {tab : Tab} {n : Nat} (hS : SpOK C tab n) {f : FuncId} {r : Rg} {k kk : Nat} {live : List Nat} {head : List Shp} {Y : YS}
  (hYok : YOK Y) (hla : LoopsOKK C tab n kk f r.2.2.1) (hlb : LoopsOKK C tab n kk f r.2.2.2)
include hC hS hYok hla hlb
theorem round_sim {ds el x' : List D} {o : Rd} (hR : (roundRT C tab f r k kk live head Y ds el).run = some (o, x')) (hx : Y.give = true → x' = el) {τ : St} (hτ : SSR (headA head ds) τ) {ya : List AV} {yh : Heap} (hya : VRL (Y.head el).1 ya) (hyh : HR (Y.head el).2 yh)
    {S : Type} (H : Option (Hd S)) (s : S) : ∃ nh e τ', roundH r.2.1 (norm k live) Y.give (fun kk => execA C (callA C n) f kk H r.2.2.1) (fun kk => execA C (callA C n) f kk H r.2.2.2) ya yh (τ, none, s) = some (.bool (codeB e), nh, (τ', pendB e, s)) ∧
      (Y.give = true → HR (Y.head el).2 nh) ∧ (Y.give = false → ∀ i, hget nh i = none) ∧ ∃ ds', SSR (headA head ds') τ' ∧ o = (if codeB e then .again ds' else .out e ds') := by
  unfold roundRT at hR
  split at hR
  case isFalse => cases hR
  rename_i hc
  obtain ⟨hps, hkk⟩ := hc
  have hl1 : ya.length = r.2.1.size := (VRL_length hya).symm.trans hps
  have hl2 := hτ.2.1
  have hl3 := hyh.1
  simp only [T.run_bind, Option.bind_eq_some_iff] at hR
  obtain ⟨⟨e1, σ1⟩, h1, hR⟩ := hR
  cases e1 with
  | exit id => cases hR
  | ret => cases hR
  | normal =>
  simp only [T.run_bind, Option.bind_eq_some_iff] at hR
  obtain ⟨⟨e2, σ2⟩, h2, hR⟩ := hR
  have hlog2 : σ2.log = [] := by
    cases hg : σ2.log with
    | nil => rfl
    | cons a l => simp only [hg] at hR; cases hR
  have hlog1 : σ1.log = [] := by
    have := exec_log r.2.2.2 hlb h2
    rw [hlog2] at this
    exact List.prefix_nil.1 this
  obtain ⟨τ1, s1, h3, rfl, h4⟩ := exec_sim hC hS hS.2.2 (H := H) (P := fun _ x => x = s) (Lg := []) ConsOK.nil r.2.2.1 hla (s := s) h1 (by rw [hlog1]; exact List.prefix_refl _)
    (τ := { tmps := setParams r.2.1.toList (ya.map (mv false false (roundIn yh.length τ.h.length) deep)) τ.tmps, h := τ.h ++ yh.map fun b => b.map (mvB false false (roundIn yh.length τ.h.length)) })
    ⟨by
      unfold startR
      rw [hl2, hl3]
      exact setParams_sim _ (VRL_map (mv_sim false false _ deep) hya) hτ.1, by
      unfold startR
      rw [hl2, hl3]
      exact hτ.2.append (hyh.mapm _)⟩ rfl
  obtain ⟨τ2, s2, h5, hs2, h6⟩ := exec_sim hC hS hS.2.2 (H := H) (P := fun _ x => x = s1) (Lg := []) ConsOK.nil r.2.2.2 hlb (s := s1) h2 (by rw [hlog2]; exact List.prefix_refl _) h4 rfl
  have hs2 : s2 = s1 := hs2
  subst hs2
  have hkk2 : τ.h.length + yh.length = kk := by rw [← hl2, ← hl3]; exact hkk
  simp only [hlog2] at hR
  cases hg : Y.give with
  | false =>
    rw [hg] at hR
    simp only at hR
    split at hR
    case h_2 => cases hR
    rename_i ds' hfit
    have hfs := fitsA_sim hfit (norm_sim (k := k) (live := live) (σ := { tmps := (headA head ds).tmps, h := σ2.h }) (τ := { tmps := τ.tmps, h := τ2.h }) ⟨hτ.1, h6.2⟩)
    refine ⟨List.replicate yh.length none, e2, norm k live { tmps := τ.tmps, h := τ2.h }, ?_, (fun h => by cases h), fun _ i => ?_, ds', hfs, ?_⟩
    · simp only [roundH, hl1, if_true, hkk2, h3, h5]
      cases e2 <;> rfl
    · unfold hget
      rw [List.getElem?_replicate]
      split <;> rfl
    · cases e2 <;> simp only [T.run, Option.some.injEq, Prod.mk.injEq] at hR <;> exact hR.1.symm
  | true =>
    rw [hg] at hR
    simp only at hR
    split at hR
    case h_2 => cases hR
    rename_i ds' el' hfit hfit2
    have hfs := fitsA_sim hfit (norm_sim (k := k) (live := live) (σ := { tmps := (headA head ds).tmps, h := sups σ2.h (((List.range (Y.head el).2.length).map ((headA head ds).h.length + ·)).map fun i => (i, none)) })
      (τ := { tmps := τ.tmps, h := hups τ2.h (((List.range yh.length).map (τ.h.length + ·)).map fun i => (i, none)) }) ⟨hτ.1, by
        show HR (sups _ _) (hups _ _)
        rw [hl2, hl3]
        exact HR.ups h6.2 (UR_kills _)⟩)
    have hel : el' = el := by
      have : x' = el' := by cases e2 <;> simp only [T.run, Option.some.injEq, Prod.mk.injEq] at hR <;> exact hR.2.symm
      rw [← this]
      exact hx hg
    subst hel
    refine ⟨givenH τ.h.length yh τ2.h, e2, norm k live { tmps := τ.tmps, h := hups τ2.h (((List.range yh.length).map (τ.h.length + ·)).map fun i => (i, none)) }, ?_, fun _ => ?_, (fun h => by cases h), ds', hfs, ?_⟩
    · simp only [roundH, hl1, if_true, hkk2, h3, h5]
      cases e2 <;> rfl
    · refine (hYok _ _ _ hfit2 ya _ hya ?_).2
      unfold givenHS givenH
      rw [hl2, hl3]
      refine HR.maps _ fun i _ => ?_
      have h7 := hyh.2 i
      have h8 := h6.2.2 (τ.h.length + i)
      cases e1 : sget (Y.head el').2 i with
      | none => rw [e1] at h7; rw [OR_none h7]; trivial
      | some b =>
        rw [e1] at h7
        obtain ⟨B, hB, -⟩ := OR_some h7
        rw [hB]
        exact OR.map h8 _
    · cases e2 <;> simp only [T.run, Option.some.injEq, Prod.mk.injEq] at hR <;> exact hR.1.symm
omit hC hS hYok hla hlb in
theorem fold_sim {S : Type} {Hf : Hd (St × Option Ex × S)} {s : S} {R : List D → List D → Option (Rd × List D)} {give : Bool}
    (hround : ∀ ds el x' o, R ds el = some (o, x') → (give = true → x' = el) → ∀ τ, SSR (headA head ds) τ → ∀ ya yh, VRL (Y.head el).1 ya → HR (Y.head el).2 yh → ∃ nh e τ', Hf ya yh (τ, none, s) = some (.bool (codeB e), nh, (τ', pendB e, s)) ∧
      (Y.give = true → HR (Y.head el).2 nh) ∧ (Y.give = false → ∀ i, hget nh i = none) ∧ ∃ ds', SSR (headA head ds') τ' ∧ o = (if codeB e then .again ds' else .out e ds'))
    {ds : List D} {L : List (List D)} {e : Ex} {rr : List D} (hF : FoldR R give (fun a b => headA head a = headA head b) ds L e rr) :
    ∃ (q : Nat) (Q : Nat → (St × Option Ex × S) → Prop), (∀ τ, SSR (headA head ds) τ → Q 0 (τ, none, s)) ∧ ConsOK (some Y) q (some Hf) Q (L.take (q + 1)) ∧ ∀ x, Q (L.take (q + 1)).length x → ∃ τ', x = (τ', pendB e, s) ∧ SSR (headA head rr) τ' := by
  induction hF with
  | @nil ds r hE => exact ⟨0, fun _ x => ∃ τ', x = (τ', none, s) ∧ SSR (headA head r) τ', fun τ h => ⟨τ, rfl, by rw [← hE]; exact h⟩, by rw [List.take_nil]; exact fun j d h => by simp at h, fun x h => h⟩
  | @again ds x ds' x' xs e r hR hg _ ih =>
    obtain ⟨q, Q, q1, q2, q3⟩ := ih
    refine ⟨q + 1, fun j y => match j with
      | 0 => ∃ τ, y = (τ, none, s) ∧ SSR (headA head ds) τ
      | j + 1 => Q j y, fun τ h => ⟨τ, rfl, h⟩, fun j d hj Y0 hY0 => ⟨Hf, rfl, fun s0 hs0 ya yh hya hyh => ?_⟩, fun y hy => ?_⟩
    · cases hY0
      cases j with
      | zero =>
        simp only [List.take_succ_cons, List.getElem?_cons_zero, Option.some.injEq] at hj
        subst hj
        obtain ⟨τ, rfl, hτ⟩ := hs0
        obtain ⟨nh, e1, τ', h1, h2, h3, ds1, h4, h5⟩ := hround _ _ _ _ hR hg τ hτ ya yh hya hyh
        cases e1 with
        | normal =>
          simp only [codeB, if_true, Rd.again.injEq] at h5
          subst h5
          exact ⟨nh, _, h1, q1 τ' h4, h2, h3⟩
        | exit id => simp [codeB] at h5
        | ret => simp [codeB] at h5
      | succ j =>
        simp only [List.take_succ_cons, List.getElem?_cons_succ] at hj
        obtain ⟨Hf', e1, h1⟩ := q2 j d hj Y rfl
        cases e1
        obtain ⟨nh, s', h2, h3, h4⟩ := h1 s0 hs0 ya yh hya hyh
        exact ⟨nh, s', by rw [h2]; simp, h3, h4⟩
    · simp only [List.take_succ_cons, List.length_cons] at hy
      exact q3 y hy
  | @out ds x x' xs e r hR hg hne =>
    refine ⟨0, fun j y => match j with
      | 0 => ∃ τ, y = (τ, none, s) ∧ SSR (headA head ds) τ
      | j + 1 => ∃ τ', y = (τ', pendB e, s) ∧ SSR (headA head r) τ', fun τ h => ⟨τ, rfl, h⟩, fun j d hj Y0 hY0 => ⟨Hf, rfl, fun s0 hs0 ya yh hya hyh => ?_⟩, fun y hy => ?_⟩
    · cases hY0
      cases j with
      | zero =>
        simp only [List.take_succ_cons, List.getElem?_cons_zero, Option.some.injEq] at hj
        subst hj
        obtain ⟨τ, rfl, hτ⟩ := hs0
        obtain ⟨nh, e1, τ', h1, h2, h3, ds1, h4, h5⟩ := hround _ _ _ _ hR hg τ hτ ya yh hya hyh
        cases e1 with
        | normal => simp [codeB] at h5
        | exit id =>
          simp only [codeB, Bool.false_eq_true, if_false, Rd.out.injEq] at h5
          obtain ⟨rfl, rfl⟩ := h5
          exact ⟨nh, _, h1, ⟨τ', rfl, h4⟩, h2, h3⟩
        | ret =>
          simp only [codeB, Bool.false_eq_true, if_false, Rd.out.injEq] at h5
          obtain ⟨rfl, rfl⟩ := h5
          exact ⟨nh, _, h1, ⟨τ', rfl, h4⟩, h2, h3⟩
      | succ j => simp at hj
    · simpa using hy
theorem rangeS_ok (hann : C.ann f (keyOf r.2.2.2) = some live) (hgive : C.give f (keyOf r.2.2.2) = Y.give) {it : ItL} (hIt : AllOKI C n Y it) {G : List (List D) → List D → T (Ex × List D)}
    (hG : ∀ L ds rr, (G L ds).run = some rr → FoldR (fun ds el => (roundRT C tab f r k kk live head Y ds el).run) Y.give (fun a b => headA head a = headA head b) ds L rr.1 rr.2) : CodeSim C n k f r.code tab.y tab.q (rangeS k live r.1 it head G) := by
  intro σ e σ' h
  unfold rangeS at h
  split at h
  · cases h
  rename_i hlog
  split at h
  case h_2 => cases h
  rename_i gf a cp hev
  generalize hms : reachS (sget (normS k live σ).h) wide ((a ++ cp).flatMap (idsS deep)) [] = ms at h
  dsimp only at h
  split at h
  case h_2 => cases h
  rename_i F ds hF hfit
  rw [T.run_bind, Option.bind_eq_some_iff] at h
  obtain ⟨L, hL, h⟩ := h
  rw [T.run_bind, Option.bind_eq_some_iff] at h
  obtain ⟨rr, hr0, h⟩ := h
  cases h
  refine ⟨by rw [hlog]; exact List.nil_prefix, ?_⟩
  intro τ hr S H P Lg _ _ s hs
  have hgc : gcOf C k f r.2.2.2 = norm k live := by unfold gcOf; rw [hann]
  have h1 : SSR (normS k live σ) (norm k live τ) := norm_sim hr
  have hv := evS_sim h1.1 r.1
  rw [hev] at hv
  simp only [VR] at hv
  obtain ⟨a', c', hv, ha, hcp⟩ := hv
  have hreach : reach (hget (norm k live τ).h) wide ((a' ++ c').flatMap (ids deep)) [] = ms := by
    rw [← hms, ids_eqs (VRL_append ha hcp)]
    exact reach_eq h1.2.2 _ _ _
  have h2 := fitsA_sim hfit (norm_sim (k := k) (live := live) (τ := { tmps := (norm k live τ).tmps, h := hups (norm k live τ).h (ms.map fun i => (i, none)) }) ⟨h1.1, HR.ups h1.2 (UR_kills ms)⟩)
  have hargs : VRL (a.map (mvS true false (pos ms) deep) ++ [.yl] ++ cp.map (mvS true false (pos ms) deep)) (a'.map (mv true false (pos ms) deep) ++ [.yl] ++ c'.map (mv true false (pos ms) deep)) :=
    VRL_append (VRL_append (VRL_map (mv_sim true false _ deep) ha) (VRL_cons (by simp only [VR]) VRL_nil)) (VRL_map (mv_sim true false _ deep) hcp)
  have hheap : HR (ms.map fun i => (sget (normS k live σ).h i).map (mvSB true false (pos ms))) (ms.map fun i => (hget (norm k live τ).h i).map (mvB true false (pos ms))) := HR.maps _ fun i _ => OR.map (h1.2.2 i) _
  obtain ⟨q, Q, q1, q2, q3⟩ := fold_sim (head := head) (Y := Y) (s := s) (Hf := roundH r.2.1 (norm k live) Y.give (fun kk => execA C (callA C n) f kk H r.2.2.1) (fun kk => execA C (callA C n) f kk H r.2.2.2))
    (fun ds el x' o hR hx τ hτ ya yh hya hyh => round_sim hC hS hYok hla hlb hR hx hτ hya hyh H s) (hG L ds rr hr0)
  obtain ⟨v', h', s', hcall, hQ⟩ := allOKI_get hIt gf F hF _ _ L hL _ _ hargs hheap _ _ Q q q2 _ (q1 _ h2)
  obtain ⟨τ', rfl, hτ'⟩ := q3 _ hQ
  refine ⟨τ', s, ?_, by rw [headA_log]; rw [hlog] at hs; exact hs, hτ'⟩
  unfold Rg.code
  simp only [execA, hgc, hgive, hv, hreach, hcall]
  cases rr.1 <;> rfl
end
section
variable {C : Cfg} (hC : ∀ t Y, C.ty t = some Y → tyOf C.P t = some Y) {sp : SpL} {sw : SwL} {n : Nat} {f : FuncId}
include hC
theorem iter_of {lp : Nat → LpL} {Y : YS} (hY : YOK Y) (hsp : AllOK C n sp) (hsw : AllOKW C n sw) (hf : hasBody C.P f = true) (keys : List Nat) (h1 : loopsIn (bodyAt C.P f) = keys.map (loopOf C.P f)) (h2 : keys.map (fun k => keyOf (loopOf C.P f k)) = keys) (h3 : rangesIn (bodyAt C.P f) = []) {s : SigI}
    (hl : ∀ q, ∀ k ∈ keys, ∀ L, lpOf (lp q) k = some L → LoopSimY C n s.hin.length f (loopOf C.P f k) (some Y) q L) {G : List D → T (List (List D))}
    (hG : ∀ ds L, (G ds).run = some L → ∀ q, (fnTY C (mkTabY sp (lp q) sw Y q) f s ds).run = some (L.take (q + 1))) : IterOK C (n + 1) f Y (mkFY s G) := by
  obtain ⟨fn, h4, h5⟩ := hasBody_spec hf
  exact iter_ok hC (tab := fun q => mkTabY sp (lp q) sw Y q) (fun q => ⟨rfl, rfl⟩) (fun q => spOK_ofY hsp hsw hY) h4 h5 (fun q => loops_ofG (lp := lp q) (rg := []) rfl (by funext k; rfl) keys [] h1 h2 (hl q) h3 rfl (fun k hk => by cases hk)) hG
theorem loop_ofY {lp : LpL} {Y : YS} {q : Nat} (hY : YOK Y) (hsp : AllOK C n sp) (hsw : AllOKW C n sw) (m : Nat) {b : Code} (keys : List Nat) (h1 : loopsIn b = keys.map (loopOf C.P f)) (h2 : keys.map (fun k => keyOf (loopOf C.P f k)) = keys) (h3 : rangesIn b = [])
    (hl : ∀ k ∈ keys, ∀ L, lpOf lp k = some L → LoopSimY C n m f (loopOf C.P f k) (some Y) q L) {s : LSig} (hlv : liveB C f b s = true) {G : List D → T (Ex × List D)} (μ : List D → Nat)
    (round : ∀ ds r, (G ds).run = some r → μ ds < C.fuel ∧ ∃ o, (roundTY C (mkTabY sp lp sw Y q) f b m s ds).run = some o ∧ ((∃ ds', o = .again ds' ∧ (G ds').run = some r ∧ μ ds' < μ ds) ∨ o = .out r.1 r.2)) : LoopSimY C n m f b (some Y) q (mkLY m s G) :=
  loop_okG hC true (tab := mkTabY sp lp sw Y q) (spOK_ofY hsp hsw hY) (loops_ofG (lp := lp) (rg := []) rfl (by funext k; rfl) keys [] h1 h2 hl h3 rfl (fun k hk => by cases hk)) (live_of hlv) μ round
theorem fn_ofR {lp rg : LpL} (hsp : AllOK C n sp) (hsw : AllOKW C n sw) (hf : hasBody C.P f = true) (keys rkeys : List Nat) (h1 : loopsIn (bodyAt C.P f) = keys.map (loopOf C.P f)) (h2 : keys.map (fun k => keyOf (loopOf C.P f k)) = keys)
    (h3 : rangesIn (bodyAt C.P f) = rkeys.map (rangeOf C.P f)) (h4 : rkeys.map (fun k => keyOf (rangeOf C.P f k).2.2.2) = rkeys)
    (hl : ∀ k ∈ keys, ∀ L, lpOf lp k = some L → LoopSim C n f (loopOf C.P f k) L) (hr : ∀ k ∈ rkeys, ∀ L, lpOf rg k = some L → CodeSim C n 0 f (rangeOf C.P f k).code none 0 L) {s : Sig} {G : List D → T (List D)}
    (hG : ∀ ds r, (G ds).run = some r → (fnT C (mkTabR sp lp sw rg) f s ds).run = some r) : FnOK C (n + 1) f (mkF s G) := by
  obtain ⟨fn, h5, h6⟩ := hasBody_spec hf
  exact fn_ok hC (spOK_ofR hsp hsw) h5 h6 (loops_ofG (lp := lp) (rg := rg) rfl rfl keys rkeys h1 h2 hl h3 h4 hr) hG
theorem loop_ofR {lp rg : LpL} (hsp : AllOK C n sp) (hsw : AllOKW C n sw) (m : Nat) {b : Code} (keys rkeys : List Nat) (h1 : loopsIn b = keys.map (loopOf C.P f)) (h2 : keys.map (fun k => keyOf (loopOf C.P f k)) = keys)
    (h3 : rangesIn b = rkeys.map (rangeOf C.P f)) (h4 : rkeys.map (fun k => keyOf (rangeOf C.P f k).2.2.2) = rkeys)
    (hl : ∀ k ∈ keys, ∀ L, lpOf lp k = some L → LoopSimK C n m f (loopOf C.P f k) L) (hr : ∀ k ∈ rkeys, ∀ L, lpOf rg k = some L → CodeSim C n m f (rangeOf C.P f k).code none 0 L) {s : LSig} (hlv : liveB C f b s = true) {G : List D → T (Ex × List D)} (μ : List D → Nat)
    (round : ∀ ds r, (G ds).run = some r → μ ds < C.fuel ∧ ∃ o, (roundTK C (mkTabR sp lp sw rg) f b m s ds).run = some o ∧ ((∃ ds', o = .again ds' ∧ (G ds').run = some r ∧ μ ds' < μ ds) ∨ o = .out r.1 r.2)) : LoopSimK C n m f b (mkLK m s G) :=
  loop_okK hC (tab := mkTabR sp lp sw rg) (spOK_ofR hsp hsw) (loops_ofG (lp := lp) (rg := rg) rfl rfl keys rkeys h1 h2 hl h3 h4 hr) (live_of hlv) μ round
theorem range_of {lp rg : LpL} {Y : YS} (hY : YOK Y) (hsp : AllOK C n sp) (hsw : AllOKW C n sw) (k m kk : Nat) (keys : List Nat) (h1 : loopsIn (rangeOf C.P f k).2.2.2 = keys.map (loopOf C.P f)) (h2 : keys.map (fun k => keyOf (loopOf C.P f k)) = keys)
    (h3 : rangesIn (rangeOf C.P f k).2.2.2 = []) (h4 : (loopsIn (rangeOf C.P f k).2.2.1).isEmpty = true ∧ rangesIn (rangeOf C.P f k).2.2.1 = []) (hl : ∀ k ∈ keys, ∀ L, lpOf lp k = some L → LoopSimK C n kk f (loopOf C.P f k) L)
    {live : List Nat} (hann : C.ann f (keyOf (rangeOf C.P f k).2.2.2) = some live) (hgive : C.give f (keyOf (rangeOf C.P f k).2.2.2) = Y.give) {it : ItL} (hIt : AllOKI C n Y it) {head : List Shp} {G : List (List D) → List D → T (Ex × List D)}
    (hG : ∀ L ds rr, (G L ds).run = some rr → FoldR (fun ds el => (roundRT C (mkTabR sp lp sw rg) f (rangeOf C.P f k) m kk live head Y ds el).run) Y.give (fun a b => headA head a = headA head b) ds L rr.1 rr.2) : CodeSim C n m f (rangeOf C.P f k).code none 0 (rangeS m live (rangeOf C.P f k).1 it head G) :=
  rangeS_ok hC (tab := mkTabR sp lp sw rg) (spOK_ofR hsp hsw) hY (loops_ofG (lp := lp) (rg := rg) rfl rfl [] [] (List.isEmpty_iff.1 h4.1) rfl (fun k hk => by cases hk) h4.2 rfl (fun k hk => by cases hk))
    (loops_ofG (lp := lp) (rg := rg) rfl rfl keys [] h1 h2 hl h3 rfl (fun k hk => by cases hk)) hann hgive hIt hG
end
end Go.Lite
namespace Go.Lite
theorem rangeS_ok0 {C : Cfg} (hC : ∀ t Y, C.ty t = some Y → tyOf C.P t = some Y) {tab : Tab} {n : Nat} (hS : SpOK C tab n) {f : FuncId} {r : Rg} {k : Nat} {live : List Nat} {head : List Shp} {Y : YS}
    (hYok : YOK Y) (hla : ∀ kk, LoopsOKK C tab n kk f r.2.2.1) (hlb : ∀ kk, LoopsOKK C tab n kk f r.2.2.2) (hann : C.ann f (keyOf r.2.2.2) = some live) (hgive : C.give f (keyOf r.2.2.2) = Y.give) {it : ItL} (hIt : AllOKI C n Y it) {G : List (List D) → List D → T (Ex × List D)}
    (hG : ∀ L ds rr, (G L ds).run = some rr → FoldR (fun ds el => (roundRT C tab f r k ((headA head ds).h.length + (Y.head el).2.length) live head Y ds el).run) Y.give (fun a b => headA head a = headA head b) ds L rr.1 rr.2) : CodeSim C n k f r.code tab.y tab.q (rangeS k live r.1 it head G) := by
  intro σ e σ' h
  unfold rangeS at h
  split at h
  · cases h
  rename_i hlog
  split at h
  case h_2 => cases h
  rename_i gf a cp hev
  generalize hms : reachS (sget (normS k live σ).h) wide ((a ++ cp).flatMap (idsS deep)) [] = ms at h
  dsimp only at h
  split at h
  case h_2 => cases h
  rename_i F ds hF hfit
  rw [T.run_bind, Option.bind_eq_some_iff] at h
  obtain ⟨L, hL, h⟩ := h
  rw [T.run_bind, Option.bind_eq_some_iff] at h
  obtain ⟨rr, hr0, h⟩ := h
  cases h
  refine ⟨by rw [hlog]; exact List.nil_prefix, ?_⟩
  intro τ hr S H P Lg _ _ s hs
  have hgc : gcOf C k f r.2.2.2 = norm k live := by unfold gcOf; rw [hann]
  have h1 : SSR (normS k live σ) (norm k live τ) := norm_sim hr
  have hv := evS_sim h1.1 r.1
  rw [hev] at hv
  simp only [VR] at hv
  obtain ⟨a', c', hv, ha, hcp⟩ := hv
  have hreach : reach (hget (norm k live τ).h) wide ((a' ++ c').flatMap (ids deep)) [] = ms := by
    rw [← hms, ids_eqs (VRL_append ha hcp)]
    exact reach_eq h1.2.2 _ _ _
  have h2 := fitsA_sim hfit (norm_sim (k := k) (live := live) (τ := { tmps := (norm k live τ).tmps, h := hups (norm k live τ).h (ms.map fun i => (i, none)) }) ⟨h1.1, HR.ups h1.2 (UR_kills ms)⟩)
  have hargs : VRL (a.map (mvS true false (pos ms) deep) ++ [.yl] ++ cp.map (mvS true false (pos ms) deep)) (a'.map (mv true false (pos ms) deep) ++ [.yl] ++ c'.map (mv true false (pos ms) deep)) :=
    VRL_append (VRL_append (VRL_map (mv_sim true false _ deep) ha) (VRL_cons (by simp only [VR]) VRL_nil)) (VRL_map (mv_sim true false _ deep) hcp)
  have hheap : HR (ms.map fun i => (sget (normS k live σ).h i).map (mvSB true false (pos ms))) (ms.map fun i => (hget (norm k live τ).h i).map (mvB true false (pos ms))) := HR.maps _ fun i _ => OR.map (h1.2.2 i) _
  obtain ⟨q, Q, q1, q2, q3⟩ := fold_sim (head := head) (Y := Y) (s := s) (Hf := roundH r.2.1 (norm k live) Y.give (fun kk => execA C (callA C n) f kk H r.2.2.1) (fun kk => execA C (callA C n) f kk H r.2.2.2))
    (fun ds el x' o hR hx τ hτ ya yh hya hyh => round_sim hC hS hYok (hla _) (hlb _) hR hx hτ hya hyh H s) (hG L ds rr hr0)
  obtain ⟨v', h', s', hcall, hQ⟩ := allOKI_get hIt gf F hF _ _ L hL _ _ hargs hheap _ _ Q q q2 _ (q1 _ h2)
  obtain ⟨τ', rfl, hτ'⟩ := q3 _ hQ
  refine ⟨τ', s, ?_, by rw [headA_log]; rw [hlog] at hs; exact hs, hτ'⟩
  unfold Rg.code
  simp only [execA, hgc, hgive, hv, hreach, hcall]
  cases rr.1 <;> rfl
theorem range_of0 {C : Cfg} (hC : ∀ t Y, C.ty t = some Y → tyOf C.P t = some Y) {sp : SpL} {sw : SwL} {n : Nat} {f : FuncId} {lp rg : LpL} {Y : YS} (hY : YOK Y) (hsp : AllOK C n sp) (hsw : AllOKW C n sw) (k m : Nat) (h1 : (loopsIn (rangeOf C.P f k).2.2.2).isEmpty = true ∧ rangesIn (rangeOf C.P f k).2.2.2 = []) (h4 : (loopsIn (rangeOf C.P f k).2.2.1).isEmpty = true ∧ rangesIn (rangeOf C.P f k).2.2.1 = [])
    {live : List Nat} (hann : C.ann f (keyOf (rangeOf C.P f k).2.2.2) = some live) (hgive : C.give f (keyOf (rangeOf C.P f k).2.2.2) = Y.give) {it : ItL} (hIt : AllOKI C n Y it) {head : List Shp} {G : List (List D) → List D → T (Ex × List D)}
    (hG : ∀ L ds rr, (G L ds).run = some rr → FoldR (fun ds el => (roundRT C (mkTabR sp lp sw rg) f (rangeOf C.P f k) m ((headA head ds).h.length + (Y.head el).2.length) live head Y ds el).run) Y.give (fun a b => headA head a = headA head b) ds L rr.1 rr.2) : CodeSim C n m f (rangeOf C.P f k).code none 0 (rangeS m live (rangeOf C.P f k).1 it head G) :=
  rangeS_ok0 hC (tab := mkTabR sp lp sw rg) (spOK_ofR hsp hsw) hY (fun _ => loops_ofG (lp := lp) (rg := rg) rfl rfl [] [] (List.isEmpty_iff.1 h4.1) rfl (fun k hk => by cases hk) h4.2 rfl (fun k hk => by cases hk))
    (fun _ => loops_ofG (lp := lp) (rg := rg) rfl rfl [] [] (List.isEmpty_iff.1 h1.1) rfl (fun k hk => by cases hk) h1.2 rfl (fun k hk => by cases hk)) hann hgive hIt hG
end Go.Lite
namespace Go.Proofs.Ytgmefblkmidglaa
open Go.Lite
def s31 : Sig := ⟨[.k (.ro [.int .i64, .int .i64, .int .i64]), .k (.int .i64), .k (.int .i64)], [(.k .bool, [])]⟩
def l31_2 : LSig := mkLS [0, 1, 2, 7] [(103, [(0, .k (.ro [.int .i64, .int .i64, .int .i64])), (1, .k (.int .i64)), (2, .k (.int .i64)), (7, .k (.int .i64))], [])] [(.ret, [6], [(103, [(6, .k .bool)], [])]), (.exit 0, [], [(103, [], [])])]
end Go.Proofs.Ytgmefblkmidglaa
namespace Go.Proofs.Ytgmefblkmidglaa
open Go.Lite
def s8 : Sig := ⟨[.agg [.k (.int .i64), .k (.ro [.int .i64, .int .i64, .int .i64, .ro [.int .i64, .int .i64]])], .k (.ro [.int .i64, .int .i64, .int .i64, .int .i64]), .k (.ro [.int .i64, .int .i64, .int .i64]), .k (.int .i64), .agg [.k (.int .i64), .k (.int .i64), .k (.int .i64), .k (.int .i64)], .k (.int .i64)], [(.k .bool, [])]⟩
def l8_6 : LSig := mkLS [1, 2, 3, 5, 6, 10, 13, 14, 15, 16] [(312, [(1, .k (.ro [.int .i64, .int .i64, .int .i64, .int .i64])), (2, .k (.ro [.int .i64, .int .i64, .int .i64])), (3, .k (.int .i64)), (5, .k (.int .i64)), (6, .ptr 0 2 0 0), (10, .ptr 1 4 0 0), (13, .nils), (14, .k (.int .i64)), (15, .nils), (16, .k (.int .i64))], [.box [.k (.int .i64), .k (.ro [.int .i64, .int .i64, .int .i64, .ro [.int .i64, .int .i64]])], .box [.k (.int .i64), .k (.int .i64), .k (.int .i64), .k (.int .i64)]]), (312, [(1, .k (.ro [.int .i64, .int .i64, .int .i64, .int .i64])), (2, .k (.ro [.int .i64, .int .i64, .int .i64])), (3, .k (.int .i64)), (5, .k (.int .i64)), (6, .ptr 0 2 0 0), (10, .ptr 1 4 0 0), (13, .nils), (14, .k (.int .i64)), (15, .sl 2 4), (16, .k (.int .i64))], [.box [.k (.int .i64), .k (.ro [.int .i64, .int .i64, .int .i64, .ro [.int .i64, .int .i64]])], .box [.k (.int .i64), .k (.int .i64), .k (.int .i64), .k (.int .i64)], .row [.int .i64, .int .i64, .int .i64, .int .i64]]), (312, [(1, .k (.ro [.int .i64, .int .i64, .int .i64, .int .i64])), (2, .k (.ro [.int .i64, .int .i64, .int .i64])), (3, .k (.int .i64)), (5, .k (.int .i64)), (6, .ptr 0 2 0 0), (10, .ptr 1 4 0 0), (13, .sl 2 3), (14, .k (.int .i64)), (15, .nils), (16, .k (.int .i64))], [.box [.k (.int .i64), .k (.ro [.int .i64, .int .i64, .int .i64, .ro [.int .i64, .int .i64]])], .box [.k (.int .i64), .k (.int .i64), .k (.int .i64), .k (.int .i64)], .row [.int .i64, .int .i64, .int .i64]]), (312, [(1, .k (.ro [.int .i64, .int .i64, .int .i64, .int .i64])), (2, .k (.ro [.int .i64, .int .i64, .int .i64])), (3, .k (.int .i64)), (5, .k (.int .i64)), (6, .ptr 0 2 0 0), (10, .ptr 1 4 0 0), (13, .sl 2 3), (14, .k (.int .i64)), (15, .sl 3 4), (16, .k (.int .i64))], [.box [.k (.int .i64), .k (.ro [.int .i64, .int .i64, .int .i64, .ro [.int .i64, .int .i64]])], .box [.k (.int .i64), .k (.int .i64), .k (.int .i64), .k (.int .i64)], .row [.int .i64, .int .i64, .int .i64], .row [.int .i64, .int .i64, .int .i64, .int .i64]])] [(.exit 0, [1, 2, 3, 6, 10, 13, 14, 15], [(312, [(1, .k (.ro [.int .i64, .int .i64, .int .i64, .int .i64])), (2, .k (.ro [.int .i64, .int .i64, .int .i64])), (3, .k (.int .i64)), (6, .ptr 0 2 0 0), (10, .ptr 1 4 0 0), (13, .nils), (14, .k (.int .i64)), (15, .nils)], [.box [.k (.int .i64), .k (.ro [.int .i64, .int .i64, .int .i64, .ro [.int .i64, .int .i64]])], .box [.k (.int .i64), .k (.int .i64), .k (.int .i64), .k (.int .i64)]]), (312, [(1, .k (.ro [.int .i64, .int .i64, .int .i64, .int .i64])), (2, .k (.ro [.int .i64, .int .i64, .int .i64])), (3, .k (.int .i64)), (6, .ptr 0 2 0 0), (10, .ptr 1 4 0 0), (13, .nils), (14, .k (.int .i64)), (15, .sl 2 4)], [.box [.k (.int .i64), .k (.ro [.int .i64, .int .i64, .int .i64, .ro [.int .i64, .int .i64]])], .box [.k (.int .i64), .k (.int .i64), .k (.int .i64), .k (.int .i64)], .row [.int .i64, .int .i64, .int .i64, .int .i64]]), (312, [(1, .k (.ro [.int .i64, .int .i64, .int .i64, .int .i64])), (2, .k (.ro [.int .i64, .int .i64, .int .i64])), (3, .k (.int .i64)), (6, .ptr 0 2 0 0), (10, .ptr 1 4 0 0), (13, .sl 2 3), (14, .k (.int .i64)), (15, .nils)], [.box [.k (.int .i64), .k (.ro [.int .i64, .int .i64, .int .i64, .ro [.int .i64, .int .i64]])], .box [.k (.int .i64), .k (.int .i64), .k (.int .i64), .k (.int .i64)], .row [.int .i64, .int .i64, .int .i64]]), (312, [(1, .k (.ro [.int .i64, .int .i64, .int .i64, .int .i64])), (2, .k (.ro [.int .i64, .int .i64, .int .i64])), (3, .k (.int .i64)), (6, .ptr 0 2 0 0), (10, .ptr 1 4 0 0), (13, .sl 2 3), (14, .k (.int .i64)), (15, .sl 3 4)], [.box [.k (.int .i64), .k (.ro [.int .i64, .int .i64, .int .i64, .ro [.int .i64, .int .i64]])], .box [.k (.int .i64), .k (.int .i64), .k (.int .i64), .k (.int .i64)], .row [.int .i64, .int .i64, .int .i64], .row [.int .i64, .int .i64, .int .i64, .int .i64]])])]
def l8_15 : LSig := mkLS [1, 2, 3, 13, 18, 20] [(312, [(1, .k (.ro [.int .i64, .int .i64, .int .i64, .int .i64])), (2, .k (.ro [.int .i64, .int .i64, .int .i64])), (3, .k (.int .i64)), (13, .nils), (18, .nils), (20, .k (.int .i64))], []), (312, [(1, .k (.ro [.int .i64, .int .i64, .int .i64, .int .i64])), (2, .k (.ro [.int .i64, .int .i64, .int .i64])), (3, .k (.int .i64)), (13, .nils), (18, .sl 0 3), (20, .k (.int .i64))], [.row [.int .i64, .int .i64, .int .i64]]), (312, [(1, .k (.ro [.int .i64, .int .i64, .int .i64, .int .i64])), (2, .k (.ro [.int .i64, .int .i64, .int .i64])), (3, .k (.int .i64)), (13, .sl 0 3), (18, .nils), (20, .k (.int .i64))], [.row [.int .i64, .int .i64, .int .i64]]), (312, [(1, .k (.ro [.int .i64, .int .i64, .int .i64, .int .i64])), (2, .k (.ro [.int .i64, .int .i64, .int .i64])), (3, .k (.int .i64)), (13, .sl 0 3), (18, .sl 1 3), (20, .k (.int .i64))], [.row [.int .i64, .int .i64, .int .i64], .row [.int .i64, .int .i64, .int .i64]])] [(.ret, [12], [(312, [(12, .k .bool)], [])]), (.exit 2, [1, 2, 3, 13], [(312, [(1, .k (.ro [.int .i64, .int .i64, .int .i64, .int .i64])), (2, .k (.ro [.int .i64, .int .i64, .int .i64])), (3, .k (.int .i64)), (13, .nils)], []), (312, [(1, .k (.ro [.int .i64, .int .i64, .int .i64, .int .i64])), (2, .k (.ro [.int .i64, .int .i64, .int .i64])), (3, .k (.int .i64)), (13, .sl 0 3)], [.row [.int .i64, .int .i64, .int .i64]])])]
def l8_19 : LSig := mkLS [1, 2, 3, 13, 18, 20, 21, 22] [(312, [(1, .k (.ro [.int .i64, .int .i64, .int .i64, .int .i64])), (2, .k (.ro [.int .i64, .int .i64, .int .i64])), (3, .k (.int .i64)), (13, .nils), (18, .sl 0 3), (20, .k (.int .i64)), (21, .k .bool), (22, .k (.int .i64))], [.row [.int .i64, .int .i64, .int .i64]]), (312, [(1, .k (.ro [.int .i64, .int .i64, .int .i64, .int .i64])), (2, .k (.ro [.int .i64, .int .i64, .int .i64])), (3, .k (.int .i64)), (13, .sl 0 3), (18, .sl 1 3), (20, .k (.int .i64)), (21, .k .bool), (22, .k (.int .i64))], [.row [.int .i64, .int .i64, .int .i64], .row [.int .i64, .int .i64, .int .i64]])] [(.exit 4, [1, 2, 3, 13, 18, 20, 21], [(312, [(1, .k (.ro [.int .i64, .int .i64, .int .i64, .int .i64])), (2, .k (.ro [.int .i64, .int .i64, .int .i64])), (3, .k (.int .i64)), (13, .nils), (18, .sl 0 3), (20, .k (.int .i64)), (21, .k .bool)], [.row [.int .i64, .int .i64, .int .i64]]), (312, [(1, .k (.ro [.int .i64, .int .i64, .int .i64, .int .i64])), (2, .k (.ro [.int .i64, .int .i64, .int .i64])), (3, .k (.int .i64)), (13, .sl 0 3), (18, .sl 1 3), (20, .k (.int .i64)), (21, .k .bool)], [.row [.int .i64, .int .i64, .int .i64], .row [.int .i64, .int .i64, .int .i64]])])]
def l8_25 : LSig := mkLS [1, 2, 3, 13, 23] [(312, [(1, .k (.ro [.int .i64, .int .i64, .int .i64, .int .i64])), (2, .k (.ro [.int .i64, .int .i64, .int .i64])), (3, .k (.int .i64)), (13, .nils), (23, .k (.int .i64))], []), (312, [(1, .k (.ro [.int .i64, .int .i64, .int .i64, .int .i64])), (2, .k (.ro [.int .i64, .int .i64, .int .i64])), (3, .k (.int .i64)), (13, .sl 0 3), (23, .k (.int .i64))], [.row [.int .i64, .int .i64, .int .i64]])] [(.ret, [12], [(312, [(12, .k .bool)], [])]), (.exit 6, [], [(312, [], [])])]
def l8_29 : LSig := mkLS [1, 2, 3, 13, 23, 24] [(312, [(1, .k (.ro [.int .i64, .int .i64, .int .i64, .int .i64])), (2, .k (.ro [.int .i64, .int .i64, .int .i64])), (3, .k (.int .i64)), (13, .nils), (23, .k (.int .i64)), (24, .k (.int .i64))], []), (312, [(1, .k (.ro [.int .i64, .int .i64, .int .i64, .int .i64])), (2, .k (.ro [.int .i64, .int .i64, .int .i64])), (3, .k (.int .i64)), (13, .sl 0 3), (23, .k (.int .i64)), (24, .k (.int .i64))], [.row [.int .i64, .int .i64, .int .i64]])] [(.ret, [12], [(312, [(12, .k .bool)], [])]), (.exit 8, [1, 2, 3, 13, 23], [(312, [(1, .k (.ro [.int .i64, .int .i64, .int .i64, .int .i64])), (2, .k (.ro [.int .i64, .int .i64, .int .i64])), (3, .k (.int .i64)), (13, .nils), (23, .k (.int .i64))], []), (312, [(1, .k (.ro [.int .i64, .int .i64, .int .i64, .int .i64])), (2, .k (.ro [.int .i64, .int .i64, .int .i64])), (3, .k (.int .i64)), (13, .sl 0 3), (23, .k (.int .i64))], [.row [.int .i64, .int .i64, .int .i64]])])]
def l8_33 : LSig := mkLS [1, 2, 3, 13, 23, 24, 25, 26, 27] [(312, [(1, .k (.ro [.int .i64, .int .i64, .int .i64, .int .i64])), (2, .k (.ro [.int .i64, .int .i64, .int .i64])), (3, .k (.int .i64)), (13, .nils), (23, .k (.int .i64)), (24, .k (.int .i64)), (25, .k .bool), (26, .k .bool), (27, .k (.int .i64))], []), (312, [(1, .k (.ro [.int .i64, .int .i64, .int .i64, .int .i64])), (2, .k (.ro [.int .i64, .int .i64, .int .i64])), (3, .k (.int .i64)), (13, .sl 0 3), (23, .k (.int .i64)), (24, .k (.int .i64)), (25, .k .bool), (26, .k .bool), (27, .k (.int .i64))], [.row [.int .i64, .int .i64, .int .i64]])] [(.exit 10, [1, 2, 3, 13, 23, 24, 25, 26], [(312, [(1, .k (.ro [.int .i64, .int .i64, .int .i64, .int .i64])), (2, .k (.ro [.int .i64, .int .i64, .int .i64])), (3, .k (.int .i64)), (13, .nils), (23, .k (.int .i64)), (24, .k (.int .i64)), (25, .k .bool), (26, .k .bool)], []), (312, [(1, .k (.ro [.int .i64, .int .i64, .int .i64, .int .i64])), (2, .k (.ro [.int .i64, .int .i64, .int .i64])), (3, .k (.int .i64)), (13, .sl 0 3), (23, .k (.int .i64)), (24, .k (.int .i64)), (25, .k .bool), (26, .k .bool)], [.row [.int .i64, .int .i64, .int .i64]])])]
def l8_37 : LSig := mkLS [1, 2, 3, 13, 23, 24, 25, 26, 28] [(312, [(1, .k (.ro [.int .i64, .int .i64, .int .i64, .int .i64])), (2, .k (.ro [.int .i64, .int .i64, .int .i64])), (3, .k (.int .i64)), (13, .nils), (23, .k (.int .i64)), (24, .k (.int .i64)), (25, .k .bool), (26, .k .bool), (28, .k (.int .i64))], []), (312, [(1, .k (.ro [.int .i64, .int .i64, .int .i64, .int .i64])), (2, .k (.ro [.int .i64, .int .i64, .int .i64])), (3, .k (.int .i64)), (13, .sl 0 3), (23, .k (.int .i64)), (24, .k (.int .i64)), (25, .k .bool), (26, .k .bool), (28, .k (.int .i64))], [.row [.int .i64, .int .i64, .int .i64]])] [(.exit 12, [1, 2, 3, 13, 23, 24, 25, 26], [(312, [(1, .k (.ro [.int .i64, .int .i64, .int .i64, .int .i64])), (2, .k (.ro [.int .i64, .int .i64, .int .i64])), (3, .k (.int .i64)), (13, .nils), (23, .k (.int .i64)), (24, .k (.int .i64)), (25, .k .bool), (26, .k .bool)], []), (312, [(1, .k (.ro [.int .i64, .int .i64, .int .i64, .int .i64])), (2, .k (.ro [.int .i64, .int .i64, .int .i64])), (3, .k (.int .i64)), (13, .sl 0 3), (23, .k (.int .i64)), (24, .k (.int .i64)), (25, .k .bool), (26, .k .bool)], [.row [.int .i64, .int .i64, .int .i64]])])]
end Go.Proofs.Ytgmefblkmidglaa
namespace Go.Lite
theorem EncC_congr : ∀ {ks : List K} {c c' : List D} {j j' : Nat} {vs : List AV}, (∀ i, i < ks.length → c.getD (j + i) default = c'.getD (j' + i) default) → EncC ks c j vs → EncC ks c' j' vs
  | [], _, _, _, _, _, _, h => by simpa only [EncC] using h
  | k :: ks, c, c', j, j', vs, he, h => by
    simp only [EncC] at h ⊢
    obtain ⟨v, vs', rfl, h1, h2⟩ := h
    refine ⟨v, vs', rfl, ?_, EncC_congr (fun i hi => ?_) h2⟩
    · have := he 0 (by simp)
      simp only [Nat.add_zero] at this
      rw [← this]; exact h1
    · have := he (i + 1) (by simp; omega)
      rw [show j + 1 + i = j + (i + 1) by omega, show j' + 1 + i = j' + (i + 1) by omega]
      exact this
theorem EncC_app : ∀ {a b : List K} {c : List D} {j : Nat} {p q : List AV}, EncC a c j p → EncC b c (j + a.length) q → EncC (a ++ b) c j (p ++ q)
  | [], b, c, j, p, q, h1, h2 => by
    simp only [EncC] at h1; subst h1
    simpa using h2
  | k :: a, b, c, j, p, q, h1, h2 => by
    simp only [EncC] at h1
    obtain ⟨v, vs', rfl, h3, h4⟩ := h1
    simp only [List.cons_append, EncC]
    refine ⟨v, vs' ++ q, rfl, h3, EncC_app h4 ?_⟩
    rw [show j + 1 + a.length = j + (k :: a).length by simp; omega]
    exact h2
def sized (P : Program) : Nat → TypeId → Bool
  | 0, _ => false
  | d + 1, t => match P.underlying t with
    | some .bool => true
    | some (.int _) => true
    | some (.slice e) => ((kindOf P d e).map List.length == some (P.cellsOf e)) && sized P d e
    | some (.struct fs) => fs.toList.all fun f => sized P d f.type
    | _ => false
mutual
/-- Data as arguments have them: integers in their range, lists not longer than a slice can be. -/
def WfK : K → D → Prop
  | .int k, d => (Lit.int k d.I).wf = true
  | .bool, _ => True
  | .ro ks, d => d.L.length ≤ maxLen ∧ ∀ c ∈ d.L, WfC ks c 0
def WfC : List K → List D → Nat → Prop
  | [], _, _ => True
  | k :: ks, c, j => WfK k (c.getD j default) ∧ WfC ks c (j + 1)
end
theorem WfC_congr : ∀ {ks : List K} {c c' : List D} {j j' : Nat}, (∀ i, i < ks.length → c.getD (j + i) default = c'.getD (j' + i) default) → WfC ks c j → WfC ks c' j'
  | [], _, _, _, _, _, _ => trivial
  | k :: ks, c, c', j, j', he, h => by
    simp only [WfC] at h ⊢
    refine ⟨?_, WfC_congr (fun i hi => ?_) h.2⟩
    · have := he 0 (by simp)
      simp only [Nat.add_zero] at this
      rw [← this]; exact h.1
    · have := he (i + 1) (by simp; omega)
      rw [show j + 1 + i = j + (i + 1) by omega, show j' + 1 + i = j' + (i + 1) by omega]
      exact this
theorem WfC_app : ∀ {a b : List K} {c : List D} {j : Nat}, WfC a c j → WfC b c (j + a.length) → WfC (a ++ b) c j
  | [], b, c, j, _, h2 => by simpa using h2
  | k :: a, b, c, j, h1, h2 => by
    simp only [WfC, List.cons_append] at h1 ⊢
    refine ⟨h1.1, WfC_app h1.2 ?_⟩
    rw [show j + 1 + a.length = j + (k :: a).length by simp; omega]
    exact h2
theorem WfC_join {a b : List K} {x y : List D} (hl : x.length = a.length) (h1 : WfC a x 0) (h2 : WfC b y 0) : WfC (a ++ b) (x ++ y) 0 := by
  refine WfC_app (WfC_congr (fun i hi => ?_) h1) (WfC_congr (fun i hi => ?_) h2)
  · simp only [Nat.zero_add, List.getD_eq_getElem?_getD]
    rw [List.getElem?_append_left (by omega)]
  · simp only [Nat.zero_add, List.getD_eq_getElem?_getD]
    rw [List.getElem?_append_right (by omega), hl]
    congr 2
    omega
theorem shape_enc (P : Program) : ∀ (d d' : Nat) (t : TypeId) (as : List AV) (ks : List K), Shape P d t as → kindOf P d' t = some ks → sized P d' t = true → ∃ ds : List D, ds.length = ks.length ∧ EncC ks ds 0 as ∧ WfC ks ds 0 := by
  intro d
  induction d with
  | zero => intro d' t as ks h; exact h.elim
  | succ d ih =>
    intro d' t as ks h hk hz
    cases d' with
    | zero => cases hk
    | succ d' =>
      unfold Shape at h
      unfold kindOf at hk
      unfold sized at hz
      split at h
      · rename_i hu
        rw [hu] at hk hz
        simp only [Option.some.injEq] at hk
        subst hk
        obtain ⟨b, rfl⟩ := h
        exact ⟨[.b b], rfl, ⟨_, _, rfl, rfl, rfl⟩, trivial, trivial⟩
      · rename_i k hu
        rw [hu] at hk hz
        simp only [Option.some.injEq] at hk
        subst hk
        obtain ⟨n, rfl, hw⟩ := h
        exact ⟨[.i n], rfl, ⟨_, _, rfl, rfl, rfl⟩, hw, trivial⟩
      · rename_i e hu
        rw [hu] at hk hz
        simp only [Option.map_eq_some_iff] at hk
        obtain ⟨ks', hk', rfl⟩ := hk
        obtain ⟨es, hsh, hl, hes⟩ := h
        rcases hsh with rfl | ⟨-, rfl⟩
        case inr =>
          refine ⟨[.l []], rfl, ⟨_, _, rfl, ?_, rfl⟩, ⟨Nat.zero_le _, fun c hc => by cases hc⟩, trivial⟩
          simp only [List.getD_cons_zero, EncV, D.L]
          exact .inl ⟨by trivial, by trivial⟩
        simp only [Bool.and_eq_true, beq_iff_eq, hk', Option.map_some, Option.some.injEq] at hz
        obtain ⟨l, hl1, hl2⟩ : ∃ l : List (List D), l.length = es.length ∧ ∀ (i : Nat) (x : List AV) (c : List D), es[i]? = some x → l[i]? = some c → c.length = ks'.length ∧ EncC ks' c 0 x ∧ WfC ks' c 0 := by
          refine exists_list es fun i x hx => ?_
          exact ih d' e x ks' (hes x (List.mem_of_getElem? hx)) hk' hz.2
        have hcells : P.cellsOf e = ks'.length := hz.1.symm
        refine ⟨[.l l], rfl, ⟨_, _, rfl, ?_, rfl⟩, ⟨?_, ?_⟩, trivial⟩
        · simp only [List.getD_cons_zero, EncV, D.L]
          exact .inr ⟨_, _, _, by rw [hcells], hl1.symm, fun i x c h1 h2 => (hl2 i x c h1 h2).2.1⟩
        · simp only [List.getD_cons_zero, D.L]; omega
        · simp only [List.getD_cons_zero, D.L]
          intro c hc
          obtain ⟨i, hi, rfl⟩ := List.getElem_of_mem hc
          exact (hl2 i _ _ (List.getElem?_eq_getElem (by omega)) (List.getElem?_eq_getElem hi)).2.2
      · rename_i fs hu
        rw [hu] at hk hz
        simp only [List.all_eq_true] at hk hz
        generalize fs.toList = fl at h hk hz
        clear hu
        induction fl generalizing as ks with
        | nil =>
          simp only [Parts] at h
          simp only [kindF, Option.some.injEq] at hk
          subst h hk
          exact ⟨[], rfl, rfl, trivial⟩
        | cons f fl ihf =>
          simp only [Parts] at h
          simp only [kindF] at hk
          obtain ⟨p, q, rfl, h1, h2⟩ := h
          split at hk
          · rename_i a b ha hb
            simp only [Option.some.injEq] at hk
            subst hk
            obtain ⟨x, hx1, hx2, hx3⟩ := ih d' _ p a h1 ha (hz f (by simp))
            obtain ⟨y, hy1, hy2, hy3⟩ := ihf q b h2 hb (fun g hg => hz g (by simp [hg]))
            refine ⟨x ++ y, by simp [hx1, hy1], EncC_app (EncC_congr (fun i hi => ?_) hx2) (EncC_congr (fun i hi => ?_) hy2), WfC_join hx1 hx3 hy3⟩
            · simp only [Nat.zero_add, List.getD_eq_getElem?_getD]
              rw [List.getElem?_append_left (by omega)]
            · simp only [Nat.zero_add, List.getD_eq_getElem?_getD]
              rw [List.getElem?_append_right (by omega), hx1]
              congr 2
              omega
          · cases hk
      · exact h.elim
theorem decFrom_eq : ∀ (ks : List K) (ds r : List D) (j : Nat) (c : List D), ds.length = ks.length → (∀ i, i < ks.length → c.getD (j + i) default = ds.getD i default) → (headVs (ks.map .k) (ds ++ r)) = (decFrom ks c j, r)
  | [], ds, r, j, c, hl, _ => by
    cases ds with
    | nil => rfl
    | cons d ds => simp at hl
  | k :: ks, ds, r, j, c, hl, hc => by
    cases ds with
    | nil => simp at hl
    | cons d ds =>
      have := decFrom_eq ks ds r (j + 1) c (by simpa using hl) (fun i hi => by
        have := hc (i + 1) (by simp; omega)
        rw [show j + 1 + i = j + (i + 1) by omega, this]
        simp)
      simp only [List.map_cons, headVs, headV, List.cons_append, List.headD_cons, List.tail_cons, decFrom, this]
      have h0 := hc 0 (by simp)
      simp only [Nat.add_zero, List.getD_cons_zero] at h0
      rw [h0]
def kindsN (P : Program) (t : TypeId) : Nat := ((kindOf P 12 t).getD []).length
def kindsL (P : Program) (t : TypeId) : List K := (kindOf P 12 t).getD []
def argFit (P : Program) (t : TypeId) : Bool := (kindOf P 12 t).isSome && sized P 12 t && (tyAgg P t || kindsN P t == 1)
theorem args_enc (P : Program) (d : Nat) : ∀ (ts : List TypeId) (xs : List AV) (r : List D), ArgsShape P d ts xs → (∀ t ∈ ts, argFit P t = true) → ∃ ds : List D, ds.length = (ts.map (kindsN P)).sum ∧ VRL (headVs (ts.map (argSK P)) (ds ++ r)).1 xs ∧ (headVs (ts.map (argSK P)) (ds ++ r)).2 = r ∧ WfC (ts.flatMap (kindsL P)) ds 0
  | [], xs, r, h, _ => by
    simp only [ArgsShape] at h; subst h
    exact ⟨[], rfl, rfl, rfl, trivial⟩
  | t :: ts, xs, r, h, hf => by
    simp only [ArgsShape] at h
    obtain ⟨cs, rest, rfl, h1, h2⟩ := h
    obtain ⟨ds2, hl2, hv2, hr2, hw2⟩ := args_enc P d ts rest r h2 (fun t ht => hf t (by simp [ht]))
    have hft := hf t (by simp)
    simp only [argFit, Bool.and_eq_true, Bool.or_eq_true, beq_iff_eq] at hft
    obtain ⟨⟨hk, hz⟩, hg⟩ := hft
    obtain ⟨ks, hks⟩ := Option.isSome_iff_exists.1 hk
    obtain ⟨ds1, hl1, he, hw1⟩ := shape_enc P d 12 t cs ks h1 hks hz
    have hkn : kindsN P t = ks.length := by simp [kindsN, hks]
    have hdec := decFrom_eq ks ds1 (ds2 ++ r) 0 ds1 hl1 (fun i hi => by simp)
    have hvr := EncC_dec he
    have key : VR (headV (argSK P t) (ds1 ++ (ds2 ++ r))).1 (argOf P t cs) ∧ (headV (argSK P t) (ds1 ++ (ds2 ++ r))).2 = ds2 ++ r := by
      unfold argSK argOf
      rw [hks]
      simp only
      split
      · simp only [headV, hdec, VR]
        exact ⟨⟨cs, rfl, hvr⟩, trivial⟩
      · rename_i hag
        have h1k : ks.length = 1 := by rw [← hkn]; exact hg.resolve_left (by simpa using hag)
        match ks, h1k with
        | [k], _ =>
          match ds1, hl1 with
          | [x], _ =>
            simp only [EncC] at he
            obtain ⟨v, vs', rfl, h3, rfl⟩ := he
            simp only [List.headD_cons, headV, List.cons_append, List.nil_append, List.tail_cons]
            exact ⟨EncV_dec h3, trivial⟩
    have hkl : kindsL P t = ks := by simp [kindsL, hks]
    refine ⟨ds1 ++ ds2, by simp [hl1, hl2, hkn], ?_, ?_, by rw [List.flatMap_cons, hkl]; exact WfC_join hl1 hw1 hw2⟩
    · simp only [List.map_cons, headVs, List.append_assoc]
      rw [key.2]
      exact ⟨_, _, rfl, key.1, hv2⟩
    · simp only [List.map_cons, headVs, List.append_assoc]
      rw [key.2]
      exact hr2
theorem law_true_wfW {C : Cfg} (hC : ∀ t Y, C.ty t = some Y → tyOf C.P t = some Y) {sp : SpL} {lp : LpL} {sw : SwL} {n : Nat} {f : FuncId} (hsp : AllOK C n sp) (hsw : AllOKW C n sw) (hf : hasBody C.P f = true) (keys : List Nat) (h1 : loopsIn (bodyAt C.P f) = keys.map (loopOf C.P f)) (h2 : keys.map (fun k => keyOf (loopOf C.P f k)) = keys)
    (hl : ∀ k ∈ keys, ∀ L, lpOf lp k = some L → LoopSim C n f (loopOf C.P f k) L) {ts : List TypeId} {ks : List SK} (hks : ks = ts.map (argSK C.P)) (hfit : ∀ t ∈ ts, argFit C.P t = true) {m : Nat} (hm : (ts.map (kindsN C.P)).sum = m)
    (hrun : ∀ ds : List D, ds.length = m → WfC (ts.flatMap (kindsL C.P)) ds 0 → (fnT C (mkTab sp lp sw) f ⟨ks, [(.k .bool, [])]⟩ ds).run = some [D.b true]) (d : Nat) (xs : List AV) (hx : ArgsShape C.P d ts xs) : ∃ n h', callA C n Unit none f xs [] () = some (.bool true, h', ()) := by
  obtain ⟨ds, hlen, hv, -, hwf⟩ := args_enc C.P d ts xs [] hx hfit
  rw [List.append_nil, ← hks] at hv
  have hr := hrun ds (hlen.trans hm) hwf
  unfold fnT at hr
  rw [T.run_bind, Option.bind_eq_some_iff] at hr
  obtain ⟨⟨v0, h0⟩, hc, hfr⟩ := hr
  rw [T.run_ofO] at hfr
  obtain ⟨fn, h3, h4⟩ := hasBody_spec hf
  obtain ⟨v', h', h5, h6, h7⟩ := call_sim hC (spOK_ofW hsp hsw) h3 h4 (loops_of keys h1 h2 hl) _ _ _ hc xs hv
  have h8 := (fitsR_sim hfr h6 h7).1
  refine ⟨n + 1, h', ?_⟩
  rw [h5]
  have : v' = .bool true := h8
  rw [this]
end Go.Lite
namespace Go.Lite
section
variable {α : Type} {x : Option α}
theorem go_dec {p : Prop} [Decidable p] {t : T α} (hp : p) (h : t.run = x) : (T.need (decide p) t).run = x := by rw [run_need, if_pos (decide_eq_true hp)]; exact h
theorem go_yes {p : Prop} {t : T α} (hp : p) (h : t.run = x) : (T.need (yes p) t).run = x := by rw [run_need, if_pos (yes_true hp)]; exact h
theorem go_need {c : Bool} {t : T α} (hc : c = true) (h : t.run = x) : (T.need c t).run = x := by rw [run_need, if_pos hc]; exact h
theorem go_if {p : Prop} [Decidable p] {t e : T α} (h1 : p → t.run = x) (h2 : ¬ p → e.run = x) : (T.ite (decide p) t e).run = x := by
  rw [run_ite]
  by_cases hp : p
  · rw [if_pos (decide_eq_true hp)]; exact h1 hp
  · rw [if_neg (by simpa using hp)]; exact h2 hp
theorem go_ite {c : Bool} {t e : T α} (h1 : c = true → t.run = x) (h2 : c = false → e.run = x) : (T.ite c t e).run = x := by
  rw [run_ite]
  cases c with
  | true => exact h1 rfl
  | false => exact h2 rfl
theorem go_not {c : Bool} {t e : T α} (h1 : c = false → t.run = x) (h2 : c = true → e.run = x) : (T.ite (!c) t e).run = x := by
  rw [run_ite]
  cases c with
  | true => exact h2 rfl
  | false => exact h1 rfl
theorem go_pos {p : Prop} [Decidable p] {t e : T α} (hp : p) (h : t.run = x) : (T.ite (decide p) t e).run = x := by rw [run_ite, if_pos (decide_eq_true hp)]; exact h
theorem go_neg {p : Prop} [Decidable p] {t e : T α} (hp : ¬ p) (h : e.run = x) : (T.ite (decide p) t e).run = x := by rw [run_ite, if_neg (by simpa using hp)]; exact h
theorem go_true {c : Bool} {t e : T α} (hc : c = true) (h : t.run = x) : (T.ite c t e).run = x := by rw [run_ite, if_pos hc]; exact h
theorem go_false {c : Bool} {t e : T α} (hc : c = false) (h : e.run = x) : (T.ite c t e).run = x := by rw [run_ite, hc]; exact h
theorem go_notT {c : Bool} {t e : T α} (hc : c = true) (h : e.run = x) : (T.ite (!c) t e).run = x := by rw [run_ite, hc]; exact h
theorem go_leaf {a : α} (h : x = some a) : (T.leaf a).run = x := h.symm
end
section
variable {G : List D → T (Ex × List D)} {μ : List D → Nat} {ds : List D} {r : Ex × List D}
theorem rd_dec {p : Prop} [Decidable p] {t : T Rd} (hp : p) (h : RdOK G μ ds r t.run) : RdOK G μ ds r (T.need (decide p) t).run := by rw [run_need, if_pos (decide_eq_true hp)]; exact h
theorem rd_yes {p : Prop} {t : T Rd} (hp : p) (h : RdOK G μ ds r t.run) : RdOK G μ ds r (T.need (yes p) t).run := by rw [run_need, if_pos (yes_true hp)]; exact h
theorem rd_need {c : Bool} {t : T Rd} (hc : c = true) (h : RdOK G μ ds r t.run) : RdOK G μ ds r (T.need c t).run := by rw [run_need, if_pos hc]; exact h
theorem rd_if {p : Prop} [Decidable p] {t e : T Rd} (h1 : p → RdOK G μ ds r t.run) (h2 : ¬ p → RdOK G μ ds r e.run) : RdOK G μ ds r (T.ite (decide p) t e).run := by
  rw [run_ite]
  by_cases hp : p
  · rw [if_pos (decide_eq_true hp)]; exact h1 hp
  · rw [if_neg (by simpa using hp)]; exact h2 hp
theorem rd_ite {c : Bool} {t e : T Rd} (h1 : c = true → RdOK G μ ds r t.run) (h2 : c = false → RdOK G μ ds r e.run) : RdOK G μ ds r (T.ite c t e).run := by
  rw [run_ite]
  cases c with
  | true => exact h1 rfl
  | false => exact h2 rfl
theorem rd_not {c : Bool} {t e : T Rd} (h1 : c = false → RdOK G μ ds r t.run) (h2 : c = true → RdOK G μ ds r e.run) : RdOK G μ ds r (T.ite (!c) t e).run := by
  rw [run_ite]
  cases c with
  | true => exact h2 rfl
  | false => exact h1 rfl
theorem rd_true {c : Bool} {t e : T Rd} (hc : c = true) (h : RdOK G μ ds r t.run) : RdOK G μ ds r (T.ite c t e).run := by rw [run_ite, if_pos hc]; exact h
theorem rd_false {c : Bool} {t e : T Rd} (hc : c = false) (h : RdOK G μ ds r e.run) : RdOK G μ ds r (T.ite c t e).run := by rw [run_ite, hc]; exact h
theorem rd_pos {p : Prop} [Decidable p] {t e : T Rd} (hp : p) (h : RdOK G μ ds r t.run) : RdOK G μ ds r (T.ite (decide p) t e).run := by rw [run_ite, if_pos (decide_eq_true hp)]; exact h
theorem rd_neg {p : Prop} [Decidable p] {t e : T Rd} (hp : ¬ p) (h : RdOK G μ ds r e.run) : RdOK G μ ds r (T.ite (decide p) t e).run := by rw [run_ite, if_neg (by simpa using hp)]; exact h
theorem rd_again {ds' : List D} (h1 : (G ds').run = some r) (h2 : μ ds' < μ ds) : RdOK G μ ds r (T.leaf (Rd.again ds')).run := ⟨_, rfl, .inl ⟨_, rfl, h1, h2⟩⟩
theorem rd_out {e : Ex} {ds' : List D} (h : some (e, ds') = some r) : RdOK G μ ds r (T.leaf (Rd.out e ds')).run := by
  cases h
  exact ⟨_, rfl, .inr rfl⟩
end
theorem upd1 (c : List D) (d : D) (k : K) : updC c [d] 0 0 (List.length [k]) = [d] := by simp [updC]
end Go.Lite
namespace Go.Lite
def partC : Nat → Code → Code
  | 0, .seq a _ => a
  | n + 1, .seq _ b => partC n b
  | _, c => c
def restC : Nat → Code → Code
  | 0, c => c
  | n + 1, .seq _ b => restC n b
  | _, c => c
def isSeq : Code → Bool
  | .seq _ _ => true
  | _ => false
noncomputable def fnAt (P : Program) (f : FuncId) : Func := (P.funcs[f]?).getD default
def bodyOf (fn : Func) : Code := fn.body.getD .skip
def EndsTrue (C : Cfg) (call : CallT) (f : FuncId) (fn : Func) (c : Code) (σ : St) : Prop := ∃ e σ', execA C call f 0 (none : Option (Hd Unit)) c σ () = some (e, σ', ()) ∧ (e = .normal ∨ e = .ret) ∧ finishA C f 0 fn σ' = some (.bool true, [])
def isTrueRes : Option (AV × Heap) → Bool
  | some (.bool true, []) => true
  | _ => false
def lastIs (C : Cfg) (call : CallT) (f : FuncId) (fn : Func) (c : Code) (σ : St) : Bool := match execA C call f 0 (none : Option (Hd Unit)) c σ () with
  | some (.normal, σ', ()) => isTrueRes (finishA C f 0 fn σ')
  | some (.ret, σ', ()) => isTrueRes (finishA C f 0 fn σ')
  | _ => false
theorem isTrueRes_spec {r : Option (AV × Heap)} (h : isTrueRes r = true) : r = some (.bool true, []) := by
  unfold isTrueRes at h
  split at h
  · rfl
  · cases h
theorem lastIs_spec {C : Cfg} {call : CallT} {f : FuncId} {fn : Func} {c : Code} {σ : St} (h : lastIs C call f fn c σ = true) : EndsTrue C call f fn c σ := by
  unfold lastIs at h
  split at h
  · rename_i σ' he; exact ⟨_, σ', he, .inl rfl, isTrueRes_spec h⟩
  · rename_i σ' he; exact ⟨_, σ', he, .inr rfl, isTrueRes_spec h⟩
  · cases h
theorem part_rest : ∀ {i : Nat} {c : Code}, isSeq (restC i c) = true → restC i c = .seq (partC i c) (restC (i + 1) c)
  | 0, .seq a b, _ => rfl
  | i + 1, .seq a b, h => part_rest (i := i) (c := b) h
  | 0, .skip, h => by cases h
  | 0, .label _, h => by cases h
  | 0, .region _ _ _, h => by cases h
  | 0, .cond _ _ _, h => by cases h
  | 0, .block _ _, h => by cases h
  | 0, .loop _, h => by cases h
  | 0, .rangeFunc _ _ _ _, h => by cases h
  | 0, .scope _, h => by cases h
  | 0, .exit _, h => by cases h
  | 0, .ret, h => by cases h
  | 0, .goto _, h => by cases h
  | 0, .refuse _, h => by cases h
  | i + 1, .skip, h => by cases h
  | i + 1, .label _, h => by cases h
  | i + 1, .region _ _ _, h => by cases h
  | i + 1, .cond _ _ _, h => by cases h
  | i + 1, .block _ _, h => by cases h
  | i + 1, .loop _, h => by cases h
  | i + 1, .rangeFunc _ _ _ _, h => by cases h
  | i + 1, .scope _, h => by cases h
  | i + 1, .exit _, h => by cases h
  | i + 1, .ret, h => by cases h
  | i + 1, .goto _, h => by cases h
  | i + 1, .refuse _, h => by cases h
theorem spine_step {C : Cfg} {call : CallT} {f : FuncId} {fn : Func} {c : Code} {i : Nat} {σ σ1 : St} (hs : isSeq (restC i c) = true) (h : execA C call f 0 (none : Option (Hd Unit)) (partC i c) σ () = some (.normal, σ1, ()))
    (hn : EndsTrue C call f fn (restC (i + 1) c) σ1) : EndsTrue C call f fn (restC i c) σ := by
  obtain ⟨e, σ', h1, h2, h3⟩ := hn
  refine ⟨e, σ', ?_, h2, h3⟩
  rw [part_rest hs]
  simp only [execA, h, h1]
theorem spine_call {C : Cfg} {n : Nat} {f : FuncId} {fn : Func} (h1 : (C.P.funcs[f]?).isSome = true) (h2 : fn = fnAt C.P f) (h3 : (fn.body.isSome && !hasDef (bodyOf fn)) = true) {σ0 : St} (h4 : (⟨List.replicate fn.ntmps .und, []⟩ : St) = σ0)
    (h : EndsTrue C (callA C n) f fn (restC 0 (bodyOf fn)) σ0) : callA C (n + 1) Unit none f [] [] () = some (.bool true, [], ()) := by
  obtain ⟨fn', hf⟩ := Option.isSome_iff_exists.1 h1
  have hfn : fn' = fn := by rw [h2]; simp [fnAt, hf]
  subst hfn
  simp only [Bool.and_eq_true, Bool.not_eq_true'] at h3
  obtain ⟨c, hc⟩ := Option.isSome_iff_exists.1 h3.1
  have hb : bodyOf fn' = c := by simp [bodyOf, hc]
  rw [hb] at h3 h
  obtain ⟨e, σ', he, hen, hfin⟩ := h
  simp only [restC] at he
  subst h4
  unfold callA
  simp only [hf, hc, h3.2, List.length_nil, List.nil_append, Nat.sub_zero, he]
  rcases hen with rfl | rfl <;> simp only [hfin, Option.map_some]
end Go.Lite
namespace Go.Lite
def eqAll {α : Type} (e : α → α → Bool) : List α → List α → Bool
  | [], [] => true
  | a :: as, b :: bs => e a b && eqAll e as bs
  | _, _ => false
theorem eqAll_eq {α : Type} {e : α → α → Bool} (he : ∀ a b, e a b = true → a = b) : ∀ {as bs : List α}, eqAll e as bs = true → as = bs
  | [], [], _ => rfl
  | a :: as, b :: bs, h => by
    simp only [eqAll, Bool.and_eq_true] at h
    rw [he a b h.1, eqAll_eq he h.2]
  | [], _ :: _, h => by cases h
  | _ :: _, [], h => by cases h
def eqAV : Nat → AV → AV → Bool
  | 0, _, _ => false
  | f + 1, a, b => match a, b with
    | .int k n, .int k' n' => decide (k = k') && decide (n = n')
    | .bool x, .bool y => x == y
    | .nils, .nils => true
    | .agg xs, .agg ys => eqAll (eqAV f) xs ys
    | .ro kd c s es, .ro kd' c' s' es' => decide (kd = kd') && c == c' && s == s' && eqAll (eqAll (eqAV f)) es es'
    | _, _ => false
theorem eqAV_eq : ∀ (f : Nat) (a b : AV), eqAV f a b = true → a = b
  | 0, _, _, h => by cases h
  | f + 1, a, b, h => by
    unfold eqAV at h
    split at h
    · simp only [Bool.and_eq_true, decide_eq_true_eq] at h
      rw [h.1, h.2]
    · rw [beq_iff_eq] at h; rw [h]
    · rfl
    · rw [eqAll_eq (eqAV_eq f) h]
    · simp only [Bool.and_eq_true, decide_eq_true_eq, beq_iff_eq] at h
      obtain ⟨⟨⟨rfl, rfl⟩, rfl⟩, h⟩ := h
      rw [eqAll_eq (fun _ _ h => eqAll_eq (eqAV_eq f) h) h]
    · cases h
structure Row where
  f : FuncId
  args : List AV
  res : AV
def extT (tbl : List Row) (f : FuncId) : Option (List AV → Option AV) :=
  if tbl.any (fun r => r.f == f) then some (fun args => (tbl.find? fun r => r.f == f && eqAll (eqAV 12) r.args args).map (·.res)) else none
def RowsOK (C : Cfg) (n : Nat) : List Row → Prop
  | [] => True
  | r :: rs => callA C n Unit none r.f r.args [] () = some (r.res, [], ()) ∧ RowsOK C n rs
theorem rows_mem {C : Cfg} {n : Nat} : ∀ {tbl : List Row}, RowsOK C n tbl → ∀ r ∈ tbl, callA C n Unit none r.f r.args [] () = some (r.res, [], ())
  | [], _, r, h => by cases h
  | x :: xs, ho, r, h => by
    rcases List.mem_cons.1 h with rfl | h
    · exact ho.1
    · exact rows_mem ho.2 r h
theorem ext_ok {C C0 : Cfg} {n : Nat} {tbl : List Row} (hP : C.P = C0.P) (hE : C.ext = extT tbl) (h0 : CallOK C0.P (callA C0 n)) (hr : RowsOK C0 n tbl) : ExtOK C := by
  intro f E he args v hv
  rw [hE] at he
  unfold extT at he
  split at he
  · cases he
    simp only [Option.map_eq_some_iff] at hv
    obtain ⟨r, hf, rfl⟩ := hv
    have hm := List.mem_of_find?_eq_some hf
    have hp := List.find?_some hf
    simp only [Bool.and_eq_true, beq_iff_eq] at hp
    obtain ⟨rfl, h2⟩ := hp
    rw [← eqAll_eq (eqAV_eq 12) h2, hP]
    exact h0 Unit none _ _ _ _ _ _ _ (rows_mem hr r hm)
  · cases he
end Go.Lite
