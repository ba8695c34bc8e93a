/-
  Steps through a tree of cases.
-/
import Derived.Test.YtgoedfonmocafaaSym
namespace Go.Lite

/-! ### Trees, step by step -/
section
variable {α : Type} {x : Option α}
theorem go_dec {p : Prop} [Decidable p] {t : T α} (hp : p) (h : t.run = x) : (T.need (decide p) t).run = x := by rw [run_need, if_pos (decide_eq_true hp)]; exact h
theorem go_yes {p : Prop} {t : T α} (hp : p) (h : t.run = x) : (T.need (yes p) t).run = x := by rw [run_need, if_pos (yes_true hp)]; exact h
theorem go_need {c : Bool} {t : T α} (hc : c = true) (h : t.run = x) : (T.need c t).run = x := by rw [run_need, if_pos hc]; exact h
theorem go_if {p : Prop} [Decidable p] {t e : T α} (h1 : p → t.run = x) (h2 : ¬ p → e.run = x) : (T.ite (decide p) t e).run = x := by
  rw [run_ite]
  by_cases hp : p
  · rw [if_pos (decide_eq_true hp)]; exact h1 hp
  · rw [if_neg (by simpa using hp)]; exact h2 hp
theorem go_ite {c : Bool} {t e : T α} (h1 : c = true → t.run = x) (h2 : c = false → e.run = x) : (T.ite c t e).run = x := by
  rw [run_ite]
  cases c with
  | true => exact h1 rfl
  | false => exact h2 rfl
theorem go_not {c : Bool} {t e : T α} (h1 : c = false → t.run = x) (h2 : c = true → e.run = x) : (T.ite (!c) t e).run = x := by
  rw [run_ite]
  cases c with
  | true => exact h2 rfl
  | false => exact h1 rfl
theorem go_pos {p : Prop} [Decidable p] {t e : T α} (hp : p) (h : t.run = x) : (T.ite (decide p) t e).run = x := by rw [run_ite, if_pos (decide_eq_true hp)]; exact h
theorem go_neg {p : Prop} [Decidable p] {t e : T α} (hp : ¬ p) (h : e.run = x) : (T.ite (decide p) t e).run = x := by rw [run_ite, if_neg (by simpa using hp)]; exact h
theorem go_true {c : Bool} {t e : T α} (hc : c = true) (h : t.run = x) : (T.ite c t e).run = x := by rw [run_ite, if_pos hc]; exact h
theorem go_false {c : Bool} {t e : T α} (hc : c = false) (h : e.run = x) : (T.ite c t e).run = x := by rw [run_ite, hc]; exact h
theorem go_notT {c : Bool} {t e : T α} (hc : c = true) (h : e.run = x) : (T.ite (!c) t e).run = x := by rw [run_ite, hc]; exact h
theorem go_notF {c : Bool} {t e : T α} (hc : c = false) (h : t.run = x) : (T.ite (!c) t e).run = x := by rw [run_ite, hc]; exact h
theorem go_leaf {a : α} (h : x = some a) : (T.leaf a).run = x := h.symm
end

section
variable {G : List D → T (Ex × List D)} {μ : List D → Nat} {ds : List D} {r : Ex × List D}
theorem rd_dec {p : Prop} [Decidable p] {t : T Rd} (hp : p) (h : RdOK G μ ds r t.run) : RdOK G μ ds r (T.need (decide p) t).run := by rw [run_need, if_pos (decide_eq_true hp)]; exact h
theorem rd_yes {p : Prop} {t : T Rd} (hp : p) (h : RdOK G μ ds r t.run) : RdOK G μ ds r (T.need (yes p) t).run := by rw [run_need, if_pos (yes_true hp)]; exact h
theorem rd_need {c : Bool} {t : T Rd} (hc : c = true) (h : RdOK G μ ds r t.run) : RdOK G μ ds r (T.need c t).run := by rw [run_need, if_pos hc]; exact h
theorem rd_if {p : Prop} [Decidable p] {t e : T Rd} (h1 : p → RdOK G μ ds r t.run) (h2 : ¬ p → RdOK G μ ds r e.run) : RdOK G μ ds r (T.ite (decide p) t e).run := by
  rw [run_ite]
  by_cases hp : p
  · rw [if_pos (decide_eq_true hp)]; exact h1 hp
  · rw [if_neg (by simpa using hp)]; exact h2 hp
theorem rd_ite {c : Bool} {t e : T Rd} (h1 : c = true → RdOK G μ ds r t.run) (h2 : c = false → RdOK G μ ds r e.run) : RdOK G μ ds r (T.ite c t e).run := by
  rw [run_ite]
  cases c with
  | true => exact h1 rfl
  | false => exact h2 rfl
theorem rd_not {c : Bool} {t e : T Rd} (h1 : c = false → RdOK G μ ds r t.run) (h2 : c = true → RdOK G μ ds r e.run) : RdOK G μ ds r (T.ite (!c) t e).run := by
  rw [run_ite]
  cases c with
  | true => exact h2 rfl
  | false => exact h1 rfl
theorem rd_true {c : Bool} {t e : T Rd} (hc : c = true) (h : RdOK G μ ds r t.run) : RdOK G μ ds r (T.ite c t e).run := by rw [run_ite, if_pos hc]; exact h
theorem rd_false {c : Bool} {t e : T Rd} (hc : c = false) (h : RdOK G μ ds r e.run) : RdOK G μ ds r (T.ite c t e).run := by rw [run_ite, hc]; exact h
theorem rd_pos {p : Prop} [Decidable p] {t e : T Rd} (hp : p) (h : RdOK G μ ds r t.run) : RdOK G μ ds r (T.ite (decide p) t e).run := by rw [run_ite, if_pos (decide_eq_true hp)]; exact h
theorem rd_neg {p : Prop} [Decidable p] {t e : T Rd} (hp : ¬ p) (h : RdOK G μ ds r e.run) : RdOK G μ ds r (T.ite (decide p) t e).run := by rw [run_ite, if_neg (by simpa using hp)]; exact h
theorem rd_again {ds' : List D} (h1 : (G ds').run = some r) (h2 : μ ds' < μ ds) : RdOK G μ ds r (T.leaf (Rd.again ds')).run := ⟨_, rfl, .inl ⟨_, rfl, h1, h2⟩⟩
theorem rd_out {e : Ex} {ds' : List D} (h : some (e, ds') = some r) : RdOK G μ ds r (T.leaf (Rd.out e ds')).run := by
  cases h
  exact ⟨_, rfl, .inr rfl⟩
end
/-- One cell, new. -/
theorem upd1 (c : List D) (d : D) (k : K) : updC c [d] 0 0 (List.length [k]) = [d] := by simp [updC]

/-! ### A copy of a slice: of one that is nil or empty, and of others -/
/-- A copy that is nil or empty, or one's own. -/
noncomputable def Gcl (ds : List D) : T (List D) := match ds with
  | [l] => .need (yes (l.L.length ≤ 1073741824)) (.ite l.L.isEmpty (.leaf [.i 1]) (.leaf [.i 0, .i l.L.length, .l l.L]))
  | _ => .fail
noncomputable def Gcl1 (ds : List D) : T (List D) := match ds with
  | [l] => .need (yes (l.L ≠ [] ∧ l.L.length ≤ 1073741824)) (.leaf [.i 0, .i l.L.length, .l l.L])
  | _ => .fail
theorem clone_ok {C : Cfg} {n : Nat} {f : FuncId} {ks : List K} (k1 : callA C n Unit none f [.nils] [] () = some (.nils, [], ())) (k2 : ∀ kd c0, callA C n Unit none f [.ro kd c0 ks.length []] [] () = some (.ro .g true ks.length [], [], ()))
    (k3 : FnOK C n f (mkF ⟨[.k (.ro ks)], [(.sl 0 ks.length, [.row ks]), (.emp ks.length, [])]⟩ Gcl1)) : FnOK C n f (mkF ⟨[.k (.ro ks)], [(.sl 0 ks.length, [.row ks]), (.emp ks.length, [])]⟩ Gcl) := by
  intro args v hb h avs hv
  unfold mkF at h
  split at h
  case h_2 => cases h
  rename_i ds hds
  obtain ⟨hv1, -⟩ := fitsVs_sim _ [] hds hv
  rw [List.append_nil] at hv1
  rw [T.run_map, Option.map_eq_some_iff] at h
  obtain ⟨r, hr, he⟩ := h
  unfold Gcl at hr
  split at hr
  case h_2 => cases hr
  rename_i l
  obtain ⟨hp, hr⟩ := need_some hr
  rw [yes_iff] at hp
  rw [run_ite] at hr
  split at hr
  · rename_i hem
    simp only [run_leaf, Option.some.injEq] at hr
    subst hr
    simp only [headR, headR1, List.headD_cons, List.tail_cons, D.I, Prod.mk.injEq] at he
    obtain ⟨rfl, rfl⟩ := he
    simp only [headVs, headV, List.headD_cons, VRL] at hv1
    obtain ⟨a, _, rfl, ha, rfl⟩ := hv1
    have hl : l.L = [] := by simpa using hem
    simp only [dec, VR] at ha
    rcases ha with ⟨rfl, -⟩ | ⟨kd, c0, es, rfl, -, hes⟩
    · exact ⟨_, _, k1, by show VR (.emp ks.length) _; simp only [VR]; exact .inl trivial, rfl, fun i => by simp only [sget, hget, List.getElem?_nil]; trivial⟩
    · have : es = [] := by have := hes.1; rw [hl] at this; exact List.length_eq_zero_iff.1 this
      subst this
      exact ⟨_, _, k2 kd c0, by show VR (.emp ks.length) _; simp only [VR]; exact .inr trivial, rfl, fun i => by simp only [sget, hget, List.getElem?_nil]; trivial⟩
  · rename_i hem
    simp only [run_leaf, Option.some.injEq] at hr
    subst hr
    refine k3 args v hb ?_ avs hv
    unfold mkF
    rw [hds]
    simp only [T.run_map, Gcl1]
    rw [run_need, if_pos (yes_true ⟨fun h => hem (by rw [h]; rfl), hp⟩)]
    simp only [run_leaf, Option.map_some, Option.some.injEq]
    exact he
end Go.Lite

namespace Go.Lite

/-! ### Functions that are ranged over, and ranges over them -/
/-- What is yielded, by the shapes of its values and blocks. -/
def mkY (es : List SK) (bs : List BK) (give : Bool) : YS where
  fit args h := match fitsVs es args, fitsH bs h with
    | some x, some y => some (x ++ y)
    | _, _ => none
  head d := ((headVs es d).1, (headH bs (headVs es d).2).1)
  give := give
theorem yOK_mk (es : List SK) (bs : List BK) (give : Bool) : YOK (mkY es bs give) := by
  intro cargs ch d h ya yh hv hh
  simp only [mkY] at h ⊢
  split at h
  · rename_i x y hx hy
    cases h
    obtain ⟨h1, h2⟩ := fitsVs_sim es y hx hv
    obtain ⟨h3, h4⟩ := fitsH_sim bs [] hy hh
    rw [List.append_nil] at h3
    rw [h2]
    exact ⟨h1, h3⟩
  · cases h
structure SigI where
  args : List SK
  hin : List BK
def fnTY (C : Cfg) (tab : Tab) (f : FuncId) (s : SigI) (ds : List D) : T (List (List D)) := callSY C tab f (headVs s.args ds).1 (headH s.hin (headVs s.args ds).2).1
def mkFY (s : SigI) (G : List D → T (List (List D))) : List SV → SHeap → T (List (List D)) := fun args h => match fitsVs s.args args, fitsH s.hin h with
  | some x, some y => G (x ++ y)
  | _, _ => .fail
theorem iter_ok {C : Cfg} (hC : ∀ t Y, C.ty t = some Y → tyOf C.P t = some Y) {n : Nat} {f : FuncId} {Y : YS} {tab : Nat → Tab} (hy : ∀ q, (tab q).y = some Y ∧ (tab q).q = q) (hS : ∀ q, SpOK C (tab q) n) {fn : Func} {c : Code} (hfn : C.P.funcs[f]? = some fn) (hbody : fn.body = some c)
    {s : SigI} (hl : ∀ q, LoopsOKK C (tab q) n s.hin.length f c) {G : List D → T (List (List D))} (hG : ∀ ds L, (G ds).run = some L → ∀ q, (fnTY C (tab q) f s ds).run = some (L.take (q + 1))) : IterOK C (n + 1) f Y (mkFY s G) := by
  intro args h L hr avs h0 hv hh S H P q hc s0 hs0
  unfold mkFY at hr
  split at hr
  · rename_i x y hx hy'
    have hf := hG _ L hr q
    unfold fnTY at hf
    obtain ⟨h1, h2⟩ := fitsVs_sim s.args y hx hv
    obtain ⟨h3, h4⟩ := fitsH_sim s.hin [] hy' hh
    rw [List.append_nil] at h3
    rw [← h2] at h3
    exact iter_sim hC (hS q) hfn hbody (by rw [headH_length]; exact hl q) hf h1 h3 (by rw [(hy q).1, (hy q).2]; exact hc) hs0
  · cases hr

abbrev ItL := List (FuncId × (List SV → SHeap → T (List (List D))))
def itOf : ItL → FuncId → Option (List SV → SHeap → T (List (List D)))
  | [], _ => none
  | p :: ps, f => if p.1 = f then some p.2 else itOf ps f
def AllOKI (C : Cfg) (n : Nat) (Y : YS) : ItL → Prop
  | [] => True
  | p :: ps => IterOK C n p.1 Y p.2 ∧ AllOKI C n Y ps
theorem allOKI_get {C : Cfg} {n : Nat} {Y : YS} : ∀ {it : ItL}, AllOKI C n Y it → ∀ f F, itOf it f = some F → IterOK C n f Y F
  | [], _, f, F, h => by cases h
  | p :: ps, ho, f, F, h => by
    simp only [itOf] at h
    split at h
    · rename_i e
      cases h
      subst e
      exact ho.1
    · exact allOKI_get ho.2 f F h
/-- A range over a function: what is yielded, then what the rounds make of it. -/
def rangeS (k : Nat) (live : List Nat) (g : Operand) (it : ItL) (head : List Shp) (G : List (List D) → List D → T (Ex × List D)) : SSt → T (Ex × SSt) := fun σ0 => match σ0.log with
  | _ :: _ => .fail
  | [] => match evS (normS k live σ0).tmps g with
    | .fn (.func gf) a cp => (match reachS (sget (normS k live σ0).h) wide ((a ++ cp).flatMap (idsS deep)) [] with
      | ms => match itOf it gf, fitsA head (normS k live { tmps := (normS k live σ0).tmps, h := sups (normS k live σ0).h (ms.map fun i => (i, none)) }) with
        | some F, some ds => (F (a.map (mvS true false (pos ms) deep) ++ [.yl] ++ cp.map (mvS true false (pos ms) deep)) (ms.map fun i => (sget (normS k live σ0).h i).map (mvSB true false (pos ms)))).bind fun L => (G L ds).bind fun r => .leaf (r.1, headA head r.2)
        | _, _ => .fail)
    | _ => .fail
def setParamsS (ps : List Tmp) (vs : List SV) (ts : List SV) : List SV := (ps.zip vs).foldl (fun ts p => ts.set p.1 p.2) ts
def givenHS (at_ : Nat) (y h : SHeap) : SHeap := (List.range y.length).map fun i => (sget y i).bind fun _ => (sget h (at_ + i)).map (mvSB false false (givenIn y.length at_))
/-- Where a round begins. -/
def startR (ps : List Tmp) (σ : SSt) (y : List SV × SHeap) : SSt :=
  { tmps := setParamsS ps (y.1.map (mvS false false (roundIn y.2.length σ.h.length) deep)) σ.tmps, h := σ.h ++ (y.2.map fun b => b.map (mvSB false false (roundIn y.2.length σ.h.length))) }
/-- A round: its state, and (where blocks are given back) what was yielded. -/
def roundRT (C : Cfg) (tab : Tab) (f : FuncId) (r : Rg) (k kk : Nat) (live : List Nat) (head : List Shp) (Y : YS) (ds el : List D) : T (Rd × List D) :=
  if (Y.head el).1.length = r.2.1.size ∧ (headA head ds).h.length + (Y.head el).2.length = kk then
    (execS C tab f r.2.2.1 (startR r.2.1.toList (headA head ds) (Y.head el))).bind fun r1 => match r1.1 with
      | .normal => (execS C tab f r.2.2.2 r1.2).bind fun r2 => match r2.2.log with
        | [] => (match Y.give with
          | false => (match fitsA head (normS k live { tmps := (headA head ds).tmps, h := r2.2.h }) with
            | some ds' => (match r2.1 with
              | .normal => .leaf (.again ds', [])
              | .pan _ => .fail
              | e => .leaf (.out e ds', []))
            | none => .fail)
          | true => (match fitsA head (normS k live { tmps := (headA head ds).tmps, h := sups r2.2.h (((List.range (Y.head el).2.length).map ((headA head ds).h.length + ·)).map fun i => (i, none)) }), Y.fit (Y.head el).1 (givenHS (headA head ds).h.length (Y.head el).2 r2.2.h) with
            | some ds', some el' => (match r2.1 with
              | .normal => .leaf (.again ds', el')
              | .pan _ => .fail
              | e => .leaf (.out e ds', el'))
            | _, _ => .fail))
        | _ => .fail
      | _ => .fail
  else .fail
/-- What the rounds come to; E: data of the same state. -/
inductive FoldR (R : List D → List D → Option (Rd × List D)) (give : Bool) (E : List D → List D → Prop) : List D → List (List D) → Ex → List D → Prop
  | nil {ds r : List D} : E ds r → FoldR R give E ds [] .normal r
  | again {ds x ds' x' : List D} {xs : List (List D)} {e : Ex} {r : List D} : R ds x = some (.again ds', x') → (give = true → x' = x) → FoldR R give E ds' xs e r → FoldR R give E ds (x :: xs) e r
  | out {ds x x' : List D} {xs : List (List D)} {e : Ex} {r : List D} : R ds x = some (.out e r, x') → (give = true → x' = x) → e ≠ .normal → FoldR R give E ds (x :: xs) e r
theorem UR_kills (ms : List Nat) : UR (ms.map fun i => (i, none)) (ms.map fun i => (i, none)) := by
  induction ms with
  | nil => simp only [List.map_nil, UR]
  | cons m ms ih =>
    simp only [List.map_cons, UR]
    exact ⟨_, _, rfl, rfl, trivial, ih⟩
theorem HR.append {sh sh' : SHeap} {h h' : Heap} (H : HR sh h) (H' : HR sh' h') : HR (sh ++ sh') (h ++ h') := by
  refine ⟨by simp [H.1, H'.1], fun i => ?_⟩
  have h1 := H.2 i
  have h2 := H'.2 (i - sh.length)
  simp only [sget, hget, List.getElem?_append] at h1 h2 ⊢
  rw [← H.1]
  split
  · exact h1
  · exact h2
theorem HR.mapm {sh : SHeap} {h : Heap} (H : HR sh h) (ρ : Nat → Option Nat) {kb ky : Bool} : HR (sh.map fun b => b.map (mvSB kb ky ρ)) (h.map fun b => b.map (mvB kb ky ρ)) := by
  refine ⟨by simp [H.1], fun i => ?_⟩
  have h1 := H.2 i
  simp only [sget, hget, List.getElem?_map] at h1 ⊢
  cases e1 : sh[i]? with
  | none =>
    have : h[i]? = none := List.getElem?_eq_none_iff.2 (by have := List.getElem?_eq_none_iff.1 e1; have := H.1; omega)
    rw [this]
    trivial
  | some o =>
    cases e2 : h[i]? with
    | none => have h3 := List.getElem?_eq_none_iff.1 e2; have h4 := (List.getElem?_eq_some_iff.1 e1).1; have := H.1; omega
    | some o' =>
      rw [e1, e2] at h1
      exact OR.map h1 ρ
theorem HR.maps {f : Nat → Option SB} {g : Nat → Option Blk} (l : List Nat) (h : ∀ i ∈ l, OR (f i) (g i)) : HR (l.map f) (l.map g) := by
  refine ⟨by simp, fun i => ?_⟩
  simp only [sget, hget, List.getElem?_map]
  cases e : l[i]? with
  | none => trivial
  | some j => exact h j (List.mem_of_getElem? e)
theorem setParams_sim : ∀ (ps : List Tmp) {vs : List SV} {us : List AV} {ts : List SV} {as : List AV}, VRL vs us → VRL ts as → VRL (setParamsS ps vs ts) (setParams ps us as)
  | [], vs, us, ts, as, _, h => by simpa [setParamsS, setParams] using h
  | p :: ps, [], us, ts, as, hv, h => by simp only [VRL] at hv; subst hv; simpa [setParamsS, setParams] using h
  | p :: ps, v :: vs, us, ts, as, hv, h => by
    simp only [VRL] at hv
    obtain ⟨u, us', rfl, h1, h2⟩ := hv
    simp only [setParamsS, setParams, List.zip_cons_cons, List.foldl_cons]
    exact setParams_sim ps h2 (VRL_set p h h1)
def codeB : Ex → Bool
  | .normal => true
  | _ => false
def pendB : Ex → Option Ex
  | .normal => none
  | e => some e
section
variable {C : Cfg} (hC : ∀ t Y, C.ty t = some Y → tyOf C.P t = some Y) {tab : Tab} {n : Nat} (hS : SpOK C tab n) {f : FuncId} {r : Rg} {k kk : Nat} {live : List Nat} {head : List Shp} {Y : YS}
  (hYok : YOK Y) (hla : LoopsOKK C tab n kk f r.2.2.1) (hlb : LoopsOKK C tab n kk f r.2.2.2)
include hC hS hYok hla hlb
omit hC hS hYok hla hlb in
theorem roundRT_np {ds el x' : List D} {e : Ex} {rr : List D} (h : (roundRT C tab f r k kk live head Y ds el).run = some (.out e rr, x')) : noPanE e = true := by
  cases e with
  | pan t =>
    unfold roundRT at h
    split at h
    case isFalse => cases h
    rw [T.run_bind, Option.bind_eq_some_iff] at h
    obtain ⟨⟨e1, σ1⟩, h1, h⟩ := h
    cases e1 <;> simp only at h <;> try (cases h; done)
    rw [T.run_bind, Option.bind_eq_some_iff] at h
    obtain ⟨⟨e2, σ2⟩, h2, h⟩ := h
    repeat' (split at h)
    all_goals first
      | (cases h; done)
      | (simp only [T.run, Option.some.injEq, Prod.mk.injEq, Rd.out.injEq] at h; obtain ⟨⟨rfl, -⟩, -⟩ := h; rename_i hne _ _; exact absurd rfl (hne t))
      | (simp only [T.run, Option.some.injEq, Prod.mk.injEq, Rd.out.injEq] at h; obtain ⟨⟨rfl, -⟩, -⟩ := h; simp_all)
  | _ => rfl
/-- A round does what was reckoned. -/
theorem round_sim {ds el x' : List D} {o : Rd} (hR : (roundRT C tab f r k kk live head Y ds el).run = some (o, x')) (hx : Y.give = true → x' = el) {τ : St} (hτ : SSR (headA head ds) τ) {ya : List AV} {yh : Heap} (hya : VRL (Y.head el).1 ya) (hyh : HR (Y.head el).2 yh)
    {S : Type} (H : Option (Hd S)) (s : S) : ∃ nh e τ', roundH r.2.1 (norm k live) Y.give (fun kk => execA C (callA C n) f kk H r.2.2.1) (fun kk => execA C (callA C n) f kk H r.2.2.2) ya yh (τ, none, s) = some (.bool (codeB e), nh, (τ', pendB e, s)) ∧ noPanE e = true ∧
      (Y.give = true → HR (Y.head el).2 nh) ∧ (Y.give = false → ∀ i, hget nh i = none) ∧ ∃ ds', SSR (headA head ds') τ' ∧ o = (if codeB e then .again ds' else .out e ds') := by
  unfold roundRT at hR
  split at hR
  case isFalse => cases hR
  rename_i hc
  obtain ⟨hps, hkk⟩ := hc
  have hl1 : ya.length = r.2.1.size := (VRL_length hya).symm.trans hps
  have hl2 := hτ.2.1
  have hl3 := hyh.1
  simp only [T.run_bind, Option.bind_eq_some_iff] at hR
  obtain ⟨⟨e1, σ1⟩, h1, hR⟩ := hR
  cases e1 with
  | exit id => cases hR
  | ret => cases hR
  | pan t => cases hR
  | normal =>
  simp only [T.run_bind, Option.bind_eq_some_iff] at hR
  obtain ⟨⟨e2, σ2⟩, h2, hR⟩ := hR
  have hlog2 : σ2.log = [] := by
    cases hg : σ2.log with
    | nil => rfl
    | cons a l => simp only [hg] at hR; cases hR
  have hlog1 : σ1.log = [] := by
    have := exec_log r.2.2.2 hlb h2
    rw [hlog2] at this
    exact List.prefix_nil.1 this
  obtain ⟨τ1, s1, h3, rfl, h4⟩ := exec_sim hC hS hS.2.2 (H := H) (P := fun _ x => x = s) (Lg := []) ConsOK.nil r.2.2.1 hla (s := s) h1 (by rw [hlog1]; exact List.prefix_refl _)
    (τ := { tmps := setParams r.2.1.toList (ya.map (mv false false (roundIn yh.length τ.h.length) deep)) τ.tmps, h := τ.h ++ yh.map fun b => b.map (mvB false false (roundIn yh.length τ.h.length)) })
    ⟨by
      unfold startR
      rw [hl2, hl3]
      exact setParams_sim _ (VRL_map (mv_sim false false _ deep) hya) hτ.1, by
      unfold startR
      rw [hl2, hl3]
      exact hτ.2.append (hyh.mapm _)⟩ rfl
  obtain ⟨τ2, s2, h5, hs2, h6⟩ := exec_sim hC hS hS.2.2 (H := H) (P := fun _ x => x = s1) (Lg := []) ConsOK.nil r.2.2.2 hlb (s := s1) h2 (by rw [hlog2]; exact List.prefix_refl _) h4 rfl
  have hs2 : s2 = s1 := hs2
  subst hs2
  have hkk2 : τ.h.length + yh.length = kk := by rw [← hl2, ← hl3]; exact hkk
  simp only [hlog2] at hR
  cases hg : Y.give with
  | false =>
    rw [hg] at hR
    simp only at hR
    split at hR
    case h_2 => cases hR
    rename_i ds' hfit
    have hfs := fitsA_sim hfit (norm_sim (k := k) (live := live) (σ := { tmps := (headA head ds).tmps, h := σ2.h }) (τ := { tmps := τ.tmps, h := τ2.h }) ⟨hτ.1, h6.2⟩)
    have hnp : noPanE e2 = true := by cases e2 <;> first | rfl | cases hR
    refine ⟨List.replicate yh.length none, e2, norm k live { tmps := τ.tmps, h := τ2.h }, ?_, hnp, (fun h => by cases h), fun _ i => ?_, ds', hfs, ?_⟩
    · simp only [roundH, hl1, if_true, hkk2, h3, h5]
      cases e2 <;> first | rfl | cases hnp
    · unfold hget
      rw [List.getElem?_replicate]
      split <;> rfl
    · cases e2 <;> first | (cases hnp; done) | (simp only [T.run, Option.some.injEq, Prod.mk.injEq] at hR; exact hR.1.symm)
  | true =>
    rw [hg] at hR
    simp only at hR
    split at hR
    case h_2 => cases hR
    rename_i ds' el' hfit hfit2
    have hfs := fitsA_sim hfit (norm_sim (k := k) (live := live) (σ := { tmps := (headA head ds).tmps, h := sups σ2.h (((List.range (Y.head el).2.length).map ((headA head ds).h.length + ·)).map fun i => (i, none)) })
      (τ := { tmps := τ.tmps, h := hups τ2.h (((List.range yh.length).map (τ.h.length + ·)).map fun i => (i, none)) }) ⟨hτ.1, by
        show HR (sups _ _) (hups _ _)
        rw [hl2, hl3]
        exact HR.ups h6.2 (UR_kills _)⟩)
    have hel : el' = el := by
      have : x' = el' := by cases e2 <;> first | (cases hR; done) | (simp only [T.run, Option.some.injEq, Prod.mk.injEq] at hR; exact hR.2.symm)
      rw [← this]
      exact hx hg
    subst hel
    have hnp : noPanE e2 = true := by cases e2 <;> first | rfl | cases hR
    refine ⟨givenH τ.h.length yh τ2.h, e2, norm k live { tmps := τ.tmps, h := hups τ2.h (((List.range yh.length).map (τ.h.length + ·)).map fun i => (i, none)) }, ?_, hnp, fun _ => ?_, (fun h => by cases h), ds', hfs, ?_⟩
    · simp only [roundH, hl1, if_true, hkk2, h3, h5]
      cases e2 <;> first | rfl | cases hnp
    · refine (hYok _ _ _ hfit2 ya _ hya ?_).2
      unfold givenHS givenH
      rw [hl2, hl3]
      refine HR.maps _ fun i _ => ?_
      have h7 := hyh.2 i
      have h8 := h6.2.2 (τ.h.length + i)
      cases e1 : sget (Y.head el').2 i with
      | none => rw [e1] at h7; rw [OR_none h7]; trivial
      | some b =>
        rw [e1] at h7
        obtain ⟨B, hB, -⟩ := OR_some h7
        rw [hB]
        exact OR.map h8 _
    · cases e2 <;> first | (cases hnp; done) | (simp only [T.run, Option.some.injEq, Prod.mk.injEq] at hR; exact hR.1.symm)
omit hC hS hYok hla hlb in
/-- The states of a range over a function, step by step. -/
theorem fold_sim {S : Type} {Hf : Hd (St × Option Ex × S)} {s : S} {R : List D → List D → Option (Rd × List D)} {give : Bool}
    (hround : ∀ ds el x' o, R ds el = some (o, x') → (give = true → x' = el) → ∀ τ, SSR (headA head ds) τ → ∀ ya yh, VRL (Y.head el).1 ya → HR (Y.head el).2 yh → ∃ nh e τ', Hf ya yh (τ, none, s) = some (.bool (codeB e), nh, (τ', pendB e, s)) ∧ noPanE e = true ∧
      (Y.give = true → HR (Y.head el).2 nh) ∧ (Y.give = false → ∀ i, hget nh i = none) ∧ ∃ ds', SSR (headA head ds') τ' ∧ o = (if codeB e then .again ds' else .out e ds'))
    (hnpo : ∀ {ds el x' e r}, R ds el = some (.out e r, x') → noPanE e = true) {ds : List D} {L : List (List D)} {e : Ex} {rr : List D} (hF : FoldR R give (fun a b => headA head a = headA head b) ds L e rr) :
    ∃ (q : Nat) (Q : Nat → (St × Option Ex × S) → Prop), (∀ τ, SSR (headA head ds) τ → Q 0 (τ, none, s)) ∧ ConsOK (some Y) q (some Hf) Q (L.take (q + 1)) ∧ noPanE e = true ∧ ∀ x, Q (L.take (q + 1)).length x → ∃ τ', x = (τ', pendB e, s) ∧ SSR (headA head rr) τ' := by
  induction hF with
  | @nil ds r hE => exact ⟨0, fun _ x => ∃ τ', x = (τ', none, s) ∧ SSR (headA head r) τ', fun τ h => ⟨τ, rfl, by rw [← hE]; exact h⟩, by rw [List.take_nil]; exact fun j d h => by simp at h, rfl, fun x h => h⟩
  | @again ds x ds' x' xs e r hR hg _ ih =>
    obtain ⟨q, Q, q1, q2, qp, q3⟩ := ih
    refine ⟨q + 1, fun j y => match j with
      | 0 => ∃ τ, y = (τ, none, s) ∧ SSR (headA head ds) τ
      | j + 1 => Q j y, fun τ h => ⟨τ, rfl, h⟩, fun j d hj Y0 hY0 => ⟨Hf, rfl, fun s0 hs0 ya yh hya hyh => ?_⟩, qp, fun y hy => ?_⟩
    · cases hY0
      cases j with
      | zero =>
        simp only [List.take_succ_cons, List.getElem?_cons_zero, Option.some.injEq] at hj
        subst hj
        obtain ⟨τ, rfl, hτ⟩ := hs0
        obtain ⟨nh, e1, τ', h1, hnp, h2, h3, ds1, h4, h5⟩ := hround _ _ _ _ hR hg τ hτ ya yh hya hyh
        cases e1 with
        | normal =>
          simp only [codeB, if_true, Rd.again.injEq] at h5
          subst h5
          exact ⟨nh, _, h1, q1 τ' h4, h2, h3⟩
        | exit id => simp [codeB] at h5
        | ret => simp [codeB] at h5
        | pan t => cases hnp
      | succ j =>
        simp only [List.take_succ_cons, List.getElem?_cons_succ] at hj
        obtain ⟨Hf', e1, h1⟩ := q2 j d hj Y rfl
        cases e1
        obtain ⟨nh, s', h2, h3, h4⟩ := h1 s0 hs0 ya yh hya hyh
        exact ⟨nh, s', by rw [h2]; simp, h3, h4⟩
    · simp only [List.take_succ_cons, List.length_cons] at hy
      exact q3 y hy
  | @out ds x x' xs e r hR hg hne =>
    have hnpe : noPanE e = true := hnpo hR
    refine ⟨0, fun j y => match j with
      | 0 => ∃ τ, y = (τ, none, s) ∧ SSR (headA head ds) τ
      | j + 1 => ∃ τ', y = (τ', pendB e, s) ∧ SSR (headA head r) τ', fun τ h => ⟨τ, rfl, h⟩, fun j d hj Y0 hY0 => ⟨Hf, rfl, fun s0 hs0 ya yh hya hyh => ?_⟩, hnpe, fun y hy => ?_⟩
    · cases hY0
      cases j with
      | zero =>
        simp only [List.take_succ_cons, List.getElem?_cons_zero, Option.some.injEq] at hj
        subst hj
        obtain ⟨τ, rfl, hτ⟩ := hs0
        obtain ⟨nh, e1, τ', h1, hnp, h2, h3, ds1, h4, h5⟩ := hround _ _ _ _ hR hg τ hτ ya yh hya hyh
        cases e1 with
        | normal => simp [codeB] at h5
        | exit id =>
          simp only [codeB, Bool.false_eq_true, if_false, Rd.out.injEq] at h5
          obtain ⟨rfl, rfl⟩ := h5
          exact ⟨nh, _, h1, ⟨τ', rfl, h4⟩, h2, h3⟩
        | ret =>
          simp only [codeB, Bool.false_eq_true, if_false, Rd.out.injEq] at h5
          obtain ⟨rfl, rfl⟩ := h5
          exact ⟨nh, _, h1, ⟨τ', rfl, h4⟩, h2, h3⟩
        | pan t => cases hnp
      | succ j => simp at hj
    · simpa using hy
theorem rangeS_ok (hann : C.ann f (keyOf r.2.2.2) = some live) (hgive : C.give f (keyOf r.2.2.2) = Y.give) {it : ItL} (hIt : AllOKI C n Y it) {G : List (List D) → List D → T (Ex × List D)}
    (hG : ∀ L ds rr, (G L ds).run = some rr → FoldR (fun ds el => (roundRT C tab f r k kk live head Y ds el).run) Y.give (fun a b => headA head a = headA head b) ds L rr.1 rr.2) : CodeSim C n k f r.code tab.y tab.q (rangeS k live r.1 it head G) := by
  intro σ e σ' h
  unfold rangeS at h
  split at h
  · cases h
  rename_i hlog
  split at h
  case h_2 => cases h
  rename_i gf a cp hev
  generalize hms : reachS (sget (normS k live σ).h) wide ((a ++ cp).flatMap (idsS deep)) [] = ms at h
  dsimp only at h
  split at h
  case h_2 => cases h
  rename_i F ds hF hfit
  rw [T.run_bind, Option.bind_eq_some_iff] at h
  obtain ⟨L, hL, h⟩ := h
  rw [T.run_bind, Option.bind_eq_some_iff] at h
  obtain ⟨rr, hr0, h⟩ := h
  cases h
  refine ⟨by rw [hlog]; exact List.nil_prefix, ?_⟩
  intro τ hr S H P Lg _ _ s hs
  have hgc : gcOf C k f r.2.2.2 = norm k live := by unfold gcOf; rw [hann]
  have h1 : SSR (normS k live σ) (norm k live τ) := norm_sim hr
  have hv := evS_sim h1.1 r.1
  rw [hev] at hv
  simp only [VR] at hv
  obtain ⟨a', c', hv, ha, hcp⟩ := hv
  have hreach : reach (hget (norm k live τ).h) wide ((a' ++ c').flatMap (ids deep)) [] = ms := by
    rw [← hms, ids_eqs (VRL_append ha hcp)]
    exact reach_eq h1.2.2 _ _ _
  have h2 := fitsA_sim hfit (norm_sim (k := k) (live := live) (τ := { tmps := (norm k live τ).tmps, h := hups (norm k live τ).h (ms.map fun i => (i, none)) }) ⟨h1.1, HR.ups h1.2 (UR_kills ms)⟩)
  have hargs : VRL (a.map (mvS true false (pos ms) deep) ++ [.yl] ++ cp.map (mvS true false (pos ms) deep)) (a'.map (mv true false (pos ms) deep) ++ [.yl] ++ c'.map (mv true false (pos ms) deep)) :=
    VRL_append (VRL_append (VRL_map (mv_sim true false _ deep) ha) (VRL_cons (by simp only [VR]) VRL_nil)) (VRL_map (mv_sim true false _ deep) hcp)
  have hheap : HR (ms.map fun i => (sget (normS k live σ).h i).map (mvSB true false (pos ms))) (ms.map fun i => (hget (norm k live τ).h i).map (mvB true false (pos ms))) := HR.maps _ fun i _ => OR.map (h1.2.2 i) _
  obtain ⟨q, Q, q1, q2, qp, q3⟩ := fold_sim (head := head) (Y := Y) (s := s) (Hf := roundH r.2.1 (norm k live) Y.give (fun kk => execA C (callA C n) f kk H r.2.2.1) (fun kk => execA C (callA C n) f kk H r.2.2.2))
    (fun ds el x' o hR hx τ hτ ya yh hya hyh => round_sim hC hS hYok hla hlb hR hx hτ hya hyh H s) (fun hR => roundRT_np hR) (hG L ds rr hr0)
  obtain ⟨v', h', s', hcall, hvp, hQ⟩ := allOKI_get hIt gf F hF _ _ L hL _ _ hargs hheap _ _ Q q q2 _ (q1 _ h2)
  obtain ⟨τ', rfl, hτ'⟩ := q3 _ hQ
  refine ⟨τ', s, ?_, by rw [headA_log]; rw [hlog] at hs; exact hs, hτ'⟩
  unfold Rg.code
  simp only [execA, hgc, hgive, hv, hreach, hcall, hvp]
  cases he : rr.1 with
  | pan t => rw [he] at qp; cases qp
  | _ => rfl
end

/-! ### Putting together -/
section
variable {C : Cfg} (hC : ∀ t Y, C.ty t = some Y → tyOf C.P t = some Y) {sp : SpL} {sw : SwL} {n : Nat} {f : FuncId}
include hC
/-- A function that is ranged over. -/
theorem iter_of {lp : Nat → LpL} {Y : YS} (hY : YOK Y) (hsp : AllOK C n sp) (hsw : AllOKW C n sw) (hf : hasBody C.P f = true) (keys : List Nat) (h1 : loopsIn (bodyAt C.P f) = keys.map (loopOf C.P f)) (h2 : keys.map (fun k => keyOf (loopOf C.P f k)) = keys) (h3 : rangesIn (bodyAt C.P f) = []) {s : SigI}
    (hl : ∀ q, ∀ k ∈ keys, ∀ L, lpOf (lp q) k = some L → LoopSimY C n s.hin.length f (loopOf C.P f k) (some Y) q L) {G : List D → T (List (List D))}
    (hG : ∀ ds L, (G ds).run = some L → ∀ q, (fnTY C (mkTabY sp (lp q) sw Y q) f s ds).run = some (L.take (q + 1))) : IterOK C (n + 1) f Y (mkFY s G) := by
  obtain ⟨fn, h4, h5⟩ := hasBody_spec hf
  exact iter_ok hC (tab := fun q => mkTabY sp (lp q) sw Y q) (fun q => ⟨rfl, rfl⟩) (fun q => spOK_ofY hsp hsw hY) h4 h5 (fun q => loops_ofG (lp := lp q) (rg := []) rfl (by funext k; rfl) keys [] h1 h2 (hl q) h3 rfl (fun k hk => by cases hk)) hG
/-- A loop of a function that is ranged over. -/
theorem loop_ofY {lp : LpL} {Y : YS} {q : Nat} (hY : YOK Y) (hsp : AllOK C n sp) (hsw : AllOKW C n sw) (m : Nat) {b : Code} (keys : List Nat) (h1 : loopsIn b = keys.map (loopOf C.P f)) (h2 : keys.map (fun k => keyOf (loopOf C.P f k)) = keys) (h3 : rangesIn b = [])
    (hl : ∀ k ∈ keys, ∀ L, lpOf lp k = some L → LoopSimY C n m f (loopOf C.P f k) (some Y) q L) {s : LSig} (hlv : liveB C f b s = true) {G : List D → T (Ex × List D)} (μ : List D → Nat)
    (round : ∀ ds r, (G ds).run = some r → μ ds < C.fuel ∧ ∃ o, (roundTY C (mkTabY sp lp sw Y q) f b m s ds).run = some o ∧ ((∃ ds', o = .again ds' ∧ (G ds').run = some r ∧ μ ds' < μ ds) ∨ o = .out r.1 r.2)) : LoopSimY C n m f b (some Y) q (mkLY m s G) :=
  loop_okG hC true (tab := mkTabY sp lp sw Y q) (spOK_ofY hsp hsw hY) (loops_ofG (lp := lp) (rg := []) rfl (by funext k; rfl) keys [] h1 h2 hl h3 rfl (fun k hk => by cases hk)) (live_of hlv) μ round
/-- Functions, loops and rounds with ranges over functions. -/
theorem fn_ofR {lp rg : LpL} (hsp : AllOK C n sp) (hsw : AllOKW C n sw) (hf : hasBody C.P f = true) (keys rkeys : List Nat) (h1 : loopsIn (bodyAt C.P f) = keys.map (loopOf C.P f)) (h2 : keys.map (fun k => keyOf (loopOf C.P f k)) = keys)
    (h3 : rangesIn (bodyAt C.P f) = rkeys.map (rangeOf C.P f)) (h4 : rkeys.map (fun k => keyOf (rangeOf C.P f k).2.2.2) = rkeys)
    (hl : ∀ k ∈ keys, ∀ L, lpOf lp k = some L → LoopSim C n f (loopOf C.P f k) L) (hr : ∀ k ∈ rkeys, ∀ L, lpOf rg k = some L → CodeSim C n 0 f (rangeOf C.P f k).code none 0 L) {s : Sig} {G : List D → T (List D)}
    (hG : ∀ ds r, (G ds).run = some r → (fnT C (mkTabR sp lp sw rg) f s ds).run = some r) : FnOK C (n + 1) f (mkF s G) := by
  obtain ⟨fn, h5, h6⟩ := hasBody_spec hf
  exact fn_ok hC (spOK_ofR hsp hsw) h5 h6 (loops_ofG (lp := lp) (rg := rg) rfl rfl keys rkeys h1 h2 hl h3 h4 hr) hG
theorem fn_ofRW {lp rg : LpL} (hsp : AllOK C n sp) (hsw : AllOKW C n sw) (hf : hasBody C.P f = true) (keys rkeys : List Nat) (h1 : loopsIn (bodyAt C.P f) = keys.map (loopOf C.P f)) (h2 : keys.map (fun k => keyOf (loopOf C.P f k)) = keys)
    (h3 : rangesIn (bodyAt C.P f) = rkeys.map (rangeOf C.P f)) (h4 : rkeys.map (fun k => keyOf (rangeOf C.P f k).2.2.2) = rkeys) {s : SigW}
    (hl : ∀ k ∈ keys, ∀ L, lpOf lp k = some L → LoopSimK C n s.hin.length f (loopOf C.P f k) L) (hr : ∀ k ∈ rkeys, ∀ L, lpOf rg k = some L → CodeSim C n s.hin.length f (rangeOf C.P f k).code none 0 L) {G : List D → T (List D)}
    (hG : ∀ ds r, (G ds).run = some r → (fnTW C (mkTabR sp lp sw rg) f s ds).run = some r) : FnOKW C (n + 1) f (mkFW s G) := by
  obtain ⟨fn, h5, h6⟩ := hasBody_spec hf
  exact fn_okW hC (spOK_ofR hsp hsw) h5 h6 (loops_ofG (lp := lp) (rg := rg) rfl rfl keys rkeys h1 h2 hl h3 h4 hr) hG
theorem loop_ofR {lp rg : LpL} (hsp : AllOK C n sp) (hsw : AllOKW C n sw) (m : Nat) {b : Code} (keys rkeys : List Nat) (h1 : loopsIn b = keys.map (loopOf C.P f)) (h2 : keys.map (fun k => keyOf (loopOf C.P f k)) = keys)
    (h3 : rangesIn b = rkeys.map (rangeOf C.P f)) (h4 : rkeys.map (fun k => keyOf (rangeOf C.P f k).2.2.2) = rkeys)
    (hl : ∀ k ∈ keys, ∀ L, lpOf lp k = some L → LoopSimK C n m f (loopOf C.P f k) L) (hr : ∀ k ∈ rkeys, ∀ L, lpOf rg k = some L → CodeSim C n m f (rangeOf C.P f k).code none 0 L) {s : LSig} (hlv : liveB C f b s = true) {G : List D → T (Ex × List D)} (μ : List D → Nat)
    (round : ∀ ds r, (G ds).run = some r → μ ds < C.fuel ∧ ∃ o, (roundTK C (mkTabR sp lp sw rg) f b m s ds).run = some o ∧ ((∃ ds', o = .again ds' ∧ (G ds').run = some r ∧ μ ds' < μ ds) ∨ o = .out r.1 r.2)) : LoopSimK C n m f b (mkLK m s G) :=
  loop_okK hC (tab := mkTabR sp lp sw rg) (spOK_ofR hsp hsw) (loops_ofG (lp := lp) (rg := rg) rfl rfl keys rkeys h1 h2 hl h3 h4 hr) (live_of hlv) μ round
/-- A range over a function. -/
theorem range_of {lp rg : LpL} {Y : YS} (hY : YOK Y) (hsp : AllOK C n sp) (hsw : AllOKW C n sw) (k m kk : Nat) (keys : List Nat) (h1 : loopsIn (rangeOf C.P f k).2.2.2 = keys.map (loopOf C.P f)) (h2 : keys.map (fun k => keyOf (loopOf C.P f k)) = keys)
    (h3 : rangesIn (rangeOf C.P f k).2.2.2 = []) (h4 : (loopsIn (rangeOf C.P f k).2.2.1).isEmpty = true ∧ rangesIn (rangeOf C.P f k).2.2.1 = []) (hl : ∀ k ∈ keys, ∀ L, lpOf lp k = some L → LoopSimK C n kk f (loopOf C.P f k) L)
    {live : List Nat} (hann : C.ann f (keyOf (rangeOf C.P f k).2.2.2) = some live) (hgive : C.give f (keyOf (rangeOf C.P f k).2.2.2) = Y.give) {it : ItL} (hIt : AllOKI C n Y it) {head : List Shp} {G : List (List D) → List D → T (Ex × List D)}
    (hG : ∀ L ds rr, (G L ds).run = some rr → FoldR (fun ds el => (roundRT C (mkTabR sp lp sw rg) f (rangeOf C.P f k) m kk live head Y ds el).run) Y.give (fun a b => headA head a = headA head b) ds L rr.1 rr.2) : CodeSim C n m f (rangeOf C.P f k).code none 0 (rangeS m live (rangeOf C.P f k).1 it head G) :=
  rangeS_ok hC (tab := mkTabR sp lp sw rg) (spOK_ofR hsp hsw) hY (loops_ofG (lp := lp) (rg := rg) rfl rfl [] [] (List.isEmpty_iff.1 h4.1) rfl (fun k hk => by cases hk) h4.2 rfl (fun k hk => by cases hk))
    (loops_ofG (lp := lp) (rg := rg) rfl rfl keys [] h1 h2 hl h3 rfl (fun k hk => by cases hk)) hann hgive hIt hG
end
end Go.Lite
