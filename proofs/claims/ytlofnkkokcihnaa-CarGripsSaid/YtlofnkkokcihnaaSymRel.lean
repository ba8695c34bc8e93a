import Derived.Test.YtlofnkkokcihnaaSymDef
namespace Go.Lite

theorem T.run_bind {α β : Type} (t : T α) (f : α → T β) : (t.bind f).run = t.run.bind fun a => (f a).run := by
  induction t with
  | leaf a => rfl
  | ite c t e ih1 ih2 => simp only [T.bind, T.run, ih1, ih2]; split <;> rfl
  | need c t ih => simp only [T.bind, T.run, ih]; split <;> rfl
  | fail => rfl
theorem T.run_ofO {α : Type} (o : Option α) : (T.ofO o).run = o := by cases o <;> rfl
theorem T.run_map {α β : Type} (f : α → β) (t : T α) : (t.map f).run = t.run.map f := by
  unfold T.map; rw [T.run_bind]; cases t.run <;> rfl
theorem T.run_needs {α : Type} : ∀ (l : List Bool) (t : T α) (a : α), (T.needs l t).run = some a → (∀ c ∈ l, c = true) ∧ t.run = some a
  | [], t, a, h => ⟨fun c hc => by simp at hc, h⟩
  | c :: cs, t, a, h => by
    simp only [T.needs, T.run] at h
    split at h
    · rename_i hc
      obtain ⟨h1, h2⟩ := T.run_needs cs t a h
      exact ⟨fun d hd => (List.mem_cons.1 hd).elim (fun e => e ▸ hc) (h1 d), h2⟩
    · cases h

/-! ### What symbolic values say -/
def noIds (v : AV) : Prop := ∀ f, ids f v = []
mutual
def EncV : K → D → AV → Prop
  | .int k, d, v => v = .int k d.I
  | .bool, d, v => v = .bool d.B
  | .ro ks, d, v => (v = .nils ∧ d.L = []) ∨ ∃ kd c0 es, v = .ro kd c0 ks.length es ∧ es.length = d.L.length ∧ ∀ (i : Nat) (e : List AV) (c : List D), es[i]? = some e → d.L[i]? = some c → EncC ks c 0 e
def EncC : List K → List D → Nat → List AV → Prop
  | [], _, _, vs => vs = []
  | k :: ks, c, j, vs => ∃ v vs', vs = v :: vs' ∧ EncV k (c.getD j default) v ∧ EncC ks c (j + 1) vs'
end
def EncE (ks : List K) (l : List (List D)) (es : List (List AV)) : Prop := es.length = l.length ∧ ∀ (i : Nat) (e : List AV) (c : List D), es[i]? = some e → l[i]? = some c → EncC ks c 0 e

mutual
def VR : SV → AV → Prop
  | .any, v => noIds v
  | .und, v => v = .und
  | .int k n, v => v = .int k n
  | .bool b, v => v = .bool b
  | .kb b, v => v = .bool b
  | .agg cs, v => ∃ vs, v = .agg vs ∧ VRL cs vs
  | .tup cs, v => ∃ vs, v = .tup vs ∧ VRL cs vs
  | .nilp, v => v = .nilp
  | .ptr i s k j, v => v = .ptr i s k j
  | .eptr cs, v => ∃ kd vs, v = .eptr kd vs ∧ VRL cs vs
  | .nils, v => v = .nils
  | .ro c0 ks l, v => (v = .nils ∧ l = []) ∨ ∃ kd c0' es, v = .ro kd c0' ks.length es ∧ (c0 = true → c0' = true) ∧ EncE ks l es
  | .sl i s n, v => ∃ cap, v = .sl i s 0 n cap
  | .nilf, v => v = .nilf
  | .fn f a c, v => ∃ a' c', v = .fn f a' c' ∧ VRL a a' ∧ VRL c c'
  | .nili, v => v = .nili
  | .ifc t x, v => ∃ u, v = .ifc t u ∧ VR x u
def VRL : List SV → List AV → Prop
  | [], vs => vs = []
  | c :: cs, vs => ∃ v vs', vs = v :: vs' ∧ VR c v ∧ VRL cs vs'
end

theorem VRL_length : ∀ {cs : List SV} {vs : List AV}, VRL cs vs → cs.length = vs.length
  | [], _, h => by simp only [VRL] at h; subst h; rfl
  | c :: cs, _, h => by
    simp only [VRL] at h
    obtain ⟨v, vs', rfl, _, h2⟩ := h
    simp [VRL_length h2]
theorem VRL_get : ∀ {cs : List SV} {vs : List AV} {i : Nat} {c : SV}, VRL cs vs → cs[i]? = some c → ∃ v, vs[i]? = some v ∧ VR c v
  | [], _, _, _, _, e => by simp at e
  | c :: cs, _, i, c', h, e => by
    simp only [VRL] at h
    obtain ⟨v, vs', rfl, h1, h2⟩ := h
    cases i with
    | zero => simp at e; subst e; exact ⟨v, rfl, h1⟩
    | succ i => simp at e; obtain ⟨v', h3, h4⟩ := VRL_get h2 e; exact ⟨v', by simpa using h3, h4⟩
theorem VRL_getR {cs : List SV} {vs : List AV} {i : Nat} {v : AV} (h : VRL cs vs) (e : vs[i]? = some v) : ∃ c, cs[i]? = some c ∧ VR c v := by
  have hi : i < cs.length := by rw [VRL_length h]; exact (List.getElem?_eq_some_iff.1 e).1
  obtain ⟨v', h1, h2⟩ := VRL_get h (List.getElem?_eq_getElem hi)
  rw [e] at h1; cases h1
  exact ⟨_, List.getElem?_eq_getElem hi, h2⟩
theorem VRL_none {cs : List SV} {vs : List AV} {i : Nat} (h : VRL cs vs) (e : cs[i]? = none) : vs[i]? = none := by
  rw [List.getElem?_eq_none_iff] at e ⊢; rw [← VRL_length h]; exact e
theorem VRL_cons {c : SV} {v : AV} {cs : List SV} {vs : List AV} (h1 : VR c v) (h2 : VRL cs vs) : VRL (c :: cs) (v :: vs) := by
  simp only [VRL]; exact ⟨v, vs, rfl, h1, h2⟩
theorem VRL_nil : VRL [] [] := by simp only [VRL]
theorem VRL_append : ∀ {cs ds : List SV} {vs us : List AV}, VRL cs vs → VRL ds us → VRL (cs ++ ds) (vs ++ us)
  | [], _, _, _, h, h' => by simp only [VRL] at h; subst h; exact h'
  | c :: cs, _, _, _, h, h' => by
    simp only [VRL] at h
    obtain ⟨v, vs', rfl, h1, h2⟩ := h
    exact VRL_cons h1 (VRL_append h2 h')
theorem VRL_take : ∀ {cs : List SV} {vs : List AV} (n : Nat), VRL cs vs → VRL (cs.take n) (vs.take n)
  | [], _, n, h => by simp only [VRL] at h; subst h; simp [VRL]
  | c :: cs, _, n, h => by
    simp only [VRL] at h
    obtain ⟨v, vs', rfl, h1, h2⟩ := h
    cases n with
    | zero => exact VRL_nil
    | succ n => exact VRL_cons h1 (VRL_take n h2)
theorem VRL_drop : ∀ {cs : List SV} {vs : List AV} (n : Nat), VRL cs vs → VRL (cs.drop n) (vs.drop n)
  | [], _, n, h => by simp only [VRL] at h; subst h; simp [VRL]
  | c :: cs, _, n, h => by
    have h' := h
    simp only [VRL] at h
    obtain ⟨v, vs', rfl, h1, h2⟩ := h
    cases n with
    | zero => exact h'
    | succ n => simpa using VRL_drop n h2
theorem VRL_set : ∀ {cs : List SV} {vs : List AV} (n : Nat) {c : SV} {v : AV}, VRL cs vs → VR c v → VRL (cs.set n c) (vs.set n v)
  | [], _, n, _, _, h, _ => by simp only [VRL] at h; subst h; simp [VRL]
  | c :: cs, _, n, _, _, h, hv => by
    simp only [VRL] at h
    obtain ⟨v, vs', rfl, h1, h2⟩ := h
    cases n with
    | zero => exact VRL_cons hv h2
    | succ n => exact VRL_cons h1 (VRL_set n h2 hv)
theorem VRL_setL : ∀ {cs : List SV} {vs : List AV} (n : Nat) {c : SV} {v : AV}, VRL cs vs → vs[n]? = some v → VR c v → VRL (cs.set n c) vs
  | [], _, n, _, _, h, _, _ => by simp only [VRL] at h; subst h; simp [VRL]
  | c :: cs, _, n, _, _, h, e, hv => by
    simp only [VRL] at h
    obtain ⟨v, vs', rfl, h1, h2⟩ := h
    cases n with
    | zero => simp at e; subst e; exact VRL_cons hv h2
    | succ n => exact VRL_cons h1 (VRL_setL n h2 (by simpa using e) hv)
theorem VRL_map {g : SV → SV} {g' : AV → AV} (hg : ∀ c v, VR c v → VR (g c) (g' v)) : ∀ {cs : List SV} {vs : List AV}, VRL cs vs → VRL (cs.map g) (vs.map g')
  | [], _, h => by simp only [VRL] at h; subst h; exact VRL_nil
  | c :: cs, _, h => by
    simp only [VRL] at h
    obtain ⟨v, vs', rfl, h1, h2⟩ := h
    exact VRL_cons (hg _ _ h1) (VRL_map hg h2)
theorem VRL_mem {cs : List SV} {vs : List AV} (h : VRL cs vs) {v : AV} (hv : v ∈ vs) : ∃ c ∈ cs, VR c v := by
  obtain ⟨i, hi, rfl⟩ := List.getElem_of_mem hv
  obtain ⟨c, hc, hr⟩ := VRL_getR h (List.getElem?_eq_getElem hi)
  exact ⟨c, List.mem_of_getElem? hc, hr⟩
theorem VRL_replicate (n : Nat) : VRL (List.replicate n .und) (List.replicate n .und) := by
  induction n with
  | zero => exact VRL_nil
  | succ n ih => rw [List.replicate_succ, List.replicate_succ]; exact VRL_cons (by simp only [VR]) ih
theorem VRL_flatten : ∀ {cs : List (List SV)} {vs : List (List AV)}, cs.length = vs.length → (∀ (i : Nat) c v, cs[i]? = some c → vs[i]? = some v → VRL c v) → VRL cs.flatten vs.flatten
  | [], [], _, _ => VRL_nil
  | c :: cs, v :: vs, hl, h => by
    simp only [List.flatten_cons]
    exact VRL_append (h 0 c v rfl rfl) (VRL_flatten (by simpa using hl) fun i c v h1 h2 => h (i + 1) c v (by simpa using h1) (by simpa using h2))
  | [], _ :: _, hl, _ => by simp at hl
  | _ :: _, [], hl, _ => by simp at hl
theorem VR_cells {x : SV} {v : AV} (h : VR x v) (hx : ∀ cs, v ≠ .agg cs ∨ x ≠ .any) : VRL x.cells v.cells := by
  cases x with
  | any =>
    cases v with
    | agg cs => exact ((hx cs).elim (fun h => h rfl) (fun h => h rfl)).elim
    | _ => exact VRL_cons h VRL_nil
  | agg cs =>
    simp only [VR] at h
    obtain ⟨vs, rfl, h⟩ := h
    exact h
  | _ =>
    simp only [SV.cells]
    have hh := h
    simp only [VR] at h
    first
      | (subst h; exact VRL_cons hh VRL_nil)
      | (obtain ⟨_, rfl, _⟩ := h; exact VRL_cons hh VRL_nil)
      | (obtain ⟨_, rfl⟩ := h; exact VRL_cons hh VRL_nil)
      | (obtain ⟨_, _, rfl, _⟩ := h; exact VRL_cons hh VRL_nil)
      | (rcases h with ⟨rfl, _⟩ | ⟨_, _, _, rfl, _⟩ <;> exact VRL_cons hh VRL_nil)

/-! ### Kinds -/
mutual
theorem keq_eq : ∀ (a b : K), keq a b = true → a = b
  | .int a, b, h => by cases b <;> simp_all [keq]
  | .bool, b, h => by cases b <;> simp_all [keq]
  | .ro a, b, h => by
    cases b with
    | ro b => simp only [keq] at h; rw [keqs_eq a b h]
    | _ => simp [keq] at h
theorem keqs_eq : ∀ (a b : List K), keqs a b = true → a = b
  | [], b, h => by cases b <;> simp_all [keqs]
  | a :: as, b, h => by
    cases b with
    | nil => simp [keqs] at h
    | cons b bs =>
      simp only [keqs, Bool.and_eq_true] at h
      rw [keq_eq a b h.1, keqs_eq as bs h.2]
end
theorem EncC_length : ∀ {ks : List K} {c : List D} {j : Nat} {vs : List AV}, EncC ks c j vs → vs.length = ks.length
  | [], _, _, _, h => by simp only [EncC] at h; subst h; rfl
  | k :: ks, _, _, _, h => by
    simp only [EncC] at h
    obtain ⟨v, vs', rfl, _, h⟩ := h
    simp [EncC_length h]
theorem EncV_dec {k : K} {d : D} {v : AV} (h : EncV k d v) : VR (dec k d) v := by
  cases k with
  | int k => simpa only [EncV, dec, VR] using h
  | bool => simpa only [EncV, dec, VR] using h
  | ro ks =>
    simp only [EncV] at h
    simp only [dec, VR]
    rcases h with h | ⟨kd, c0, es, rfl, h1, h2⟩
    · exact .inl h
    · exact .inr ⟨kd, c0, es, rfl, fun h => (by cases h), h1, h2⟩
theorem EncC_dec : ∀ {ks : List K} {c : List D} {j : Nat} {vs : List AV}, EncC ks c j vs → VRL (decFrom ks c j) vs
  | [], _, _, _, h => by simp only [EncC] at h; subst h; exact VRL_nil
  | k :: ks, _, _, _, h => by
    simp only [EncC] at h
    obtain ⟨v, vs', rfl, h1, h2⟩ := h
    exact VRL_cons (EncV_dec h1) (EncC_dec h2)
theorem toD_enc {k : K} {v : SV} {d : D} {a : AV} (h : toD k v = some d) (hv : VR v a) : EncV k d a := by
  unfold toD at h
  split at h
  · rename_i k k' n
    split at h
    · rename_i e; subst e; cases h; simpa only [EncV, VR, D.I] using hv
    · cases h
  · cases h; simpa only [EncV, VR, D.B] using hv
  · cases h; simpa only [EncV, VR, D.B] using hv
  · rename_i ks c0 ks' l
    split at h
    · rename_i e
      cases h
      have := keqs_eq _ _ e
      subst this
      simp only [VR] at hv
      simp only [EncV, D.L]
      rcases hv with ⟨rfl, rfl⟩ | ⟨kd, c0', es, rfl, _, h1, h2⟩
      · exact .inl ⟨rfl, rfl⟩
      · exact .inr ⟨kd, c0', es, rfl, h1, h2⟩
    · cases h
  · cases h
    simp only [VR] at hv
    subst hv
    simp only [EncV, D.L]
    exact .inl ⟨by trivial, by trivial⟩
  · cases h
/-- Cells that were packed, wherever they stand in the list. -/
theorem toDs_enc : ∀ {ks : List K} {vs : List SV} {ds : List D} {as : List AV} {c : List D} {j : Nat}, toDs ks vs = some ds → VRL vs as → (∀ i d, ds[i]? = some d → c[j + i]? = some d) → EncC ks c j as
  | [], [], ds, as, c, j, h, hv, hc => by
    simp only [VRL] at hv; subst hv; simp only [EncC]
  | k :: ks, v :: vs, ds, as, c, j, h, hv, hc => by
    simp only [toDs] at h
    split at h
    · rename_i d ds' h1 h2
      cases h
      simp only [VRL] at hv
      obtain ⟨a, as', rfl, hv1, hv2⟩ := hv
      simp only [EncC]
      have := hc 0 d rfl
      refine ⟨a, as', rfl, ?_, toDs_enc h2 hv2 fun i d' hd => ?_⟩
      · rw [List.getD_eq_getElem?_getD, show c[j]? = some d from this]
        exact toD_enc h1 hv1
      · have := hc (i + 1) d' (by simpa using hd)
        rw [show j + 1 + i = j + (i + 1) by omega]; exact this
    · cases h
  | [], _ :: _, _, _, _, _, h, _, _ => by simp [toDs] at h
  | _ :: _, [], _, _, _, _, h, _, _ => by simp [toDs] at h
theorem toDs_length : ∀ {ks : List K} {vs : List SV} {ds : List D}, toDs ks vs = some ds → ds.length = ks.length ∧ vs.length = ks.length
  | [], [], ds, h => by simp only [toDs, Option.some.injEq] at h; subst h; exact ⟨rfl, rfl⟩
  | k :: ks, v :: vs, ds, h => by
    simp only [toDs] at h
    split at h
    · rename_i d ds' h1 h2
      cases h
      obtain ⟨e1, e2⟩ := toDs_length h2
      simp [e1, e2]
    · cases h
  | [], _ :: _, _, h => by simp [toDs] at h
  | _ :: _, [], _, h => by simp [toDs] at h
theorem toDss_enc {ks : List K} : ∀ {vss : List (List SV)} {l : List (List D)} {ess : List (List AV)}, toDss ks vss = some l → vss.length = ess.length → (∀ (i : Nat) v e, vss[i]? = some v → ess[i]? = some e → VRL v e) → EncE ks l ess
  | [], l, ess, h, hl, _ => by
    simp only [toDss, Option.some.injEq] at h; subst h
    have : ess = [] := List.length_eq_zero_iff.1 hl.symm
    subst this
    exact ⟨rfl, fun i e c h => by simp at h⟩
  | v :: vss, l, ess, h, hl, hh => by
    simp only [toDss] at h
    split at h
    · rename_i d ds h1 h2
      cases h
      cases ess with
      | nil => simp at hl
      | cons e ess =>
        obtain ⟨i1, i2⟩ := toDss_enc h2 (by simpa using hl) (fun i v e h1 h2 => hh (i + 1) v e (by simpa using h1) (by simpa using h2))
        refine ⟨by simp [i1], fun i e' c he hc => ?_⟩
        cases i with
        | zero =>
          simp at he hc; subst he; subst hc
          exact toDs_enc h1 (hh 0 v e rfl rfl) (fun i d h => by simpa using h)
        | succ i => exact i2 i e' c (by simpa using he) (by simpa using hc)
    · cases h

/-! ### Own memory's numbers -/
theorem ids_nil_list {f : Nat} {vs : List AV} : (vs.flatMap (ids f) = []) ↔ ∀ v ∈ vs, ids f v = [] := List.flatMap_eq_nil_iff
theorem EncV_noIds {k : K} {d : D} {v : AV} (h : EncV k d v) : noIds v := by
  intro f
  cases k <;> simp only [EncV] at h
  · subst h; cases f <;> rfl
  · subst h; cases f <;> rfl
  · rcases h with ⟨rfl, _⟩ | ⟨_, _, _, rfl, _⟩ <;> cases f <;> rfl
theorem EncC_noIds : ∀ {ks : List K} {c : List D} {j : Nat} {vs : List AV}, EncC ks c j vs → ∀ v ∈ vs, noIds v
  | [], _, _, _, h, v, hv => by simp only [EncC] at h; subst h; cases hv
  | k :: ks, _, _, _, h, v, hv => by
    simp only [EncC] at h
    obtain ⟨u, us, rfl, h1, h2⟩ := h
    rcases List.mem_cons.1 hv with rfl | hv
    · exact EncV_noIds h1
    · exact EncC_noIds h2 v hv
theorem ids_eqL {f : Nat} (ih : ∀ v a, VR v a → ids f a = idsS f v) : ∀ {cs : List SV} {vs : List AV}, VRL cs vs → vs.flatMap (ids f) = cs.flatMap (idsS f)
  | [], _, h => by simp only [VRL] at h; subst h; rfl
  | c :: cs, _, h => by
    simp only [VRL] at h
    obtain ⟨v, vs', rfl, h1, h2⟩ := h
    simp only [List.flatMap_cons, ih _ _ h1, ids_eqL ih h2]
theorem ids_eq : ∀ (f : Nat) (v : SV) (a : AV), VR v a → ids f a = idsS f v
  | 0, v, a, _ => by simp only [ids, idsS]
  | f + 1, v, a, h => by
    have ih := ids_eq f
    cases v <;> simp only [VR] at h
    case any => rw [h]; rfl
    case agg cs => obtain ⟨vs, rfl, h⟩ := h; simp only [ids, idsS, ids_eqL ih h]
    case tup cs => obtain ⟨vs, rfl, h⟩ := h; simp only [ids, idsS, ids_eqL ih h]
    case fn g x y => obtain ⟨vs, us, rfl, h1, h2⟩ := h; simp only [ids, idsS, ids_eqL ih h1, ids_eqL ih h2]
    case ifc t x => obtain ⟨u, rfl, h⟩ := h; simp only [ids, idsS, ih _ _ h]
    case eptr cs => obtain ⟨_, _, rfl, _⟩ := h; rfl
    case ro c0 ks l => rcases h with ⟨rfl, _⟩ | ⟨_, _, _, rfl, _⟩ <;> rfl
    case sl i s n => obtain ⟨_, rfl⟩ := h; rfl
    all_goals (subst h; rfl)
theorem ids_eqs {f : Nat} {cs : List SV} {vs : List AV} (h : VRL cs vs) : vs.flatMap (ids f) = cs.flatMap (idsS f) := ids_eqL (ids_eq f) h

/-! ### Heaps -/
def BlkR : SB → Blk → Prop
  | .box cs, .row s es fl => ∃ vs, es = [vs] ∧ s = cs.length ∧ VRL cs vs ∧ (fl = true → ∀ v ∈ vs, noIds v)
  | .row ks l, .row s es _ => s = ks.length ∧ EncE ks l es
  | .junk, .row _ es fl => fl = true ∨ ∀ e ∈ es, ∀ v ∈ e, noIds v
  | _, _ => False
def OR : Option SB → Option Blk → Prop
  | none, none => True
  | some b, some B => BlkR b B
  | _, _ => False
def HR (sh : SHeap) (h : Heap) : Prop := sh.length = h.length ∧ ∀ i, OR (sget sh i) (hget h i)

theorem OR_none {o : Option Blk} (h : OR none o) : o = none := by cases o <;> first | rfl | exact h.elim
theorem OR_some {b : SB} {o : Option Blk} (h : OR (some b) o) : ∃ B, o = some B ∧ BlkR b B := by cases o <;> first | exact h.elim | exact ⟨_, rfl, h⟩
theorem BlkR_row {b : SB} {B : Blk} (h : BlkR b B) : ∃ s es fl, B = .row s es fl := by
  cases b <;> cases B <;> first | exact ⟨_, _, _, rfl⟩ | exact h.elim
theorem sget_sset (h : SHeap) : ∀ (i j : Nat) (b : Option SB), sget (sset h i b) j = if i = j then b else sget h j := by
  induction h with
  | nil =>
    intro i
    induction i with
    | zero => intro j b; cases j <;> simp [sset, sget]
    | succ i ih => intro j b; cases j with
      | zero => simp [sset, sget]
      | succ j => have := ih j b; simp only [sset, sget] at this ⊢; simpa using this
  | cons x h ih =>
    intro i j b
    cases i with
    | zero => cases j <;> simp [sset, sget]
    | succ i => cases j with
      | zero => simp [sset, sget]
      | succ j => have := ih i j b; simp only [sset, sget] at this ⊢; simpa using this
theorem length_sset_eq {h : SHeap} {g : Heap} (e : h.length = g.length) (i : Nat) (b : Option SB) (B : Option Blk) : (sset h i b).length = (hset g i B).length := by
  induction h generalizing g i with
  | nil =>
    have : g = [] := List.length_eq_zero_iff.1 e.symm
    subst this
    induction i with
    | zero => rfl
    | succ i ih => simp only [sset, hset, List.length_cons, ih]
  | cons x h ih =>
    cases g with
    | nil => simp at e
    | cons y g =>
      cases i with
      | zero => simpa [sset, hset] using e
      | succ i => simp only [sset, hset, List.length_cons]; rw [ih (by simpa using e)]
theorem HR.set {sh : SHeap} {h : Heap} (H : HR sh h) (i : Nat) {b : Option SB} {B : Option Blk} (hb : OR b B) : HR (sset sh i b) (hset h i B) := by
  refine ⟨length_sset_eq H.1 i b B, fun j => ?_⟩
  rw [sget_sset, hget_hset]
  split
  · exact hb
  · exact H.2 j
theorem HR.puts : ∀ {news : SHeap} {nh : Heap} {sh : SHeap} {h : Heap} (at_ : Nat), HR sh h → news.length = nh.length → (∀ (i : Nat) b B, news[i]? = some b → nh[i]? = some B → OR b B) → HR (sputs sh at_ news) (hputs h at_ nh)
  | [], [], _, _, _, H, _, _ => H
  | b :: bs, B :: Bs, _, _, at_, H, hl, hh => by
    simp only [sputs, hputs]
    exact HR.puts (at_ + 1) (H.set at_ (hh 0 b B rfl rfl)) (by simpa using hl) fun i b B h1 h2 => hh (i + 1) b B (by simpa using h1) (by simpa using h2)
  | [], _ :: _, _, _, _, _, hl, _ => by simp at hl
  | _ :: _, [], _, _, _, _, hl, _ => by simp at hl
def UR : List (Nat × Option SB) → List (Nat × Option Blk) → Prop
  | [], us => us = []
  | p :: ps, us => ∃ q qs, us = q :: qs ∧ p.1 = q.1 ∧ OR p.2 q.2 ∧ UR ps qs
theorem HR.ups : ∀ {us : List (Nat × Option SB)} {us' : List (Nat × Option Blk)} {sh : SHeap} {h : Heap}, HR sh h → UR us us' → HR (sups sh us) (hups h us')
  | [], _, _, _, H, hu => by simp only [UR] at hu; subst hu; exact H
  | p :: ps, _, _, _, H, hu => by
    simp only [UR] at hu
    obtain ⟨q, qs, rfl, h1, h2, h3⟩ := hu
    obtain ⟨i, b⟩ := p
    obtain ⟨j, B⟩ := q
    simp only at h1 h2
    subst h1
    simp only [sups, hups]
    exact HR.ups (H.set i h2) h3

theorem idsB_eq {b : SB} {B : Blk} (h : BlkR b B) : idsB B = idsSB b := by
  cases b with
  | box cs =>
    cases B with
    | map kvs => exact h.elim
    | row s es fl =>
      simp only [BlkR] at h
      obtain ⟨vs, rfl, _, h2, h3⟩ := h
      simp only [idsB, idsSB]
      cases fl with
      | true =>
        simp only [if_true]
        rw [← ids_eqs h2, eq_comm, List.flatMap_eq_nil_iff]
        exact fun v hv => h3 rfl v hv deep
      | false => simpa using ids_eqs h2
  | row ks l =>
    cases B with
    | map kvs => exact h.elim
    | row s es fl =>
      simp only [BlkR] at h
      obtain ⟨_, h1, h2⟩ := h
      simp only [idsB, idsSB]
      split
      · rfl
      · rw [List.flatMap_eq_nil_iff]
        intro e he
        rw [List.flatMap_eq_nil_iff]
        intro v hv
        obtain ⟨i, hi, rfl⟩ := List.getElem_of_mem he
        exact EncC_noIds (h2 i _ (l[i]'(by omega)) (List.getElem?_eq_getElem hi) (List.getElem?_eq_getElem (by omega))) v hv deep
  | junk =>
    cases B with
    | map kvs => exact h.elim
    | row s es fl =>
      simp only [idsB, idsSB]
      split
      · rfl
      · rename_i hf
        have h := (show fl = true ∨ ∀ e ∈ es, ∀ v ∈ e, noIds v from h).resolve_left hf
        rw [List.flatMap_eq_nil_iff]
        intro e he
        rw [List.flatMap_eq_nil_iff]
        exact fun v hv => h e he v hv deep
theorem reach_eq {ls : Nat → Option SB} {l : Nat → Option Blk} (hl : ∀ i, OR (ls i) (l i)) : ∀ (f : Nat) (q acc : List Nat), reach l f q acc = reachS ls f q acc
  | 0, q, acc => by cases q <;> rfl
  | f + 1, [], acc => rfl
  | f + 1, i :: q, acc => by
    unfold reach reachS
    split
    · exact reach_eq hl f q acc
    · have := hl i
      cases hs : ls i with
      | none => rw [hs] at this; rw [OR_none this]; exact reach_eq hl f q acc
      | some b =>
        rw [hs] at this
        obtain ⟨B, hB, hr⟩ := OR_some this
        rw [hB]
        simp only [idsB_eq hr]
        exact reach_eq hl f _ _

/-! ### Moving and lending -/
theorem ids_mv_nil (kb ky : Bool) (ρ : Nat → Option Nat) : ∀ (f : Nat) (a : AV), noIds a → noIds (mv kb ky ρ f a)
  | 0, a, _ => fun g => by cases g <;> rfl
  | f + 1, a, h => by
    have ih := ids_mv_nil kb ky ρ f
    have step : ∀ {vs : List AV}, (∀ v ∈ vs, noIds v) → ∀ g, (vs.map (mv kb ky ρ f)).flatMap (ids g) = [] := fun {vs} hv g => by
      rw [List.flatMap_eq_nil_iff]
      intro x hx
      obtain ⟨v, hv', rfl⟩ := List.mem_map.1 hx
      exact ih v (hv v hv') g
    have sub : ∀ {vs : List AV}, (∀ g, vs.flatMap (ids g) = []) → ∀ v ∈ vs, noIds v := fun {vs} hv v hm g => List.flatMap_eq_nil_iff.1 (hv g) v hm
    cases a with
    | ptr i s k j => have := h 1; simp [ids] at this
    | sl i s lo n cap => have := h 1; simp [ids] at this
    | mp i => have := h 1; simp [ids] at this
    | agg cs => intro g; cases g with
      | zero => rfl
      | succ g => simp only [mv, ids]; exact step (sub fun g => h (g + 1)) g
    | tup cs => intro g; cases g with
      | zero => rfl
      | succ g => simp only [mv, ids]; exact step (sub fun g => h (g + 1)) g
    | fn x y z => intro g; cases g with
      | zero => rfl
      | succ g =>
        simp only [mv, ids]
        have h1 : ∀ g, y.flatMap (ids g) = [] := fun g => (List.append_eq_nil_iff.1 (h (g + 1))).1
        have h2 : ∀ g, z.flatMap (ids g) = [] := fun g => (List.append_eq_nil_iff.1 (h (g + 1))).2
        rw [step (sub h1) g, step (sub h2) g]; rfl
    | ifc t x => intro g; cases g with
      | zero => rfl
      | succ g => simp only [mv, ids]; exact ih x (fun g => h (g + 1)) g
    | ro kd c0 s es => intro g; cases kd <;> simp only [mv] <;> (try split) <;> cases g <;> rfl
    | eptr kd cs => intro g; cases kd <;> simp only [mv] <;> (try split) <;> cases g <;> rfl
    | yl => intro g; simp only [mv]; split <;> cases g <;> rfl
    | _ => intro g; cases g <;> rfl
theorem mv_sim (kb ky : Bool) (ρ : Nat → Option Nat) : ∀ (f : Nat) (v : SV) (a : AV), VR v a → VR (mvS kb ρ f v) (mv kb ky ρ f a)
  | 0, v, a, _ => by simp only [mvS, mv, VR]; exact fun g => by cases g <;> rfl
  | f + 1, v, a, h => by
    have ih := mv_sim kb ky ρ f
    have hany : VR .any .any := by simp only [VR]; exact fun g => by cases g <;> rfl
    cases v with
    | any => simp only [mvS]; simp only [VR] at h ⊢; exact ids_mv_nil kb ky ρ (f + 1) a h
    | ptr i s k j =>
      simp only [VR] at h; subst h
      simp only [mvS, mv]
      cases ρ i with
      | none => exact hany
      | some i' => simp only [VR]
    | sl i s n =>
      simp only [VR] at h
      obtain ⟨cap, rfl⟩ := h
      simp only [mvS, mv]
      cases ρ i with
      | none => exact hany
      | some i' => simp only [VR]; exact ⟨cap, rfl⟩
    | agg cs =>
      simp only [VR] at h; obtain ⟨vs, rfl, h⟩ := h
      simp only [mvS, mv, VR]
      exact ⟨_, rfl, VRL_map ih h⟩
    | tup cs =>
      simp only [VR] at h; obtain ⟨vs, rfl, h⟩ := h
      simp only [mvS, mv, VR]
      exact ⟨_, rfl, VRL_map ih h⟩
    | fn g x y =>
      simp only [VR] at h; obtain ⟨vs, us, rfl, h1, h2⟩ := h
      simp only [mvS, mv, VR]
      exact ⟨_, _, rfl, VRL_map ih h1, VRL_map ih h2⟩
    | ifc t x =>
      simp only [VR] at h; obtain ⟨u, rfl, h⟩ := h
      simp only [mvS, mv, VR]
      exact ⟨_, rfl, ih _ _ h⟩
    | eptr cs =>
      have h0 := h
      simp only [VR] at h; obtain ⟨kd, vs, rfl, h⟩ := h
      have hno : VR .any (.eptr kd vs) := by simp only [VR]; exact fun g => by cases g <;> rfl
      cases kb <;> cases kd <;> simp only [mvS, mv, if_true, Bool.false_eq_true, if_false] <;> first | exact h0 | exact hany | exact hno
    | ro c0 ks l =>
      have h0 := h
      simp only [VR] at h
      rcases h with ⟨rfl, hl⟩ | ⟨kd, c0', es, rfl, h⟩
      · have hno : VR .any .nils := by simp only [VR]; exact fun g => by cases g <;> rfl
        cases kb <;> simp only [mvS, mv, if_true, Bool.false_eq_true, if_false] <;> first | exact h0 | exact hno
      · have hno : VR .any (.ro kd c0' ks.length es) := by simp only [VR]; exact fun g => by cases g <;> rfl
        cases kb <;> cases kd <;> simp only [mvS, mv, if_true, Bool.false_eq_true, if_false] <;> first | exact h0 | exact hany | exact hno
    | _ => simp only [VR] at h; subst h; simp only [mvS, mv, VR]
theorem mvS_keep (kb : Bool) (ρ : Nat → Option Nat) : ∀ (f : Nat) (v : SV) (a : AV), VR v a → noIds a → VR (mvS kb ρ f v) a
  | 0, v, a, _, hn => by simp only [mvS, VR]; exact hn
  | f + 1, v, a, h, hn => by
    have ihL : ∀ {cs : List SV} {vs : List AV}, VRL cs vs → (∀ v ∈ vs, noIds v) → VRL (cs.map (mvS kb ρ f)) vs := by
      intro cs
      induction cs with
      | nil => intro vs h _; simpa using h
      | cons c cs ih =>
        intro vs h hv
        simp only [VRL] at h
        obtain ⟨u, us, rfl, h1, h2⟩ := h
        exact VRL_cons (mvS_keep kb ρ f c u h1 (hv u List.mem_cons_self)) (ih h2 fun v hm => hv v (List.mem_cons_of_mem _ hm))
    have sub : ∀ {vs : List AV}, (∀ g, vs.flatMap (ids g) = []) → ∀ v ∈ vs, noIds v := fun {vs} hv v hm g => List.flatMap_eq_nil_iff.1 (hv g) v hm
    cases v with
    | any => simp only [mvS, VR]; exact hn
    | ptr i s k j => simp only [VR] at h; subst h; have := hn 1; simp [ids] at this
    | sl i s n => simp only [VR] at h; obtain ⟨cap, rfl⟩ := h; have := hn 1; simp [ids] at this
    | agg cs =>
      simp only [VR] at h; obtain ⟨vs, rfl, h⟩ := h
      simp only [mvS, VR]
      exact ⟨_, rfl, ihL h (sub fun g => hn (g + 1))⟩
    | tup cs =>
      simp only [VR] at h; obtain ⟨vs, rfl, h⟩ := h
      simp only [mvS, VR]
      exact ⟨_, rfl, ihL h (sub fun g => hn (g + 1))⟩
    | fn g x y =>
      simp only [VR] at h; obtain ⟨vs, us, rfl, h1, h2⟩ := h
      simp only [mvS, VR]
      exact ⟨_, _, rfl, ihL h1 (sub fun g => (List.append_eq_nil_iff.1 (hn (g + 1))).1), ihL h2 (sub fun g => (List.append_eq_nil_iff.1 (hn (g + 1))).2)⟩
    | ifc t x =>
      simp only [VR] at h; obtain ⟨u, rfl, h⟩ := h
      simp only [mvS, VR]
      exact ⟨_, rfl, mvS_keep kb ρ f _ _ h (fun g => hn (g + 1))⟩
    | eptr cs => cases kb <;> simp only [mvS, if_true, Bool.false_eq_true, if_false] <;> first | exact h | (simp only [VR]; exact hn)
    | ro c0 ks l => cases kb <;> simp only [mvS, if_true, Bool.false_eq_true, if_false] <;> first | exact h | (simp only [VR]; exact hn)
    | _ => simp only [VR] at h; subst h; simp only [mvS, VR] <;> exact hn
theorem EncV_mv {ky : Bool} {ρ : Nat → Option Nat} {f : Nat} {k : K} {d : D} {v : AV} (h : EncV k d v) : EncV k d (mv true ky ρ (f + 1) v) := by
  cases k <;> simp only [EncV] at h ⊢
  · subst h; rfl
  · subst h; rfl
  · rcases h with ⟨rfl, h⟩ | ⟨kd, c0, es, rfl, h⟩
    · exact .inl ⟨rfl, h⟩
    · right; cases kd <;> exact ⟨_, c0, es, rfl, h⟩
theorem EncC_mv {ky : Bool} {ρ : Nat → Option Nat} {f : Nat} : ∀ {ks : List K} {c : List D} {j : Nat} {vs : List AV}, EncC ks c j vs → EncC ks c j (vs.map (mv true ky ρ (f + 1)))
  | [], _, _, _, h => by simp only [EncC] at h; subst h; simp [EncC]
  | k :: ks, _, _, _, h => by
    simp only [EncC] at h
    obtain ⟨u, us, rfl, h1, h2⟩ := h
    simp only [List.map_cons, EncC]
    exact ⟨_, _, rfl, EncV_mv h1, EncC_mv h2⟩
theorem EncC_mv' {kb ky : Bool} {ρ : Nat → Option Nat} {f : Nat} : ∀ {ks : List K} {c : List D} {j : Nat} {vs : List AV}, plainK ks = true → EncC ks c j vs → EncC ks c j (vs.map (mv kb ky ρ (f + 1)))
  | [], _, _, _, _, h => by simp only [EncC] at h; subst h; simp [EncC]
  | k :: ks, _, _, _, hp, h => by
    simp only [EncC] at h
    obtain ⟨u, us, rfl, h1, h2⟩ := h
    simp only [List.map_cons, EncC]
    cases k with
    | int k => simp only [plainK] at hp; simp only [EncV] at h1; subst h1; exact ⟨_, _, rfl, rfl, EncC_mv' hp h2⟩
    | bool => simp only [plainK] at hp; simp only [EncV] at h1; subst h1; exact ⟨_, _, rfl, rfl, EncC_mv' hp h2⟩
    | ro ks => simp [plainK] at hp
theorem junk_mvB (kb ky : Bool) (ρ : Nat → Option Nat) {s : Nat} {es : List (List AV)} {fl : Bool} (h : fl = true ∨ ∀ e ∈ es, ∀ v ∈ e, noIds v) : BlkR .junk (mvB kb ky ρ (.row s es fl)) := by
  cases fl with
  | true => simp only [mvB, if_true, BlkR]; exact .inl (by trivial)
  | false =>
    simp only [mvB, Bool.false_eq_true, if_false, BlkR]
    right
    intro e he v hv
    obtain ⟨e', he', rfl⟩ := List.mem_map.1 he
    obtain ⟨v', hv', rfl⟩ := List.mem_map.1 hv
    exact ids_mv_nil kb ky ρ deep v' (h.resolve_left (by simp) e' he' v' hv')
theorem EncE_noIds {ks : List K} {l : List (List D)} {es : List (List AV)} (h : EncE ks l es) : ∀ e ∈ es, ∀ v ∈ e, noIds v := by
  intro e he v hv
  obtain ⟨i, hi, rfl⟩ := List.getElem_of_mem he
  exact EncC_noIds (h.2 i _ (l[i]'(by have := h.1; omega)) (List.getElem?_eq_getElem hi) (List.getElem?_eq_getElem (by have := h.1; omega))) v hv
theorem mvB_sim (kb ky : Bool) (ρ : Nat → Option Nat) {b : SB} {B : Blk} (h : BlkR b B) : BlkR (mvSB kb ρ b) (mvB kb ky ρ B) := by
  cases b with
  | box cs =>
    cases B with
    | map kvs => exact h.elim
    | row s es fl =>
      simp only [BlkR] at h
      obtain ⟨vs, rfl, h1, h2, h3⟩ := h
      cases fl with
      | true =>
        simp only [mvSB, mvB, if_true, BlkR]
        refine ⟨vs, rfl, by simp [h1], ?_, fun _ => h3 rfl⟩
        have key : ∀ {cs : List SV} {vs : List AV}, VRL cs vs → (∀ v ∈ vs, noIds v) → VRL (cs.map (mvS kb ρ deep)) vs := by
          intro cs
          induction cs with
          | nil => intro vs h _; simpa using h
          | cons c cs ih =>
            intro vs h hv
            simp only [VRL] at h
            obtain ⟨u, us, rfl, h1, h2⟩ := h
            exact VRL_cons (mvS_keep kb ρ deep c u h1 (hv u List.mem_cons_self)) (ih h2 fun v hm => hv v (List.mem_cons_of_mem _ hm))
        exact key h2 (h3 rfl)
      | false =>
        simp only [mvSB, mvB, Bool.false_eq_true, if_false, BlkR]
        exact ⟨vs.map (mv kb ky ρ deep), by simp, by simp [h1], VRL_map (mv_sim kb ky ρ deep) h2, fun h => by cases h⟩
  | row ks l =>
    cases B with
    | map kvs => exact h.elim
    | row s es fl =>
      simp only [BlkR] at h
      obtain ⟨h1, h2⟩ := h
      simp only [mvSB]
      split
      · rename_i hk
        cases fl with
        | true => simp only [mvB, if_true, BlkR]; exact ⟨h1, h2⟩
        | false =>
          simp only [mvB, Bool.false_eq_true, if_false, BlkR]
          refine ⟨h1, by simp [h2.1], fun i e c he hc => ?_⟩
          rw [List.getElem?_map] at he
          cases hi : es[i]? with
          | none => rw [hi] at he; cases he
          | some e0 =>
            rw [hi] at he
            simp only [Option.map_some, Option.some.injEq] at he
            subst he
            have := h2.2 i e0 c hi hc
            simp only [Bool.or_eq_true] at hk
            rcases hk with rfl | hk
            · exact EncC_mv (f := 11) this
            · exact EncC_mv' (f := 11) hk this
      · exact junk_mvB kb ky ρ (.inr (EncE_noIds h2))
  | junk =>
    cases B with
    | map kvs => exact h.elim
    | row s es fl =>
      exact junk_mvB kb ky ρ h

theorem noIds_agg {vs : List AV} (h : ∀ v ∈ vs, noIds v) : noIds (.agg vs) := fun g => by
  cases g with
  | zero => rfl
  | succ g => simp only [ids]; exact List.flatMap_eq_nil_iff.2 fun v hv => h v hv g
theorem noIds_plain {a : AV} (h : ∀ g, ids (g + 1) a = []) : noIds a := fun g => by
  cases g with
  | zero => cases a <;> rfl
  | succ g => exact h g
theorem noIds_fz (look : Nat → Option Blk) : ∀ (f : Nat) (a : AV), noIds (fz look f a)
  | 0, a => fun g => by cases g <;> rfl
  | f + 1, a => by
    have ih := noIds_fz look f
    have hany : noIds .any := fun g => by cases g <;> rfl
    cases a with
    | ptr i s k j =>
      simp only [fz]
      repeat' split
      all_goals first | exact hany | exact noIds_plain fun _ => rfl
    | sl i s lo n cap =>
      simp only [fz]
      repeat' split
      all_goals first | exact hany | exact noIds_plain fun _ => rfl
    | agg cs =>
      simp only [fz]
      exact noIds_agg fun v hv => by obtain ⟨u, _, rfl⟩ := List.mem_map.1 hv; exact ih u
    | fn g x y =>
      simp only [fz]
      refine noIds_plain fun g => ?_
      simp only [ids]
      rw [List.append_eq_nil_iff, List.flatMap_eq_nil_iff, List.flatMap_eq_nil_iff]
      exact ⟨fun v hv => by obtain ⟨u, _, rfl⟩ := List.mem_map.1 hv; exact ih u g, fun v hv => by obtain ⟨u, _, rfl⟩ := List.mem_map.1 hv; exact ih u g⟩
    | ifc t x => simp only [fz]; exact noIds_plain fun g => ih x g
    | _ => simp only [fz]; exact noIds_plain fun _ => rfl
theorem fzS_keep (ls : Nat → Option SB) : ∀ (f : Nat) (v : SV) (a : AV), VR v a → noIds a → VR (fzS ls f v) a
  | 0, v, a, _, hn => by simp only [fzS, VR]; exact hn
  | f + 1, v, a, h, hn => by
    have ihL : ∀ {cs : List SV} {vs : List AV}, VRL cs vs → (∀ v ∈ vs, noIds v) → VRL (cs.map (fzS ls f)) vs := by
      intro cs
      induction cs with
      | nil => intro vs h _; simpa using h
      | cons c cs ih =>
        intro vs h hv
        simp only [VRL] at h
        obtain ⟨u, us, rfl, h1, h2⟩ := h
        exact VRL_cons (fzS_keep ls f c u h1 (hv u List.mem_cons_self)) (ih h2 fun v hm => hv v (List.mem_cons_of_mem _ hm))
    have sub : ∀ {vs : List AV}, (∀ g, vs.flatMap (ids g) = []) → ∀ v ∈ vs, noIds v := fun {vs} hv v hm g => List.flatMap_eq_nil_iff.1 (hv g) v hm
    cases v with
    | any => simp only [fzS, VR]; exact hn
    | ptr i s k j => simp only [VR] at h; subst h; have := hn 1; simp [ids] at this
    | sl i s n => simp only [VR] at h; obtain ⟨cap, rfl⟩ := h; have := hn 1; simp [ids] at this
    | agg cs =>
      simp only [VR] at h; obtain ⟨vs, rfl, h⟩ := h
      simp only [fzS, VR]
      exact ⟨_, rfl, ihL h (sub fun g => hn (g + 1))⟩
    | tup cs => simp only [fzS, VR]; exact hn
    | fn g x y =>
      simp only [VR] at h; obtain ⟨vs, us, rfl, h1, h2⟩ := h
      simp only [fzS, VR]
      exact ⟨_, _, rfl, ihL h1 (sub fun g => (List.append_eq_nil_iff.1 (hn (g + 1))).1), ihL h2 (sub fun g => (List.append_eq_nil_iff.1 (hn (g + 1))).2)⟩
    | ifc t x =>
      simp only [VR] at h; obtain ⟨u, rfl, h⟩ := h
      simp only [fzS, VR]
      exact ⟨_, rfl, fzS_keep ls f _ _ h (fun g => hn (g + 1))⟩
    | _ => simp only [fzS]; exact h
theorem EncV_fz {look : Nat → Option Blk} {f : Nat} {k : K} {d : D} {v : AV} (h : EncV k d v) : EncV k d (fz look (f + 1) v) := by
  cases k <;> simp only [EncV] at h ⊢
  · subst h; rfl
  · subst h; rfl
  · rcases h with ⟨rfl, h⟩ | ⟨kd, c0, es, rfl, h⟩
    · exact .inl ⟨rfl, h⟩
    · right; exact ⟨_, c0, es, rfl, h⟩
theorem EncC_fz {look : Nat → Option Blk} {f : Nat} : ∀ {ks : List K} {c : List D} {j : Nat} {vs : List AV}, EncC ks c j vs → EncC ks c j (vs.map (fz look (f + 1)))
  | [], _, _, _, h => by simp only [EncC] at h; subst h; simp [EncC]
  | k :: ks, _, _, _, h => by
    simp only [EncC] at h
    obtain ⟨u, us, rfl, h1, h2⟩ := h
    simp only [List.map_cons, EncC]
    exact ⟨_, _, rfl, EncV_fz h1, EncC_fz h2⟩
theorem EncE_map {ks : List K} {l : List (List D)} {es : List (List AV)} {g : List AV → List AV} (h : EncE ks l es) (hg : ∀ c e, EncC ks c 0 e → EncC ks c 0 (g e)) : EncE ks l (es.map g) := by
  refine ⟨by simp [h.1], fun i e c he hc => ?_⟩
  rw [List.getElem?_map] at he
  cases hi : es[i]? with
  | none => rw [hi] at he; cases he
  | some e0 =>
    rw [hi] at he
    simp only [Option.map_some, Option.some.injEq] at he
    subst he
    exact hg _ _ (h.2 i e0 c hi hc)
theorem EncE_take {ks : List K} {l : List (List D)} {es : List (List AV)} (n : Nat) (h : EncE ks l es) : EncE ks (l.take n) (es.take n) := by
  refine ⟨by simp [h.1], fun i e c he hc => ?_⟩
  rw [List.getElem?_take] at he hc
  split at he
  · rename_i hi
    rw [if_pos hi] at hc
    exact h.2 i e c he hc
  · cases he
theorem EncE_drop {ks : List K} {l : List (List D)} {es : List (List AV)} (n : Nat) (h : EncE ks l es) : EncE ks (l.drop n) (es.drop n) := by
  refine ⟨by simp [h.1], fun i e c he hc => ?_⟩
  rw [List.getElem?_drop] at he hc
  exact h.2 _ e c he hc
theorem EncE_append {ks : List K} {l m : List (List D)} {es fs : List (List AV)} (h : EncE ks l es) (h' : EncE ks m fs) : EncE ks (l ++ m) (es ++ fs) := by
  refine ⟨by simp [h.1, h'.1], fun i e c he hc => ?_⟩
  rw [List.getElem?_append] at he hc
  split at he
  · rename_i hi
    rw [if_pos (by rw [← h.1]; exact hi)] at hc
    exact h.2 i e c he hc
  · rename_i hi
    rw [if_neg (by rw [← h.1]; exact hi), ← h.1] at hc
    exact h'.2 _ e c he hc
theorem EncE_nil {ks : List K} : EncE ks [] [] := ⟨rfl, fun i e c h => by simp at h⟩

theorem fz_sim {ls : Nat → Option SB} {l : Nat → Option Blk} (hl : ∀ i, OR (ls i) (l i)) : ∀ (f : Nat) (v : SV) (a : AV), VR v a → (∀ c ∈ fzN ls f v, c = true) → VR (fzS ls f v) (fz l f a)
  | 0, v, a, _, _ => by simp only [fzS, fz, VR]; exact fun g => by cases g <;> rfl
  | f + 1, v, a, h, hn => by
    have ihL : ∀ {cs : List SV} {vs : List AV}, VRL cs vs → (∀ c ∈ cs.flatMap (fzN ls f), c = true) → VRL (cs.map (fzS ls f)) (vs.map (fz l f)) := by
      intro cs
      induction cs with
      | nil => intro vs h _; simp only [VRL] at h; subst h; exact VRL_nil
      | cons c cs ih =>
        intro vs h hv
        simp only [VRL] at h
        obtain ⟨u, us, rfl, h1, h2⟩ := h
        exact VRL_cons (fz_sim hl f c u h1 fun c hc => hv c (by simp only [List.flatMap_cons, List.mem_append]; exact .inl hc)) (ih h2 fun c hc => hv c (by simp only [List.flatMap_cons, List.mem_append]; exact .inr hc))
    have keepL : ∀ {cs : List SV} {vs : List AV}, VRL cs vs → (∀ v ∈ vs, noIds v) → VRL (cs.map (fzS ls f)) vs := by
      intro cs
      induction cs with
      | nil => intro vs h _; simpa using h
      | cons c cs ih =>
        intro vs h hv
        simp only [VRL] at h
        obtain ⟨u, us, rfl, h1, h2⟩ := h
        exact VRL_cons (fzS_keep ls f c u h1 (hv u List.mem_cons_self)) (ih h2 fun v hm => hv v (List.mem_cons_of_mem _ hm))
    have hno : ∀ a, VR .any (fz l (f + 1) a) := fun a => by simp only [VR]; exact noIds_fz l (f + 1) a
    cases v with
    | any => simp only [fzS]; exact hno a
    | tup cs => simp only [fzS]; exact hno a
    | ptr i s k j =>
      simp only [VR] at h; subst h
      simp only [fzN] at hn
      simp only [fzS]
      split
      · rename_i cs hi
        split
        · rename_i hc
          obtain ⟨rfl, rfl⟩ := hc
          have := hl i
          rw [hi] at this
          obtain ⟨B, hB, hr⟩ := OR_some this
          rw [hi] at hn
          simp only [true_and, if_true] at hn
          obtain ⟨s', es, fl, rfl⟩ := BlkR_row hr
          simp only [BlkR] at hr
          obtain ⟨vs, rfl, rfl, h2, h3⟩ := hr
          simp only [fz, hB, if_true, List.getElem?_cons_zero]
          cases fl with
          | true =>
            simp only [if_true, VR]
            exact ⟨_, _, rfl, keepL (VRL_drop j h2) fun v hv => h3 rfl v (List.mem_of_mem_drop hv)⟩
          | false =>
            simp only [Bool.false_eq_true, if_false, VR]
            exact ⟨_, _, rfl, ihL (VRL_drop j h2) hn⟩
        · exact hno _
      · exact hno _
    | sl i s n =>
      simp only [VR] at h; obtain ⟨cap, rfl⟩ := h
      simp only [fzN] at hn
      simp only [fzS]
      split
      · rename_i ks l' hi
        split
        · rename_i hc
          obtain ⟨rfl, hf⟩ := hc
          have := hl i
          rw [hi] at this
          obtain ⟨B, hB, hr⟩ := OR_some this
          rw [hi] at hn
          simp only [if_true, List.mem_singleton, forall_eq, decide_eq_true_eq] at hn
          obtain ⟨s', es, fl, rfl⟩ := BlkR_row hr
          simp only [BlkR] at hr
          obtain ⟨rfl, h2⟩ := hr
          have hle : 0 + n ≤ es.length := by have := h2.1; omega
          simp only [fz, hB]
          rw [if_pos ⟨by trivial, hle⟩]
          cases f with
          | zero => exact absurd rfl hf
          | succ f =>
            cases fl with
            | true =>
              simp only [if_true, VR]
              exact .inr ⟨_, _, _, rfl, fun h => (by cases h), by simpa using EncE_take n h2⟩
            | false =>
              simp only [Bool.false_eq_true, if_false, VR]
              exact .inr ⟨_, _, _, rfl, fun h => (by cases h), by simpa using EncE_map (EncE_take n h2) fun c e he => EncC_fz (f := f) he⟩
        · exact hno _
      · exact hno _
    | agg cs =>
      simp only [VR] at h; obtain ⟨vs, rfl, h⟩ := h
      simp only [fzS, fz, VR]
      exact ⟨_, rfl, ihL h (by simpa only [fzN] using hn)⟩
    | fn g x y =>
      simp only [VR] at h; obtain ⟨vs, us, rfl, h1, h2⟩ := h
      simp only [fzN] at hn
      simp only [fzS, fz, VR]
      exact ⟨_, _, rfl, ihL h1 fun c hc => hn c (List.mem_append_left _ hc), ihL h2 fun c hc => hn c (List.mem_append_right _ hc)⟩
    | ifc t x =>
      simp only [VR] at h; obtain ⟨u, rfl, h⟩ := h
      simp only [fzS, fz, VR]
      exact ⟨_, rfl, fz_sim hl f _ _ h (by simpa only [fzN] using hn)⟩
    | eptr cs =>
      have h0 := h
      simp only [VR] at h; obtain ⟨kd, vs, rfl, h⟩ := h
      exact h0
    | ro c0 ks l' =>
      have h0 := h
      simp only [VR] at h
      rcases h with ⟨rfl, hl'⟩ | ⟨kd, c0', es, rfl, h⟩ <;> exact h0
    | _ => simp only [VR] at h; subst h; simp only [fzS, fz, VR]
end Go.Lite
