/-
  What the claim rescue_guards rests on, part 5.
-/
import Derived.Test.YtgmefblkmidglaaZ4
namespace Go.Lite
def partC : Nat → Code → Code
  | 0, .seq a _ => a
  | n + 1, .seq _ b => partC n b
  | _, c => c
def restC : Nat → Code → Code
  | 0, c => c
  | n + 1, .seq _ b => restC n b
  | _, c => c
def isSeq : Code → Bool
  | .seq _ _ => true
  | _ => false
noncomputable def fnAt (P : Program) (f : FuncId) : Func := (P.funcs[f]?).getD default
def bodyOf (fn : Func) : Code := fn.body.getD .skip
def EndsTrue (C : Cfg) (call : CallT) (f : FuncId) (fn : Func) (c : Code) (σ : St) : Prop := ∃ e σ', execA C call f 0 (none : Option (Hd Unit)) c σ () = some (e, σ', ()) ∧ (e = .normal ∨ e = .ret) ∧ finishA C f 0 fn σ' = some (.bool true, [])
def isTrueRes : Option (AV × Heap) → Bool
  | some (.bool true, []) => true
  | _ => false
def lastIs (C : Cfg) (call : CallT) (f : FuncId) (fn : Func) (c : Code) (σ : St) : Bool := match execA C call f 0 (none : Option (Hd Unit)) c σ () with
  | some (.normal, σ', ()) => isTrueRes (finishA C f 0 fn σ')
  | some (.ret, σ', ()) => isTrueRes (finishA C f 0 fn σ')
  | _ => false
theorem isTrueRes_spec {r : Option (AV × Heap)} (h : isTrueRes r = true) : r = some (.bool true, []) := by
  unfold isTrueRes at h
  split at h
  · rfl
  · cases h
theorem lastIs_spec {C : Cfg} {call : CallT} {f : FuncId} {fn : Func} {c : Code} {σ : St} (h : lastIs C call f fn c σ = true) : EndsTrue C call f fn c σ := by
  unfold lastIs at h
  split at h
  · rename_i σ' he; exact ⟨_, σ', he, .inl rfl, isTrueRes_spec h⟩
  · rename_i σ' he; exact ⟨_, σ', he, .inr rfl, isTrueRes_spec h⟩
  · cases h
theorem part_rest : ∀ {i : Nat} {c : Code}, isSeq (restC i c) = true → restC i c = .seq (partC i c) (restC (i + 1) c)
  | 0, .seq a b, _ => rfl
  | i + 1, .seq a b, h => part_rest (i := i) (c := b) h
  | 0, .skip, h => by cases h
  | 0, .label _, h => by cases h
  | 0, .region _ _ _, h => by cases h
  | 0, .cond _ _ _, h => by cases h
  | 0, .block _ _, h => by cases h
  | 0, .loop _, h => by cases h
  | 0, .rangeFunc _ _ _ _, h => by cases h
  | 0, .scope _, h => by cases h
  | 0, .exit _, h => by cases h
  | 0, .ret, h => by cases h
  | 0, .goto _, h => by cases h
  | 0, .refuse _, h => by cases h
  | i + 1, .skip, h => by cases h
  | i + 1, .label _, h => by cases h
  | i + 1, .region _ _ _, h => by cases h
  | i + 1, .cond _ _ _, h => by cases h
  | i + 1, .block _ _, h => by cases h
  | i + 1, .loop _, h => by cases h
  | i + 1, .rangeFunc _ _ _ _, h => by cases h
  | i + 1, .scope _, h => by cases h
  | i + 1, .exit _, h => by cases h
  | i + 1, .ret, h => by cases h
  | i + 1, .goto _, h => by cases h
  | i + 1, .refuse _, h => by cases h
theorem spine_step {C : Cfg} {call : CallT} {f : FuncId} {fn : Func} {c : Code} {i : Nat} {σ σ1 : St} (hs : isSeq (restC i c) = true) (h : execA C call f 0 (none : Option (Hd Unit)) (partC i c) σ () = some (.normal, σ1, ()))
    (hn : EndsTrue C call f fn (restC (i + 1) c) σ1) : EndsTrue C call f fn (restC i c) σ := by
  obtain ⟨e, σ', h1, h2, h3⟩ := hn
  refine ⟨e, σ', ?_, h2, h3⟩
  rw [part_rest hs]
  simp only [execA, h, h1]
theorem spine_call {C : Cfg} {n : Nat} {f : FuncId} {fn : Func} (h1 : (C.P.funcs[f]?).isSome = true) (h2 : fn = fnAt C.P f) (h3 : (fn.body.isSome && !hasDef (bodyOf fn)) = true) {σ0 : St} (h4 : (⟨List.replicate fn.ntmps .und, []⟩ : St) = σ0)
    (h : EndsTrue C (callA C n) f fn (restC 0 (bodyOf fn)) σ0) : callA C (n + 1) Unit none f [] [] () = some (.bool true, [], ()) := by
  obtain ⟨fn', hf⟩ := Option.isSome_iff_exists.1 h1
  have hfn : fn' = fn := by rw [h2]; simp [fnAt, hf]
  subst hfn
  simp only [Bool.and_eq_true, Bool.not_eq_true'] at h3
  obtain ⟨c, hc⟩ := Option.isSome_iff_exists.1 h3.1
  have hb : bodyOf fn' = c := by simp [bodyOf, hc]
  rw [hb] at h3 h
  obtain ⟨e, σ', he, hen, hfin⟩ := h
  simp only [restC] at he
  subst h4
  unfold callA
  simp only [hf, hc, h3.2, List.length_nil, List.nil_append, Nat.sub_zero, he]
  rcases hen with rfl | rfl <;> simp only [hfin, Option.map_some]
end Go.Lite
namespace Go.Lite
def eqAll {α : Type} (e : α → α → Bool) : List α → List α → Bool
  | [], [] => true
  | a :: as, b :: bs => e a b && eqAll e as bs
  | _, _ => false
theorem eqAll_eq {α : Type} {e : α → α → Bool} (he : ∀ a b, e a b = true → a = b) : ∀ {as bs : List α}, eqAll e as bs = true → as = bs
  | [], [], _ => rfl
  | a :: as, b :: bs, h => by
    simp only [eqAll, Bool.and_eq_true] at h
    rw [he a b h.1, eqAll_eq he h.2]
  | [], _ :: _, h => by cases h
  | _ :: _, [], h => by cases h
def eqAV : Nat → AV → AV → Bool
  | 0, _, _ => false
  | f + 1, a, b => match a, b with
    | .int k n, .int k' n' => decide (k = k') && decide (n = n')
    | .bool x, .bool y => x == y
    | .nils, .nils => true
    | .agg xs, .agg ys => eqAll (eqAV f) xs ys
    | .ro kd c s es, .ro kd' c' s' es' => decide (kd = kd') && c == c' && s == s' && eqAll (eqAll (eqAV f)) es es'
    | _, _ => false
theorem eqAV_eq : ∀ (f : Nat) (a b : AV), eqAV f a b = true → a = b
  | 0, _, _, h => by cases h
  | f + 1, a, b, h => by
    unfold eqAV at h
    split at h
    · simp only [Bool.and_eq_true, decide_eq_true_eq] at h
      rw [h.1, h.2]
    · rw [beq_iff_eq] at h; rw [h]
    · rfl
    · rw [eqAll_eq (eqAV_eq f) h]
    · simp only [Bool.and_eq_true, decide_eq_true_eq, beq_iff_eq] at h
      obtain ⟨⟨⟨rfl, rfl⟩, rfl⟩, h⟩ := h
      rw [eqAll_eq (fun _ _ h => eqAll_eq (eqAV_eq f) h) h]
    · cases h
structure Row where
  f : FuncId
  args : List AV
  res : AV
def extT (tbl : List Row) (f : FuncId) : Option (List AV → Option AV) :=
  if tbl.any (fun r => r.f == f) then some (fun args => (tbl.find? fun r => r.f == f && eqAll (eqAV 12) r.args args).map (·.res)) else none
def RowsOK (C : Cfg) (n : Nat) : List Row → Prop
  | [] => True
  | r :: rs => callA C n Unit none r.f r.args [] () = some (r.res, [], ()) ∧ RowsOK C n rs
theorem rows_mem {C : Cfg} {n : Nat} : ∀ {tbl : List Row}, RowsOK C n tbl → ∀ r ∈ tbl, callA C n Unit none r.f r.args [] () = some (r.res, [], ())
  | [], _, r, h => by cases h
  | x :: xs, ho, r, h => by
    rcases List.mem_cons.1 h with rfl | h
    · exact ho.1
    · exact rows_mem ho.2 r h
theorem ext_ok {C C0 : Cfg} {n : Nat} {tbl : List Row} (hP : C.P = C0.P) (hE : C.ext = extT tbl) (h0 : CallOK C0.P (callA C0 n)) (hr : RowsOK C0 n tbl) : ExtOK C := by
  intro f E he args v hv
  rw [hE] at he
  unfold extT at he
  split at he
  · cases he
    simp only [Option.map_eq_some_iff] at hv
    obtain ⟨r, hf, rfl⟩ := hv
    have hm := List.mem_of_find?_eq_some hf
    have hp := List.find?_some hf
    simp only [Bool.and_eq_true, beq_iff_eq] at hp
    obtain ⟨rfl, h2⟩ := hp
    rw [← eqAll_eq (eqAV_eq 12) h2, hP]
    exact h0 Unit none _ _ _ _ _ _ _ (rows_mem hr r hm)
  · cases he
end Go.Lite
