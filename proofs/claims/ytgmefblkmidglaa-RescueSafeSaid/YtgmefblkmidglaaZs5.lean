/-
  What the claim rescue_safe rests on, part 5.
-/
import Derived.Test.YtgmefblkmidglaaZs4
namespace Go.Lite
def eqAll {α : Type} (e : α → α → Bool) : List α → List α → Bool
  | [], [] => true
  | a :: as, b :: bs => e a b && eqAll e as bs
  | _, _ => false
theorem eqAll_eq {α : Type} {e : α → α → Bool} (he : ∀ a b, e a b = true → a = b) : ∀ {as bs : List α}, eqAll e as bs = true → as = bs
  | [], [], _ => rfl
  | a :: as, b :: bs, h => by
    simp only [eqAll, Bool.and_eq_true] at h
    rw [he a b h.1, eqAll_eq he h.2]
  | [], _ :: _, h => by cases h
  | _ :: _, [], h => by cases h
def eqAV : Nat → AV → AV → Bool
  | 0, _, _ => false
  | f + 1, a, b => match a, b with
    | .int k n, .int k' n' => decide (k = k') && decide (n = n')
    | .bool x, .bool y => x == y
    | .nils, .nils => true
    | .agg xs, .agg ys => eqAll (eqAV f) xs ys
    | .ro kd c s es, .ro kd' c' s' es' => decide (kd = kd') && c == c' && s == s' && eqAll (eqAll (eqAV f)) es es'
    | _, _ => false
theorem eqAV_eq : ∀ (f : Nat) (a b : AV), eqAV f a b = true → a = b
  | 0, _, _, h => by cases h
  | f + 1, a, b, h => by
    unfold eqAV at h
    split at h
    · simp only [Bool.and_eq_true, decide_eq_true_eq] at h
      rw [h.1, h.2]
    · rw [beq_iff_eq] at h; rw [h]
    · rfl
    · rw [eqAll_eq (eqAV_eq f) h]
    · simp only [Bool.and_eq_true, decide_eq_true_eq, beq_iff_eq] at h
      obtain ⟨⟨⟨rfl, rfl⟩, rfl⟩, h⟩ := h
      rw [eqAll_eq (fun _ _ h => eqAll_eq (eqAV_eq f) h) h]
    · cases h
structure Row where
  f : FuncId
  args : List AV
  res : AV
def extT (tbl : List Row) (f : FuncId) : Option (List AV → Option AV) :=
  if tbl.any (fun r => r.f == f) then some (fun args => (tbl.find? fun r => r.f == f && eqAll (eqAV 12) r.args args).map (·.res)) else none
def RowsOK (C : Cfg) (n : Nat) : List Row → Prop
  | [] => True
  | r :: rs => callA C n Unit none r.f r.args [] () = some (r.res, [], ()) ∧ RowsOK C n rs
theorem rows_mem {C : Cfg} {n : Nat} : ∀ {tbl : List Row}, RowsOK C n tbl → ∀ r ∈ tbl, callA C n Unit none r.f r.args [] () = some (r.res, [], ())
  | [], _, r, h => by cases h
  | x :: xs, ho, r, h => by
    rcases List.mem_cons.1 h with rfl | h
    · exact ho.1
    · exact rows_mem ho.2 r h
theorem ext_ok {C C0 : Cfg} {n : Nat} {tbl : List Row} (hP : C.P = C0.P) (hE : C.ext = extT tbl) (h0 : CallOK C0.P (callA C0 n)) (hr : RowsOK C0 n tbl) : ExtOK C := by
  intro f E he args v hv
  rw [hE] at he
  unfold extT at he
  split at he
  · cases he
    simp only [Option.map_eq_some_iff] at hv
    obtain ⟨r, hf, rfl⟩ := hv
    have hm := List.mem_of_find?_eq_some hf
    have hp := List.find?_some hf
    simp only [Bool.and_eq_true, beq_iff_eq] at hp
    obtain ⟨rfl, h2⟩ := hp
    rw [← eqAll_eq (eqAV_eq 12) h2, hP]
    exact h0 Unit none _ _ _ _ _ _ _ (rows_mem hr r hm)
  · cases he
end Go.Lite
