/-
  Steps through a tree of cases.
-/
import Derived.Test.YtlofnkkokcihnaaSym
namespace Go.Lite

/-! ### Trees, step by step -/
section
variable {α : Type} {x : Option α}
theorem go_dec {p : Prop} [Decidable p] {t : T α} (hp : p) (h : t.run = x) : (T.need (decide p) t).run = x := by rw [run_need, if_pos (decide_eq_true hp)]; exact h
theorem go_yes {p : Prop} {t : T α} (hp : p) (h : t.run = x) : (T.need (yes p) t).run = x := by rw [run_need, if_pos (yes_true hp)]; exact h
theorem go_need {c : Bool} {t : T α} (hc : c = true) (h : t.run = x) : (T.need c t).run = x := by rw [run_need, if_pos hc]; exact h
theorem go_if {p : Prop} [Decidable p] {t e : T α} (h1 : p → t.run = x) (h2 : ¬ p → e.run = x) : (T.ite (decide p) t e).run = x := by
  rw [run_ite]
  by_cases hp : p
  · rw [if_pos (decide_eq_true hp)]; exact h1 hp
  · rw [if_neg (by simpa using hp)]; exact h2 hp
theorem go_ite {c : Bool} {t e : T α} (h1 : c = true → t.run = x) (h2 : c = false → e.run = x) : (T.ite c t e).run = x := by
  rw [run_ite]
  cases c with
  | true => exact h1 rfl
  | false => exact h2 rfl
theorem go_not {c : Bool} {t e : T α} (h1 : c = false → t.run = x) (h2 : c = true → e.run = x) : (T.ite (!c) t e).run = x := by
  rw [run_ite]
  cases c with
  | true => exact h2 rfl
  | false => exact h1 rfl
theorem go_pos {p : Prop} [Decidable p] {t e : T α} (hp : p) (h : t.run = x) : (T.ite (decide p) t e).run = x := by rw [run_ite, if_pos (decide_eq_true hp)]; exact h
theorem go_neg {p : Prop} [Decidable p] {t e : T α} (hp : ¬ p) (h : e.run = x) : (T.ite (decide p) t e).run = x := by rw [run_ite, if_neg (by simpa using hp)]; exact h
theorem go_true {c : Bool} {t e : T α} (hc : c = true) (h : t.run = x) : (T.ite c t e).run = x := by rw [run_ite, if_pos hc]; exact h
theorem go_false {c : Bool} {t e : T α} (hc : c = false) (h : e.run = x) : (T.ite c t e).run = x := by rw [run_ite, hc]; exact h
theorem go_notT {c : Bool} {t e : T α} (hc : c = true) (h : e.run = x) : (T.ite (!c) t e).run = x := by rw [run_ite, hc]; exact h
theorem go_notF {c : Bool} {t e : T α} (hc : c = false) (h : t.run = x) : (T.ite (!c) t e).run = x := by rw [run_ite, hc]; exact h
theorem go_leaf {a : α} (h : x = some a) : (T.leaf a).run = x := h.symm
end

section
variable {G : List D → T (Ex × List D)} {μ : List D → Nat} {ds : List D} {r : Ex × List D}
theorem rd_dec {p : Prop} [Decidable p] {t : T Rd} (hp : p) (h : RdOK G μ ds r t.run) : RdOK G μ ds r (T.need (decide p) t).run := by rw [run_need, if_pos (decide_eq_true hp)]; exact h
theorem rd_yes {p : Prop} {t : T Rd} (hp : p) (h : RdOK G μ ds r t.run) : RdOK G μ ds r (T.need (yes p) t).run := by rw [run_need, if_pos (yes_true hp)]; exact h
theorem rd_need {c : Bool} {t : T Rd} (hc : c = true) (h : RdOK G μ ds r t.run) : RdOK G μ ds r (T.need c t).run := by rw [run_need, if_pos hc]; exact h
theorem rd_if {p : Prop} [Decidable p] {t e : T Rd} (h1 : p → RdOK G μ ds r t.run) (h2 : ¬ p → RdOK G μ ds r e.run) : RdOK G μ ds r (T.ite (decide p) t e).run := by
  rw [run_ite]
  by_cases hp : p
  · rw [if_pos (decide_eq_true hp)]; exact h1 hp
  · rw [if_neg (by simpa using hp)]; exact h2 hp
theorem rd_ite {c : Bool} {t e : T Rd} (h1 : c = true → RdOK G μ ds r t.run) (h2 : c = false → RdOK G μ ds r e.run) : RdOK G μ ds r (T.ite c t e).run := by
  rw [run_ite]
  cases c with
  | true => exact h1 rfl
  | false => exact h2 rfl
theorem rd_not {c : Bool} {t e : T Rd} (h1 : c = false → RdOK G μ ds r t.run) (h2 : c = true → RdOK G μ ds r e.run) : RdOK G μ ds r (T.ite (!c) t e).run := by
  rw [run_ite]
  cases c with
  | true => exact h2 rfl
  | false => exact h1 rfl
theorem rd_true {c : Bool} {t e : T Rd} (hc : c = true) (h : RdOK G μ ds r t.run) : RdOK G μ ds r (T.ite c t e).run := by rw [run_ite, if_pos hc]; exact h
theorem rd_false {c : Bool} {t e : T Rd} (hc : c = false) (h : RdOK G μ ds r e.run) : RdOK G μ ds r (T.ite c t e).run := by rw [run_ite, hc]; exact h
theorem rd_pos {p : Prop} [Decidable p] {t e : T Rd} (hp : p) (h : RdOK G μ ds r t.run) : RdOK G μ ds r (T.ite (decide p) t e).run := by rw [run_ite, if_pos (decide_eq_true hp)]; exact h
theorem rd_neg {p : Prop} [Decidable p] {t e : T Rd} (hp : ¬ p) (h : RdOK G μ ds r e.run) : RdOK G μ ds r (T.ite (decide p) t e).run := by rw [run_ite, if_neg (by simpa using hp)]; exact h
theorem rd_again {ds' : List D} (h1 : (G ds').run = some r) (h2 : μ ds' < μ ds) : RdOK G μ ds r (T.leaf (Rd.again ds')).run := ⟨_, rfl, .inl ⟨_, rfl, h1, h2⟩⟩
theorem rd_out {e : Ex} {ds' : List D} (h : some (e, ds') = some r) : RdOK G μ ds r (T.leaf (Rd.out e ds')).run := by
  cases h
  exact ⟨_, rfl, .inr rfl⟩
end
/-- One cell, new. -/
theorem upd1 (c : List D) (d : D) (k : K) : updC c [d] 0 0 (List.length [k]) = [d] := by simp [updC]
end Go.Lite
