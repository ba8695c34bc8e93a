/-
  Steps through a tree of cases.
-/
import Derived.Test.YtipbcpobnciccaaSym
namespace Go.Lite

/-! ### Trees, step by step -/
section
variable {α : Type} {x : Option α}
theorem go_dec {p : Prop} [Decidable p] {t : T α} (hp : p) (h : t.run = x) : (T.need (decide p) t).run = x := by rw [run_need, if_pos (decide_eq_true hp)]; exact h
theorem go_yes {p : Prop} {t : T α} (hp : p) (h : t.run = x) : (T.need (yes p) t).run = x := by rw [run_need, if_pos (yes_true hp)]; exact h
theorem go_need {c : Bool} {t : T α} (hc : c = true) (h : t.run = x) : (T.need c t).run = x := by rw [run_need, if_pos hc]; exact h
theorem go_if {p : Prop} [Decidable p] {t e : T α} (h1 : p → t.run = x) (h2 : ¬ p → e.run = x) : (T.ite (decide p) t e).run = x := by
  rw [run_ite]
  by_cases hp : p
  · rw [if_pos (decide_eq_true hp)]; exact h1 hp
  · rw [if_neg (by simpa using hp)]; exact h2 hp
theorem go_ite {c : Bool} {t e : T α} (h1 : c = true → t.run = x) (h2 : c = false → e.run = x) : (T.ite c t e).run = x := by
  rw [run_ite]
  cases c with
  | true => exact h1 rfl
  | false => exact h2 rfl
theorem go_not {c : Bool} {t e : T α} (h1 : c = false → t.run = x) (h2 : c = true → e.run = x) : (T.ite (!c) t e).run = x := by
  rw [run_ite]
  cases c with
  | true => exact h2 rfl
  | false => exact h1 rfl
theorem go_pos {p : Prop} [Decidable p] {t e : T α} (hp : p) (h : t.run = x) : (T.ite (decide p) t e).run = x := by rw [run_ite, if_pos (decide_eq_true hp)]; exact h
theorem go_neg {p : Prop} [Decidable p] {t e : T α} (hp : ¬ p) (h : e.run = x) : (T.ite (decide p) t e).run = x := by rw [run_ite, if_neg (by simpa using hp)]; exact h
theorem go_true {c : Bool} {t e : T α} (hc : c = true) (h : t.run = x) : (T.ite c t e).run = x := by rw [run_ite, if_pos hc]; exact h
theorem go_false {c : Bool} {t e : T α} (hc : c = false) (h : e.run = x) : (T.ite c t e).run = x := by rw [run_ite, hc]; exact h
theorem go_notT {c : Bool} {t e : T α} (hc : c = true) (h : e.run = x) : (T.ite (!c) t e).run = x := by rw [run_ite, hc]; exact h
theorem go_notF {c : Bool} {t e : T α} (hc : c = false) (h : t.run = x) : (T.ite (!c) t e).run = x := by rw [run_ite, hc]; exact h
theorem go_leaf {a : α} (h : x = some a) : (T.leaf a).run = x := h.symm
end

section
variable {G : List D → T (Ex × List D)} {μ : List D → Nat} {ds : List D} {r : Ex × List D}
theorem rd_dec {p : Prop} [Decidable p] {t : T Rd} (hp : p) (h : RdOK G μ ds r t.run) : RdOK G μ ds r (T.need (decide p) t).run := by rw [run_need, if_pos (decide_eq_true hp)]; exact h
theorem rd_yes {p : Prop} {t : T Rd} (hp : p) (h : RdOK G μ ds r t.run) : RdOK G μ ds r (T.need (yes p) t).run := by rw [run_need, if_pos (yes_true hp)]; exact h
theorem rd_need {c : Bool} {t : T Rd} (hc : c = true) (h : RdOK G μ ds r t.run) : RdOK G μ ds r (T.need c t).run := by rw [run_need, if_pos hc]; exact h
theorem rd_if {p : Prop} [Decidable p] {t e : T Rd} (h1 : p → RdOK G μ ds r t.run) (h2 : ¬ p → RdOK G μ ds r e.run) : RdOK G μ ds r (T.ite (decide p) t e).run := by
  rw [run_ite]
  by_cases hp : p
  · rw [if_pos (decide_eq_true hp)]; exact h1 hp
  · rw [if_neg (by simpa using hp)]; exact h2 hp
theorem rd_ite {c : Bool} {t e : T Rd} (h1 : c = true → RdOK G μ ds r t.run) (h2 : c = false → RdOK G μ ds r e.run) : RdOK G μ ds r (T.ite c t e).run := by
  rw [run_ite]
  cases c with
  | true => exact h1 rfl
  | false => exact h2 rfl
theorem rd_not {c : Bool} {t e : T Rd} (h1 : c = false → RdOK G μ ds r t.run) (h2 : c = true → RdOK G μ ds r e.run) : RdOK G μ ds r (T.ite (!c) t e).run := by
  rw [run_ite]
  cases c with
  | true => exact h2 rfl
  | false => exact h1 rfl
theorem rd_true {c : Bool} {t e : T Rd} (hc : c = true) (h : RdOK G μ ds r t.run) : RdOK G μ ds r (T.ite c t e).run := by rw [run_ite, if_pos hc]; exact h
theorem rd_false {c : Bool} {t e : T Rd} (hc : c = false) (h : RdOK G μ ds r e.run) : RdOK G μ ds r (T.ite c t e).run := by rw [run_ite, hc]; exact h
theorem rd_pos {p : Prop} [Decidable p] {t e : T Rd} (hp : p) (h : RdOK G μ ds r t.run) : RdOK G μ ds r (T.ite (decide p) t e).run := by rw [run_ite, if_pos (decide_eq_true hp)]; exact h
theorem rd_neg {p : Prop} [Decidable p] {t e : T Rd} (hp : ¬ p) (h : RdOK G μ ds r e.run) : RdOK G μ ds r (T.ite (decide p) t e).run := by rw [run_ite, if_neg (by simpa using hp)]; exact h
theorem rd_again {ds' : List D} (h1 : (G ds').run = some r) (h2 : μ ds' < μ ds) : RdOK G μ ds r (T.leaf (Rd.again ds')).run := ⟨_, rfl, .inl ⟨_, rfl, h1, h2⟩⟩
theorem rd_out {e : Ex} {ds' : List D} (h : some (e, ds') = some r) : RdOK G μ ds r (T.leaf (Rd.out e ds')).run := by
  cases h
  exact ⟨_, rfl, .inr rfl⟩
end
/-- One cell, new. -/
theorem upd1 (c : List D) (d : D) (k : K) : updC c [d] 0 0 (List.length [k]) = [d] := by simp [updC]

/-! ### A copy of a slice: of one that is nil or empty, and of others -/
/-- A copy that is nil or empty, or one's own. -/
noncomputable def Gcl (ds : List D) : T (List D) := match ds with
  | [l] => .need (yes (l.L.length ≤ 1073741824)) (.ite l.L.isEmpty (.leaf [.i 1]) (.leaf [.i 0, .i l.L.length, .l l.L]))
  | _ => .fail
noncomputable def Gcl1 (ds : List D) : T (List D) := match ds with
  | [l] => .need (yes (l.L ≠ [] ∧ l.L.length ≤ 1073741824)) (.leaf [.i 0, .i l.L.length, .l l.L])
  | _ => .fail
theorem clone_ok {C : Cfg} {n : Nat} {f : FuncId} {ks : List K} (k1 : callA C n Unit none f [.nils] [] () = some (.nils, [], ())) (k2 : ∀ kd c0, callA C n Unit none f [.ro kd c0 ks.length []] [] () = some (.ro .g true ks.length [], [], ()))
    (k3 : FnOK C n f (mkF ⟨[.k (.ro ks)], [(.sl 0 ks.length, [.row ks]), (.emp ks.length, [])]⟩ Gcl1)) : FnOK C n f (mkF ⟨[.k (.ro ks)], [(.sl 0 ks.length, [.row ks]), (.emp ks.length, [])]⟩ Gcl) := by
  intro args v hb h avs hv
  unfold mkF at h
  split at h
  case h_2 => cases h
  rename_i ds hds
  obtain ⟨hv1, -⟩ := fitsVs_sim _ [] hds hv
  rw [List.append_nil] at hv1
  rw [T.run_map, Option.map_eq_some_iff] at h
  obtain ⟨r, hr, he⟩ := h
  unfold Gcl at hr
  split at hr
  case h_2 => cases hr
  rename_i l
  obtain ⟨hp, hr⟩ := need_some hr
  rw [yes_iff] at hp
  rw [run_ite] at hr
  split at hr
  · rename_i hem
    simp only [run_leaf, Option.some.injEq] at hr
    subst hr
    simp only [headR, headR1, List.headD_cons, List.tail_cons, D.I, Prod.mk.injEq] at he
    obtain ⟨rfl, rfl⟩ := he
    simp only [headVs, headV, List.headD_cons, VRL] at hv1
    obtain ⟨a, _, rfl, ha, rfl⟩ := hv1
    have hl : l.L = [] := by simpa using hem
    simp only [dec, VR] at ha
    rcases ha with ⟨rfl, -⟩ | ⟨kd, c0, es, rfl, -, hes⟩
    · exact ⟨_, _, k1, by show VR (.emp ks.length) _; simp only [VR]; exact .inl trivial, rfl, fun i => by simp only [sget, hget, List.getElem?_nil]; trivial⟩
    · have : es = [] := by have := hes.1; rw [hl] at this; exact List.length_eq_zero_iff.1 this
      subst this
      exact ⟨_, _, k2 kd c0, by show VR (.emp ks.length) _; simp only [VR]; exact .inr trivial, rfl, fun i => by simp only [sget, hget, List.getElem?_nil]; trivial⟩
  · rename_i hem
    simp only [run_leaf, Option.some.injEq] at hr
    subst hr
    refine k3 args v hb ?_ avs hv
    unfold mkF
    rw [hds]
    simp only [T.run_map, Gcl1]
    rw [run_need, if_pos (yes_true ⟨fun h => hem (by rw [h]; rfl), hp⟩)]
    simp only [run_leaf, Option.map_some, Option.some.injEq]
    exact he
end Go.Lite
