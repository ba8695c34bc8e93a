import Derived.Test.YtlofnkkokcihnaaLitePlan
namespace Go.Lite
section
variable {w w' : World} {G : Nat → Prop} {ν ν' : Names} {J : Nat → Prop}

/-! ### Rows -/
theorem MemE_flat : ∀ {es : List (List AV)} {b o s : Nat}, MemE w G es ν J b o s → (∀ e ∈ es, e.length = s) ∧ MemL w G es.flatten ν J b o
  | [], _, _, _, _ => ⟨(fun _ h => by cases h), (by simp only [List.flatten_nil, MemL])⟩
  | e :: es, b, o, s, h => by
    simp only [MemE] at h
    obtain ⟨hl, h1, h2⟩ := h
    obtain ⟨h3, h4⟩ := MemE_flat h2
    refine ⟨fun e' he => (List.mem_cons.1 he).elim (fun h => h ▸ hl) (h3 e'), ?_⟩
    rw [List.flatten_cons]
    exact MemL_append h1 (by rw [hl]; exact h4)
theorem MemE_of_flat : ∀ {es : List (List AV)} {b o s : Nat}, (∀ e ∈ es, e.length = s) → MemL w G es.flatten ν J b o → MemE w G es ν J b o s
  | [], _, _, _, _, _ => by simp only [MemE]
  | e :: es, b, o, s, hl, h => by
    rw [List.flatten_cons] at h
    have he := hl e (by simp)
    simp only [MemE]
    refine ⟨he, ?_, MemE_of_flat (fun e' h' => hl e' (by simp [h'])) ?_⟩
    · have := MemL_take e.length h
      simpa using this
    · have := MemL_drop e.length h
      rw [List.drop_left, he] at this
      exact this
theorem flat_len {es : List (List AV)} {s : Nat} (h : ∀ e ∈ es, e.length = s) : es.flatten.length = es.length * s := by
  induction es with
  | nil => simp
  | cons e es ih => rw [List.flatten_cons, List.length_append, h e (by simp), ih (fun e' h' => h e' (by simp [h'])), List.length_cons, Nat.succ_mul]; omega
theorem flat_take {es : List (List AV)} {s : Nat} (h : ∀ e ∈ es, e.length = s) : ∀ (n : Nat), (es.take n).flatten = es.flatten.take (n * s) := by
  induction es with
  | nil => intro n; simp
  | cons e es ih =>
    intro n
    have he := h e (by simp)
    cases n with
    | zero => simp
    | succ n =>
      rw [List.take_succ_cons, List.flatten_cons, List.flatten_cons, ih (fun e' h' => h e' (by simp [h'])), List.take_append, he]
      rw [show (n + 1) * s - s = n * s by rw [Nat.succ_mul]; omega]
      rw [List.take_of_length_le (l := e) (by rw [he, Nat.succ_mul]; omega)]
theorem flat_drop {es : List (List AV)} {s : Nat} (h : ∀ e ∈ es, e.length = s) : ∀ (n : Nat), (es.drop n).flatten = es.flatten.drop (n * s) := by
  induction es with
  | nil => intro n; simp
  | cons e es ih =>
    intro n
    have he := h e (by simp)
    cases n with
    | zero => simp
    | succ n =>
      rw [List.drop_succ_cons, List.flatten_cons, ih (fun e' h' => h e' (by simp [h'])), List.drop_append, he]
      rw [show (n + 1) * s - s = n * s by rw [Nat.succ_mul]; omega]
      rw [List.drop_eq_nil_of_le (as := e) (by rw [he, Nat.succ_mul]; omega)]
      simp
theorem set_eq_take_drop {α : Type} (l : List α) (k : Nat) (x : α) (h : k < l.length) : l.set k x = l.take k ++ [x] ++ l.drop (k + 1) := by
  rw [List.set_eq_take_append_cons_drop, if_pos h]; simp
theorem flat_set {es : List (List AV)} {s k j : Nat} {cs vs : List AV} (h : ∀ e ∈ es, e.length = s) (hk : es[k]? = some cs) (hj : j + vs.length ≤ cs.length) :
    (es.set k (cs.take j ++ vs ++ cs.drop (j + vs.length))).flatten = es.flatten.take (k * s + j) ++ vs ++ es.flatten.drop (k * s + j + vs.length) := by
  have hlt : k < es.length := (List.getElem?_eq_some_iff.1 hk).1
  have hcs : cs.length = s := h cs (List.mem_of_getElem? hk)
  have hsplit : es.flatten = es.flatten.take (k * s) ++ cs ++ es.flatten.drop ((k + 1) * s) := by
    rw [← flat_take h, ← flat_drop h]
    conv => lhs; rw [← List.take_append_drop k es]
    rw [List.flatten_append, List.drop_eq_getElem_cons hlt, List.flatten_cons]
    rw [show es[k] = cs by have := List.getElem?_eq_some_iff.1 hk; exact this.2]
    simp
  have hl1 : (es.flatten.take (k * s)).length = k * s := by
    rw [← flat_take h, flat_len (s := s) (fun e he => h e (List.mem_of_mem_take he)), List.length_take]; congr 1; omega
  rw [set_eq_take_drop _ _ _ hlt]
  simp only [List.flatten_append, List.flatten_cons, List.flatten_nil, List.append_nil]
  rw [flat_take h, flat_drop h]
  have e1 : es.flatten.take (k * s + j) = es.flatten.take (k * s) ++ cs.take j := by
    conv => lhs; rw [hsplit]
    rw [List.append_assoc, List.take_append, hl1, List.take_of_length_le (by omega), List.take_append]
    rw [show k * s + j - k * s = j by omega, show j - cs.length = 0 by omega]; simp
  have e2 : es.flatten.drop (k * s + j + vs.length) = cs.drop (j + vs.length) ++ es.flatten.drop ((k + 1) * s) := by
    conv => lhs; rw [hsplit]
    rw [List.append_assoc, List.drop_append, hl1, List.drop_eq_nil_of_le (by omega), List.nil_append, List.drop_append]
    rw [show k * s + j + vs.length - k * s = j + vs.length by omega, show j + vs.length - cs.length = 0 by omega]; simp
  rw [e1, e2]; simp [List.append_assoc]

/-- Contents told more weakly. -/
theorem nu_le (ν : Names) (f : Bool) : (nu ν f).le ν := by cases f; exact Names.le_refl _; exact Names.none_le _
theorem ju_sub (J : Nat → Prop) (f : Bool) : ∀ b, ju J f b → J b := by cases f; exact fun _ h => h; exact fun _ h => h.elim
theorem nu_nu (ν : Names) {f g : Bool} (h : g = true → f = true) : (nu ν f).le (nu ν g) := by
  cases g with
  | false => exact nu_le ν f
  | true => rw [h rfl]; exact Names.le_refl _
theorem ju_ju (J : Nat → Prop) {f g : Bool} (h : g = true → f = true) : ∀ b, ju J f b → ju J g b := by
  cases g with
  | false => exact ju_sub J f
  | true => rw [h rfl]; exact fun _ h => h
theorem RelL_flag {cs : List AV} {vs : List Value} {f g : Bool} (h : g = true → f = true) (hr : RelL w G cs (nu ν f) (ju J f) vs) : RelL w G cs (nu ν g) (ju J g) vs :=
  RelL_mono (fun _ h => h) (fun _ _ => rfl) (fun _ => Nat.le_refl _) cs (nu_nu ν h) (fun b hb => .inl (ju_ju J h b hb)) (fun _ _ => rfl) hr
theorem RelL_unflag {cs : List AV} {vs : List Value} {f : Bool} (hr : RelL w G cs (nu ν f) (ju J f) vs) : RelL w G cs ν J vs :=
  RelL_mono (fun _ h => h) (fun _ _ => rfl) (fun _ => Nat.le_refl _) cs (nu_le ν f) (fun b hb => .inl (ju_sub J f b hb)) (fun _ _ => rfl) hr
theorem Rel_unflag {c : AV} {v : Value} {f : Bool} (hr : Rel w G c (nu ν f) (ju J f) v) : Rel w G c ν J v :=
  Rel_mono (fun _ h => h) (fun _ _ => rfl) (fun _ => Nat.le_refl _) c (nu_le ν f) (fun b hb => .inl (ju_sub J f b hb)) (fun _ _ => rfl) hr
theorem RelL_asflag {cs : List AV} {vs : List Value} {f : Bool} (hf : f = true → flatL cs = true) (hr : RelL w G cs ν J vs) : RelL w G cs (nu ν f) (ju J f) vs := by
  cases f with
  | false => exact hr
  | true => exact flatL_rel (hf rfl) hr

theorem setRow_heap_same (w : World) (b : Nat) (cs : Array Value) {cells : Array Value} {e : TypeId} (h : w.heap[b]? = some (.cells cells e (0, 0))) : (w.setRow b cs).heap[b]? = some (.cells cs e (0, 0)) := by
  unfold World.setRow
  show (w.heap.modify b _)[b]? = _
  rw [Array.getElem?_modify, if_pos rfl, h]; rfl
theorem setRow_heap_other (w : World) (b : Nat) (cs : Array Value) {b' : Nat} (h : b' ≠ b) : (w.setRow b cs).heap[b']? = w.heap[b']? := by
  unfold World.setRow
  show (w.heap.modify b _)[b']? = _
  rw [Array.getElem?_modify, if_neg (Ne.symm h)]
theorem setRow_size (w : World) (b : Nat) (cs : Array Value) : (w.setRow b cs).heap.size = w.heap.size := by
  simp [World.setRow]

/-- A row of cells told by its values. -/
theorem MemL_row {b : Nat} {cells : Array Value} {e : TypeId} {cs : List AV} {vs : List Value} (hb : w.heap[b]? = some (.cells cells e (0, 0))) (h : RelL w G cs ν J vs) (h1 : ∀ v ∈ vs, v.oneCell' = true) (hp : vs <+: cells.toList) : MemL w G cs ν J b 0 := by
  refine MemL_of_vals h h1 fun i v hv => ?_
  obtain ⟨r, hr⟩ := hp
  have : cells[i]? = some v := by
    rw [← Array.getElem?_toList, ← hr, List.getElem?_append_left (List.getElem?_eq_some_iff.1 hv).1]; exact hv
  simp [World.cell?, hb, this]
theorem row_MemL {b : Nat} {cells : Array Value} {e : TypeId} {cs : List AV} (hb : w.heap[b]? = some (.cells cells e (0, 0))) (h : MemL w G cs ν J b 0) :
    RelL w G cs ν J (cells.toList.take cs.length) ∧ ∀ v ∈ cells.toList.take cs.length, v.oneCell' = true := by
  obtain ⟨vs, hvs, h1, hc⟩ := MemL_vals h
  have hlen := RelL_length hvs
  have : vs = cells.toList.take cs.length := by
    apply List.ext_getElem?
    intro i
    rw [List.getElem?_take]
    by_cases hi : i < vs.length
    · have := hc i vs[i] (by rw [List.getElem?_eq_getElem hi])
      simp only [World.cell?, hb, Nat.zero_add, Option.isSome_none, Bool.false_eq_true, if_false] at this
      rw [if_pos (by omega), List.getElem?_eq_getElem hi]
      rw [← this]; simp
    · rw [List.getElem?_eq_none (by omega), if_neg (by omega)]
  rw [← this]; exact ⟨hvs, h1⟩
end
end Go.Lite
