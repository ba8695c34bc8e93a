import Derived.Test.YtlofnkkokcihnaaLiteBack
namespace Go.Lite

/-- What holds of a handler's state: in a world, with what is immutable, what it may write to, what it needs. -/
abbrev StRel (S : Type) := S → World → (Nat → Prop) → (Nat → Prop) → (Nat → Prop) → Prop
/-- It holds on while what it needs stays. -/
def RMono {S : Type} (RS : StRel S) : Prop := ∀ s w w' (G G' U N : Nat → Prop), RS s w G U N → (w'.os = w.os ∧ w'.output = w.output) → w.heap.size ≤ w'.heap.size → (∀ b, N b → w'.heap[b]? = w.heap[b]?) → (∀ b, szOf w b ≤ szOf w' b) →
  (∀ b, G b → G' b) → (∀ b, G b → w'.heap[b]? = w.heap[b]?) → (∀ b, G' b → G b ∨ ¬ N b) → (∀ b, G' b → b < w'.heap.size) → RS s w' G' U N

/-- What a call leaves. -/
def Ret {S : Type} (RS : StRel S) (w : World) (G U N : Nat → Prop) (ν : Names) (h : Heap) (v : AV) (h' : Heap) (s' : S) : Ending → World → Prop
  | .returned u, w' => ∃ ν' G' U' N', SR w' G' (fun _ => False) U' N' ν' h' ∧ (∀ i, i < h.length → ν'.φ i = ν.φ i) ∧ ν'.y = ν.y ∧ Rel w' G' v ν' (fun _ => False) u ∧
      Ext w w' G G' U U' N N' (Own ν h) (Own ν' h') ∧ RS s' w' G' U' N'
  | _, _ => False

/-- A handler does what the round does. -/
def HS {S : Type} (P : Program) (RS : StRel S) (l : Nat) (Hf : Hd S) : Prop := ∀ ya yh s b rb s', Hf ya yh s = some (.bool b, rb, s') →
  ∀ w (G J U N : Nat → Prop) ν vs, RelL w G ya ν J vs → SR w G J U N ν yh → RS s w G U N →
    ∃ f tmps assign body, (Instr.yield l vs.toArray).run P w = .ok (.round l f tmps assign body) w ∧ RoundIn Fence.wide 0 P l f tmps assign body w fun e w' =>
      e = .returned (.bool b) ∧ ∃ ν' G' U' N', SR w' G' J U' N' ν' rb ∧ rb.length = yh.length ∧ (∀ i, i < yh.length → ν'.φ i = ν.φ i) ∧ ν'.y = ν.y ∧ Ext w w' G G' U U' N N' (Own ν yh) (Own ν' rb) ∧ RS s' w' G' U' N'
def HSO {S : Type} (P : Program) (RS : StRel S) (H : Option (Hd S)) (y : Option Nat) : Prop := ∀ Hf l, H = some Hf → y = some l → HS P RS l Hf

def Ent (P : Program) (f : FuncId) : Prop := ∃ fn c, P.funcs[f]? = some fn ∧ fn.name ≠ "runtime.NumGoroutine" ∧ fn.body = some c

/-- A call does what was reckoned. -/
def Good {S : Type} (P : Program) (H : Option (Hd S)) (f : FuncId) (args : List AV) (h : Heap) (s : S) (v : AV) (h' : Heap) (s' : S) : Prop :=
  Ent P f ∧ ∀ (RS : StRel S) (w : World) (G J U N : Nat → Prop) (ν : Names) (vs : List Value), RMono RS → HSO P RS H ν.y → SR w G J U N ν h → RelL w G args ν J vs → RS s w G U N →
    CallsIn Fence.wide 0 P f vs.toArray w (Ret RS w G U N ν h v h' s')
def CallOK (P : Program) (call : CallT) : Prop := ∀ S H f args h s v h' s', call S H f args h s = some (v, h', s') → Good (S := S) P H f args h s v h' s'
def ExtOK (C : Cfg) : Prop := ∀ f E, C.ext f = some E → ∀ args v, E args = some v → Good (S := Unit) C.P none f args [] () v [] ()

/-- What an operation leaves. -/
def After {S : Type} (RS : StRel S) (w : World) (G J U N : Nat → Prop) (ν : Names) (h : Heap) (at_ : Nat) (r : Res S) (u : Value) (w' : World) : Prop :=
  ∃ ν' G' U' N', SR w' G' J U' N' ν' (hputs (hups h r.ups) at_ r.news) ∧ ν.le ν' ∧ ν'.y = ν.y ∧ Rel w' G' r.v ν' J u ∧ Ext w w' G G' U U' N N' (Own ν h) (Own ν' (hputs (hups h r.ups) at_ r.news)) ∧
    RS r.s w' G' U' N' ∧ ∀ j, ν'.φ j ≠ ν.φ j → at_ ≤ j ∧ j < at_ + r.news.length

section
variable {w w' : World} {G G' J U U' N N' : Nat → Prop} {ν ν' : Names} {h nh : Heap}

theorem SR.noU (S : SR w G J U N ν h) : SR w G J (fun _ => False) N ν h :=
  ⟨S.blk, S.inj, S.dom, S.glt, S.jlt, S.nlt, S.gown, S.jown, S.nown, fun _ _ h => h, fun _ _ h => h, fun _ h => h.elim⟩
theorem SR.withU (S : SR w' G J (fun _ => False) N ν h) (hg : ∀ b, G b → ¬ U b) (hj : ∀ b, J b → ¬ U b) (hu : ∀ b, U b → N b) : SR w' G J U N ν h :=
  ⟨S.blk, S.inj, S.dom, S.glt, S.jlt, S.nlt, S.gown, S.jown, S.nown, hg, hj, hu⟩

/-- Plain actions. -/
theorem after_plain {S : Type} {RS : StRel S} (hRM : RMono RS) (Sr : SR w G J U N ν h) {at_ : Nat} {s : S} (hRS : RS s w G U N) {r : Res S} {u : Value} (L : Left w G J (fun _ => False) N ν h at_ s r u w' ν') : After RS w G J U N ν h at_ r u w' := by
  refine ⟨ν', G, U, N, L.sr.withU Sr.gu Sr.ju Sr.un, L.le, L.y, L.rel, ?_, ?_, L.names⟩
  · have E := L.ext
    exact ⟨E.size, fun b h1 h2 _ => E.keep b h1 h2 (fun h => h), E.own, fun _ h => .inl h, E.n, E.g, fun b hb => (E.g' b hb).imp_right (fun h => h.imp_right (fun h => h.imp_left (fun h => h.elim))), E.sz, E.env⟩
  · rw [L.same]
    have E := L.ext
    exact hRM s w w' G G U N hRS E.env E.size (fun b hb => E.keep b (Sr.nlt b hb) (Sr.nown b hb) (fun h => h)) E.sz (fun _ h => h) (fun b hb => E.keep b (Sr.glt b hb) (Sr.gown b hb) (fun h => h)) (fun _ h => .inl h)
      (fun b hb => Nat.lt_of_lt_of_le (Sr.glt b hb) E.size)

/-- Back from a call that was handed what its arguments reach. -/
theorem after_call {S : Type} {RS : StRel S} (Sr : SR w G J U N ν h) {look : Nat → Option Blk} (hl : ∀ i B, look i = some B → hget h i = some B) {ms : List Nat} (hn : ms.Nodup) {at_ : Nat} (hat : ∀ j, at_ ≤ j → j < at_ + (nh.length - ms.length) → ν.φ j = none) {v : AV} {s' : S} {u : Value}
    (R : Ret RS w G U N (ν.over ms) (handHeap look ms) v nh s' (.returned u) w') :
    After RS w G J U N ν h at_ ⟨mv true true (back ms at_) deep v, (handBack ms at_ nh).1, (handBack ms at_ nh).2, s'⟩ u w' := by
  obtain ⟨ν', G', U', N', hsr, hφ, hy, hv, E, hRS⟩ := R
  obtain ⟨h1, h2, h3, h4⟩ := back_sr (U' := U') (N' := N') Sr hl hn hat (fun _ h => h.elim) hsr (fun i hi => hφ i (by simpa using hi)) (by rw [hy]; intro l hl; exact hl) E (fun _ h => h) E.u E.n hsr.nlt hsr.gu hsr.un hsr.nown
  refine ⟨_, G', U', N', h1, h2, rfl, Rel_mv h4 (by rw [hy]; intro _ l hl; exact hl) (fun _ _ h => h.elim) deep v u hv, h3, hRS, fun j hj => ?_⟩
  simp only [Names.back] at hj
  split at hj
  · rename_i hle
    simpa only [handBack, List.length_map, List.length_drop] using hle
  · exact absurd rfl hj

/-- Back from a call that can write to nothing. -/
theorem after_pure {S : Type} {RS : StRel S} (hRM : RMono RS) (Sr : SR w G J U N ν h) {at_ : Nat} (hat : ∀ j, at_ ≤ j → j < at_ + nh.length → ν.φ j = none) {s : S} (hRS : RS s w G U N) {v : AV} {u : Value} {ν0 : Names} (h0 : ν0.y = none)
    (R : Ret (S := Unit) (fun _ _ _ _ _ => True) w G (fun _ => False) N ν0 [] v nh () (.returned u) w') :
    After RS w G J U N ν h at_ ⟨mv true true (back [] at_) deep v, [], (handBack [] at_ nh).2, s⟩ u w' := by
  obtain ⟨ν', G', U', N', hsr, _, hy, hv, E, _⟩ := R
  rw [h0] at hy
  have hoc : ∀ b, ¬ Own ν0 [] b := by
    rintro b ⟨i, B, h1, _⟩
    rw [hget_nil] at h1; cases h1
  have hown : ∀ b, Own ν' nh b → w.heap.size ≤ b := fun b hb => (E.own b hb).resolve_left (hoc b)
  have hg : ∀ b, G' b → G b ∨ w.heap.size ≤ b := fun b hb => (E.g' b hb).imp_right (fun h => (h.resolve_left (hoc b)).resolve_left (fun h => h))
  have hun : ∀ b, U b → b < w.heap.size := fun b hb => Sr.nlt b (Sr.un b hb)
  have E' : Ext w w' G G' (fun _ => False) U' N N' (Own (ν.over []) (handHeap (fun _ => none) [])) (Own ν' nh) :=
    ⟨E.size, fun b h1 _ h3 => E.keep b h1 (hoc b) h3, fun b hb => .inr (hown b hb), fun b hb => (E.u b hb).imp_right (fun h => .inr (h.resolve_left (hoc b))), fun b hb => (E.n b hb).imp_right (fun h => .inr (h.resolve_left (hoc b))), E.g, fun b hb => (hg b hb).imp_right (fun h => .inr (.inr h)), E.sz, E.env⟩
  obtain ⟨h1, h2, h3, h4⟩ := back_sr (U' := U) (N' := N) (look := fun _ => none) Sr (fun _ _ h => by cases h) (ms := []) List.nodup_nil hat (fun _ h => h.elim) hsr (fun i hi => by cases hi) (by rw [hy]; intro l hl; cases hl) E' (fun _ h => h.elim)
    (fun _ h => .inl h) (fun _ h => .inl h) (fun b hb => Nat.lt_of_lt_of_le (Sr.nlt b hb) E.size) (fun b hb hu => (hg b hb).elim (fun h => Sr.gu b h hu) (fun h => by have := hun b hu; omega)) Sr.un
    (fun b hb ho => by have := hown b ho; have := Sr.nlt b hb; omega)
  refine ⟨_, G', U, N, h1, h2, rfl, Rel_mv h4 (by rw [hy]; intro _ l hl; cases hl) (fun _ _ h => h.elim) deep v u hv, h3, ?_, fun j hj => ?_⟩
  · exact hRM s w w' G G' U N hRS E.env E.size (fun b hb => E.keep b (Sr.nlt b hb) (hoc b) (fun h => h)) E.sz E.g (fun b hb => E.keep b (Sr.glt b hb) (hoc b) (fun h => h))
      (fun b hb => (hg b hb).imp_right (fun h hn => by have := Sr.nlt b hn; omega)) hsr.glt
  · simp only [Names.back] at hj
    split at hj
    · rename_i hle
      simpa only [handBack, List.length_map, List.length_drop] using hle
    · exact absurd rfl hj
end
end Go.Lite
