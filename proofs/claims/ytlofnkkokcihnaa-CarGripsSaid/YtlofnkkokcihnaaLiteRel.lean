import Derived.Test.YtlofnkkokcihnaaLiteDef
import Derived.WalkKit
import Derived.Deep.AppendSrc
import Derived.Laws.CopyRow
namespace Go.Lite

/-- The names of own blocks, and which loop's record yield speaks of. -/
structure Names where
  φ : Nat → Option Nat
  y : Option Nat
def Names.none : Names := ⟨fun _ => Option.none, Option.none⟩

/-- How many cells a block has. -/
def szOf (w : World) (b : Nat) : Nat := match w.heap[b]? with
  | some (.cells cs _ _) => cs.size
  | _ => 0

/-- Where immutable memory lies, and what its contents may be: G: blocks that never change; J: those that do not change in this call. -/
def locP (G J : Nat → Prop) : Kd → Nat → Prop
  | .g, b => G b
  | _, b => J b ∨ G b
def innP (J : Nat → Prop) : Kd → Nat → Prop
  | .n => J
  | _ => fun _ => False

mutual
/-- An abstract value and the machine's. G: blocks that never change; J: blocks that do not change in this call. -/
def Rel (w : World) (G : Nat → Prop) : AV → Names → (Nat → Prop) → Value → Prop
  | .any, _, _, _ => True
  | .und, _, _, v => v = undef
  | .int k n, _, _, v => v = .int k n
  | .bool b, _, _, v => v = .bool b
  | .agg cs, ν, J, v => ∃ vs : List Value, v = .agg vs.toArray ∧ RelL w G cs ν J vs
  | .tup cs, ν, J, v => ∃ vs : List Value, v = .tuple vs.toArray ∧ RelL w G cs ν J vs
  | .nilp, _, _, v => v = .pointer .none
  | .ptr i s k j, ν, _, v => ∃ b, ν.φ i = some b ∧ v = .pointer (some ⟨b, k * s + j, .none⟩)
  | .eptr kd cs, _, J, v => ∃ b o, v = .pointer (some ⟨b, o, .none⟩) ∧ locP G J kd b ∧ MemL w G cs Names.none (innP J kd) b o
  | .nils, _, _, v => v = .slice .none 0 0
  | .ro kd c0 s es, _, J, v => (es = [] ∧ ∃ a c, v = .slice a 0 c ∧ (c0 = true → c = 0)) ∨ ∃ b o cap, v = .slice (some ⟨b, o, .none⟩) es.length cap ∧ es.length ≤ cap ∧ (c0 = true → cap = es.length) ∧ (es ≠ [] → locP G J kd b) ∧ MemE w G es Names.none (innP J kd) b o s
  | .sl i s lo n cap, ν, _, v => ∃ b o c, ν.φ i = some b ∧ v = .slice (some ⟨b, o, .none⟩) n c ∧ n ≤ c ∧ (0 < n ∨ lo = 0 → o = lo * s) ∧ (∀ m, cap = some m → c = m) ∧ o + c * s ≤ szOf w b
  | .nilf, _, _, v => v = .nilFunc
  | .fn f a c, ν, J, v => ∃ as cs : List Value, v = .func f as.toArray cs.toArray ∧ RelL w G a ν J as ∧ RelL w G c ν J cs
  | .yl, ν, _, v => ∃ l, ν.y = some l ∧ v = .func (.yield l) #[] #[]
  | .nili, _, _, v => v = .nilIface
  | .ifc t x, ν, J, v => ∃ u, v = .iface t u ∧ Rel w G x ν J u
  | .nilm, _, _, v => v = .map .none
  | .mp i, ν, _, v => ∃ b, ν.φ i = some b ∧ v = .map (some b)
def RelL (w : World) (G : Nat → Prop) : List AV → Names → (Nat → Prop) → List Value → Prop
  | [], _, _, vs => vs = []
  | c :: cs, ν, J, vs => ∃ u us, vs = u :: us ∧ Rel w G c ν J u ∧ RelL w G cs ν J us
def MemL (w : World) (G : Nat → Prop) : List AV → Names → (Nat → Prop) → Nat → Nat → Prop
  | [], _, _, _, _ => True
  | c :: cs, ν, J, b, o => (∃ u, w.cell? ⟨b, o, .none⟩ = some u ∧ u.oneCell' = true ∧ Rel w G c ν J u) ∧ MemL w G cs ν J b (o + 1)
def MemE (w : World) (G : Nat → Prop) : List (List AV) → Names → (Nat → Prop) → Nat → Nat → Nat → Prop
  | [], _, _, _, _, _ => True
  | e :: es, ν, J, b, o, s => e.length = s ∧ MemL w G e ν J b o ∧ MemE w G es ν J b (o + s) s
end

/-- Names that say as much, or more. -/
def Names.le (ν ν' : Names) : Prop := (∀ i b, ν.φ i = some b → ν'.φ i = some b) ∧ (∀ l, ν.y = some l → ν'.y = some l)
theorem Names.le_refl (ν : Names) : ν.le ν := ⟨fun _ _ h => h, fun _ h => h⟩
theorem Names.none_le (ν : Names) : Names.none.le ν := ⟨fun _ _ h => by simp [Names.none] at h, fun _ h => by simp [Names.none] at h⟩

theorem cell_of_heap {w w' : World} {b : Nat} (h : w'.heap[b]? = w.heap[b]?) (o : Nat) : w'.cell? ⟨b, o, .none⟩ = w.cell? ⟨b, o, .none⟩ := by
  simp [World.cell?, h]

theorem locP_mono {G G' J J' : Nat → Prop} {kd : Kd} {b : Nat} (hG : ∀ b, G b → G' b) (hJ : ∀ b, J b → J' b ∨ G' b) (h : locP G J kd b) : locP G' J' kd b := by
  cases kd with
  | g => exact hG _ h
  | b => exact h.elim (hJ _) (fun h => .inr (hG _ h))
  | n => exact h.elim (hJ _) (fun h => .inr (hG _ h))
theorem innP_mono {G' J J' : Nat → Prop} {kd : Kd} (hJ : ∀ b, J b → J' b ∨ G' b) : ∀ b, innP J kd b → innP J' kd b ∨ G' b := by
  cases kd with
  | g => exact fun _ h => h.elim
  | b => exact fun _ h => h.elim
  | n => exact hJ
theorem innP_sub {J : Nat → Prop} {kd : Kd} : ∀ b, innP J kd b → J b := by
  cases kd with
  | g => exact fun _ h => h.elim
  | b => exact fun _ h => h.elim
  | n => exact fun _ h => h
theorem locP_sub {G J : Nat → Prop} {kd : Kd} {b : Nat} (h : locP G J kd b) : J b ∨ G b := by
  cases kd with
  | g => exact .inr h
  | b => exact h
  | n => exact h

mutual
theorem Rel_mono {w w' : World} {G G' : Nat → Prop} (hG : ∀ b, G b → G' b) (hw : ∀ b, G b → w'.heap[b]? = w.heap[b]?) (hs : ∀ b, szOf w b ≤ szOf w' b) :
    ∀ (c : AV) {ν ν' : Names} {J J' : Nat → Prop} {v : Value}, ν.le ν' → (∀ b, J b → J' b ∨ G' b) → (∀ b, J b → w'.heap[b]? = w.heap[b]?) →
      Rel w G c ν J v → Rel w' G' c ν' J' v
  | .any, _, _, _, _, _, _, _, _, _ => trivial
  | .und, _, _, _, _, _, _, _, _, h => h
  | .int _ _, _, _, _, _, _, _, _, _, h => h
  | .bool _, _, _, _, _, _, _, _, _, h => h
  | .agg cs, _, _, _, _, _, hν, hJ, hJw, h => by
    simp only [Rel] at h ⊢
    obtain ⟨vs, e, h⟩ := h
    exact ⟨vs, e, RelL_mono hG hw hs cs hν hJ hJw h⟩
  | .tup cs, _, _, _, _, _, hν, hJ, hJw, h => by
    simp only [Rel] at h ⊢
    obtain ⟨vs, e, h⟩ := h
    exact ⟨vs, e, RelL_mono hG hw hs cs hν hJ hJw h⟩
  | .nilp, _, _, _, _, _, _, _, _, h => h
  | .ptr _ _ _ _, _, _, _, _, _, hν, _, _, h => by
    simp only [Rel] at h ⊢
    obtain ⟨b, e, h⟩ := h
    exact ⟨b, hν.1 _ _ e, h⟩
  | .eptr kd cs, _, _, _, _, _, _, hJ, hJw, h => by
    simp only [Rel] at h ⊢
    obtain ⟨b, o, e, hb, h⟩ := h
    exact ⟨b, o, e, locP_mono hG hJ hb, MemL_mono hG hw hs cs (Names.le_refl _) (innP_mono hJ) (fun b h => hJw b (innP_sub b h)) ((locP_sub hb).elim (hJw _) (hw _)) h⟩
  | .nils, _, _, _, _, _, _, _, _, h => h
  | .ro kd c0 s es, _, _, _, _, _, _, hJ, hJw, h => by
    simp only [Rel] at h ⊢
    rcases h with h | ⟨b, o, cap, e, h1, h2, hb, h⟩
    · exact .inl h
    refine .inr ⟨b, o, cap, e, h1, h2, fun hn => locP_mono hG hJ (hb hn), ?_⟩
    by_cases hn : es = []
    · subst hn; trivial
    · exact MemE_mono hG hw hs es (Names.le_refl _) (innP_mono hJ) (fun b h => hJw b (innP_sub b h)) ((locP_sub (hb hn)).elim (hJw _) (hw _)) h
  | .sl _ _ _ _ _, _, _, _, _, _, hν, _, _, h => by
    simp only [Rel] at h ⊢
    obtain ⟨b, o, c, e, h1, h2, h3, h4, h5⟩ := h
    exact ⟨b, o, c, hν.1 _ _ e, h1, h2, h3, h4, Nat.le_trans h5 (hs b)⟩
  | .nilf, _, _, _, _, _, _, _, _, h => h
  | .fn _ a c, _, _, _, _, _, hν, hJ, hJw, h => by
    simp only [Rel] at h ⊢
    obtain ⟨as, cs, e, h1, h2⟩ := h
    exact ⟨as, cs, e, RelL_mono hG hw hs a hν hJ hJw h1, RelL_mono hG hw hs c hν hJ hJw h2⟩
  | .yl, _, _, _, _, _, hν, _, _, h => by
    simp only [Rel] at h ⊢
    obtain ⟨l, e, h⟩ := h
    exact ⟨l, hν.2 _ e, h⟩
  | .nili, _, _, _, _, _, _, _, _, h => h
  | .ifc _ x, _, _, _, _, _, hν, hJ, hJw, h => by
    simp only [Rel] at h ⊢
    obtain ⟨u, e, h⟩ := h
    exact ⟨u, e, Rel_mono hG hw hs x hν hJ hJw h⟩
  | .nilm, _, _, _, _, _, _, _, _, h => h
  | .mp _, _, _, _, _, _, hν, _, _, h => by
    simp only [Rel] at h ⊢
    obtain ⟨b, e, h⟩ := h
    exact ⟨b, hν.1 _ _ e, h⟩
theorem RelL_mono {w w' : World} {G G' : Nat → Prop} (hG : ∀ b, G b → G' b) (hw : ∀ b, G b → w'.heap[b]? = w.heap[b]?) (hs : ∀ b, szOf w b ≤ szOf w' b) :
    ∀ (cs : List AV) {ν ν' : Names} {J J' : Nat → Prop} {vs : List Value}, ν.le ν' → (∀ b, J b → J' b ∨ G' b) → (∀ b, J b → w'.heap[b]? = w.heap[b]?) →
      RelL w G cs ν J vs → RelL w' G' cs ν' J' vs
  | [], _, _, _, _, _, _, _, _, h => by simpa only [RelL] using h
  | c :: cs, _, _, _, _, _, hν, hJ, hJw, h => by
    simp only [RelL] at h ⊢
    obtain ⟨u, us, e, h1, h2⟩ := h
    exact ⟨u, us, e, Rel_mono hG hw hs c hν hJ hJw h1, RelL_mono hG hw hs cs hν hJ hJw h2⟩
theorem MemL_mono {w w' : World} {G G' : Nat → Prop} (hG : ∀ b, G b → G' b) (hw : ∀ b, G b → w'.heap[b]? = w.heap[b]?) (hs : ∀ b, szOf w b ≤ szOf w' b) :
    ∀ (cs : List AV) {ν ν' : Names} {J J' : Nat → Prop} {b o : Nat}, ν.le ν' → (∀ b, J b → J' b ∨ G' b) → (∀ b, J b → w'.heap[b]? = w.heap[b]?) →
      w'.heap[b]? = w.heap[b]? → MemL w G cs ν J b o → MemL w' G' cs ν' J' b o
  | [], _, _, _, _, _, _, _, _, _, _, _ => by simp only [MemL]
  | c :: cs, _, _, _, _, _, _, hν, hJ, hJw, hb, h => by
    simp only [MemL] at h ⊢
    obtain ⟨⟨u, e, h0, h1⟩, h2⟩ := h
    exact ⟨⟨u, by rw [cell_of_heap hb]; exact e, h0, Rel_mono hG hw hs c hν hJ hJw h1⟩, MemL_mono hG hw hs cs hν hJ hJw hb h2⟩
theorem MemE_mono {w w' : World} {G G' : Nat → Prop} (hG : ∀ b, G b → G' b) (hw : ∀ b, G b → w'.heap[b]? = w.heap[b]?) (hs : ∀ b, szOf w b ≤ szOf w' b) :
    ∀ (es : List (List AV)) {ν ν' : Names} {J J' : Nat → Prop} {b o s : Nat}, ν.le ν' → (∀ b, J b → J' b ∨ G' b) → (∀ b, J b → w'.heap[b]? = w.heap[b]?) →
      w'.heap[b]? = w.heap[b]? → MemE w G es ν J b o s → MemE w' G' es ν' J' b o s
  | [], _, _, _, _, _, _, _, _, _, _, _, _ => by simp only [MemE]
  | e :: es, _, _, _, _, _, _, _, hν, hJ, hJw, hb, h => by
    simp only [MemE] at h ⊢
    obtain ⟨hl, h1, h2⟩ := h
    exact ⟨hl, MemL_mono hG hw hs e hν hJ hJw hb h1, MemE_mono hG hw hs es hν hJ hJw hb h2⟩
end

/-! ### Lists of cells -/
section
variable {w : World} {G J : Nat → Prop} {ν : Names}

theorem RelL_length : ∀ {cs : List AV} {vs : List Value}, RelL w G cs ν J vs → cs.length = vs.length
  | [], _, h => by simp only [RelL] at h; simp [h]
  | c :: cs, _, h => by
    simp only [RelL] at h
    obtain ⟨u, us, rfl, _, h⟩ := h
    simp [RelL_length h]
theorem RelL_cons {c : AV} {cs : List AV} {v : Value} {vs : List Value} (h : Rel w G c ν J v) (hs : RelL w G cs ν J vs) : RelL w G (c :: cs) ν J (v :: vs) := by
  simp only [RelL]; exact ⟨v, vs, rfl, h, hs⟩
theorem RelL_nil : RelL w G [] ν J [] := by simp only [RelL]
theorem RelL_append : ∀ {cs : List AV} {vs : List Value} {ds : List AV} {us : List Value}, RelL w G cs ν J vs → RelL w G ds ν J us → RelL w G (cs ++ ds) ν J (vs ++ us)
  | [], _, _, _, h, h' => by simp only [RelL] at h; subst h; exact h'
  | c :: cs, _, _, _, h, h' => by
    simp only [RelL] at h
    obtain ⟨u, us, rfl, h1, h2⟩ := h
    exact RelL_cons h1 (RelL_append h2 h')
theorem RelL_get : ∀ {cs : List AV} {vs : List Value} {i : Nat} {c : AV}, RelL w G cs ν J vs → cs[i]? = some c → ∃ v, vs[i]? = some v ∧ Rel w G c ν J v
  | c :: cs, _, 0, _, h, e => by
    simp only [RelL] at h
    obtain ⟨u, us, rfl, h1, h2⟩ := h
    simp at e; subst e
    exact ⟨u, rfl, h1⟩
  | c :: cs, _, i + 1, _, h, e => by
    simp only [RelL] at h
    obtain ⟨u, us, rfl, h1, h2⟩ := h
    simp at e
    obtain ⟨v, hv, hr⟩ := RelL_get h2 e
    exact ⟨v, by simpa using hv, hr⟩
theorem RelL_get' : ∀ {cs : List AV} {vs : List Value} {i : Nat} {v : Value}, RelL w G cs ν J vs → vs[i]? = some v → ∃ c, cs[i]? = some c ∧ Rel w G c ν J v
  | [], _, _, _, h, e => by simp only [RelL] at h; subst h; simp at e
  | c :: cs, _, 0, _, h, e => by
    simp only [RelL] at h
    obtain ⟨u, us, rfl, h1, h2⟩ := h
    simp at e; subst e
    exact ⟨c, rfl, h1⟩
  | c :: cs, _, i + 1, _, h, e => by
    simp only [RelL] at h
    obtain ⟨u, us, rfl, h1, h2⟩ := h
    simp at e
    obtain ⟨d, hd, hr⟩ := RelL_get' h2 e
    exact ⟨d, by simpa using hd, hr⟩
theorem RelL_set : ∀ {cs : List AV} {vs : List Value} (i : Nat) {c : AV} {v : Value}, RelL w G cs ν J vs → Rel w G c ν J v → RelL w G (cs.set i c) ν J (vs.set i v)
  | [], _, _, _, _, h, _ => by simp only [RelL] at h; subst h; simpa using RelL_nil
  | c :: cs, _, 0, _, _, h, hc => by
    simp only [RelL] at h
    obtain ⟨u, us, rfl, h1, h2⟩ := h
    exact RelL_cons hc h2
  | c :: cs, _, i + 1, _, _, h, hc => by
    simp only [RelL] at h
    obtain ⟨u, us, rfl, h1, h2⟩ := h
    exact RelL_cons h1 (RelL_set i h2 hc)
theorem RelL_take : ∀ {cs : List AV} {vs : List Value} (n : Nat), RelL w G cs ν J vs → RelL w G (cs.take n) ν J (vs.take n)
  | [], _, n, h => by simp only [RelL] at h; subst h; simpa using RelL_nil
  | c :: cs, _, 0, h => by simpa using RelL_nil
  | c :: cs, _, n + 1, h => by
    simp only [RelL] at h
    obtain ⟨u, us, rfl, h1, h2⟩ := h
    exact RelL_cons h1 (RelL_take n h2)
theorem RelL_drop : ∀ {cs : List AV} {vs : List Value} (n : Nat), RelL w G cs ν J vs → RelL w G (cs.drop n) ν J (vs.drop n)
  | [], _, n, h => by simp only [RelL] at h; subst h; simpa using RelL_nil
  | c :: cs, _, 0, h => by simpa using h
  | c :: cs, _, n + 1, h => by
    simp only [RelL] at h
    obtain ⟨u, us, rfl, h1, h2⟩ := h
    simpa using RelL_drop n h2

theorem MemL_append : ∀ {cs ds : List AV} {b o : Nat}, MemL w G cs ν J b o → MemL w G ds ν J b (o + cs.length) → MemL w G (cs ++ ds) ν J b o
  | [], _, _, _, _, h' => by simpa using h'
  | c :: cs, ds, b, o, h, h' => by
    simp only [MemL, List.cons_append] at h ⊢
    exact ⟨h.1, MemL_append h.2 (by simpa [Nat.add_assoc, Nat.add_comm 1] using h')⟩
theorem MemL_take : ∀ {cs : List AV} {b o : Nat} (n : Nat), MemL w G cs ν J b o → MemL w G (cs.take n) ν J b o
  | [], _, _, _, h => by simp only [List.take_nil, MemL]
  | c :: cs, _, _, 0, h => by simp only [List.take_zero, MemL]
  | c :: cs, _, _, n + 1, h => by
    simp only [MemL, List.take_succ_cons] at h ⊢
    exact ⟨h.1, MemL_take n h.2⟩
theorem MemL_drop : ∀ {cs : List AV} {b o : Nat} (n : Nat), MemL w G cs ν J b o → MemL w G (cs.drop n) ν J b (o + n)
  | [], _, _, _, h => by simp only [List.drop_nil, MemL]
  | c :: cs, _, _, 0, h => by simpa using h
  | c :: cs, b, o, n + 1, h => by
    simp only [MemL, List.drop_succ_cons] at h ⊢
    have := MemL_drop n h.2
    simpa [Nat.add_assoc, Nat.add_comm 1] using this
theorem MemL_get : ∀ {cs : List AV} {b o i : Nat} {c : AV}, MemL w G cs ν J b o → cs[i]? = some c → ∃ v, w.cell? ⟨b, o + i, .none⟩ = some v ∧ v.oneCell' = true ∧ Rel w G c ν J v
  | c :: cs, _, _, 0, _, h, e => by
    simp only [MemL] at h
    simp at e; subst e
    exact h.1
  | c :: cs, b, o, i + 1, _, h, e => by
    simp only [MemL] at h
    simp at e
    obtain ⟨v, h1, h2, h3⟩ := MemL_get h.2 e
    exact ⟨v, by simpa [Nat.add_assoc, Nat.add_comm 1] using h1, h2, h3⟩
/-- The cells' values. -/
theorem MemL_vals : ∀ {cs : List AV} {b o : Nat}, MemL w G cs ν J b o → ∃ vs, RelL w G cs ν J vs ∧ (∀ v ∈ vs, v.oneCell' = true) ∧ ∀ i v, vs[i]? = some v → w.cell? ⟨b, o + i, .none⟩ = some v
  | [], _, _, _ => ⟨[], RelL_nil, fun v h => by simp at h, fun i v h => by simp at h⟩
  | c :: cs, b, o, h => by
    simp only [MemL] at h
    obtain ⟨⟨u, hu, h1, hr⟩, h2⟩ := h
    obtain ⟨vs, hvs, ho, hc⟩ := MemL_vals h2
    refine ⟨u :: vs, RelL_cons hr hvs, fun v hv => (List.mem_cons.1 hv).elim (fun e => e ▸ h1) (ho v), fun i v hv => ?_⟩
    cases i with
    | zero => simp at hv; subst hv; exact hu
    | succ i => simp at hv; have := hc i v hv; simpa [Nat.add_assoc, Nat.add_comm 1] using this
theorem MemL_of_vals : ∀ {cs : List AV} {vs : List Value} {b o : Nat}, RelL w G cs ν J vs → (∀ v ∈ vs, v.oneCell' = true) → (∀ i v, vs[i]? = some v → w.cell? ⟨b, o + i, .none⟩ = some v) → MemL w G cs ν J b o
  | [], _, _, _, _, _, _ => by simp only [MemL]
  | c :: cs, _, b, o, h, h1', hc => by
    simp only [RelL] at h
    obtain ⟨u, us, rfl, h1, h2⟩ := h
    simp only [MemL]
    exact ⟨⟨u, hc 0 u rfl, h1' u (by simp), h1⟩, MemL_of_vals h2 (fun v hv => h1' v (by simp [hv])) fun i v hv => by have := hc (i + 1) v (by simpa using hv); simpa [Nat.add_assoc, Nat.add_comm 1] using this⟩

theorem MemE_get : ∀ {es : List (List AV)} {b o s k : Nat} {e : List AV}, MemE w G es ν J b o s → es[k]? = some e → e.length = s ∧ MemL w G e ν J b (o + k * s)
  | e :: es, _, _, _, 0, _, h, he => by
    simp only [MemE] at h
    simp at he; subst he
    exact ⟨h.1, by simpa using h.2.1⟩
  | e :: es, b, o, s, k + 1, _, h, he => by
    simp only [MemE] at h
    simp at he
    obtain ⟨h1, h2⟩ := MemE_get h.2.2 he
    exact ⟨h1, by rw [show o + (k + 1) * s = o + s + k * s by rw [Nat.succ_mul]; omega]; exact h2⟩
theorem MemE_of : ∀ {es : List (List AV)} {b o s : Nat}, (∀ k e, es[k]? = some e → e.length = s ∧ MemL w G e ν J b (o + k * s)) → MemE w G es ν J b o s
  | [], _, _, _, _ => by simp only [MemE]
  | e :: es, b, o, s, h => by
    simp only [MemE]
    obtain ⟨h1, h2⟩ := h 0 e rfl
    refine ⟨h1, by simpa using h2, MemE_of fun k e' he => ?_⟩
    obtain ⟨h3, h4⟩ := h (k + 1) e' (by simpa using he)
    exact ⟨h3, by rw [show o + s + k * s = o + (k + 1) * s by rw [Nat.succ_mul]; omega]; exact h4⟩
theorem MemE_take {es : List (List AV)} {b o s : Nat} (n : Nat) (h : MemE w G es ν J b o s) : MemE w G (es.take n) ν J b o s :=
  MemE_of fun k e he => MemE_get h (by rw [List.getElem?_take] at he; split at he; exact he; cases he)
theorem MemE_drop {es : List (List AV)} {b o s : Nat} (n : Nat) (h : MemE w G es ν J b o s) : MemE w G (es.drop n) ν J b (o + n * s) s :=
  MemE_of fun k e he => by
    rw [List.getElem?_drop] at he
    obtain ⟨h1, h2⟩ := MemE_get h he
    exact ⟨h1, by rw [show o + n * s + k * s = o + (n + k) * s by rw [Nat.add_mul]; omega]; exact h2⟩
theorem MemE_append {es fs : List (List AV)} {b o s : Nat} (h : MemE w G es ν J b o s) (h' : MemE w G fs ν J b (o + es.length * s) s) : MemE w G (es ++ fs) ν J b o s :=
  MemE_of fun k e he => by
    rw [List.getElem?_append] at he
    split at he
    · exact MemE_get h he
    · obtain ⟨h1, h2⟩ := MemE_get h' he
      exact ⟨h1, by rename_i hk; rw [show o + k * s = o + es.length * s + (k - es.length) * s by rw [Nat.sub_mul, Nat.add_assoc, Nat.add_sub_cancel' (Nat.mul_le_mul_right s (by omega))]]; exact h2⟩
end

/-! ### Values moved -/
theorem map_mv_rel {w : World} {G : Nat → Prop} {ν ν' : Names} {J J' : Nat → Prop} {m : AV → AV}
    (h : ∀ c v, Rel w G c ν J v → Rel w G (m c) ν' J' v) : ∀ {cs : List AV} {vs : List Value}, RelL w G cs ν J vs → RelL w G (cs.map m) ν' J' vs
  | [], _, hs => by simp only [RelL] at hs; subst hs; exact RelL_nil
  | c :: cs, _, hs => by
    simp only [RelL] at hs
    obtain ⟨u, us, rfl, h1, h2⟩ := hs
    exact RelL_cons (h _ _ h1) (map_mv_rel h h2)
theorem map_mv_mem {w : World} {G : Nat → Prop} {ν ν' : Names} {J J' : Nat → Prop} {m : AV → AV}
    (h : ∀ c v, Rel w G c ν J v → Rel w G (m c) ν' J' v) : ∀ {cs : List AV} {b o : Nat}, MemL w G cs ν J b o → MemL w G (cs.map m) ν' J' b o
  | [], _, _, _ => by simp only [List.map_nil, MemL]
  | c :: cs, _, _, hs => by
    simp only [MemL, List.map_cons] at hs ⊢
    obtain ⟨⟨u, e, h0, h1⟩, h2⟩ := hs
    exact ⟨⟨u, e, h0, h _ _ h1⟩, map_mv_mem h h2⟩
theorem map_mv_memE {w : World} {G : Nat → Prop} {ν ν' : Names} {J J' : Nat → Prop} {m : AV → AV}
    (h : ∀ c v, Rel w G c ν J v → Rel w G (m c) ν' J' v) : ∀ {es : List (List AV)} {b o s : Nat}, MemE w G es ν J b o s → MemE w G (es.map fun e => e.map m) ν' J' b o s
  | [], _, _, _, _ => by simp only [List.map_nil, MemE]
  | e :: es, _, _, _, hs => by
    simp only [MemE, List.map_cons, List.length_map] at hs ⊢
    exact ⟨hs.1, map_mv_mem h hs.2.1, map_mv_memE h hs.2.2⟩

theorem Rel_J {w : World} {G : Nat → Prop} {ν : Names} {J J' : Nat → Prop} {c : AV} {v : Value} (hJ : ∀ b, J b → J' b ∨ G b) (h : Rel w G c ν J v) : Rel w G c ν J' v :=
  Rel_mono (fun _ h => h) (fun _ _ => rfl) (fun _ => Nat.le_refl _) c (Names.le_refl _) hJ (fun _ _ => rfl) h

theorem Rel_mv {w : World} {G : Nat → Prop} {ν ν' : Names} {J J' : Nat → Prop} {kb ky : Bool} {ρ : Nat → Option Nat}
    (hρ : ∀ i i', ρ i = some i' → ∀ b, ν.φ i = some b → ν'.φ i' = some b) (hy : ky = true → ∀ l, ν.y = some l → ν'.y = some l) (hb : kb = true → ∀ b, J b → J' b ∨ G b) :
    ∀ (f : Nat) (c : AV) (v : Value), Rel w G c ν J v → Rel w G (mv kb ky ρ f c) ν' J' v := by
  intro f
  induction f with
  | zero => intro c v _; simp only [mv, Rel]
  | succ f ih =>
    intro c v h
    cases c with
    | any => simp only [mv, Rel]
    | und => simpa only [mv, Rel] using h
    | int k n => simpa only [mv, Rel] using h
    | bool b => simpa only [mv, Rel] using h
    | agg cs =>
      simp only [mv, Rel] at h ⊢
      obtain ⟨vs, e, h⟩ := h
      exact ⟨vs, e, map_mv_rel ih h⟩
    | tup cs =>
      simp only [mv, Rel] at h ⊢
      obtain ⟨vs, e, h⟩ := h
      exact ⟨vs, e, map_mv_rel ih h⟩
    | nilp => simpa only [mv, Rel] using h
    | ptr i s k j =>
      simp only [mv]
      cases e : ρ i with
      | none => simp only [Rel]
      | some i' =>
        simp only [Rel] at h ⊢
        obtain ⟨b, hb, h⟩ := h
        exact ⟨b, hρ _ _ e _ hb, h⟩
    | eptr kd cs =>
      cases kd with
      | g => simp only [mv]; simpa only [Rel, locP, innP] using h
      | b =>
        simp only [mv]
        cases hk : kb with
        | false => simp [Rel]
        | true => simp only [if_true]; exact Rel_mono (fun _ h => h) (fun _ _ => rfl) (fun _ => Nat.le_refl _) (.eptr .b cs) (Names.none_le _) (hb hk) (fun _ _ => rfl) (by simpa only [Rel] using h)
      | n =>
        simp only [mv]
        cases hk : kb with
        | false => simp [Rel]
        | true => simp only [if_true]; exact Rel_mono (fun _ h => h) (fun _ _ => rfl) (fun _ => Nat.le_refl _) (.eptr .n cs) (Names.none_le _) (hb hk) (fun _ _ => rfl) (by simpa only [Rel] using h)
    | nils => simpa only [mv, Rel] using h
    | ro kd c0 s es =>
      cases kd with
      | g => simp only [mv]; simpa only [Rel, locP, innP] using h
      | b =>
        simp only [mv]
        cases hk : kb with
        | false => simp [Rel]
        | true => simp only [if_true]; exact Rel_mono (fun _ h => h) (fun _ _ => rfl) (fun _ => Nat.le_refl _) (.ro .b c0 s es) (Names.none_le _) (hb hk) (fun _ _ => rfl) (by simpa only [Rel] using h)
      | n =>
        simp only [mv]
        cases hk : kb with
        | false => simp [Rel]
        | true => simp only [if_true]; exact Rel_mono (fun _ h => h) (fun _ _ => rfl) (fun _ => Nat.le_refl _) (.ro .n c0 s es) (Names.none_le _) (hb hk) (fun _ _ => rfl) (by simpa only [Rel] using h)
    | sl i s lo n cap =>
      simp only [mv]
      cases e : ρ i with
      | none => simp only [Rel]
      | some i' =>
        simp only [Rel] at h ⊢
        obtain ⟨b, o, c, hb, h⟩ := h
        exact ⟨b, o, c, hρ _ _ e _ hb, h⟩
    | nilf => simpa only [mv, Rel] using h
    | fn g a c =>
      simp only [mv, Rel] at h ⊢
      obtain ⟨as, cs, e, h1, h2⟩ := h
      exact ⟨as, cs, e, map_mv_rel ih h1, map_mv_rel ih h2⟩
    | yl =>
      simp only [mv]
      cases hk : ky with
      | false => simp [Rel]
      | true =>
        simp only [Rel, if_true] at h ⊢
        obtain ⟨l, e, h⟩ := h
        exact ⟨l, hy hk _ e, h⟩
    | nili => simpa only [mv, Rel] using h
    | ifc t x =>
      simp only [mv, Rel] at h ⊢
      obtain ⟨u, e, h⟩ := h
      exact ⟨u, e, ih _ _ h⟩
    | nilm => simpa only [mv, Rel] using h
    | mp i =>
      simp only [mv]
      cases e : ρ i with
      | none => simp only [Rel]
      | some i' =>
        simp only [Rel] at h ⊢
        obtain ⟨b, hb, h⟩ := h
        exact ⟨b, hρ _ _ e _ hb, h⟩

/-! ### Blocks and heaps -/
def nu (ν : Names) : Bool → Names
  | true => Names.none
  | false => ν
def ju (J : Nat → Prop) : Bool → Nat → Prop
  | true => fun _ => False
  | false => J
def BlkRel (w : World) (G : Nat → Prop) (ν : Names) (J : Nat → Prop) (b : Nat) : Blk → Prop
  | .row s es flat => (∃ cells elem, w.heap[b]? = some (.cells cells elem (0, 0)) ∧ es.length * s ≤ cells.size) ∧ MemE w G es (nu ν flat) (ju J flat) b 0 s
  | .map _ => False
def Own (ν : Names) (h : Heap) (b : Nat) : Prop := ∃ i B, hget h i = some B ∧ ν.φ i = some b

theorem Rel_fz {w : World} {G : Nat → Prop} {ν : Names} {J J' : Nat → Prop} {look : Nat → Option Blk}
    (hl : ∀ i B, look i = some B → ∃ b, ν.φ i = some b ∧ J' b ∧ BlkRel w G ν J b B) (hJ : ∀ b, J b → J' b ∨ G b) :
    ∀ (f : Nat) (c : AV) (v : Value), Rel w G c ν J v → Rel w G (fz look f c) Names.none J' v := by
  intro f
  induction f with
  | zero => intro c v _; simp only [fz, Rel]
  | succ f ih =>
    intro c v h
    cases c with
    | any => simp only [fz, Rel]
    | und => simpa only [fz, Rel] using h
    | int k n => simpa only [fz, Rel] using h
    | bool b => simpa only [fz, Rel] using h
    | agg cs =>
      simp only [fz, Rel] at h ⊢
      obtain ⟨vs, e, h⟩ := h
      exact ⟨vs, e, map_mv_rel ih h⟩
    | tup cs => simp only [fz, Rel]
    | nilp => simpa only [fz, Rel] using h
    | ptr i s k j =>
      simp only [Rel] at h
      obtain ⟨b, hb, hv⟩ := h
      simp only [fz]
      split
      · rename_i s' es flat hlk
        split
        · rename_i hs
          subst hs
          split
          · rename_i cs hcs
            obtain ⟨b', hb', hJb, _, hm⟩ := hl _ _ hlk
            rw [hb] at hb'; cases hb'
            obtain ⟨_, hm2⟩ := MemE_get hm hcs
            have hm3 := MemL_drop j hm2
            cases flat with
            | true =>
              simp only [if_true, Rel]
              exact ⟨b, _, hv, .inl hJb, by simpa [nu, ju, innP] using hm3⟩
            | false =>
              simp only [Bool.false_eq_true, if_false, Rel]
              exact ⟨b, _, hv, .inl hJb, map_mv_mem ih (by simpa [nu, ju] using hm3)⟩
          · simp only [Rel]
        · simp only [Rel]
      · simp only [Rel]
    | eptr kd cs => exact Rel_J hJ (by cases kd <;> simpa only [fz, Rel] using h)
    | nils => simpa only [fz, Rel] using h
    | ro kd c0 s es => exact Rel_J hJ (by cases kd <;> simpa only [fz, Rel] using h)
    | sl i s lo n cap =>
      simp only [Rel] at h
      obtain ⟨b, o, c, hb, hv, hn, ho, hc, _⟩ := h
      simp only [fz]
      split
      · rename_i s' es flat hlk
        split
        · rename_i hs
          obtain ⟨rfl, hle⟩ := hs
          obtain ⟨b', hb', hJb, _, hm⟩ := hl _ _ hlk
          rw [hb] at hb'; cases hb'
          have hlen : ((es.drop lo).take n).length = n := by simp; omega
          have hm2 : MemE w G ((es.drop lo).take n) (nu ν flat) (ju J flat) b o s' := by
            by_cases hn0 : 0 < n
            · have := MemE_take n (MemE_drop lo hm)
              rw [ho (.inl hn0)]; simpa using this
            · have : n = 0 := by omega
              subst this; simp [MemE]
          have hcap : (cap == some n) = true → c = n := fun h => hc _ (by simpa using h)
          cases flat with
          | true =>
            simp only [if_true, Rel, hlen]
            exact .inr ⟨b, o, c, hv, hn, hcap, fun _ => .inl hJb, by simpa [nu, ju, innP] using hm2⟩
          | false =>
            simp only [Bool.false_eq_true, if_false, Rel, List.length_map, hlen]
            exact .inr ⟨b, o, c, hv, hn, hcap, fun _ => .inl hJb, map_mv_memE ih (by simpa [nu, ju] using hm2)⟩
        · simp only [Rel]
      · simp only [Rel]
    | nilf => simpa only [fz, Rel] using h
    | fn g a c =>
      simp only [fz, Rel] at h ⊢
      obtain ⟨as, cs, e, h1, h2⟩ := h
      exact ⟨as, cs, e, map_mv_rel ih h1, map_mv_rel ih h2⟩
    | yl => simp only [fz, Rel]
    | nili => simpa only [fz, Rel] using h
    | ifc t x =>
      simp only [fz, Rel] at h ⊢
      obtain ⟨u, e, h⟩ := h
      exact ⟨u, e, ih _ _ h⟩
    | nilm => simpa only [fz, Rel] using h
    | mp i => simp only [fz, Rel]
end Go.Lite
