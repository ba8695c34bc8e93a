import Derived.Test.YtlofnkkokcihnaaLiteRel
namespace Go.Lite

/-! ### Heaps -/
theorem hget_nil (i : Nat) : hget [] i = none := by simp [hget]
theorem hget_cons_zero (b : Option Blk) (h : Heap) : hget (b :: h) 0 = b := by simp [hget]
theorem hget_cons_succ (b : Option Blk) (h : Heap) (i : Nat) : hget (b :: h) (i + 1) = hget h i := by simp [hget]
theorem hget_len {h : Heap} {i : Nat} {B : Blk} (e : hget h i = some B) : i < h.length := by
  unfold hget at e
  rcases Nat.lt_or_ge i h.length with hl | hl
  · exact hl
  · rw [List.getElem?_eq_none hl] at e; simp at e
theorem hget_ge {h : Heap} {i : Nat} (hl : h.length ≤ i) : hget h i = none := by
  unfold hget; rw [List.getElem?_eq_none hl]; rfl
theorem hget_hset : ∀ (h : Heap) (i j : Nat) (b : Option Blk), hget (hset h i b) j = if i = j then b else hget h j
  | [], 0, 0, b => by simp [hset, hget]
  | [], 0, j + 1, b => by simp [hset, hget]
  | [], i + 1, 0, b => by simp [hset, hget]
  | [], i + 1, j + 1, b => by
    rw [hset, hget_cons_succ, hget_hset]
    by_cases e : i = j <;> simp [e, hget_nil]
  | x :: h, 0, 0, b => by simp [hset, hget]
  | x :: h, 0, j + 1, b => by simp [hset, hget]
  | x :: h, i + 1, 0, b => by simp [hset, hget]
  | x :: h, i + 1, j + 1, b => by
    rw [hset, hget_cons_succ, hget_hset, hget_cons_succ]
    simp
theorem length_hset : ∀ (h : Heap) (i : Nat) (b : Option Blk), (hset h i b).length = max h.length (i + 1)
  | [], 0, b => by simp [hset]
  | [], i + 1, b => by rw [hset, List.length_cons, length_hset]; simp
  | x :: h, 0, b => by simp [hset]
  | x :: h, i + 1, b => by rw [hset, List.length_cons, length_hset, List.length_cons]; omega
theorem hset_end : ∀ (h : Heap) (b : Option Blk), hset h h.length b = h ++ [b]
  | [], b => rfl
  | x :: h, b => by rw [List.length_cons, hset, hset_end]; rfl

/-! ### States -/
theorem BlkRel_mono {w w' : World} {G G' : Nat → Prop} {ν ν' : Names} {J : Nat → Prop} {b : Nat} {B : Blk} (hG : ∀ b, G b → G' b) (hw : ∀ b, G b → w'.heap[b]? = w.heap[b]?) (hs : ∀ b, szOf w b ≤ szOf w' b)
    (hJ : ∀ b, J b → w'.heap[b]? = w.heap[b]?) (hν : ν.le ν') (hb : w'.heap[b]? = w.heap[b]?) (h : BlkRel w G ν J b B) : BlkRel w' G' ν' J b B := by
  cases B with
  | map _ => exact h.elim
  | row s es flat =>
    obtain ⟨⟨cells, elem, h1, h2⟩, h3⟩ := h
    refine ⟨⟨cells, elem, hb.trans h1, h2⟩, ?_⟩
    cases flat with
    | true => exact MemE_mono hG hw hs es (Names.le_refl _) (fun _ h => h.elim) (fun _ h => h.elim) hb h3
    | false => exact MemE_mono hG hw hs es hν (fun _ h => .inl h) hJ hb h3
theorem BlkRel_lt {w : World} {G : Nat → Prop} {ν : Names} {J : Nat → Prop} {b : Nat} {B : Blk} (h : BlkRel w G ν J b B) : b < w.heap.size := by
  cases B with
  | map _ => exact h.elim
  | row s es flat =>
    obtain ⟨⟨cells, elem, h1, _⟩, _⟩ := h
    exact (Array.getElem?_eq_some_iff.1 h1).1

/-- A private heap h in the world w: U is what the handler's state may write to, N what it needs. -/
structure SR (w : World) (G J U N : Nat → Prop) (ν : Names) (h : Heap) : Prop where
  blk : ∀ i B, hget h i = some B → ∃ b, ν.φ i = some b ∧ BlkRel w G ν J b B
  inj : ∀ i j B B' b, hget h i = some B → hget h j = some B' → ν.φ i = some b → ν.φ j = some b → i = j
  dom : ∀ i b, ν.φ i = some b → i < h.length
  glt : ∀ b, G b → b < w.heap.size
  jlt : ∀ b, J b → b < w.heap.size
  nlt : ∀ b, N b → b < w.heap.size
  gown : ∀ b, G b → ¬ Own ν h b
  jown : ∀ b, J b → ¬ Own ν h b
  nown : ∀ b, N b → ¬ Own ν h b
  gu : ∀ b, G b → ¬ U b
  ju : ∀ b, J b → ¬ U b
  un : ∀ b, U b → N b

theorem SR.own_lt {w : World} {G J U N : Nat → Prop} {ν : Names} {h : Heap} (S : SR w G J U N ν h) {b : Nat} (hb : Own ν h b) : b < w.heap.size := by
  obtain ⟨i, B, h1, h2⟩ := hb
  obtain ⟨b', h3, h4⟩ := S.blk i B h1
  rw [h2] at h3; cases h3
  exact BlkRel_lt h4
theorem Own_mk {ν : Names} {h : Heap} {i b : Nat} {B : Blk} (h1 : hget h i = some B) (h2 : ν.φ i = some b) : Own ν h b := ⟨i, B, h1, h2⟩

/-- What has become of the world: only own blocks, the handler's and new ones have changed. -/
structure Ext (w w' : World) (G G' U U' N N' O O' : Nat → Prop) : Prop where
  size : w.heap.size ≤ w'.heap.size
  keep : ∀ b, b < w.heap.size → ¬ O b → ¬ U b → w'.heap[b]? = w.heap[b]?
  own : ∀ b, O' b → O b ∨ w.heap.size ≤ b
  u : ∀ b, U' b → U b ∨ O b ∨ w.heap.size ≤ b
  n : ∀ b, N' b → N b ∨ O b ∨ w.heap.size ≤ b
  g : ∀ b, G b → G' b
  g' : ∀ b, G' b → G b ∨ O b ∨ U b ∨ w.heap.size ≤ b
  sz : ∀ b, szOf w b ≤ szOf w' b
  env : w'.os = w.os ∧ w'.output = w.output

theorem Ext.refl (w : World) (G U N O : Nat → Prop) : Ext w w G G U U N N O O :=
  ⟨Nat.le_refl _, fun _ _ _ _ => rfl, fun _ h => .inl h, fun _ h => .inl h, fun _ h => .inl h, fun _ h => h, fun _ h => .inl h, fun _ => Nat.le_refl _, rfl, rfl⟩
theorem Ext.trans {w w1 w2 : World} {G G1 G2 U U1 U2 N N1 N2 O O1 O2 : Nat → Prop} (a : Ext w w1 G G1 U U1 N N1 O O1) (b : Ext w1 w2 G1 G2 U1 U2 N1 N2 O1 O2) :
    Ext w w2 G G2 U U2 N N2 O O2 where
  size := Nat.le_trans a.size b.size
  keep c hc ho hu := by
    have h1 := a.keep c hc ho hu
    have h2 := b.keep c (Nat.lt_of_lt_of_le hc a.size) (fun h => (a.own c h).elim ho (by omega)) (fun h => (a.u c h).elim hu (fun h => h.elim ho (by omega)))
    exact h2.trans h1
  own c h := (b.own c h).elim (fun h => a.own c h) (fun h => .inr (Nat.le_trans a.size h))
  u c h := (b.u c h).elim (fun h => a.u c h) (fun h => h.elim (fun h => .inr (a.own c h)) (fun h => .inr (.inr (Nat.le_trans a.size h))))
  n c h := (b.n c h).elim (fun h => a.n c h) (fun h => h.elim (fun h => .inr (a.own c h)) (fun h => .inr (.inr (Nat.le_trans a.size h))))
  g c h := b.g c (a.g c h)
  g' c h := by
    rcases b.g' c h with h | h | h | h
    · exact a.g' c h
    · exact (a.own c h).elim (fun h => .inr (.inl h)) (fun h => .inr (.inr (.inr h)))
    · exact (a.u c h).elim (fun h => .inr (.inr (.inl h))) (fun h => h.elim (fun h => .inr (.inl h)) (fun h => .inr (.inr (.inr h))))
    · exact .inr (.inr (.inr (Nat.le_trans a.size h)))
  sz c := Nat.le_trans (a.sz c) (b.sz c)
  env := ⟨b.env.1.trans a.env.1, b.env.2.trans a.env.2⟩

section
variable {w w' : World} {G G' J U U' N N' : Nat → Prop} {ν ν' : Names} {h h' : Heap}

theorem SR.keepG (S : SR w G J U N ν h) {O' : Nat → Prop} (E : Ext w w' G G' U U' N N' (Own ν h) O') : ∀ b, G b → w'.heap[b]? = w.heap[b]? :=
  fun b hb => E.keep b (S.glt b hb) (S.gown b hb) (S.gu b hb)
theorem SR.keepJ (S : SR w G J U N ν h) {O' : Nat → Prop} (E : Ext w w' G G' U U' N N' (Own ν h) O') : ∀ b, J b → w'.heap[b]? = w.heap[b]? :=
  fun b hb => E.keep b (S.jlt b hb) (S.jown b hb) (S.ju b hb)
theorem SR.rel (S : SR w G J U N ν h) {O' : Nat → Prop} (E : Ext w w' G G' U U' N N' (Own ν h) O') (hν : ν.le ν') {c : AV} {v : Value} (r : Rel w G c ν J v) : Rel w' G' c ν' J v :=
  Rel_mono E.g (S.keepG E) E.sz c hν (fun _ h => .inl h) (S.keepJ E) r
theorem SR.relL (S : SR w G J U N ν h) {O' : Nat → Prop} (E : Ext w w' G G' U U' N N' (Own ν h) O') (hν : ν.le ν') {c : List AV} {v : List Value} (r : RelL w G c ν J v) : RelL w' G' c ν' J v :=
  RelL_mono E.g (S.keepG E) E.sz c hν (fun _ h => .inl h) (S.keepJ E) r

/-- A block laid under a name: its own block with new contents, or one that is free. -/
theorem SR.put (S : SR w G J U N ν h) {i b : Nat} {B : Blk} (hsz : w.heap.size ≤ w'.heap.size) (hs : ∀ b, szOf w b ≤ szOf w' b) (hk : ∀ b', b' < w.heap.size → b' ≠ b → w'.heap[b']? = w.heap[b']?)
    (hG : ¬ G b) (hJ : ¬ J b) (hN : ¬ N b) (hfree : ∀ j B, j ≠ i → hget h j = some B → ν.φ j ≠ some b)
    (hν : ν.le ν') (hi : ν'.φ i = some b) (ho : ∀ j, j ≠ i → ν'.φ j = ν.φ j) (hB : BlkRel w' G ν' J b B) : SR w' G J U N ν' (hset h i (some B)) where
  blk j B' hj := by
    rw [hget_hset] at hj
    split at hj
    · rename_i e; subst e; cases hj; exact ⟨b, hi, hB⟩
    · rename_i e
      obtain ⟨b', h1, h2⟩ := S.blk j B' hj
      have hne : b' ≠ b := fun e' => hfree j B' (Ne.symm e) hj (e' ▸ h1)
      exact ⟨b', hν.1 _ _ h1, BlkRel_mono (fun _ h => h) (fun c hc => hk c (S.glt c hc) (fun e => hG (e ▸ hc))) hs (fun c hc => hk c (S.jlt c hc) (fun e => hJ (e ▸ hc))) hν (hk b' (BlkRel_lt h2) hne) h2⟩
  inj j k B1 B2 c h1 h2 h3 h4 := by
    rw [hget_hset] at h1 h2
    by_cases e1 : i = j <;> by_cases e2 : i = k
    · omega
    · subst e1
      rw [if_neg e2] at h2
      rw [hi] at h3; cases h3
      rw [ho k (Ne.symm e2)] at h4
      exact absurd h4 (hfree k _ (Ne.symm e2) h2)
    · subst e2
      rw [if_neg e1] at h1
      rw [hi] at h4; cases h4
      rw [ho j (Ne.symm e1)] at h3
      exact absurd h3 (hfree j _ (Ne.symm e1) h1)
    · rw [if_neg e1] at h1
      rw [if_neg e2] at h2
      rw [ho j (Ne.symm e1)] at h3
      rw [ho k (Ne.symm e2)] at h4
      exact S.inj j k B1 B2 c h1 h2 h3 h4
  dom j c hj := by
    rw [length_hset]
    by_cases e : j = i
    · subst e; omega
    · rw [ho j e] at hj; have := S.dom j c hj; omega
  glt c hc := Nat.lt_of_lt_of_le (S.glt c hc) hsz
  jlt c hc := Nat.lt_of_lt_of_le (S.jlt c hc) hsz
  nlt c hc := Nat.lt_of_lt_of_le (S.nlt c hc) hsz
  gown c hc := by
    rintro ⟨j, B', h1, h2⟩
    rw [hget_hset] at h1
    by_cases e : i = j
    · subst e; rw [hi] at h2; cases h2; exact hG hc
    · rw [if_neg e] at h1; rw [ho j (Ne.symm e)] at h2; exact S.gown c hc ⟨j, B', h1, h2⟩
  jown c hc := by
    rintro ⟨j, B', h1, h2⟩
    rw [hget_hset] at h1
    by_cases e : i = j
    · subst e; rw [hi] at h2; cases h2; exact hJ hc
    · rw [if_neg e] at h1; rw [ho j (Ne.symm e)] at h2; exact S.jown c hc ⟨j, B', h1, h2⟩
  nown c hc := by
    rintro ⟨j, B', h1, h2⟩
    rw [hget_hset] at h1
    by_cases e : i = j
    · subst e; rw [hi] at h2; cases h2; exact hN hc
    · rw [if_neg e] at h1; rw [ho j (Ne.symm e)] at h2; exact S.nown c hc ⟨j, B', h1, h2⟩
  gu := S.gu
  ju := S.ju
  un := S.un

/-- Where a block has been laid, what is owned. -/
theorem Own_put {i b : Nat} {B : Blk} (hi : ν'.φ i = some b) (ho : ∀ j, j ≠ i → ν'.φ j = ν.φ j) {c : Nat} (hc : Own ν' (hset h i (some B)) c) : c = b ∨ Own ν h c := by
  obtain ⟨j, B', h1, h2⟩ := hc
  rw [hget_hset] at h1
  by_cases e : i = j
  · subst e; rw [hi] at h2; cases h2; exact .inl rfl
  · rw [if_neg e] at h1; rw [ho j (Ne.symm e)] at h2; exact .inr ⟨j, B', h1, h2⟩

/-- Less is owned. -/
theorem SR.less (S : SR w G J U N ν h) (hl : ∀ i B, hget h' i = some B → hget h i = some B) (hd : h.length ≤ h'.length) : SR w G J U N ν h' where
  blk i B e := S.blk i B (hl i B e)
  inj i j B B' b h1 h2 := S.inj i j B B' b (hl _ _ h1) (hl _ _ h2)
  dom i b e := Nat.lt_of_lt_of_le (S.dom i b e) hd
  glt := S.glt
  jlt := S.jlt
  nlt := S.nlt
  gown b hb := fun ⟨i, B, h1, h2⟩ => S.gown b hb ⟨i, B, hl _ _ h1, h2⟩
  jown b hb := fun ⟨i, B, h1, h2⟩ => S.jown b hb ⟨i, B, hl _ _ h1, h2⟩
  nown b hb := fun ⟨i, B, h1, h2⟩ => S.nown b hb ⟨i, B, hl _ _ h1, h2⟩
  gu := S.gu
  ju := S.ju
  un := S.un
theorem SR.kill (S : SR w G J U N ν h) (i : Nat) : SR w G J U N ν (hset h i none) :=
  S.less (fun j B e => by rw [hget_hset] at e; split at e; cases e; exact e) (by rw [length_hset]; omega)
theorem Own_kill {i c : Nat} (hc : Own ν (hset h i none) c) : Own ν h c := by
  obtain ⟨j, B', h1, h2⟩ := hc
  rw [hget_hset] at h1
  split at h1
  · cases h1
  · exact ⟨j, B', h1, h2⟩
/-- The world has only drawn. -/
theorem SR.drew (S : SR w G J U N ν h) (hh : w'.heap = w.heap) : SR w' G J U N ν h where
  blk i B e := by
    obtain ⟨b, h1, h2⟩ := S.blk i B e
    exact ⟨b, h1, BlkRel_mono (fun _ h => h) (fun _ _ => by rw [hh]) (fun _ => by rw [szOf, szOf, hh]; exact Nat.le_refl _) (fun _ _ => by rw [hh]) (Names.le_refl _) (by rw [hh]) h2⟩
  inj := S.inj
  dom := S.dom
  glt b hb := by rw [hh]; exact S.glt b hb
  jlt b hb := by rw [hh]; exact S.jlt b hb
  nlt b hb := by rw [hh]; exact S.nlt b hb
  gown := S.gown
  jown := S.jown
  nown := S.nown
  gu := S.gu
  ju := S.ju
  un := S.un
end

/-- One name more. -/
def Names.with (ν : Names) (i b : Nat) : Names := ⟨fun j => if j = i then some b else ν.φ j, ν.y⟩
theorem Names.with_le {ν : Names} {i b : Nat} (h : ν.φ i = Option.none ∨ ν.φ i = some b) : ν.le (ν.with i b) :=
  ⟨fun j c hj => by
    unfold Names.with
    by_cases e : j = i
    · subst e; rcases h with h | h <;> rw [h] at hj
      · cases hj
      · cases hj; simp
    · simp [e, hj], fun _ h => h⟩
theorem Names.with_at (ν : Names) (i b : Nat) : (ν.with i b).φ i = some b := by simp [Names.with]
theorem Names.with_other (ν : Names) (i b : Nat) {j : Nat} (h : j ≠ i) : (ν.with i b).φ j = ν.φ j := by simp [Names.with, h]
theorem SR.fresh {w : World} {G J U N : Nat → Prop} {ν : Names} {h : Heap} (S : SR w G J U N ν h) {i : Nat} (hi : h.length ≤ i) : ν.φ i = Option.none := by
  cases e : ν.φ i with
  | none => rfl
  | some b => have := S.dom i b e; omega

/-- What an operation leaves. -/
def Post (w : World) (G J U N : Nat → Prop) (ν : Names) (h : Heap) (c : AV) (h' : Heap) (v : Value) (w' : World) (ν' : Names) (G' U' N' : Nat → Prop) : Prop :=
  SR w' G' J U' N' ν' h' ∧ ν.le ν' ∧ ν'.y = ν.y ∧ Rel w' G' c ν' J v ∧ Ext w w' G G' U U' N N' (Own ν h) (Own ν' h')

/-- A new block at the end of the world. -/
theorem alloc_heap_old (w : World) (o : Obj) {b : Nat} (hb : b < w.heap.size) : (w.alloc o).heap[b]? = w.heap[b]? := by
  show (w.heap.push o)[b]? = _
  rw [Array.getElem?_push, if_neg (Nat.ne_of_lt hb)]
theorem alloc_heap_new (w : World) (o : Obj) : (w.alloc o).heap[w.heap.size]? = some o := by
  show (w.heap.push o)[w.heap.size]? = _
  rw [Array.getElem?_push, if_pos rfl]
theorem alloc_size (w : World) (o : Obj) : (w.alloc o).heap.size = w.heap.size + 1 := Array.size_push ..

theorem SR.alloc {w : World} {G J U N : Nat → Prop} {ν : Names} {h : Heap} (S : SR w G J U N ν h) {B : Blk} {cells : Array Value} {elem : TypeId} {i : Nat} (hf : ν.φ i = Option.none)
    (hB : BlkRel (w.alloc (.cells cells elem)) G (ν.with i w.heap.size) J w.heap.size B) :
    SR (w.alloc (.cells cells elem)) G J U N (ν.with i w.heap.size) (hset h i (some B)) ∧
      Ext w (w.alloc (.cells cells elem)) G G U U N N (Own ν h) (Own (ν.with i w.heap.size) (hset h i (some B))) := by
  have hsz : ∀ b, szOf w b ≤ szOf (w.alloc (.cells cells elem)) b := fun b => by
    by_cases hb : b < w.heap.size
    · rw [szOf, szOf, alloc_heap_old _ _ hb]; exact Nat.le_refl _
    · rw [szOf, Array.getElem?_eq_none (by omega)]; exact Nat.zero_le _
  refine ⟨S.put (by rw [alloc_size]; omega) hsz (fun b' hb' _ => alloc_heap_old _ _ hb') (fun hg => by have := S.glt _ hg; omega) (fun hg => by have := S.jlt _ hg; omega)
    (fun hn => by have := S.nlt _ hn; omega) (fun j B' _ hj e => by have := S.own_lt (Own_mk hj e); omega)
    (Names.with_le (.inl hf)) (Names.with_at ..) (fun j hj => Names.with_other _ _ _ hj) hB, ?_⟩
  exact ⟨by rw [alloc_size]; omega, fun b hb _ _ => alloc_heap_old _ _ hb, fun b hb => (Own_put (Names.with_at ..) (fun j hj => Names.with_other _ _ _ hj) hb).elim (fun e => .inr (by omega)) .inl,
    fun _ h => .inl h, fun _ h => .inl h, fun _ h => h, fun _ h => .inl h, hsz, rfl, rfl⟩

/-! ### Frames -/
theorem avOf1_rel (w : World) (G : Nat → Prop) (ν : Names) (J : Nat → Prop) (v : Value) : Rel w G (avOf1 v) ν J v := by
  unfold avOf1
  split <;> simp only [Rel]
theorem avOf1_relL (w : World) (G : Nat → Prop) (ν : Names) (J : Nat → Prop) : ∀ (vs : List Value), RelL w G (vs.map avOf1) ν J vs
  | [] => RelL_nil
  | v :: vs => RelL_cons (avOf1_rel w G ν J v) (avOf1_relL w G ν J vs)
theorem avOf_rel (w : World) (G : Nat → Prop) (ν : Names) (J : Nat → Prop) (v : Value) : Rel w G (avOf v) ν J v := by
  unfold avOf
  split
  · rename_i cs
    simp only [Rel]
    exact ⟨cs.toList, rfl, avOf1_relL w G ν J _⟩
  · exact avOf1_rel w G ν J v
theorem ev_rel {w : World} {G : Nat → Prop} {ν : Names} {J : Nat → Prop} {ts : List AV} {a : Act} (h : RelL w G ts ν J a.tmps.toList) (x : Operand) : Rel w G (ev ts x) ν J (a.eval x) := by
  cases x with
  | tmp t =>
    simp only [ev, Act.eval]
    cases e : ts[t]? with
    | none =>
      have hl := RelL_length h
      have : a.tmps.size ≤ t := by rw [List.getElem?_eq_none_iff] at e; simpa [hl] using e
      simp [Rel, this]
    | some c =>
      obtain ⟨v, hv, hr⟩ := RelL_get h e
      have : a.tmps.getD t undef = v := by
        rw [Array.getD_eq_getD_getElem?]
        have : a.tmps[t]? = some v := by simpa using hv
        simp [this]
      rw [this]; exact hr
  | const v => exact avOf_rel w G ν J v
  | global g => simp only [ev, Rel]
  | func f =>
    simp only [ev, Rel, Act.eval]
    exact ⟨[], [], rfl, RelL_nil, RelL_nil⟩
theorem ev_relL {w : World} {G : Nat → Prop} {ν : Names} {J : Nat → Prop} {ts : List AV} {a : Act} (h : RelL w G ts ν J a.tmps.toList) : ∀ (xs : List Operand), RelL w G (xs.map (ev ts)) ν J (xs.map a.eval)
  | [] => RelL_nil
  | x :: xs => RelL_cons (ev_rel h x) (ev_relL h xs)
theorem put_rel {w : World} {G : Nat → Prop} {ν : Names} {J : Nat → Prop} {ts : List AV} {a : Act} (h : RelL w G ts ν J a.tmps.toList) (dst : Option Tmp) {c : AV} {v : Value} (hc : Rel w G c ν J v) :
    RelL w G (put dst c ts) ν J (a.put dst v).tmps.toList := by
  cases dst with
  | none => exact h
  | some d =>
    simp only [put, Act.put, Array.toList_setIfInBounds]
    exact RelL_set d h hc
theorem okV_one {w : World} {G : Nat → Prop} {ν : Names} {J : Nat → Prop} {c : AV} {v : Value} (hc : okV c = true) (h : Rel w G c ν J v) : v.oneCell' = true := by
  cases c <;> simp only [okV, Bool.false_eq_true] at hc
  case eptr kd cs => (simp only [Rel] at h; obtain ⟨b, o, rfl, _⟩ := h; rfl)
  case ro kd c0 s es => (simp only [Rel] at h; rcases h with ⟨_, a, c, rfl, _⟩ | ⟨b, o, cap, rfl, _⟩ <;> rfl)
  case ptr => simp only [Rel] at h; obtain ⟨b, _, rfl⟩ := h; rfl
  case sl => simp only [Rel] at h; obtain ⟨b, o, c, _, rfl, _⟩ := h; rfl
  case fn => simp only [Rel] at h; obtain ⟨as, cs, rfl, _⟩ := h; rfl
  case yl => simp only [Rel] at h; obtain ⟨l, _, rfl⟩ := h; rfl
  case ifc => simp only [Rel] at h; obtain ⟨l, rfl, _⟩ := h; rfl
  case mp => simp only [Rel] at h; obtain ⟨l, _, rfl⟩ := h; rfl
  all_goals (simp only [Rel] at h; subst h; rfl)
theorem okL_one {w : World} {G : Nat → Prop} {ν : Names} {J : Nat → Prop} : ∀ {cs : List AV} {vs : List Value}, okL cs = true → RelL w G cs ν J vs → ∀ v ∈ vs, v.oneCell' = true
  | [], _, _, h, v, hv => by simp only [RelL] at h; subst h; cases hv
  | c :: cs, _, hc, h, v, hv => by
    simp only [okL, Bool.and_eq_true] at hc
    simp only [RelL] at h
    obtain ⟨u, us, rfl, h1, h2⟩ := h
    rcases List.mem_cons.1 hv with rfl | hv
    · exact okV_one hc.1 h1
    · exact okL_one hc.2 h2 v hv
theorem flatV_rel {w : World} {G : Nat → Prop} {ν : Names} {J : Nat → Prop} {c : AV} {v : Value} (hc : flatV c = true) (h : Rel w G c ν J v) : Rel w G c Names.none (fun _ => False) v := by
  cases c <;> simp only [flatV, Bool.false_eq_true] at hc
  case eptr kd cs => cases kd <;> first | (exact Bool.noConfusion (show false = true from hc)) | (simpa only [Rel, locP, innP] using h)
  case ro kd c0 s es => cases kd <;> first | (exact Bool.noConfusion (show false = true from hc)) | (simpa only [Rel, locP, innP] using h)
  all_goals simpa only [Rel] using h
theorem flatL_rel {w : World} {G : Nat → Prop} {ν : Names} {J : Nat → Prop} : ∀ {cs : List AV} {vs : List Value}, flatL cs = true → RelL w G cs ν J vs → RelL w G cs Names.none (fun _ => False) vs
  | [], _, _, h => by simpa only [RelL] using h
  | c :: cs, _, hc, h => by
    simp only [flatL, Bool.and_eq_true] at hc
    simp only [RelL] at h
    obtain ⟨u, us, rfl, h1, h2⟩ := h
    exact RelL_cons (flatV_rel hc.1 h1) (flatL_rel hc.2 h2)
end Go.Lite
