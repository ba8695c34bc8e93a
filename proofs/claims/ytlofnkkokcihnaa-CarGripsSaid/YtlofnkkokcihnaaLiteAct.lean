import Derived.Test.YtlofnkkokcihnaaLiteMem
namespace Go.Lite
section
variable {w w' : World} {G J U N : Nat → Prop} {ν ν' : Names} {h : Heap}

theorem RelL_world {cs : List AV} {vs : List Value} (S : SR w G J U N ν h) (hk : ∀ b, G b ∨ J b → w'.heap[b]? = w.heap[b]?) (hs : ∀ b, szOf w b ≤ szOf w' b) {f : Bool} {ν' : Names} (hν : ν.le ν') (hr : RelL w G cs (nu ν f) (ju J f) vs) : RelL w' G cs (nu ν' f) (ju J f) vs := by
  have _ := S
  refine RelL_mono (fun _ h => h) (fun b hb => hk b (.inl hb)) hs cs ?_ (fun _ h => .inl h) (fun b hb => hk b (.inr (ju_sub J f b hb))) hr
  cases f with
  | false => exact hν
  | true => exact Names.le_refl _

theorem sz_alloc (w : World) (o : Obj) : ∀ b, szOf w b ≤ szOf (w.alloc o) b := fun b => by
  by_cases hb : b < w.heap.size
  · rw [szOf, szOf, alloc_heap_old _ _ hb]; exact Nat.le_refl _
  · rw [szOf, Array.getElem?_eq_none (by omega)]; exact Nat.zero_le _
theorem szOf_at {b : Nat} {cells : Array Value} {e : TypeId} {f : Nat × Nat} (h : w.heap[b]? = some (.cells cells e f)) : szOf w b = cells.size := by rw [szOf, h]
theorem sz_setRow {b : Nat} {cells cells0 : Array Value} {e : TypeId} (h : w.heap[b]? = some (.cells cells0 e (0, 0))) (hl : cells0.size ≤ cells.size) : ∀ b', szOf w b' ≤ szOf (w.setRow b cells) b' := fun b' => by
  by_cases hb : b' = b
  · subst hb; rw [szOf_at h, szOf_at (setRow_heap_same w b' cells h)]; exact hl
  · rw [szOf, szOf, setRow_heap_other w b cells hb]; exact Nat.le_refl _

theorem env_setRow (w : World) (b : Nat) (cells : Array Value) : (w.setRow b cells).os = w.os ∧ (w.setRow b cells).output = w.output := ⟨rfl, rfl⟩
/-- A new row. -/
theorem sr_new (S : SR w G J U N ν h) {at_ : Nat} (hf : ν.φ at_ = none) {es : List (List AV)} {sz : Nat} {fl : Bool} {vs : List Value} {cells : Array Value} {elem : TypeId}
    (hlen : ∀ e ∈ es, e.length = sz) (hr : RelL w G es.flatten (nu ν fl) (ju J fl) vs) (h1 : ∀ v ∈ vs, v.oneCell' = true) (hp : vs <+: cells.toList) :
    SR (w.alloc (.cells cells elem)) G J U N (ν.with at_ w.heap.size) (hset h at_ (some (.row sz es fl))) ∧
      Ext w (w.alloc (.cells cells elem)) G G U U N N (Own ν h) (Own (ν.with at_ w.heap.size) (hset h at_ (some (.row sz es fl)))) := by
  refine S.alloc hf ⟨⟨cells, elem, alloc_heap_new _ _, ?_⟩, ?_⟩
  · rw [← flat_len hlen, RelL_length hr]
    obtain ⟨r, hr'⟩ := hp
    rw [← Array.length_toList, ← hr']; simp
  · exact MemE_of_flat hlen (MemL_row (alloc_heap_new _ _) (RelL_world S (fun b hb => alloc_heap_old _ _ (hb.elim (S.glt b) (S.jlt b))) (sz_alloc w _) (Names.with_le (.inl hf)) hr) h1 hp)

theorem sr_own (S : SR w G J U N ν h) {i : Nat} {B : Blk} (hi : hget h i = some B) : ∃ b, ν.φ i = some b ∧ BlkRel w G ν J b B ∧ ¬ G b ∧ ¬ J b ∧ ¬ N b ∧ Own ν h b := by
  obtain ⟨b, hb, hB⟩ := S.blk i B hi
  have ho := Own_mk hi hb
  exact ⟨b, hb, hB, fun h => S.gown b h ho, fun h => S.jown b h ho, fun h => S.nown b h ho, ho⟩

/-- A row of one's own with other contents. -/
theorem sr_set (S : SR w G J U N ν h) {i sz : Nat} {es0 : List (List AV)} {fl0 : Bool} (hi : hget h i = some (.row sz es0 fl0)) {b : Nat} (hb : ν.φ i = some b) {cells0 cells : Array Value} {elem : TypeId} (hc : w.heap[b]? = some (.cells cells0 elem (0, 0)))
    {es : List (List AV)} {fl : Bool} {vs : List Value} (hlen : ∀ e ∈ es, e.length = sz) (hr : RelL w G es.flatten (nu ν fl) (ju J fl) vs) (h1 : ∀ v ∈ vs, v.oneCell' = true) (hp : vs <+: cells.toList) (hs : ∀ b', szOf w b' ≤ szOf (w.setRow b cells) b') :
    SR (w.setRow b cells) G J U N ν (hset h i (some (.row sz es fl))) ∧ Ext w (w.setRow b cells) G G U U N N (Own ν h) (Own ν (hset h i (some (.row sz es fl)))) := by
  obtain ⟨b', hb', _, hG, hJ, hN, ho⟩ := sr_own S hi
  rw [hb] at hb'; cases hb'
  have hk : ∀ b', b' ≠ b → (w.setRow b cells).heap[b']? = w.heap[b']? := fun b' hne => setRow_heap_other w b cells hne
  have hB : BlkRel (w.setRow b cells) G ν J b (.row sz es fl) := by
    refine ⟨⟨cells, elem, setRow_heap_same w b cells hc, ?_⟩, ?_⟩
    · rw [← flat_len hlen, RelL_length hr]
      obtain ⟨r, hr'⟩ := hp
      rw [← Array.length_toList, ← hr']; simp
    · exact MemE_of_flat hlen (MemL_row (setRow_heap_same w b cells hc) (RelL_world S (fun c hgj => hk c (fun e => by subst e; exact hgj.elim hG hJ)) hs (Names.le_refl _) hr) h1 hp)
  refine ⟨S.put (by rw [setRow_size]; exact Nat.le_refl _) hs (fun b' _ hne => hk b' hne) hG hJ hN (fun j B hj hB' e => hj (S.inj j i _ _ b hB' hi e hb)) (Names.le_refl _) hb (fun _ _ => rfl) hB, ?_⟩
  exact ⟨by rw [setRow_size]; exact Nat.le_refl _, fun c _ hc _ => hk c (fun e => hc (e ▸ ho)), fun c hc => (Own_put hb (fun _ _ => rfl) hc).elim (fun e => .inl (e ▸ ho)) .inl, fun _ h => .inl h, fun _ h => .inl h, fun _ h => h, fun _ h => .inl h, hs, env_setRow ..⟩

/-- The same under a new name: the old one is dead. -/
theorem sr_over (S : SR w G J U N ν h) {i at_ sz : Nat} {es0 : List (List AV)} {fl0 : Bool} (hi : hget h i = some (.row sz es0 fl0)) {b : Nat} (hb : ν.φ i = some b) (hf : ν.φ at_ = none) {cells0 cells : Array Value} {elem : TypeId} (hc : w.heap[b]? = some (.cells cells0 elem (0, 0)))
    {es : List (List AV)} {fl : Bool} {vs : List Value} (hlen : ∀ e ∈ es, e.length = sz) (hr : RelL w G es.flatten (nu ν fl) (ju J fl) vs) (h1 : ∀ v ∈ vs, v.oneCell' = true) (hp : vs <+: cells.toList) (hs : ∀ b', szOf w b' ≤ szOf (w.setRow b cells) b') :
    SR (w.setRow b cells) G J U N (ν.with at_ b) (hset (hset h i none) at_ (some (.row sz es fl))) ∧
      Ext w (w.setRow b cells) G G U U N N (Own ν h) (Own (ν.with at_ b) (hset (hset h i none) at_ (some (.row sz es fl)))) := by
  obtain ⟨b', hb', _, hG, hJ, hN, ho⟩ := sr_own S hi
  rw [hb] at hb'; cases hb'
  have hk : ∀ b', b' ≠ b → (w.setRow b cells).heap[b']? = w.heap[b']? := fun b' hne => setRow_heap_other w b cells hne
  have hB : BlkRel (w.setRow b cells) G (ν.with at_ b) J b (.row sz es fl) := by
    refine ⟨⟨cells, elem, setRow_heap_same w b cells hc, ?_⟩, ?_⟩
    · rw [← flat_len hlen, RelL_length hr]
      obtain ⟨r, hr'⟩ := hp
      rw [← Array.length_toList, ← hr']; simp
    · exact MemE_of_flat hlen (MemL_row (setRow_heap_same w b cells hc) (RelL_world S (fun c hgj => hk c (fun e => by subst e; exact hgj.elim hG hJ)) hs (Names.with_le (.inl hf)) hr) h1 hp)
  have hfree : ∀ j B, j ≠ at_ → hget (hset h i none) j = some B → ν.φ j ≠ some b := by
    intro j B _ hj e
    rw [hget_hset] at hj
    split at hj
    · cases hj
    · rename_i hne; exact hne (S.inj j i _ _ b hj hi e hb).symm
  refine ⟨(S.kill i).put (by rw [setRow_size]; exact Nat.le_refl _) hs (fun b' _ hne => hk b' hne) hG hJ hN hfree (Names.with_le (.inl hf)) (Names.with_at ..) (fun j hj => Names.with_other _ _ _ hj) hB, ?_⟩
  exact ⟨by rw [setRow_size]; exact Nat.le_refl _, fun c _ hc _ => hk c (fun e => hc (e ▸ ho)), fun c hc => (Own_put (Names.with_at ..) (fun j hj => Names.with_other _ _ _ hj) hc).elim (fun e => .inl (e ▸ ho)) (fun h => .inl (Own_kill h)),
    fun _ h => .inl h, fun _ h => .inl h, fun _ h => h, fun _ h => .inl h, hs, env_setRow ..⟩

/-- What an action leaves. -/
structure Left {S : Type} (w : World) (G J U N : Nat → Prop) (ν : Names) (h : Heap) (at_ : Nat) (s : S) (r : Res S) (v : Value) (w' : World) (ν' : Names) : Prop where
  same : r.s = s
  sr : SR w' G J U N ν' (hputs (hups h r.ups) at_ r.news)
  le : ν.le ν'
  y : ν'.y = ν.y
  rel : Rel w' G r.v ν' J v
  ext : Ext w w' G G U U N N (Own ν h) (Own ν' (hputs (hups h r.ups) at_ r.news))
  names : ∀ j, ν'.φ j ≠ ν.φ j → at_ ≤ j ∧ j < at_ + r.news.length

theorem left_same {S : Type} (Sr : SR w G J U N ν h) {at_ : Nat} {s : S} {c : AV} {v : Value} (hr : Rel w G c ν J v) : Left w G J U N ν h at_ s ⟨c, [], [], s⟩ v w ν :=
  ⟨rfl, Sr, Names.le_refl _, rfl, hr, Ext.refl .., fun _ h => absurd rfl h⟩
theorem left_new {S : Type} (Sr : SR w G J U N ν h) {at_ : Nat} {s : S} {c : AV} {v : Value} {B : Blk} {wb : World} {b : Nat} (hf : ν.φ at_ = none) (hs : SR wb G J U N (ν.with at_ b) (hset h at_ (some B)))
    (he : Ext w wb G G U U N N (Own ν h) (Own (ν.with at_ b) (hset h at_ (some B)))) (hr : Rel wb G c (ν.with at_ b) J v) : Left w G J U N ν h at_ s ⟨c, [], [some B], s⟩ v wb (ν.with at_ b) :=
  have _ := Sr
  ⟨rfl, hs, Names.with_le (.inl hf), rfl, hr, he, fun j hj => by
    by_cases e : j = at_
    · subst e; simp
    · exact absurd (Names.with_other _ _ _ e) hj⟩

theorem run_zeroValue {P : Program} {t : TypeId} {i : TypeInfo} {z : Value} (hi : P.info? t = some i) (hz : i.zero = some z) : (zeroValue t).run P w = .ok z w := by
  simp [zeroValue, typeInfo, hi, hz]
theorem run_newRow {P : Program} (elem : TypeId) (cells : Array Value) : (newRow elem cells).run P w = .ok ⟨w.heap.size, 0, none⟩ (w.alloc (.cells cells elem)) := by
  simp [newRow]

/-- A variable of one's own. -/
theorem newp_left {C : Cfg} (Sr : SR w G J U N ν h) {S : Type} {s : S} {H : Option (Hd S)} {call : CallT} {look : Nat → Option Blk} {at_ : Nat} {e : List AV} {v : Value} (hr : RelL w G e ν J v.cells.toList) {r : Res S}
    (hf : r.news ≠ [] → ν.φ at_ = none) (ha : act C call H at_ look s (.newp e.length e) = some r) (elem : TypeId) :
    Left w G J U N ν h at_ s r (.pointer (some ⟨w.heap.size, 0, none⟩)) (w.alloc (.cells v.cells elem)) (ν.with at_ w.heap.size) := by
  simp only [act] at ha
  split at ha
  case isFalse => cases ha
  rename_i hok
  cases ha
  have hf := hf (by simp)
  obtain ⟨h1, h2⟩ := sr_new Sr hf (es := [e]) (sz := e.length) (fl := flatL e) (vs := v.cells.toList) (cells := v.cells) (elem := elem) (by simp) (by simpa using RelL_asflag (fun h => h) hr) (okL_one hok hr) (List.prefix_refl _)
  refine left_new Sr hf h1 h2 ?_
  simp only [Rel]
  exact ⟨_, Names.with_at .., by simp⟩

theorem okE_flat {es : List (List AV)} (h : okE es = true) : okL es.flatten = true := by
  induction es with
  | nil => rfl
  | cons e es ih =>
    simp only [okE, Bool.and_eq_true] at h
    rw [List.flatten_cons]
    have := ih h.2
    obtain ⟨h1, _⟩ := h
    clear ih
    induction e with
    | nil => simpa using this
    | cons c e ih2 =>
      simp only [okL, Bool.and_eq_true] at h1
      simp only [List.cons_append, okL, Bool.and_eq_true]
      exact ⟨h1.1, ih2 h1.2⟩
theorem flatE_flat {es : List (List AV)} (h : flatE es = true) : flatL es.flatten = true := by
  induction es with
  | nil => rfl
  | cons e es ih =>
    simp only [flatE, Bool.and_eq_true] at h
    rw [List.flatten_cons]
    have := ih h.2
    obtain ⟨h1, _⟩ := h
    clear ih
    induction e with
    | nil => simpa using this
    | cons c e ih2 =>
      simp only [flatL, Bool.and_eq_true] at h1
      simp only [List.cons_append, flatL, Bool.and_eq_true]
      exact ⟨h1.1, ih2 h1.2⟩
theorem lens_all {es : List (List AV)} {s : Nat} (h : lens s es = true) : ∀ e ∈ es, e.length = s := by
  induction es with
  | nil => intro e he; cases he
  | cons e es ih =>
    simp only [lens, Bool.and_eq_true, decide_eq_true_eq] at h
    intro e' he
    rcases List.mem_cons.1 he with rfl | he
    · exact h.1
    · exact ih h.2 e' he

/-- A slice over a new row. -/
theorem news_left {C : Cfg} (Sr : SR w G J U N ν h) {S : Type} {s : S} {H : Option (Hd S)} {call : CallT} {look : Nat → Option Blk} {at_ : Nat} {es : List (List AV)} {sz n : Nat} {cells : Array Value}
    (hr : RelL w G es.flatten ν J cells.toList) (hn : n * sz ≤ cells.size) {r : Res S} (hf : r.news ≠ [] → ν.φ at_ = none) (ha : act C call H at_ look s (.news sz es n n) = some r) (elem : TypeId) :
    Left w G J U N ν h at_ s r (.slice (some ⟨w.heap.size, 0, none⟩) n n) (w.alloc (.cells cells elem)) (ν.with at_ w.heap.size) := by
  simp only [act] at ha
  split at ha
  case isFalse => cases ha
  rename_i hok
  simp only [Bool.and_eq_true] at hok
  cases ha
  have hf := hf (by simp)
  obtain ⟨h1, h2⟩ := sr_new Sr hf (es := es) (sz := sz) (fl := flatE es) (vs := cells.toList) (cells := cells) (elem := elem) (lens_all hok.2) (RelL_asflag flatE_flat hr) (okL_one (okE_flat hok.1) hr) (List.prefix_refl _)
  refine left_new Sr hf h1 h2 ?_
  simp only [Rel]
  exact ⟨_, 0, n, Names.with_at .., rfl, Nat.le_refl _, by simp, by simp, by rw [szOf_at (alloc_heap_new ..)]; omega⟩

/-- A load from one's own memory. -/
theorem load_left {C : Cfg} (Sr : SR w G J U N ν h) {S : Type} {s : S} {H : Option (Hd S)} {call : CallT} {look : Nat → Option Blk} {at_ : Nat} (hl : ∀ i B, look i = some B → hget h i = some B) {t : TypeId} {T : Ty} (hT : tyOf C.P t = some T)
    {i sz k j : Nat} {v : Value} (hv : Rel w G (.ptr i sz k j) ν J v) {r : Res S} (ha : act C call H at_ look s (.load i sz k j T.agg T.size) = some r) :
    ∃ u, (Instr.loadAt t v).run C.P w = .ok u w ∧ Left w G J U N ν h at_ s r u w ν := by
  obtain ⟨it, d, hi, hu, hk, hag, hsz, -⟩ := ty_info hT
  simp only [act] at ha
  split at ha
  case h_2 => cases ha
  rename_i s' es fl hlk
  split at ha
  case isFalse => cases ha
  rename_i hs; subst hs
  split at ha
  case h_2 => cases ha
  rename_i cs hcs
  obtain ⟨b, hb, hB, _⟩ := sr_own Sr (hl _ _ hlk)
  simp only [Rel] at hv
  obtain ⟨b', hb', rfl⟩ := hv
  rw [hb] at hb'; cases hb'
  obtain ⟨_, hm⟩ := hB
  obtain ⟨_, hm2⟩ := MemE_get hm hcs
  have hm3 := MemL_drop j hm2
  rw [Nat.zero_add] at hm3
  split at ha
  · rename_i hagg
    split at ha
    case isFalse => cases ha
    rename_i hle
    cases ha
    obtain ⟨vs, hvs, _, hcells⟩ := MemL_vals (MemL_take T.size hm3)
    have hlen : vs.length = T.size := by rw [← RelL_length hvs]; simp; omega
    refine ⟨.agg vs.toArray, ?_, left_same Sr (by simp only [Rel]; exact ⟨vs, rfl, RelL_unflag hvs⟩)⟩
    have hload := run_loadCells_list (P := C.P) w ⟨b, k * s' + j, none⟩ vs (fun q v hq => by rw [add_none]; exact hcells q v hq)
    rw [hlen, hsz] at hload
    simp [Instr.loadAt, Instr.sureAddr, loadVar, Sem.run_bind, run_isAgg hu, ← hag, hagg, run_sizeOf hi, hload]
  · rename_i hagg
    split at ha
    case h_2 => cases ha
    rename_i c hc
    cases ha
    obtain ⟨u, hcell, _, hrel⟩ := MemL_get (i := 0) hm3 (by rw [List.getElem?_drop]; exact hc)
    refine ⟨u, ?_, left_same Sr (Rel_unflag hrel)⟩
    have : tyAgg C.P t = false := by rw [← hag]; simpa using hagg
    simp only [Nat.add_zero] at hcell
    simp [Instr.loadAt, Instr.sureAddr, loadVar, Sem.run_bind, run_isAgg hu, this, run_load, hcell]

theorem left_upd {S : Type} (Sr : SR w G J U N ν h) {at_ : Nat} {s : S} {c : AV} {v : Value} {i : Nat} {B : Blk} {wb : World} (hs : SR wb G J U N ν (hset h i (some B))) (he : Ext w wb G G U U N N (Own ν h) (Own ν (hset h i (some B))))
    (hr : Rel wb G c ν J v) : Left w G J U N ν h at_ s ⟨c, [(i, some B)], [], s⟩ v wb ν :=
  have _ := Sr
  ⟨rfl, hs, Names.le_refl _, rfl, hr, he, fun _ h => absurd rfl h⟩

/-- A store to one's own memory. -/
theorem store_left {C : Cfg} (Sr : SR w G J U N ν h) {S : Type} {s : S} {H : Option (Hd S)} {call : CallT} {look : Nat → Option Blk} {at_ : Nat} (hl : ∀ i B, look i = some B → hget h i = some B) {t : TypeId} {T : Ty} (hT : tyOf C.P t = some T)
    {i sz k j : Nat} {v x : Value} (hv : Rel w G (.ptr i sz k j) ν J v) {cs : List AV} (hx : RelL w G cs ν J x.cells.toList) (hsize : cs.length = T.size) {r : Res S} (ha : act C call H at_ look s (.store i sz k j cs) = some r) :
    ∃ w', (Instr.storeAt t v x).run C.P w = .ok () w' ∧ Left w G J U N ν h at_ s r undef w' ν := by
  obtain ⟨it, d, hi, hu, hk, hag, hsz, -⟩ := ty_info hT
  simp only [act] at ha
  split at ha
  case h_2 => cases ha
  rename_i s' es fl hlk
  split at ha
  case isFalse => cases ha
  rename_i hs; subst hs
  split at ha
  case h_2 => cases ha
  rename_i cs0 hcs
  split at ha
  case isFalse => cases ha
  rename_i hle
  cases ha
  obtain ⟨b, hb, hB, _⟩ := sr_own Sr (hl _ _ hlk)
  simp only [Rel] at hv
  obtain ⟨b', hb', rfl⟩ := hv
  rw [hb] at hb'; cases hb'
  obtain ⟨⟨cells, elem, hc, hfit⟩, hm⟩ := hB
  obtain ⟨hlen, hflat⟩ := MemE_flat hm
  have hfl := flat_len hlen
  obtain ⟨hrow, hone⟩ := row_MemL hc hflat
  have hklt : k < es.length := (List.getElem?_eq_some_iff.1 hcs).1
  have hcs0 : cs0.length = s' := hlen cs0 (List.mem_of_getElem? hcs)
  have hxl : cs.length = x.cells.size := by simpa using RelL_length hx
  have hoff : k * s' + j + cs.length ≤ es.length * s' := by
    have : (k + 1) * s' ≤ es.length * s' := Nat.mul_le_mul_right s' hklt
    rw [Nat.succ_mul] at this
    omega
  have hx1 := okL_one hle.2 hx
  have hst := run_storeCells_at C.P b (k * s' + j) elem x.cells.toList 0 cells w hc (by simp; omega) hx1
  simp only [Nat.add_zero] at hst
  have hfit2 : es.flatten.length ≤ cells.size := by rw [hfl]; exact hfit
  have hrow1 : RelL w G es.flatten (nu ν (fl && flatL cs)) (ju J (fl && flatL cs)) (cells.toList.take es.flatten.length) := RelL_flag (by simp_all) hrow
  have hx2 : RelL w G cs (nu ν (fl && flatL cs)) (ju J (fl && flatL cs)) x.cells.toList := RelL_asflag (by simp_all) hx
  have hnew : RelL w G (es.flatten.take (k * s' + j) ++ cs ++ es.flatten.drop (k * s' + j + cs.length)) (nu ν (fl && flatL cs)) (ju J (fl && flatL cs))
      ((cells.toList.take es.flatten.length).take (k * s' + j) ++ x.cells.toList ++ (cells.toList.take es.flatten.length).drop (k * s' + j + cs.length)) :=
    RelL_append (RelL_append (RelL_take _ hrow1) hx2) (RelL_drop _ hrow1)
  obtain ⟨h1, h2⟩ := sr_set Sr (hl _ _ hlk) hb hc (es := es.set k (cs0.take j ++ cs ++ cs0.drop (j + cs.length))) (fl := fl && flatL cs)
    (vs := (cells.toList.take es.flatten.length).take (k * s' + j) ++ x.cells.toList ++ (cells.toList.take es.flatten.length).drop (k * s' + j + cs.length))
    (cells := (cells.toList.take (k * s' + j) ++ x.cells.toList ++ cells.toList.drop (k * s' + j + x.cells.toList.length)).toArray)
    (by
      intro e he
      rcases List.mem_or_eq_of_mem_set he with he | rfl
      · exact hlen e he
      · simp; omega)
    (by rw [flat_set hlen hcs hle.1]; exact hnew)
    (by
      intro u hu
      simp only [List.mem_append] at hu
      rcases hu with (hu | hu) | hu
      · exact hone u (List.mem_of_mem_take hu)
      · exact hx1 u hu
      · exact hone u (List.mem_of_mem_drop hu))
    (by
      have e1 : (cells.toList.take es.flatten.length).take (k * s' + j) = cells.toList.take (k * s' + j) := by
        rw [List.take_take, Nat.min_eq_left (by rw [hfl]; omega)]
      rw [e1]
      simp only [List.append_assoc]
      refine (List.prefix_append_right_inj _).2 ((List.prefix_append_right_inj _).2 ?_)
      rw [show x.cells.toList.length = cs.length by simp [hxl]]
      rw [List.drop_take]
      exact List.take_prefix _ _)
    (sz_setRow hc (by simp; omega))
  refine ⟨_, ?_, left_upd Sr h1 h2 (by simp only [Rel])⟩
  have hsz' : x.cells.size = it.size := by rw [← hxl, hsize, hsz]
  simp [Instr.storeAt, Instr.sureAddr, storeVar, Sem.run_bind, run_sizeOf hi, hsz', hst]
end
end Go.Lite
