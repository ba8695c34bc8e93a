import Derived.Test.YtlofnkkokcihnaaLiteOn
import Derived.RangeFuncNested
namespace Go.Lite
section
variable {w w' : World} {G G' J Jc U U' Uc N N' Nc : Nat → Prop} {ν ν' νc : Names} {h yh nh : Heap} {P : Program}
variable {S : Type} {RS : StRel S} {B : Base} {sd : List (Nat × Obj)} {σ : St} {s : S} {a : Act}

/-- Two private heaps together. -/
def Names.join (ν νc : Names) (m n : Nat) : Names := ⟨fun j => if m ≤ j then (if j < m + n then νc.φ (j - m) else Option.none) else ν.φ j, ν.y⟩
theorem join_new {m n i : Nat} (hi : i < n) : (ν.join νc m n).φ (m + i) = νc.φ i := by
  simp only [Names.join]
  rw [if_pos (by omega), if_pos (by omega), show m + i - m = i by omega]
theorem join_old {m n i : Nat} (hi : i < m) : (ν.join νc m n).φ i = ν.φ i := by
  simp only [Names.join]
  rw [if_neg (by omega)]
theorem roundIn_some {n m i i' : Nat} (h : roundIn n m i = some i') : i < n ∧ i' = m + i := by
  unfold roundIn at h
  split at h
  · cases h; exact ⟨by assumption, rfl⟩
  · cases h
abbrev joinHeap (h yh : Heap) : Heap := h ++ yh.map fun b => b.map (mvB false false (roundIn yh.length h.length))
theorem hget_join {j : Nat} {B : Blk} (e : hget (joinHeap h yh) j = some B) : (j < h.length ∧ hget h j = some B) ∨ ∃ i B0, i < yh.length ∧ j = h.length + i ∧ hget yh i = some B0 ∧ B = mvB false false (roundIn yh.length h.length) B0 := by
  unfold joinHeap hget at e
  rw [List.getElem?_append] at e
  split at e
  · rename_i hlt
    exact .inl ⟨hlt, e⟩
  · rename_i hge
    have e' : hget (yh.map fun b => b.map (mvB false false (roundIn yh.length h.length))) (j - h.length) = some B := e
    rw [hget_map, Option.map_eq_some_iff] at e'
    obtain ⟨B0, h0, rfl⟩ := e'
    exact .inr ⟨j - h.length, B0, hget_len h0, by omega, h0, rfl⟩
theorem own_join (Sr : SR w G J U N ν h) {b : Nat} (ho : Own (ν.join νc h.length yh.length) (joinHeap h yh) b) : Own ν h b ∨ Own νc yh b := by
  have _ := Sr
  obtain ⟨j, B, h1, h2⟩ := ho
  rcases hget_join h1 with ⟨hlt, h3⟩ | ⟨i, B0, hi, rfl, h3, -⟩
  · rw [join_old hlt] at h2; exact .inl ⟨j, B, h3, h2⟩
  · rw [join_new hi] at h2; exact .inr ⟨i, B0, h3, h2⟩
theorem join_pos : ∀ i i', roundIn yh.length h.length i = some i' → ∀ b, νc.φ i = some b → (ν.join νc h.length yh.length).φ i' = some b := by
  intro i i' hr b hb
  obtain ⟨hi, rfl⟩ := roundIn_some hr
  rw [join_new hi]; exact hb
theorem join_le (Sr : SR w G J U N ν h) : ν.le (ν.join νc h.length yh.length) :=
  ⟨fun i b hb => by rw [join_old (Sr.dom i b hb)]; exact hb, fun _ h => h⟩
theorem sr_join (Sr : SR w G J U N ν h) (Sy : SR w G Jc Uc Nc νc yh) (hdis : ∀ b, Own νc yh b → ¬ Own ν h b) (hJ : ∀ b, J b → ¬ Own νc yh b) (hN : ∀ b, N b → ¬ Own νc yh b) :
    SR w G J U N (ν.join νc h.length yh.length) (joinHeap h yh) where
  blk j B hj := by
    rcases hget_join hj with ⟨hlt, h3⟩ | ⟨i, B0, hi, rfl, h3, rfl⟩
    · obtain ⟨b, hb, hB⟩ := Sr.blk j B h3
      exact ⟨b, by rw [join_old hlt]; exact hb, BlkRel_mono (fun _ h => h) (fun _ _ => rfl) (fun _ => Nat.le_refl _) (fun _ _ => rfl) (join_le Sr) rfl hB⟩
    · obtain ⟨b, hb, hB⟩ := Sy.blk i B0 h3
      exact ⟨b, by rw [join_new hi]; exact hb, BlkRel_mv join_pos (fun h => by cases h) (fun h => by cases h) hB⟩
  inj j k B1 B2 b h1 h2 h3 h4 := by
    rcases hget_join h1 with ⟨hlt, h5⟩ | ⟨i, B0, hi, rfl, h5, -⟩ <;> rcases hget_join h2 with ⟨hlt', h6⟩ | ⟨i', B0', hi', rfl, h6, -⟩
    · rw [join_old hlt] at h3
      rw [join_old hlt'] at h4
      exact Sr.inj j k _ _ b h5 h6 h3 h4
    · rw [join_old hlt] at h3
      rw [join_new hi'] at h4
      exact absurd ⟨j, B1, h5, h3⟩ (hdis b ⟨i', B0', h6, h4⟩)
    · rw [join_new hi] at h3
      rw [join_old hlt'] at h4
      exact absurd ⟨k, B2, h6, h4⟩ (hdis b ⟨i, B0, h5, h3⟩)
    · rw [join_new hi] at h3
      rw [join_new hi'] at h4
      rw [Sy.inj i i' _ _ b h5 h6 h3 h4]
  dom j b hj := by
    simp only [joinHeap, List.length_append, List.length_map]
    simp only [Names.join] at hj
    split at hj
    · split at hj
      · assumption
      · cases hj
    · have := Sr.dom j b hj; omega
  glt := Sr.glt
  jlt := Sr.jlt
  nlt := Sr.nlt
  gown b hb ho := (own_join Sr ho).elim (Sr.gown b hb) (Sy.gown b hb)
  jown b hb ho := (own_join Sr ho).elim (Sr.jown b hb) (hJ b hb)
  nown b hb ho := (own_join Sr ho).elim (Sr.nown b hb) (hN b hb)
  gu := Sr.gu
  ju := Sr.ju
  un := Sr.un

theorem setParams_rel : ∀ (ps : List Tmp) (vs : List AV) (us : List Value) (ts : List AV) (tmps : Array Value), RelL w G vs ν J us → RelL w G ts ν J tmps.toList →
    RelL w G (setParams ps vs ts) ν J ((ps.zip us).foldl (fun tmps p => tmps.setIfInBounds p.1 p.2) tmps).toList
  | [], vs, us, ts, tmps, _, h => by simpa [setParams] using h
  | p :: ps, [], us, ts, tmps, hv, h => by
    simp only [RelL] at hv; subst hv
    simpa [setParams] using h
  | p :: ps, v :: vs, us, ts, tmps, hv, h => by
    simp only [RelL] at hv
    obtain ⟨u, us', rfl, h1, h2⟩ := hv
    simp only [setParams, List.zip_cons_cons, List.foldl_cons]
    exact setParams_rel ps vs us' (ts.set p v) (tmps.setIfInBounds p u) h2 (by rw [Array.toList_setIfInBounds]; exact RelL_set p h h1)

/-- The blocks of marks. -/
def pairsOf (ds : List Deferred) : List (Nat × Obj) := ds.filterMap fun d => match d.target with
  | .collected r => some (r, .deferred (some []))
  | _ => none
theorem pairsOf_of {ds : List Deferred} {r : Nat} (h : markOf r ∈ ds) : (r, Obj.deferred (some [])) ∈ pairsOf ds :=
  List.mem_filterMap.2 ⟨markOf r, h, rfl⟩
theorem pairsOf_to {ds : List Deferred} (hd : ∀ d ∈ ds, ∃ r, d = markOf r) {p : Nat × Obj} (h : p ∈ pairsOf ds) : markOf p.1 ∈ ds ∧ p.2 = .deferred (some []) := by
  obtain ⟨d, hm, he⟩ := List.mem_filterMap.1 h
  obtain ⟨r, rfl⟩ := hd d hm
  cases he
  exact ⟨hm, rfl⟩

theorem putObj_sz {l : Nat} {r : Loop} {o : Obj} (hl : w.heap[l]? = some (.loop r)) : ∀ b, szOf w b ≤ szOf (w.putObj l o) b := fun b => by
  by_cases e : b = l
  · subst e; rw [szOf, hl]; exact Nat.zero_le _
  · rw [szOf, szOf, World.putObj_heap_other e]; exact Nat.le_refl _

/-- A record that lies aside is written to: all else stays. -/
theorem Inv1.change (I : Inv1 RS B J sd σ s a w ν G U N) (hRM : RMono RS) {l : Nat} {r : Loop} (hl : w.heap[l]? = some (.loop r)) (h1 : ¬ G l) (h2 : ¬ J l) (h3 : ¬ U l) (h4 : ¬ N l) (h5 : ¬ Own ν σ.h l) {sd' : List (Nat × Obj)} (hsd : ∀ p ∈ sd', p ∈ sd ∧ p.1 ≠ l)
    {o : Obj} {a' : Act} (hat : a'.tmps = a.tmps) (had : ∀ d ∈ a'.defers, d ∈ a.defers ∧ d ≠ markOf l) (hnd : a'.defers.Pairwise (· ≠ ·)) {B' : Base} (hB : B' = ⟨w.putObj l o, G, U, N, Own ν σ.h, ν.φ, ν.y, B'.k, B'.n0⟩) (hk : B'.k ≤ σ.h.length) (hn0 : a'.defers ≠ [] → B'.n0 ≤ B.n0) :
    Inv1 RS B' J sd' σ s a' (w.putObj l o) ν G U N := by
  have I0 : Inv1 RS ⟨w, G, U, N, fun _ => True, ν.φ, ν.y, B'.k, B'.n0⟩ J sd' σ s a' w ν G U N :=
    ⟨I.sr, by rw [hat]; exact I.ts, I.rs, ⟨Nat.le_refl _, fun _ _ _ _ => rfl, fun _ _ => .inl trivial, fun _ h => .inl h, fun _ h => .inl h, fun _ h => h, fun _ h => .inl h, fun _ => Nat.le_refl _, rfl, rfl⟩, fun _ _ => rfl, rfl, hk,
      fun p hp => I.side p (hsd p hp).1, fun d hd => let ⟨r, e, h⟩ := I.marks d (had d hd).1; ⟨r, e, ⟨Nat.le_trans (hn0 (List.ne_nil_of_mem hd)) h.new, h.at_, h.g, h.j, h.u, h.n, h.o⟩⟩, hnd⟩
  have hne : ∀ b, Need ⟨w, G, U, N, fun _ => True, ν.φ, ν.y, B'.k, B'.n0⟩ J U N (Own ν σ.h) sd' a'.defers b → b ≠ l := by
    rintro b (h | h | h | h | h | h | h) rfl
    · exact h3 h
    · exact h5 h
    · exact h4 h
    · exact h2 h
    · exact h.2 trivial
    · obtain ⟨p, hp, e⟩ := h; exact (hsd p hp).2 e
    · obtain ⟨d, hd, e⟩ := h; exact (had d hd).2 e
  have I1 := I0.on (w' := w.putObj l o) (G' := G) hRM ⟨rfl, rfl⟩ (by rw [World.putObj_size]; exact Nat.le_refl _) (putObj_sz hl) (fun _ h => h) (fun b hb => World.putObj_heap_other (fun e => h1 (e ▸ hb))) (fun b hb => by rw [World.putObj_size]; exact I.sr.glt b hb)
    (fun b hb _ => World.putObj_heap_other (hne b hb)) (fun b hb => .inl hb)
  rw [hB]
  exact ⟨I1.sr, I1.ts, I1.rs, Ext.refl .., fun _ _ => rfl, rfl, I1.len, I1.side, I1.marks, I1.nd⟩
theorem Ext.put {l : Nat} {r : Loop} (hl : w.heap[l]? = some (.loop r)) (o : Obj) (G U N O : Nat → Prop) : Ext w (w.putObj l o) G G (fun b => U b ∨ b = l) (fun b => U b ∨ b = l) N N O O :=
  ⟨by rw [World.putObj_size]; exact Nat.le_refl _, fun b _ _ h3 => World.putObj_heap_other (fun e => h3 (.inr e)), fun _ h => .inl h, fun _ h => .inl h, fun _ h => .inl h, fun _ h => h, fun _ h => .inl h, putObj_sz hl, rfl, rfl⟩
theorem Ext.widen {w w' : World} {G G' U U' N N' O O' : Nat → Prop} (E : Ext w w' G G' U U' N N' O O') (l : Nat) : Ext w w' G G' (fun b => U b ∨ b = l) (fun b => U' b ∨ b = l) N N' O O' :=
  ⟨E.size, fun b h1 h2 h3 => E.keep b h1 h2 (fun h => h3 (.inl h)), E.own, fun b hb => hb.elim (fun h => (E.u b h).imp_left .inl) (fun h => .inl (.inr h)), E.n, E.g, fun b hb => (E.g' b hb).imp_right (fun h => h.imp_right (fun h => h.imp_left .inl)), E.sz, E.env⟩
theorem Ext.narrow {w w' : World} {G G' U U' N N' O O' : Nat → Prop} {l : Nat} (E : Ext w w' G G' (fun b => U b ∨ b = l) (fun b => U' b ∨ b = l) N N' O O') (hl : w.heap.size ≤ l) : Ext w w' G G' U U' N N' O O' :=
  ⟨E.size, fun b h1 h2 h3 => E.keep b h1 h2 (fun h => h.elim h3 (by omega)), E.own, fun b hb => (E.u b (.inl hb)).elim (fun h => h.elim .inl (fun h => .inr (.inr (by omega)))) .inr, E.n, E.g,
    fun b hb => (E.g' b hb).imp_right (fun h => h.imp_right (fun h => h.elim (fun h => h.elim .inl (fun h => .inr (by omega))) .inr)), E.sz, E.env⟩
end
end Go.Lite
