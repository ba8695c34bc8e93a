import Derived.Test.YtlofnkkokcihnaaLiteStep
namespace Go.Lite
section
variable {w w' : World} {G G' J U U' N N' : Nat → Prop} {ν ν' : Names} {h nh : Heap} {P : Program}

theorem own_gc {kb : Bool} {R : List Nat} {y : Option Nat} {b : Nat} {ky : Bool} (ho : Own ⟨(ν.over R).φ, y⟩ (R.map fun i => (hget h i).map (mvB kb ky (pos R))) b) : ∃ m B, m ∈ R ∧ hget h m = some B ∧ ν.φ m = some b := by
  obtain ⟨i, B, h1, h2⟩ := ho
  rw [hget_maps] at h1
  cases hm : R[i]? with
  | none => rw [hm] at h1; cases h1
  | some m =>
    rw [hm] at h1
    simp only [Option.bind_some, Option.map_eq_some_iff] at h1
    obtain ⟨B0, hB0, -⟩ := h1
    simp only [Names.over, hm, Option.bind_some] at h2
    exact ⟨m, B0, List.mem_of_getElem? hm, hB0, h2⟩
theorem own_gc' {kb : Bool} {R : List Nat} {y : Option Nat} {b : Nat} {ky : Bool} (ho : Own ⟨(ν.over R).φ, y⟩ (R.map fun i => (hget h i).map (mvB kb ky (pos R))) b) : Own ν h b :=
  let ⟨m, B, _, h1, h2⟩ := own_gc ho; ⟨m, B, h1, h2⟩
/-- Only some blocks stay, numbered anew. -/
theorem gc_sr (S : SR w G J U N ν h) {R : List Nat} (hn : R.Nodup) {kb ky : Bool} {J' : Nat → Prop} {y : Option Nat} (hJ : kb = true → ∀ b, J b → J' b ∨ G b) (hJ' : ∀ b, J' b → J b) (hy : ky = true → ∀ l, ν.y = some l → y = some l) :
    SR w G J' U N ⟨(ν.over R).φ, y⟩ (R.map fun i => (hget h i).map (mvB kb ky (pos R))) where
  blk i B hB := by
    rw [hget_maps] at hB
    cases hm : R[i]? with
    | none => rw [hm] at hB; cases hB
    | some m =>
      rw [hm] at hB
      simp only [Option.bind_some, Option.map_eq_some_iff] at hB
      obtain ⟨B0, hB0, rfl⟩ := hB
      obtain ⟨b, hb, hr⟩ := S.blk m B0 hB0
      exact ⟨b, by simp [Names.over, hm, hb], BlkRel_mv (ν' := ⟨(ν.over R).φ, y⟩) over_pos hy hJ hr⟩
  inj i j B B' b h1 h2 h3 h4 := by
    rw [hget_maps] at h1 h2
    cases hm : R[i]? with
    | none => rw [hm] at h1; cases h1
    | some m =>
    cases hm' : R[j]? with
    | none => rw [hm'] at h2; cases h2
    | some m' =>
      rw [hm] at h1; rw [hm'] at h2
      simp only [Option.bind_some, Option.map_eq_some_iff] at h1 h2
      obtain ⟨B0, hB0, -⟩ := h1
      obtain ⟨B1, hB1, -⟩ := h2
      simp only [Names.over, hm, hm', Option.bind_some] at h3 h4
      have e := S.inj m m' _ _ b hB0 hB1 h3 h4
      subst e
      exact nodup_inj hn hm hm'
  dom i b hi := by
    rw [List.length_map]
    simp only [Names.over] at hi
    cases hm : R[i]? with
    | none => rw [hm] at hi; cases hi
    | some m => exact (List.getElem?_eq_some_iff.1 hm).1
  glt := S.glt
  jlt b hb := S.jlt b (hJ' b hb)
  nlt := S.nlt
  gown b hb ho := S.gown b hb (own_gc' ho)
  jown b hb ho := S.jown b (hJ' b hb) (own_gc' ho)
  nown b hb ho := S.nown b hb (own_gc' ho)
  gu := S.gu
  ju b hb := S.ju b (hJ' b hb)
  un := S.un

theorem gcList_nodup (k : Nat) (vs : List AV) (h : Heap) : (gcList k vs h).Nodup := by
  unfold gcList
  rw [List.nodup_append]
  refine ⟨List.nodup_range, List.Nodup.sublist List.filter_sublist (reach_nodup _ _ _ _ List.nodup_nil), fun a ha b hb => ?_⟩
  rw [List.mem_range] at ha
  have := (List.mem_filter.1 hb).2
  simp only [Bool.not_eq_true', decide_eq_false_iff_not] at this
  omega
theorem gcList_first (k : Nat) (vs : List AV) (h : Heap) {i : Nat} (hi : i < k) : (gcList k vs h)[i]? = some i := by
  unfold gcList
  rw [List.getElem?_append_left (by rw [List.length_range]; exact hi), List.getElem?_range hi]
theorem gcList_length (k : Nat) (vs : List AV) (h : Heap) : k ≤ (gcList k vs h).length := by
  unfold gcList
  rw [List.length_append, List.length_range]; exact Nat.le_add_right _ _
theorem keepOnly_rel (live : List Nat) : ∀ (i : Nat) (ts : List AV) (vs : List Value), RelL w G ts ν J vs → RelL w G (keepOnly live i ts) ν J vs
  | _, [], _, h => by simp only [keepOnly]; exact h
  | i, c :: cs, _, h => by
    simp only [RelL] at h
    obtain ⟨u, us, rfl, h1, h2⟩ := h
    simp only [keepOnly]
    refine RelL_cons ?_ (keepOnly_rel live (i + 1) cs us h2)
    split
    · exact h1
    · simp only [Rel]

/-- An object that is kept aside. -/
structure Side (w : World) (G J U N O : Nat → Prop) (n0 r : Nat) (o : Obj) : Prop where
  new : n0 ≤ r
  at_ : w.heap[r]? = some o
  g : ¬ G r
  j : ¬ J r
  u : ¬ U r
  n : ¬ N r
  o : ¬ O r
theorem Side.ext {n0 r : Nat} {o : Obj} {G G' U U' N N' O O' : Nat → Prop} (E : Ext w w' G G' U U' N N' O O') (h : Side w G J U N O n0 r o) : Side w' G' J U' N' O' n0 r o := by
  have hlt : r < w.heap.size := (Array.getElem?_eq_some_iff.1 h.at_).1
  exact ⟨h.new, (E.keep r hlt h.o h.u).trans h.at_, fun hg => (E.g' r hg).elim h.g (fun h' => h'.elim h.o (fun h' => h'.elim h.u (by omega))), h.j, fun hu => (E.u r hu).elim h.u (fun h' => h'.elim h.o (by omega)),
    fun hn => (E.n r hn).elim h.n (fun h' => h'.elim h.o (by omega)), fun ho => (E.own r ho).elim h.o (by omega)⟩
/-- The mark of a range over a function, among the deferred calls. -/
abbrev markOf (r : Nat) : Deferred := { target := .collected r, args := #[] }

/-- Where an activation, or a round, began. -/
structure Base where
  w : World
  G : Nat → Prop
  U : Nat → Prop
  N : Nat → Prop
  O : Nat → Prop
  φ : Nat → Option Nat
  y : Option Nat
  k : Nat
  /-- marks lie behind -/
  n0 : Nat

/-- What holds within a function's body. -/
structure Inv1 {S : Type} (RS : StRel S) (B : Base) (J : Nat → Prop) (sd : List (Nat × Obj)) (σ : St) (s : S) (a : Act) (w : World) (ν : Names) (G U N : Nat → Prop) : Prop where
  sr : SR w G J U N ν σ.h
  ts : RelL w G σ.tmps ν J a.tmps.toList
  rs : RS s w G U N
  ext : Ext B.w w B.G G B.U U B.N N B.O (Own ν σ.h)
  first : ∀ i, i < B.k → ν.φ i = B.φ i
  y : ν.y = B.y
  len : B.k ≤ σ.h.length
  side : ∀ p ∈ sd, Side w G J U N (Own ν σ.h) 0 p.1 p.2
  marks : ∀ d ∈ a.defers, ∃ r, d = markOf r ∧ Side w G J U N (Own ν σ.h) B.n0 r (.deferred (some []))
  nd : a.defers.Pairwise (· ≠ ·)
def Inv {S : Type} (RS : StRel S) (B : Base) (J : Nat → Prop) (sd : List (Nat × Obj)) (σ : St) (s : S) (a : Act) (w : World) : Prop :=
  ∃ ν G U N, Inv1 RS B J sd σ s a w ν G U N

theorem Ext.less {w w' : World} {G G' U U' N N' O O1 O2 : Nat → Prop} (E : Ext w w' G G' U U' N N' O O1) (h : ∀ b, O2 b → O1 b) : Ext w w' G G' U U' N N' O O2 :=
  ⟨E.size, E.keep, fun b hb => E.own b (h b hb), E.u, E.n, E.g, E.g', E.sz, E.env⟩

theorem Side.less {n0 r : Nat} {o : Obj} {G U N O O' : Nat → Prop} (h : Side w G J U N O n0 r o) (hO : ∀ b, O' b → O b) : Side w G J U N O' n0 r o :=
  ⟨h.new, h.at_, h.g, h.j, h.u, h.n, fun ho => h.o (hO r ho)⟩

theorem norm_inv {S : Type} {RS : StRel S} {B : Base} {sd : List (Nat × Obj)} {σ : St} {s : S} {a : Act} {live : List Nat} (I : Inv1 RS B J sd σ s a w ν G U N) :
    Inv1 RS B J sd (norm B.k live σ) s a w (ν.over (gcList B.k (keepOnly live 0 σ.tmps) σ.h)) G U N := by
  have hown : ∀ b, Own (ν.over (gcList B.k (keepOnly live 0 σ.tmps) σ.h)) (norm B.k live σ).h b → Own ν σ.h b := fun b hb => own_gc' (kb := true) (ky := true) (y := ν.y) hb
  constructor
  · exact gc_sr I.sr (gcList_nodup _ _ _) (fun _ b hb => .inl hb) (fun _ h => h) (fun _ _ h => h)
  · exact map_mv_rel (Rel_mv over_pos (fun _ _ h => h) (fun _ b hb => .inl hb) deep) (keepOnly_rel live 0 _ _ I.ts)
  · exact I.rs
  · exact I.ext.less hown
  · intro i hi
    rw [← I.first i hi]
    simp only [Names.over, gcList_first _ _ _ hi, Option.bind_some]
  · exact I.y
  · show _ ≤ (gcHeap _ _ _ _).length
    unfold gcHeap
    rw [List.length_map]; exact gcList_length _ _ _
  · exact fun p hp => (I.side p hp).less hown
  · exact fun d hd => let ⟨r, e, h⟩ := I.marks d hd; ⟨r, e, h.less hown⟩
  · exact I.nd
end
end Go.Lite
