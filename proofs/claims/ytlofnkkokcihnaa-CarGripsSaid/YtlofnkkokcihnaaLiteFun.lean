import Derived.Test.YtlofnkkokcihnaaLiteCode
namespace Go.Lite
section
variable {w w' : World} {G G' J U U' N N' : Nat → Prop} {ν ν' : Names} {h nh : Heap} {P : Program}
variable {S : Type} {RS : StRel S} {B : Base} {sd : List (Nat × Obj)} {σ : St} {s : S} {a : Act}

theorem putObj_sz' {r : Nat} {ds : Option (List Deferred)} {o : Obj} (hl : w.heap[r]? = some (.deferred ds)) : ∀ b, szOf w b ≤ szOf (w.putObj r o) b := fun b => by
  by_cases e : b = r
  · subst e; rw [szOf, hl]; exact Nat.zero_le _
  · rw [szOf, szOf, World.putObj_heap_other e]; exact Nat.le_refl _

/-- The way out of a function: the marks are come to, one by one; then the results are read. -/
theorem leaves_ok {F : Fence} {n : Nat} {fn : Func} {R : Ending → World → Prop} (hRM : RMono RS) (hB : B.w.heap.size ≤ B.n0) :
    ∀ (ds : List Deferred) (a : Act) (w : World), a.defers = ds → (∀ w' : World, Inv1 RS B J [] σ s { a with defers := [] } w' ν G U N → ∃ v, (results fn a.tmps).run P w' = .ok v w' ∧ R (.returned v) w') →
      Inv1 RS B J [] σ s a w ν G U N → LeavesInM F n P fn a.tmps R ds .returning w
  | [], a, w, hd, hr, I => by
    have : ({ a with defers := [] } : Act) = a := by cases a; simp only at hd; subst hd; rfl
    rw [← this] at I
    exact hr w I
  | d :: ds, a, w, hd, hr, I => by
    obtain ⟨r, e, hs⟩ := I.marks d (by rw [hd]; exact List.mem_cons_self)
    subst e
    have hnd := I.nd
    rw [hd] at hnd
    have hlt : r < w.heap.size := (Array.getElem?_eq_some_iff.1 hs.at_).1
    have I0 : Inv1 RS B J [] σ s { a with defers := ds } w ν G U N := ⟨I.sr, I.ts, I.rs, I.ext, I.first, I.y, I.len, I.side, fun d hd' => I.marks d (by rw [hd]; exact List.mem_cons_of_mem _ hd'), (List.pairwise_cons.1 hnd).2⟩
    have I1 := I0.on (w' := w.putObj r (.deferred none)) (G' := G) hRM ⟨rfl, rfl⟩ (by rw [World.putObj_size]; exact Nat.le_refl _) (putObj_sz' hs.at_) (fun _ h => h) (fun b hb => World.putObj_heap_other (fun e => hs.g (e ▸ hb)))
      (fun b hb => by rw [World.putObj_size]; exact I.sr.glt b hb) (fun b hb _ => World.putObj_heap_other (by
        rcases hb with h | h | h | h | h | h | h <;> rintro rfl
        · exact hs.u h
        · exact hs.o h
        · exact hs.n h
        · exact hs.j h
        · exact absurd h.1 (Nat.not_lt.2 (Nat.le_trans hB hs.new))
        · obtain ⟨p, hp, e⟩ := h; cases hp
        · obtain ⟨d, hd', e⟩ := h; exact (List.pairwise_cons.1 hnd).1 d hd' e.symm)) (fun b hb => .inl hb)
    exact ⟨by simp, .inl ⟨r, _, rfl, run_takeDeferred hs.at_, leaves_ok hRM hB ds { a with defers := ds } _ rfl hr I1⟩⟩

/-- A load from one's own memory, at a function's end. -/
theorem loadR_ok {C : Cfg} (hC : ∀ t T, C.ty t = some T → tyOf C.P t = some T) (Sr : SR w G J U N ν h) {c : AV} {t : TypeId} {v : Value} (hv : Rel w G c ν J v) {d : AV} (hd : loadR h C c t = some d) :
    ∃ u, (do loadVar t (← asAddr v) : Sem Value).run C.P w = .ok u w ∧ Rel w G d ν J u := by
  unfold loadR at hd
  split at hd
  case h_2 => cases hd
  rename_i T i sz k j hT
  have hrel := hv
  have hact : ∃ r, act C (fun _ _ _ _ _ _ => none) (S := Unit) none h.length (hget h) () (.load i sz k j T.agg T.size) = some r ∧ r.v = d := by
    simp only [act]
    split at hd
    case h_2 => cases hd
    split at hd
    case isFalse => cases hd
    rename_i hs
    rw [if_pos hs]
    split at hd
    case h_2 => cases hd
    split at hd
    · rename_i hag
      rw [if_pos hag]
      split at hd
      · rename_i hle
        rw [if_pos hle]; cases hd; exact ⟨_, rfl, rfl⟩
      · cases hd
    · rename_i hag
      rw [if_neg hag]
      rw [hd]
      exact ⟨_, rfl, rfl⟩
  obtain ⟨r, hr, hrv⟩ := hact
  obtain ⟨u, hrun, hleft⟩ := load_left Sr (fun _ _ h => h) (hC _ _ hT) hv hr
  refine ⟨u, ?_, ?_⟩
  · simp only [Rel] at hrel
    obtain ⟨b, hb, rfl⟩ := hrel
    simp only [Instr.loadAt, Instr.sureAddr] at hrun
    simpa [asAddr] using hrun
  · rw [← hrv]; exact hleft.rel
def resSem (tmps : Array Value) : ResultVar → Sem Value
  | .tmp t => pure (tmps.getD t undef)
  | .cell a t => do loadVar t (← asAddr (tmps.getD a undef))
/-- What the results are. -/
theorem results_ok {C : Cfg} (hC : ∀ t T, C.ty t = some T → tyOf C.P t = some T) (Sr : SR w G J U N ν σ.h) {tmps : Array Value} (hts : RelL w G σ.tmps ν J tmps.toList) : ∀ (rs : List ResultVar) (vs : List AV), resultsA C σ rs = some vs →
    ∃ us : List Value, (rs.mapM (resSem tmps)).run C.P w = .ok us w ∧ RelL w G vs ν J us
  | [], vs, h => by
    simp only [resultsA, Option.some.injEq] at h; subst h
    exact ⟨[], rfl, RelL_nil⟩
  | .tmp t :: rs, vs, h => by
    simp only [resultsA] at h
    split at h
    case h_2 => cases h
    rename_i vs' h'
    cases h
    obtain ⟨us, hu, hr⟩ := results_ok hC Sr hts rs vs' h'
    have he := ev_rel (a := { tmps := tmps, defers := [] }) hts (.tmp t)
    refine ⟨tmps.getD t undef :: us, ?_, RelL_cons he hr⟩
    rw [List.mapM_cons]
    simp only [resSem, Sem.run_bind, Sem.run_pure, Result.andThen_ok, hu]
  | .cell a t :: rs, vs, h => by
    simp only [resultsA] at h
    split at h
    case h_2 => cases h
    rename_i v vs' hv h'
    cases h
    obtain ⟨us, hu, hr⟩ := results_ok hC Sr hts rs vs' h'
    have he := ev_rel (a := { tmps := tmps, defers := [] }) hts (.tmp a)
    obtain ⟨u, hu1, hr1⟩ := loadR_ok hC Sr he hv
    refine ⟨u :: us, ?_, RelL_cons hr1 hr⟩
    rw [List.mapM_cons]
    have hu2 : (resSem tmps (.cell a t)).run C.P w = .ok u w := hu1
    simp only [Sem.run_bind, Sem.run_pure, Result.andThen_ok, hu, hu2]
theorem one_ok {vs : List AV} {us : List Value} (h : RelL w G vs ν J us) : Rel w G (oneOf vs) ν J (if h : us.toArray.size = 1 then us.toArray[0] else .tuple us.toArray) := by
  match vs, us, h with
  | [], us, h =>
    simp only [RelL] at h; subst h
    simp only [oneOf, Rel]
    exact ⟨[], by simp, RelL_nil⟩
  | [v], us, h =>
    simp only [RelL] at h
    obtain ⟨u, us', rfl, h1, rfl⟩ := h
    simpa [oneOf] using h1
  | v :: v' :: vs, us, h =>
    have hh := h
    simp only [RelL] at h
    obtain ⟨u, us', rfl, h1, u2, us2, rfl, h2, h3⟩ := h
    simp only [oneOf, Rel]
    exact ⟨u :: u2 :: us2, by simp, hh⟩
theorem run_results {fn : Func} {tmps : Array Value} {us : List Value} (h : (fn.results.toList.mapM (resSem tmps)).run P w = .ok us w) : (results fn tmps).run P w = .ok (if h : us.toArray.size = 1 then us.toArray[0] else .tuple us.toArray) w := by
  have e : results fn tmps = (do let vs ← fn.results.mapM (resSem tmps); pure (if h : vs.size = 1 then vs[0] else .tuple vs)) := rfl
  rw [e, Array.mapM_eq_mapM_toList]
  simp [h]

/-- A function's end: only what the result reaches, and what came in, stays. -/
theorem finish_ret {C : Cfg} (hC : ∀ t T, C.ty t = some T → tyOf C.P t = some T) {fn : Func} {v : AV} {h' : Heap} {w0 : World} {G0 U0 N0 : Nat → Prop} {ν0 : Names} {h0 : Heap} {n0 : Nat} (hf : finishA C h0.length fn σ = some (v, h'))
    (I : Inv1 RS ⟨w0, G0, U0, N0, Own ν0 h0, ν0.φ, ν0.y, h0.length, n0⟩ J [] σ s a w ν G U N) : ∃ u, (results fn a.tmps).run C.P w = .ok u w ∧ Ret RS w0 G0 U0 N0 ν0 h0 v h' s (.returned u) w := by
  unfold finishA at hf
  split at hf
  · cases hf
  rename_i vs hvs
  simp only [Option.some.injEq, Prod.mk.injEq] at hf
  obtain ⟨rfl, rfl⟩ := hf
  obtain ⟨us, hus, hrel⟩ := results_ok hC I.sr I.ts _ _ hvs
  have hone := one_ok hrel
  refine ⟨_, run_results hus, ⟨((ν.over (gcList h0.length [oneOf vs] σ.h)).φ), ν.y⟩, G, U, N, ?_, fun i hi => ?_, I.y, ?_, ?_, I.rs⟩
  · exact gc_sr I.sr (gcList_nodup _ _ _) (kb := false) (ky := true) (fun h => by cases h) (fun _ h => h.elim) (fun _ _ h => h)
  · refine Eq.trans ?_ (I.first i hi)
    simp only [Names.over, gcList_first _ _ _ hi, Option.bind_some]
  · exact Rel_mv (ν' := ⟨((ν.over (gcList h0.length [oneOf vs] σ.h)).φ), ν.y⟩) over_pos (fun _ _ h => h) (fun h => by cases h) deep _ _ hone
  · exact I.ext.less (fun b hb => own_gc' (kb := false) (ky := true) hb)

/-- Functions do what was reckoned. -/
theorem call_ok {C : Cfg} (hC : ∀ t T, C.ty t = some T → tyOf C.P t = some T) (hExt : ExtOK C) (hDraw : ∀ call, CallOK C.P call → DrawOK C call) (hP : ∀ (f : FuncId) (fn : Func), C.P.funcs[f]? = some fn → fn.body.isSome = true → fn.name ≠ "runtime.NumGoroutine") (hR : ∀ (f : FuncId) (fn : Func) (c : Code), C.P.funcs[f]? = some fn → fn.body = some c → regsOk c = true) : ∀ n, CallOK C.P (callA C n) := by
  intro n
  induction n with
  | zero => intro S H f args h s v h' s' hc; simp [callA] at hc
  | succ n ih =>
    intro S H f args h s v h' s' hc
    simp only [callA] at hc
    split at hc
    · cases hc
    rename_i fn hfn
    split at hc
    · cases hc
    rename_i c hb
    refine ⟨⟨fn, c, hfn, hP f fn hfn (by rw [hb]; rfl), hb⟩, ?_⟩
    intro RS w G J U N ν vs hRM hH hsr hargs hrs
    have hout : ∃ e σ, execA C (callA C n) f h.length H c { tmps := args ++ List.replicate (fn.ntmps - args.length) .und, h := h } s = some (e, σ, s') ∧ finishA C h.length fn σ = some (v, h') ∧ (e = .normal ∨ e = .ret) := by
      split at hc
      · rename_i σ s1 he
        simp only [Option.map_eq_some_iff, Prod.mk.injEq] at hc
        obtain ⟨⟨v1, h1⟩, hf, rfl, rfl, rfl⟩ := hc
        exact ⟨_, σ, he, hf, .inl rfl⟩
      · rename_i σ s1 he
        simp only [Option.map_eq_some_iff, Prod.mk.injEq] at hc
        obtain ⟨⟨v1, h1⟩, hf, rfl, rfl, rfl⟩ := hc
        exact ⟨_, σ, he, hf, .inr rfl⟩
      · cases hc
    obtain ⟨e, σ, he, hf, hen⟩ := hout
    have hlen : args.length = vs.length := RelL_length hargs
    have I0 : Inv1 RS ⟨w, G, U, N, Own ν h, ν.φ, ν.y, h.length, w.heap.size⟩ J [] { tmps := args ++ List.replicate (fn.ntmps - args.length) .und, h := h } s { tmps := vs.toArray ++ Array.replicate (fn.ntmps - vs.toArray.size) undef, defers := [] } w ν G U N := by
      refine ⟨hsr, ?_, hrs, Ext.refl .., fun _ _ => rfl, rfl, Nat.le_refl _, (fun p hp => by cases hp), (fun d hd => by cases hd), List.Pairwise.nil⟩
      rw [Array.toList_append, Array.toList_replicate, List.size_toArray, ← hlen]
      refine RelL_append hargs ?_
      generalize fn.ntmps - args.length = k
      induction k with
      | zero => exact RelL_nil
      | succ k ih => rw [List.replicate_succ, List.replicate_succ]; exact RelL_cons (by simp only [Rel]) ih
    have hex := exec_ok (f := f) hC ih hExt (hDraw _ ih) hRM c (hR f fn c hfn hb) Fence.wide ⟨w, G, U, N, Own ν h, ν.φ, ν.y, h.length, w.heap.size⟩ J [] _ s _ w e σ s' Wide.wide (fun l hl => by cases hl) hH (Nat.le_refl _) ⟨_, _, _, _, I0⟩ he
    refine callsIn_of_wp_marks hfn hb trivial (wpIn_mono hex ?_) rfl
    rintro x a' w' ⟨rfl, ν', G', U', N', I⟩
    have hleave : LeavesInM Fence.wide 0 C.P fn a'.tmps (Ret RS w G U N ν h v h' s') a'.defers .returning w' :=
      leaves_ok hRM (Nat.le_refl _) a'.defers a' w' rfl (fun w2 I2 => finish_ret (a := { a' with defers := [] }) hC hf I2) I
    rcases hen with rfl | rfl <;> exact hleave
end
end Go.Lite
