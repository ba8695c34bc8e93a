/-
  What the claim car_sealed rests on, part 3.
-/
import Derived.Test.YtlofnkkokcihnaaZT2
import Derived.RecoverIn
namespace Go.Lite
section
variable {w w' : World} {G G' J U U' N N' : Nat → Prop} {ν ν' : Names} {h nh : Heap} {P : Program}
variable {S : Type} {RS : StRel S} {B : Base} {sd : List (Nat × Obj)} {σ : St} {s : S} {a : Act}
theorem putObj_sz' {r : Nat} {ds : Option (List Deferred)} {o : Obj} (hl : w.heap[r]? = some (.deferred ds)) : ∀ b, szOf w b ≤ szOf (w.putObj r o) b := fun b => by
  by_cases e : b = r
  · subst e; rw [szOf, hl]; exact Nat.zero_le _
  · rw [szOf, szOf, World.putObj_heap_other e]; exact Nat.le_refl _
theorem leaves_ok {F : Fence} {n : Nat} {fn : Func} {tm : Array Value} {R : Ending → World → Prop} {u : FrameMode} (hu : u ≠ .run) (hRM : RMono RS) (hB : B.w.heap.size ≤ B.n0) :
    ∀ (ms : List Deferred) (a : Act) (w : World), a.defers = ms ++ B.ds → (∀ w' : World, Inv1 RS { B with dp := fun _ => True } J [] σ s { a with defers := B.ds } w' ν G U N → LeavesInM F n P fn tm R B.ds u w') →
      Inv1 RS { B with dp := fun _ => True } J [] σ s a w ν G U N → LeavesInM F n P fn tm R (ms ++ B.ds) u w
  | [], a, w, hd, hr, I => by
    have : ({ a with defers := B.ds } : Act) = a := by cases a; simp only [List.nil_append] at hd; subst hd; rfl
    rw [← this] at I
    exact hr w I
  | d :: ms, a, w, hd, hr, I => by
    have hnd := I.nd
    rw [hd] at hnd
    obtain ⟨r, e, hs⟩ := (I.marks d (by rw [hd]; exact List.mem_cons_self)).resolve_left fun h => (List.pairwise_cons.1 hnd).1 d (List.mem_append_right _ h) rfl
    subst e
    have I0 : Inv1 RS { B with dp := fun _ => True } J [] σ s { a with defers := ms ++ B.ds } w ν G U N := ⟨I.sr, I.ts, I.rs, I.ext, I.first, I.y, I.len, I.side, fun d hd' => I.marks d (by rw [hd]; exact List.mem_cons_of_mem _ hd'), (List.pairwise_cons.1 hnd).2, trivial⟩
    have I1 := I0.on (w' := w.putObj r (.deferred none)) (G' := G) hRM ⟨rfl, rfl⟩ (by rw [World.putObj_size]; exact Nat.le_refl _) (putObj_sz' hs.at_) (fun _ h => h) (fun b hb => World.putObj_heap_other (fun e => hs.g (e ▸ hb)))
      (fun b hb => by rw [World.putObj_size]; exact I.sr.glt b hb) (fun b hb _ => World.putObj_heap_other (by
        rcases hb with h | h | h | h | h | h | h <;> rintro rfl
        · exact hs.u h
        · exact hs.o h
        · exact hs.n h
        · exact hs.j h
        · exact absurd h.1 (Nat.not_lt.2 (Nat.le_trans hB hs.new))
        · obtain ⟨p, hp, e⟩ := h; cases hp
        · obtain ⟨d, hd', e⟩ := h; exact (List.pairwise_cons.1 hnd).1 d hd' e.symm)) (fun b hb => .inl hb)
    exact ⟨hu, .inl ⟨r, _, rfl, run_takeDeferred hs.at_, leaves_ok hu hRM hB ms { a with defers := ms ++ B.ds } _ rfl hr I1⟩⟩
theorem loadR_ok {C : Cfg} (hC : ∀ t T, C.ty t = some T → tyOf C.P t = some T) (Sr : SR w G J U N ν h) {c : AV} {t : TypeId} {v : Value} (hv : Rel w G c ν J v) {d : AV} (hd : loadR h C c t = some d) :
    ∃ u, (do loadVar t (← asAddr v) : Sem Value).run C.P w = .ok u w ∧ Rel w G d ν J u := by
  unfold loadR at hd
  split at hd
  case h_2 => cases hd
  rename_i T i sz k j hT
  have hrel := hv
  have hact : ∃ r, act C (fun _ _ _ _ _ _ => none) (S := Unit) none h.length (hget h) () (.load i sz k j T.agg T.size) = some r ∧ r.v = d := by
    simp only [act]
    split at hd
    case h_2 => cases hd
    split at hd
    case isFalse => cases hd
    rename_i hs
    rw [if_pos hs]
    split at hd
    case h_2 => cases hd
    split at hd
    · rename_i hag
      rw [if_pos hag]
      split at hd
      · rename_i hle
        rw [if_pos hle]; cases hd; exact ⟨_, rfl, rfl⟩
      · cases hd
    · rename_i hag
      rw [if_neg hag]
      rw [hd]
      exact ⟨_, rfl, rfl⟩
  obtain ⟨r, hr, hrv⟩ := hact
  obtain ⟨u, hrun, hleft⟩ := load_left Sr (fun _ _ h => h) (hC _ _ hT) hv hr
  refine ⟨u, ?_, ?_⟩
  · simp only [Rel] at hrel
    obtain ⟨b, hb, rfl⟩ := hrel
    simp only [Instr.loadAt, Instr.sureAddr] at hrun
    simpa [asAddr] using hrun
  · rw [← hrv]; exact hleft.rel
def resSem (tmps : Array Value) : ResultVar → Sem Value
  | .tmp t => pure (tmps.getD t undef)
  | .cell a t => do loadVar t (← asAddr (tmps.getD a undef))
theorem results_ok {C : Cfg} (hC : ∀ t T, C.ty t = some T → tyOf C.P t = some T) (Sr : SR w G J U N ν σ.h) {tmps : Array Value} (hts : RelL w G σ.tmps ν J tmps.toList) : ∀ (rs : List ResultVar) (vs : List AV), resultsA C σ rs = some vs →
    ∃ us : List Value, (rs.mapM (resSem tmps)).run C.P w = .ok us w ∧ RelL w G vs ν J us
  | [], vs, h => by
    simp only [resultsA, Option.some.injEq] at h; subst h
    exact ⟨[], rfl, RelL_nil⟩
  | .tmp t :: rs, vs, h => by
    simp only [resultsA] at h
    split at h
    case h_2 => cases h
    rename_i vs' h'
    cases h
    obtain ⟨us, hu, hr⟩ := results_ok hC Sr hts rs vs' h'
    have he := ev_rel (a := { tmps := tmps, defers := [] }) hts (.tmp t)
    refine ⟨tmps.getD t undef :: us, ?_, RelL_cons he hr⟩
    rw [List.mapM_cons]
    simp only [resSem, Sem.run_bind, Sem.run_pure, Result.andThen_ok, hu]
  | .cell a t :: rs, vs, h => by
    simp only [resultsA] at h
    split at h
    case h_2 => cases h
    rename_i v vs' hv h'
    cases h
    obtain ⟨us, hu, hr⟩ := results_ok hC Sr hts rs vs' h'
    have he := ev_rel (a := { tmps := tmps, defers := [] }) hts (.tmp a)
    obtain ⟨u, hu1, hr1⟩ := loadR_ok hC Sr he hv
    refine ⟨u :: us, ?_, RelL_cons hr1 hr⟩
    rw [List.mapM_cons]
    have hu2 : (resSem tmps (.cell a t)).run C.P w = .ok u w := hu1
    simp only [Sem.run_bind, Sem.run_pure, Result.andThen_ok, hu, hu2]
theorem one_ok {vs : List AV} {us : List Value} (h : RelL w G vs ν J us) : Rel w G (oneOf vs) ν J (if h : us.toArray.size = 1 then us.toArray[0] else .tuple us.toArray) := by
  match vs, us, h with
  | [], us, h =>
    simp only [RelL] at h; subst h
    simp only [oneOf, Rel]
    exact ⟨[], by simp, RelL_nil⟩
  | [v], us, h =>
    simp only [RelL] at h
    obtain ⟨u, us', rfl, h1, rfl⟩ := h
    simpa [oneOf] using h1
  | v :: v' :: vs, us, h =>
    have hh := h
    simp only [RelL] at h
    obtain ⟨u, us', rfl, h1, u2, us2, rfl, h2, h3⟩ := h
    simp only [oneOf, Rel]
    exact ⟨u :: u2 :: us2, by simp, hh⟩
theorem run_results {fn : Func} {tmps : Array Value} {us : List Value} (h : (fn.results.toList.mapM (resSem tmps)).run P w = .ok us w) : (results fn tmps).run P w = .ok (if h : us.toArray.size = 1 then us.toArray[0] else .tuple us.toArray) w := by
  have e : results fn tmps = (do let vs ← fn.results.mapM (resSem tmps); pure (if h : vs.size = 1 then vs[0] else .tuple vs)) := rfl
  rw [e, Array.mapM_eq_mapM_toList]
  simp [h]
theorem panOf_fzgS {look : Nat → Option Blk} {f : Nat} {v : AV} : panOf (fzg look (f + 1) v) = none := by
  cases v with
  | ptr i s k j => simp only [fzg]; (repeat' split) <;> rfl
  | sl i s lo n cap => simp only [fzg]; (repeat' split) <;> rfl
  | eptr kd cs => cases kd <;> rfl
  | ro kd c0 s es => cases kd <;> rfl
  | _ => rfl
theorem panOf_fzg {look : Nat → Option Blk} {v : AV} : panOf (fzg look deep v) = none := panOf_fzgS (f := 11)
theorem panic_ret (hRM : RMono RS) {t : TypeId} {w0 : World} {G0 U0 N0 : Nat → Prop} {ν0 : Names} {h0 : Heap} {n0 : Nat} {D : List Deferred} {dp : List Deferred → Prop} (h0l : h0.length = 0)
    (I : Inv1 RS ⟨w0, G0, U0, N0, Own ν0 h0, ν0.φ, ν0.y, h0.length, n0, D, dp⟩ J [] σ s a w ν G U N) : Ret RS w0 G0 J U0 N0 ν0 h0 (.pan t) [] s (.panicked (panE t)) w := by
  have _ := hRM
  have hno : ∀ b, ¬ Own ⟨fun _ => none, ν.y⟩ ([] : Heap) b := by rintro b ⟨i, B, h1, _⟩; rw [hget_nil] at h1; cases h1
  refine ⟨⟨t, rfl, rfl⟩, ⟨fun _ => none, ν.y⟩, G, U, N, ?_, fun i hi => absurd hi (by rw [h0l]; exact Nat.not_lt_zero i), I.y, by simp only [Rel], I.ext.less (fun b hb => (hno b hb).elim), I.rs⟩
  exact ⟨fun i B e => (by rw [hget_nil] at e; cases e), fun i j B B' b e => (by rw [hget_nil] at e; cases e), fun i b e => (by cases e), I.sr.glt, I.sr.jlt, I.sr.nlt, fun b _ => hno b, fun b _ => hno b, fun b _ => hno b, I.sr.gu, I.sr.ju, I.sr.un⟩
theorem finish_ret {C : Cfg} (hC : ∀ t T, C.ty t = some T → tyOf C.P t = some T) (hRM : RMono RS) {f : FuncId} {fn : Func} {v : AV} {h' : Heap} {w0 : World} {G0 U0 N0 : Nat → Prop} {ν0 : Names} {h0 : Heap} {n0 : Nat} {D : List Deferred} {dp : List Deferred → Prop} (hf : finishA C f h0.length fn σ = some (v, h'))
    (I : Inv1 RS ⟨w0, G0, U0, N0, Own ν0 h0, ν0.φ, ν0.y, h0.length, n0, D, dp⟩ J [] σ s a w ν G U N) : ∃ u, (results fn a.tmps).run C.P w = .ok u w ∧ Ret RS w0 G0 J U0 N0 ν0 h0 v h' s (.returned u) w := by
  unfold finishA at hf
  split at hf
  · cases hf
  rename_i vs hvs
  split at hf
  · cases hf
  rename_i hpo
  have hpo : panOf (oneOf vs) = none := by simpa using hpo
  obtain ⟨us, hus, hrel⟩ := results_ok hC I.sr I.ts _ _ hvs
  have hone := one_ok hrel
  split at hf
  · split at hf
    case isFalse => cases hf
    rename_i hk
    simp only [Option.some.injEq, Prod.mk.injEq] at hf
    obtain ⟨rfl, rfl⟩ := hf
    have hno : ∀ b, ¬ Own ⟨fun _ => none, ν.y⟩ ([] : Heap) b := by rintro b ⟨i, B, h1, _⟩; rw [hget_nil] at h1; cases h1
    refine ⟨_, run_results hus, panOf_fzg, ⟨fun _ => none, ν.y⟩, fun b => G b ∨ Own ν σ.h b, U, N, ?_, fun i hi => ?_, I.y, ?_, ?_, ?_⟩
    · refine ⟨fun i B e => (by rw [hget_nil] at e; cases e), fun i j B B' b e => (by rw [hget_nil] at e; cases e), fun i b e => (by cases e), fun b hb => hb.elim (I.sr.glt b) I.sr.own_lt, I.sr.jlt, I.sr.nlt, fun b _ => hno b, fun b _ => hno b, fun b _ => hno b, fun b hb hu => ?_, I.sr.ju, I.sr.un⟩
      exact hb.elim (fun h => I.sr.gu b h hu) (I.sr.nown b (I.sr.un b hu))
    · exact absurd hi (by rw [hk]; exact Nat.not_lt_zero i)
    · exact Rel_mono (fun _ h => h) (fun _ _ => rfl) (fun _ => Nat.le_refl _) _ (Names.none_le _) (fun _ h => h.elim) (fun _ h => h.elim) (Rel_fzg (fun _ h => .inl h) (fun i B hB => let ⟨b, h1, h2⟩ := I.sr.blk i B hB; ⟨b, h1, .inr ⟨i, B, hB, h1⟩, h2⟩) deep _ _ ν J (.inl ⟨rfl, rfl⟩) hone)
    · have E := I.ext
      exact ⟨E.size, E.keep, fun b hb => (hno b hb).elim, E.u, E.n, fun b hb => .inl (E.g b hb), fun b hb => hb.elim (E.g' b) (fun h => (E.own b h).elim (fun h => .inr (.inl h)) (fun h => .inr (.inr (.inr h)))), E.sz, E.env⟩
    · exact hRM s w w G _ U N I.rs ⟨rfl, rfl⟩ (Nat.le_refl _) (fun _ _ => rfl) (fun _ => Nat.le_refl _) (fun _ h => .inl h) (fun _ _ => rfl) (fun b hb => hb.imp_right fun h hn => I.sr.nown b hn h) (fun b hb => hb.elim (I.sr.glt b) I.sr.own_lt)
  simp only [Option.some.injEq, Prod.mk.injEq] at hf
  obtain ⟨rfl, rfl⟩ := hf
  refine ⟨_, run_results hus, by rw [panOf_mv]; exact hpo, ⟨((ν.over (gcList h0.length [oneOf vs] σ.h)).φ), ν.y⟩, G, U, N, ?_, fun i hi => ?_, I.y, ?_, ?_, I.rs⟩
  · exact gc_sr I.sr (gcList_nodup _ _ _) (kb := true) (ky := true) (J' := J) (fun _ b hb => .inl hb) (fun _ h => h) (fun _ _ h => h)
  · refine Eq.trans ?_ (I.first i hi)
    simp only [Names.over, gcList_first _ _ _ hi, Option.bind_some]
  · exact Rel_mv (ν' := ⟨((ν.over (gcList h0.length [oneOf vs] σ.h)).φ), ν.y⟩) over_pos (fun _ _ h => h) (fun _ b hb => .inl hb) deep _ _ hone
  · exact I.ext.less (fun b hb => own_gc' (kb := true) (ky := true) hb)
theorem defHead_spec {c : Code} {ops : Array Oper} {o : Oper} {x : Operand} (h : defHead c = some (ops, o, x)) : ∃ id cl, c = .region id ops false ∧ o.op = .defer cl ∧ o.guard = none ∧ cl.callee = .value x ∧ cl.args = #[] ∧ ops.toList = ops.toList.dropLast ++ [o] := by
  cases c <;> simp only [defHead, reduceCtorEq] at h
  rename_i id ops' draw
  cases draw <;> simp only [reduceCtorEq, Option.map_eq_some_iff, Prod.mk.injEq] at h
  obtain ⟨⟨o', x'⟩, h, rfl, rfl, rfl⟩ := h
  unfold deferOf at h
  split at h
  case h_2 => cases h
  rename_i o1 hb
  split at h
  case h_2 => cases h
  rename_i cl hop hg
  split at h
  case h_2 => cases h
  rename_i x1 hcal hargs
  cases h
  refine ⟨id, cl, rfl, hop, hg, hcal, ?_, ?_⟩
  · cases ha : cl.args; rw [ha] at hargs; simp at hargs; subst hargs; rfl
  · rw [← Array.getLast?_toList] at hb
    rw [List.getLast?_eq_some_iff] at hb
    obtain ⟨ys, hys⟩ := hb
    rw [hys]; simp
def LastOK {S : Type} (RS : StRel S) (B : Base) (J : Nat → Prop) (g : FuncId) (dargs : List AV) (σ : St) (s : S) (a : Act) (w : World) : Prop :=
  ∃ (as cs : List Value) (n0 : Nat) (ν : Names) (G U N : Nat → Prop), B.w.heap.size ≤ n0 ∧ RelL w G dargs ν J (as ++ cs) ∧
    Inv1 RS { B with n0 := n0, ds := [{ target := .fn (.func g) cs.toArray, args := as.toArray }], dp := fun ds => ∃ ms, ds = ms ++ [{ target := .fn (.func g) cs.toArray, args := as.toArray }] } J [] σ s a w ν G U N
theorem execD_ok {C : Cfg} {call : CallT} {f : FuncId} {RS : StRel S} {H : Option (Hd S)} (hC : ∀ t T, C.ty t = some T → tyOf C.P t = some T) (hCall : CallOK C.P call) (hExt : ExtOK C) (hDraw : DrawOK C call) (hRM : RMono RS) :
    ∀ (c : Code), hasDef c = true → regsOk c = true → ∀ (B : Base) (J : Nat → Prop) (σ : St) (s : S) (a : Act) (w : World) (g : FuncId) (dargs : List AV) (e : Ex) (σ' : St) (s' : S), B.ds = [] → B.dp = (fun ds => ds = []) → HSO C.P RS H B.y → B.n0 ≤ B.w.heap.size →
      Inv RS B J [] σ s a w → execD C call f B.k H c σ s = some ((g, dargs), e, σ', s') → c.wpIn Fence.wide 0 C.P (fun x a' w' => x = exOf e ∧ LastOK RS B J g dargs σ' s' a' w') a w := by
  intro c
  induction c with
  | seq x y ihx ihy =>
    intro hd hrg B J σ s a w g dargs e σ' s' hbs hbp hH hn0 I h
    simp only [hasDef, Bool.or_eq_true, Bool.and_eq_true, Bool.not_eq_true'] at hd
    simp only [regsOk, Bool.and_eq_true] at hrg
    simp only [execD] at h
    refine wpIn_seq ?_
    split at h
    · rename_i ops o xo hdh
      split at h
      case h_2 => cases h
      rename_i σ1 s1 hr
      split at h
      case h_2 => cases h
      rename_i g' as cs hev
      simp only [Option.map_eq_some_iff, Prod.mk.injEq] at h
      obtain ⟨⟨e1, σ2, s2⟩, hex, ⟨rfl, rfl⟩, rfl, rfl, rfl⟩ := h
      obtain ⟨id, cl, rfl, hop, hg, hcal, hargs, hops⟩ := defHead_spec hdh
      refine wpIn_region ?_
      have hlen : ops.toList.dropLast.length + 1 = ops.size := by
        have := congrArg List.length hops
        simp only [List.length_append, List.length_cons, List.length_nil, Array.length_toList] at this
        omega
      have key := wpOpsIn_pre hC hCall hExt Wide.wide hRM hH (ops := ops) (σ' := σ1) (s' := s1) (m := ops.toList.dropLast.length) (tail := [o]) (Q := Exit.then (y.wpIn Fence.wide 0 C.P fun x a' w' => x = exOf e ∧ LastOK RS B J g' (as ++ cs) σ' s' a' w') (fun x a' w' => x = exOf e ∧ LastOK RS B J g' (as ++ cs) σ' s' a' w')) (B := B) (J := J) (sd := []) ?_
        ops.toList.dropLast 0 (by simpa using hops) (by simp) σ s a w I hr
      · simpa using key
      rintro a1 w1 ⟨ν1, G1, U1, N1, I1⟩
      have hadef : a1.defers = [] := by have := I1.low; rw [hbp] at this; exact this
      have hrange : (List.range ops.size).drop ops.toList.dropLast.length = [ops.toList.dropLast.length] := by
        rw [← hlen, List.range_succ, List.drop_append_of_le_length (by simp), List.drop_eq_nil_of_le (by simp)]; rfl
      rw [hrange]
      have ho : ops[ops.toList.dropLast.length]? = some o := by
        rw [← Array.getElem?_toList, hops, List.getElem?_append_right (by simp)]; simp
      simp only [wpOpsIn, ho, Region.wanted, hg, if_true]
      have hxv := ev_rel I1.ts xo
      rw [hev] at hxv
      simp only [Rel] at hxv
      obtain ⟨vas, vcs, hv, has, hcs⟩ := hxv
      have hrun : (execOp a1.eval o).run C.P w1 = .ok (.defer { target := .fn (.func g') vcs.toArray, args := vas.toArray }) w1 := by
        unfold execOp
        simp [hop, resolve, hcal, hv, Deferred.ofValue, hargs]
      refine ⟨fun f' _ => trivial, ?_⟩
      rw [show Fence.wide.round = none from rfl, Oper.semAt_none, hrun, Oper.uponIn_defer]
      -- the rest
      let d0 : Deferred := { target := .fn (.func g') vcs.toArray, args := vas.toArray }
      let B2 : Base := ⟨w1, G1, U1, N1, Own ν1 σ1.h, ν1.φ, ν1.y, σ1.h.length, w1.heap.size, [d0], fun ds => ∃ ms, ds = ms ++ [d0]⟩
      have hpd : ∀ u, ((({ a1 with defers := d0 :: a1.defers } : Act).put o.dst u).defers) = [d0] := fun u => by cases o.dst <;> simp [Act.put, hadef]
      have I2 : Inv1 RS B2 J [] { σ1 with tmps := put o.dst .und σ1.tmps } s1 (({ a1 with defers := d0 :: a1.defers } : Act).put o.dst undef) w1 ν1 G1 U1 N1 := by
        refine ⟨I1.sr, put_rel (a := { a1 with defers := d0 :: a1.defers }) I1.ts o.dst (by simp only [Rel]), I1.rs, Ext.refl .., fun _ _ => rfl, rfl, Nat.le_refl _, (fun p hp => by cases hp), ?_, ?_, ?_⟩
        · intro d hd
          rw [hpd] at hd
          exact .inl hd
        · rw [hpd]; exact List.pairwise_singleton _ _
        · show ∃ ms, _ = ms ++ [d0]
          rw [hpd]; exact ⟨[], rfl⟩
      have hex2 := exec_ok (f := f) (RS := RS) (H := H) hC hCall hExt hDraw hRM y hrg.2 Fence.wide B2 J [] _ s1 _ w1 e σ' s' Wide.wide (fun l hl => by cases hl) (by show HSO C.P RS H ν1.y; rw [I1.y]; exact hH) (Nat.le_refl _)
        ⟨fun d hd => by
          rw [List.mem_singleton.1 hd]
          exact ⟨_, _, rfl⟩, fun _ r ds ⟨ms, e⟩ => ⟨markOf r :: ms, by rw [e]; rfl⟩⟩ ⟨_, _, _, _, I2⟩ hex
      refine wpIn_mono hex2 ?_
      rintro x a' w' ⟨rfl, ν', G', U', N', I'⟩
      refine ⟨rfl, vas, vcs, w1.heap.size, ν', G', U', N', I1.ext.size, ?_, I'.sr, I'.ts, I'.rs, I1.ext.trans I'.ext, fun i hi => (I'.first i (Nat.lt_of_lt_of_le hi I1.len)).trans (I1.first i hi), I'.y.trans I1.y, Nat.le_trans I1.len I'.len, (fun p hp => by cases hp), I'.marks, I'.nd, I'.low⟩
      have hle : ν1.le ν' := ⟨fun i b hb => by rw [I'.first i (I1.sr.dom i b hb)]; exact hb, fun l hl => by rw [I'.y]; exact hl⟩
      exact RelL_mono I'.ext.g (fun b hb => I'.ext.keep b (I1.sr.glt b hb) (I1.sr.gown b hb) (I1.sr.gu b hb)) I'.ext.sz _ hle (fun _ h => .inl h) (fun b hb => I'.ext.keep b (I1.sr.jlt b hb) (I1.sr.jown b hb) (I1.sr.ju b hb)) (RelL_append has hcs)
    · rename_i hdh
      split at h
      case h_2 => cases h
      rename_i σ1 s1 h1
      rw [hdh] at hd
      obtain ⟨hnr, hd⟩ := hd.resolve_left (by simp)
      refine wpIn_mono (exec_ok (f := f) (RS := RS) (H := H) hC hCall hExt hDraw hRM x hrg.1 Fence.wide B J [] σ s a w _ _ _ Wide.wide (fun l hl => by cases hl) hH hn0 ⟨(fun d hd => by rw [hbs] at hd; cases hd), fun h => by rw [hnr] at h; cases h⟩ I h1) ?_
      rintro x a' w' ⟨rfl, I'⟩
      exact ihy hd hrg.2 B J _ _ a' w' _ _ _ _ _ hbs hbp hH hn0 I' h
  | _ => intro hd; simp [hasDef] at hd
theorem moves_ok {n : Nat} {ops : Array Oper} {Q : Exit → Act → List Frame → World → Prop} {stk : List Frame} : ∀ (rest : List Oper) (k : Nat), ops.toList.drop k = rest → ∀ (ts ts' : List AV) (a : Act) (w : World), RelL w G ts ν J a.tmps.toList → movesA rest ts = some ts' →
    (∀ a', RelL w G ts' ν J a'.tmps.toList → a'.defers = a.defers → Q .normal a' stk w) → wpOpsSIn Fence.wide n P ops Q ((List.range ops.size).drop k) a stk w
  | [], k, hd, ts, ts', a, w, hts, hm, hQ => by
    have hk : ops.size ≤ k := by simpa using hd
    rw [List.drop_eq_nil_of_le (by rw [List.length_range]; exact hk)]
    simp only [movesA, Option.some.injEq] at hm
    subst hm
    exact hQ a hts rfl
  | o :: rest, k, hd, ts, ts', a, w, hts, hm, hQ => by
    have hk : k < ops.size := by
      apply Classical.byContradiction
      intro hk
      rw [List.drop_eq_nil_of_le (by simpa using hk)] at hd
      cases hd
    have ho : ops[k]? = some o := by
      have := congrArg (·[0]?) hd
      simpa using this
    have hd' : ops.toList.drop (k + 1) = rest := by
      have := congrArg List.tail hd
      simpa using this
    have hrange : (List.range ops.size).drop k = k :: (List.range ops.size).drop (k + 1) := by
      rw [List.drop_eq_getElem_cons (by rw [List.length_range]; exact hk), List.getElem_range]
    rw [hrange]
    simp only [wpOpsSIn, ho]
    refine ⟨fun f _ => trivial, ?_⟩
    have hdf : ∀ u, (a.put o.dst u).defers = a.defers := fun u => by cases o.dst <;> rfl
    simp only [movesA] at hm
    split at hm
    · rename_i x hg hop
      have hrun : (execOp a.eval o).run P w = .ok (.value (a.eval x)) w := by unfold execOp; simp [hop]
      simp only [Region.wanted, hg, if_true, hrun]
      exact moves_ok rest (k + 1) hd' _ ts' _ w (put_rel hts o.dst (ev_rel hts x)) hm fun a' h1 h2 => hQ a' h1 (h2.trans (hdf _))
    · rename_i x hg hop
      have hrun : (execOp a.eval o).run P w = .ok (.value (a.eval x)) w := by unfold execOp; simp [hop]
      simp only [Region.wanted, hg, if_true, hrun]
      exact moves_ok rest (k + 1) hd' _ ts' _ w (put_rel hts o.dst (ev_rel hts x)) hm fun a' h1 h2 => hQ a' h1 (h2.trans (hdf _))
    · cases hm
theorem run_recover {o : Oper} (h : isRecover o = true) (ρ : Operand → Value) : o.guard = none ∧ (execOp ρ o).run P w = .ok .recover w := by
  unfold isRecover at h
  split at h
  case h_2 => cases h
  rename_i cl hg hop
  split at h
  case h_2 => cases h
  rename_i hcal hargs
  refine ⟨hg, ?_⟩
  unfold execOp
  simp [hop, resolve, hcal, invoke]
  rfl
def RecOK (rv : AV) (u u' : FrameMode) : Prop := ∀ (c₀ : Frame) (cs : List Frame), c₀.mode = u → (rv = .nili ∧ recoverD (c₀ :: cs) = none ∧ u' = u) ∨
  ∃ v, (∀ w G ν J, Rel w G rv ν J v) ∧ recoverD (c₀ :: cs) = some (v, { c₀ with mode := u' } :: cs)
theorem recOK_panicking (t : TypeId) : RecOK (.ifc t (.agg [])) (.panicking (panE t)) (.panicking [{ v := .iface t (.agg #[]), recovered := true }]) := fun c₀ cs h => .inr ⟨.iface t (.agg #[]), fun w G ν J => by
    simp only [Rel]
    exact ⟨_, rfl, [], rfl, RelL_nil⟩, by simp [recoverD, h, panE]⟩
theorem recOK_returning : RecOK .nili .returning .returning := fun c₀ cs h => .inl ⟨rfl, by simp [recoverD, h], rfl⟩
theorem callD_ok {C : Cfg} {call : CallT} (hC : ∀ t T, C.ty t = some T → tyOf C.P t = some T) (hCall : CallOK C.P call) (hExt : ExtOK C) (hDraw : DrawOK C call) (hP : ∀ (f : FuncId) (fn : Func), C.P.funcs[f]? = some fn → fn.body.isSome = true → fn.name ≠ "runtime.NumGoroutine") (hR : ∀ (f : FuncId) (fn : Func) (c : Code), C.P.funcs[f]? = some fn → fn.body = some c → regsOk c = true)
    {rv : AV} {u u' : FrameMode} (hrv : RecOK rv u u') {S : Type} {H : Option (Hd S)} {f : FuncId} {args : List AV} {h : Heap} {s : S} {v : AV} {h' : Heap} {s' : S} (hc : callD C call rv H f args h s = some (v, h', s')) :
    Ent C.P f ∧ ∀ (RS : StRel S) (w : World) (G J U N : Nat → Prop) (ν : Names) (vs : List Value), RMono RS → HSO C.P RS H ν.y → SR w G J U N ν h → RelL w G args ν J vs → RS s w G U N →
      CallsDIn Fence.wide 0 C.P f vs.toArray u w fun e u2 w' => u2 = u' ∧ Ret RS w G J U N ν h v h' s' e w' := by
  unfold callD at hc
  split at hc
  · cases hc
  rename_i fn hfn
  split at hc
  · cases hc
  rename_i c hb
  refine ⟨⟨fn, c, hfn, hP f fn hfn (by rw [hb]; rfl), hb⟩, ?_⟩
  intro RS w G J U N ν vs hRM hH hsr hargs hrs
  have hout : ∃ e σ, bodyD C call f rv h.length H c { tmps := args ++ List.replicate (fn.ntmps - args.length) .und, h := h } s = some (e, σ, s') ∧ finishA C f h.length fn σ = some (v, h') ∧ (e = .normal ∨ e = .ret) := by
    split at hc
    · rename_i σ s1 he
      simp only [Option.map_eq_some_iff, Prod.mk.injEq] at hc
      obtain ⟨⟨v1, h1⟩, hf, rfl, rfl, rfl⟩ := hc
      exact ⟨_, σ, he, hf, .inl rfl⟩
    · rename_i σ s1 he
      simp only [Option.map_eq_some_iff, Prod.mk.injEq] at hc
      obtain ⟨⟨v1, h1⟩, hf, rfl, rfl, rfl⟩ := hc
      exact ⟨_, σ, he, hf, .inr rfl⟩
    · cases hc
  obtain ⟨e, σ, he, hf, hen⟩ := hout
  have hlen : args.length = vs.length := RelL_length hargs
  have hts0 : RelL w G (args ++ List.replicate (fn.ntmps - args.length) .und) ν J (vs.toArray ++ Array.replicate (fn.ntmps - vs.toArray.size) undef).toList := by
    rw [Array.toList_append, Array.toList_replicate, List.size_toArray, ← hlen]
    refine RelL_append hargs ?_
    generalize fn.ntmps - args.length = k
    induction k with
    | zero => exact RelL_nil
    | succ k ih => rw [List.replicate_succ, List.replicate_succ]; exact RelL_cons (by simp only [Rel]) ih
  refine callsDIn_of_wpSIn hfn hb trivial fun c₀ cs hu => ?_
  have hrc := hR f fn c hfn hb
  unfold bodyD at he
  split at he
  case h_2 => cases he
  rename_i s _ _ _ id ops b
  split at he
  · cases he
  rename_i hnr
  split at he
  case h_2 => cases he
  rename_i o r hops
  split at he
  case isFalse => cases he
  rename_i hrec
  split at he
  case h_2 => cases he
  rename_i ts hmv
  refine wpSIn_seq (wpSIn_region ?_)
  have ho : ops[0]? = some o := by rw [← Array.getElem?_toList, hops]; rfl
  have hsz : 0 < ops.size := (Array.getElem?_eq_some_iff.1 ho).1
  have hrange : List.range ops.size = 0 :: (List.range ops.size).drop 1 := by
    have := List.drop_eq_getElem_cons (l := List.range ops.size) (i := 0) (by rw [List.length_range]; exact hsz)
    simpa using this
  rw [hrange]
  simp only [wpOpsSIn, ho]
  refine ⟨fun f _ => trivial, ?_⟩
  obtain ⟨hg, hrun⟩ := run_recover (P := C.P) (w := w) hrec (({ tmps := vs.toArray ++ Array.replicate (fn.ntmps - vs.toArray.size) undef, defers := [] } : Act).eval)
  simp only [Region.wanted, hg, if_true, hrun]
  have hrest : ∀ (v0 : Value) (stk : List Frame), Rel w G rv ν J v0 → stk = { c₀ with mode := u' } :: cs →
      wpOpsSIn Fence.wide 0 C.P ops (Exit.thenS (b.wpSIn Fence.wide 0 C.P (bodyPostS C.P fn c₀ cs fun e u2 w' => u2 = u' ∧ Ret RS w G J U N ν h v h' s' e w')) (bodyPostS C.P fn c₀ cs fun e u2 w' => u2 = u' ∧ Ret RS w G J U N ν h v h' s' e w')) ((List.range ops.size).drop 1)
        (({ tmps := vs.toArray ++ Array.replicate (fn.ntmps - vs.toArray.size) undef, defers := [] } : Act).put o.dst v0) stk w := by
    intro v0 stk hv0 hstk
    have hdf : (({ tmps := vs.toArray ++ Array.replicate (fn.ntmps - vs.toArray.size) undef, defers := [] } : Act).put o.dst v0).defers = [] := by cases o.dst <;> rfl
    refine moves_ok (ν := ν) (G := G) (J := J) r 1 (by rw [hops]; rfl) _ ts _ w (put_rel hts0 o.dst hv0) hmv fun a' hts' had => ?_
    show b.wpSIn _ _ _ _ _ _ _
    refine wpSIn_of_wpIn rfl ?_
    have I0 : Inv1 RS ⟨w, G, U, N, Own ν h, ν.φ, ν.y, h.length, w.heap.size, [], fun ds => ds = []⟩ J [] { tmps := ts, h := h } s a' w ν G U N :=
      ⟨hsr, hts', hrs, Ext.refl .., fun _ _ => rfl, rfl, Nat.le_refl _, (fun p hp => by cases hp), (fun d hd => by rw [had, hdf] at hd; cases hd), (by rw [had, hdf]; exact List.Pairwise.nil), had.trans hdf⟩
    have hex := exec_ok (f := f) hC hCall hExt hDraw hRM b (by simp only [regsOk, Bool.and_eq_true] at hrc; exact hrc.2) Fence.wide ⟨w, G, U, N, Own ν h, ν.φ, ν.y, h.length, w.heap.size, [], fun ds => ds = []⟩ J [] _ s a' w e σ s' Wide.wide (fun l hl => by cases hl) hH (Nat.le_refl _)
      ⟨(fun d hd => by cases hd), fun h => by rw [h] at hnr; exact absurd rfl hnr⟩ ⟨_, _, _, _, I0⟩ he
    refine wpIn_mono hex ?_
    rintro x a2 w2 ⟨rfl, ν2, G2, U2, N2, I2⟩
    obtain ⟨uv, hres, hret⟩ := finish_ret hC hRM hf I2
    have hlow : a2.defers = [] := I2.low
    rcases hen with rfl | rfl <;> exact ⟨hlow, u', hstk, uv, hres, rfl, hret⟩
  rcases hrv c₀ cs hu with ⟨rfl, h1, rfl⟩ | ⟨v0, h1, h2⟩
  · rw [h1]
    exact hrest .nilIface _ (by simp only [Rel]) (by rw [← hu])
  · rw [h2]
    exact hrest v0 _ (h1 _ _ _ _) rfl
theorem finish_pan {C : Cfg} {f : FuncId} {k : Nat} {fn : Func} {v : AV} {h' : Heap} (h : finishA C f k fn σ = some (v, h')) : panOf v = none := by
  unfold finishA at h
  split at h
  · cases h
  rename_i vs hvs
  split at h
  · cases h
  rename_i hpo
  have hpo : panOf (oneOf vs) = none := by simpa using hpo
  split at h
  · split at h
    case isFalse => cases h
    simp only [Option.some.injEq, Prod.mk.injEq] at h
    rw [← h.1]; exact panOf_fzg
  · simp only [Option.some.injEq, Prod.mk.injEq] at h
    rw [← h.1, panOf_mv]; exact hpo
theorem callD_pan {C : Cfg} {call : CallT} {rv : AV} {H : Option (Hd S)} {f : FuncId} {args : List AV} {s s' : S} {v : AV} {h' : Heap} (hc : callD C call rv H f args h s = some (v, h', s')) : panOf v = none := by
  unfold callD at hc
  split at hc
  · cases hc
  split at hc
  · cases hc
  split at hc
  · simp only [Option.map_eq_some_iff, Prod.mk.injEq] at hc
    obtain ⟨⟨v1, h1⟩, hf, rfl, rfl, rfl⟩ := hc
    exact finish_pan hf
  · simp only [Option.map_eq_some_iff, Prod.mk.injEq] at hc
    obtain ⟨⟨v1, h1⟩, hf, rfl, rfl, rfl⟩ := hc
    exact finish_pan hf
  · cases hc
theorem call_ok {C : Cfg} (hC : ∀ t T, C.ty t = some T → tyOf C.P t = some T) (hExt : ExtOK C) (hDraw : ∀ call, CallOK C.P call → DrawOK C call) (hP : ∀ (f : FuncId) (fn : Func), C.P.funcs[f]? = some fn → fn.body.isSome = true → fn.name ≠ "runtime.NumGoroutine") (hR : ∀ (f : FuncId) (fn : Func) (c : Code), C.P.funcs[f]? = some fn → fn.body = some c → regsOk c = true) : ∀ n, CallOK C.P (callA C n) := by
  intro n
  induction n with
  | zero => intro S H f args h s v h' s' hc; simp [callA] at hc
  | succ n ih =>
    intro S H f args h s v h' s' hc
    simp only [callA] at hc
    split at hc
    · cases hc
    rename_i fn hfn
    split at hc
    · cases hc
    rename_i c hb
    refine ⟨⟨fn, c, hfn, hP f fn hfn (by rw [hb]; rfl), hb⟩, ?_⟩
    intro RS w G J U N ν vs hRM hH hsr hargs hrs
    have hlen : args.length = vs.length := RelL_length hargs
    have hts0 : RelL w G (args ++ List.replicate (fn.ntmps - args.length) .und) ν J (vs.toArray ++ Array.replicate (fn.ntmps - vs.toArray.size) undef).toList := by
      rw [Array.toList_append, Array.toList_replicate, List.size_toArray, ← hlen]
      refine RelL_append hargs ?_
      generalize fn.ntmps - args.length = k
      induction k with
      | zero => exact RelL_nil
      | succ k ih => rw [List.replicate_succ, List.replicate_succ]; exact RelL_cons (by simp only [Rel]) ih
    have I0 : ∀ dp : List Deferred → Prop, dp [] → Inv1 RS ⟨w, G, U, N, Own ν h, ν.φ, ν.y, h.length, w.heap.size, [], dp⟩ J [] { tmps := args ++ List.replicate (fn.ntmps - args.length) .und, h := h } s { tmps := vs.toArray ++ Array.replicate (fn.ntmps - vs.toArray.size) undef, defers := [] } w ν G U N := fun dp hdp =>
      ⟨hsr, hts0, hrs, Ext.refl .., fun _ _ => rfl, rfl, Nat.le_refl _, (fun p hp => by cases hp), (fun d hd => by cases hd), List.Pairwise.nil, hdp⟩
    split at hc
    · -- a call is deferred
      rename_i hdef
      split at hc
      case h_2 => cases hc
      rename_i g dargs e σ s1 hex
      have hout : ∃ rv u u' σ2 s2, leaveA C (callA C n) rv H g dargs σ s1 = some (σ2, s2) ∧ finishA C f h.length fn σ2 = some (v, h') ∧ s2 = s' ∧ RecOK rv u u' ∧ settle u' = .returning ∧ u ≠ .run ∧
          ((e = .normal ∧ u = .returning) ∨ (e = .ret ∧ u = .returning) ∨ ∃ t, e = .pan t ∧ u = .panicking (panE t)) := by
        split at hc
        · cases hc
        · rename_i t
          split at hc
          case h_2 => cases hc
          rename_i σ2 s2 hl
          simp only [Option.map_eq_some_iff, Prod.mk.injEq] at hc
          obtain ⟨⟨v1, h1⟩, hf, rfl, rfl, rfl⟩ := hc
          exact ⟨_, _, _, σ2, s2, hl, hf, rfl, recOK_panicking t, rfl, (fun h => by cases h), .inr (.inr ⟨t, rfl, rfl⟩)⟩
        rename_i hne hnp
        split at hc
        case h_2 => cases hc
        rename_i σ2 s2 hl
        simp only [Option.map_eq_some_iff, Prod.mk.injEq] at hc
        obtain ⟨⟨v1, h1⟩, hf, rfl, rfl, rfl⟩ := hc
        refine ⟨_, _, _, σ2, s2, hl, hf, rfl, recOK_returning, rfl, (fun h => by cases h), ?_⟩
        cases e with
        | normal => exact .inl ⟨rfl, rfl⟩
        | ret => exact .inr (.inl ⟨rfl, rfl⟩)
        | exit id => exact (hne id rfl).elim
        | pan t => exact (hnp t rfl).elim
      obtain ⟨rv, u, u', σ2, s2, hl, hf, rfl, hrv, hset, hur, hen⟩ := hout
      have hbody := execD_ok (f := f) (RS := RS) (H := H) hC ih hExt (hDraw _ ih) hRM c hdef (hR f fn c hfn hb) ⟨w, G, U, N, Own ν h, ν.φ, ν.y, h.length, w.heap.size, [], fun ds => ds = []⟩ J _ s _ w g dargs e σ s1 rfl rfl hH (Nat.le_refl _) ⟨_, _, _, _, I0 _ rfl⟩ hex
      refine callsIn_of_wp_marks hfn hb trivial (wpIn_mono hbody ?_) rfl
      rintro x a' w' ⟨rfl, as, cs, n0, ν', G', U', N', hn0, hdr, I⟩
      obtain ⟨ms, hms⟩ := I.low
      have hleave : LeavesInM Fence.wide 0 C.P fn a'.tmps (Ret RS w G J U N ν h v h' s2) a'.defers u w' := by
        rw [hms]
        refine leaves_ok (B := ⟨w, G, U, N, Own ν h, ν.φ, ν.y, h.length, n0, [{ target := .fn (.func g) cs.toArray, args := as.toArray }], fun ds => ∃ ms, ds = ms ++ [{ target := .fn (.func g) cs.toArray, args := as.toArray }]⟩) (J := J) (σ := { tmps := dargs ++ σ.tmps, h := σ.h }) (s := s1) (ν := ν') (G := G') (U := U') (N := N') hur hRM hn0 ms
          { tmps := (as ++ cs).toArray ++ a'.tmps, defers := a'.defers } w' hms ?_ ⟨I.sr, by rw [Array.toList_append]; exact RelL_append hdr I.ts, I.rs, I.ext, I.first, I.y, I.len, I.side, I.marks, I.nd, trivial⟩
        intro w2 I2
        have hts2 : RelL w2 G' (dargs ++ σ.tmps) ν' J ((as ++ cs) ++ a'.tmps.toList) := by have := I2.ts; rwa [Array.toList_append] at this
        have hdl : dargs.length = (as ++ cs).length := RelL_length hdr
        have hdr2 : RelL w2 G' dargs ν' J (as ++ cs) := by
          have := RelL_take dargs.length hts2
          rwa [List.take_left, hdl, List.take_left] at this
        have htm2 : RelL w2 G' σ.tmps ν' J a'.tmps.toList := by
          have := RelL_drop dargs.length hts2
          rwa [List.drop_left, hdl, List.drop_left] at this
        unfold leaveA at hl
        generalize hhand : handIn (hget σ.h) (dargs.map fun _ => true) dargs = q at hl
        obtain ⟨hm, cargs, ch⟩ := q
        dsimp only at hl
        split at hl
        case h_2 => cases hl
        rename_i v0 nh s3 hcl
        simp only [Option.some.injEq, Prod.mk.injEq] at hl
        obtain ⟨rfl, rfl⟩ := hl
        simp only [handIn, Prod.mk.injEq] at hhand
        obtain ⟨hms', hca, hch⟩ := hhand
        have hn : hm.Nodup := by rw [← hms']; exact reach_nodup _ _ _ _ List.nodup_nil
        rw [hms'] at hca hch
        rw [zip_true] at hca
        subst hca; subst hch
        have hgood := callD_ok hC ih hExt (hDraw _ ih) hP hR hrv hcl
        have hsr := hand_sr (look := hget σ.h) I2.sr (fun _ _ h => h) hn J U' N' (fun b hb => hb) (fun b hb => .inl hb) I2.sr.un (fun _ h => h) I2.sr.un (fun _ h => h)
        have hrel : RelL w2 G' (dargs.map (mv true true (pos hm) deep)) (ν'.over hm) J (as ++ cs) := map_mv_rel (Rel_mv over_pos (fun _ _ h => h) (fun _ b hb => .inl hb) deep) hdr2
        have hcd := hgood.2 RS w2 G' J U' N' (ν'.over hm) (as ++ cs) hRM (by show HSO C.P RS H ν'.y; rw [I2.y]; exact hH) hsr hrel I2.rs
        refine ⟨hur, .inr ⟨(fun h => by cases h), .func g, cs.toArray, g, (as ++ cs).toArray, rfl, ?_, fun _ _ => trivial, hcd.mono ?_⟩⟩
        · have := run_enter (w := w2) hgood.1 (as.toArray ++ cs.toArray)
          simpa [invoke] using this
        · rintro e2 u2 w3 ⟨rfl, hret⟩
          cases e2 with
          | panicked _ =>
            obtain ⟨⟨t, rfl, -⟩, -⟩ := hret
            exact absurd (callD_pan hcl) (by simp [panOf])
          | outgrown => exact hret.elim
          | returned u =>
            obtain ⟨ν3, G3, U3, N3, k1, k2, k3, k4, k5, k6, k7⟩ := after_call (at_ := σ.h.length) I2.sr (look := hget σ.h) (fun _ _ h => h) hn (fun j h1 h2 => I2.sr.fresh h1) (fun _ h => h) hret.2
            have I3 : Inv1 RS ⟨w, G, U, N, Own ν h, ν.φ, ν.y, h.length, n0, [], fun _ => True⟩ J [] { σ with h := hputs (hups σ.h (handBack hm σ.h.length nh).1) σ.h.length (handBack hm σ.h.length nh).2 } s3 { tmps := a'.tmps, defers := [] } w3 ν3 G3 U3 N3 := by
              refine ⟨k1, I2.sr.relL k5 k2 htm2, k6, I2.ext.trans k5, fun i hi => ?_, k3.trans I2.y, ?_, (fun p hp => by cases hp), (fun d hd => by cases hd), List.Pairwise.nil, trivial⟩
              · refine Eq.trans ?_ (I2.first i hi)
                apply Classical.byContradiction
                intro hne
                have := (k7 i hne).1
                have h2 : h.length ≤ σ.h.length := I2.len
                have h3 : i < h.length := hi
                omega
              · exact Nat.le_trans I2.len (Nat.le_trans (length_hups _ _) (length_hputs _ _ _))
            obtain ⟨uv, hres, hret2⟩ := finish_ret hC hRM hf I3
            show LeavesInM _ _ _ _ _ _ _ (settle u2) _
            rw [hset]
            exact ⟨uv, hres, hret2⟩
      rcases hen with ⟨rfl, rfl⟩ | ⟨rfl, rfl⟩ | ⟨t, rfl, rfl⟩ <;> exact hleave
    · rename_i hdef
      have hout : ∃ e σ, execA C (callA C n) f h.length H c { tmps := args ++ List.replicate (fn.ntmps - args.length) .und, h := h } s = some (e, σ, s') ∧ ((finishA C f h.length fn σ = some (v, h') ∧ (e = .normal ∨ e = .ret)) ∨ ∃ t, e = .pan t ∧ v = .pan t ∧ h' = [] ∧ h.length = 0) := by
        split at hc
        · rename_i σ s1 he
          simp only [Option.map_eq_some_iff, Prod.mk.injEq] at hc
          obtain ⟨⟨v1, h1⟩, hf, rfl, rfl, rfl⟩ := hc
          exact ⟨_, σ, he, .inl ⟨hf, .inl rfl⟩⟩
        · rename_i σ s1 he
          simp only [Option.map_eq_some_iff, Prod.mk.injEq] at hc
          obtain ⟨⟨v1, h1⟩, hf, rfl, rfl, rfl⟩ := hc
          exact ⟨_, σ, he, .inl ⟨hf, .inr rfl⟩⟩
        · rename_i t σ s1 he
          split at hc
          · rename_i h0
            cases hc
            exact ⟨_, σ, he, .inr ⟨t, rfl, rfl, rfl, h0⟩⟩
          · cases hc
        · cases hc
      obtain ⟨e, σ, he, hend⟩ := hout
      have hex := exec_ok (f := f) hC ih hExt (hDraw _ ih) hRM c (hR f fn c hfn hb) Fence.wide ⟨w, G, U, N, Own ν h, ν.φ, ν.y, h.length, w.heap.size, [], fun _ => True⟩ J [] _ s _ w e σ s' Wide.wide (fun l hl => by cases hl) hH (Nat.le_refl _) ⟨(fun d hd => by cases hd), fun _ _ _ _ => trivial⟩ ⟨_, _, _, _, I0 _ trivial⟩ he
      refine callsIn_of_wp_marks hfn hb trivial (wpIn_mono hex ?_) rfl
      rintro x a' w' ⟨rfl, ν', G', U', N', I⟩
      have leave : ∀ u : FrameMode, u ≠ .run → (∀ w2, Inv1 RS ⟨w, G, U, N, Own ν h, ν.φ, ν.y, h.length, w.heap.size, [], fun _ => True⟩ J [] σ s' { a' with defers := [] } w2 ν' G' U' N' → LeavesInM Fence.wide 0 C.P fn a'.tmps (Ret RS w G J U N ν h v h' s') [] u w2) →
          LeavesInM Fence.wide 0 C.P fn a'.tmps (Ret RS w G J U N ν h v h' s') a'.defers u w' := fun u hu hfin => by
        have := leaves_ok (u := u) hu (B := ⟨w, G, U, N, Own ν h, ν.φ, ν.y, h.length, w.heap.size, [], fun _ => True⟩) (J := J) (σ := σ) (s := s') (ν := ν') (G := G') (U := U') (N := N') (F := Fence.wide) (n := 0) (P := C.P) (fn := fn) (tm := a'.tmps) (R := Ret RS w G J U N ν h v h' s') hRM (Nat.le_refl _) a'.defers a' w' (by simp)
          (fun w2 I2 => hfin w2 I2) I
        rwa [List.append_nil] at this
      rcases hend with ⟨hf, hen⟩ | ⟨t, rfl, rfl, rfl, h0⟩
      · have hleave := leave .returning (by simp) fun w2 I2 => finish_ret (a := { a' with defers := [] }) hC hRM hf I2
        rcases hen with rfl | rfl <;> exact hleave
      · exact leave (.panicking (panE t)) (by simp) fun w2 I2 => panic_ret hRM h0 I2
end
theorem sliceA_congr {size : Nat} {E E' : Operand → AV} {x : AV} {lo hi mx : Option Operand} (hl : ∀ y, lo = some y → E y = E' y) (hh : ∀ y, hi = some y → E y = E' y) (hm : ∀ y, mx = some y → E y = E' y) : sliceA size E x lo hi mx = sliceA size E' x lo hi mx := by
  have e : ∀ (o : Option Operand) (d m : Nat), (∀ y, o = some y → E y = E' y) → evO E o d m = evO E' o d m := fun o d m h => by
    cases o with
    | none => rfl
    | some y => simp only [evO, h y rfl]
  unfold sliceA
  simp only [e _ _ _ hl, e _ _ _ hh, e _ _ _ hm]
theorem planB_congr {C : Cfg} {E E' : Operand → AV} {b : Builtin} {args : List Operand} {ts : List TypeId} (h : ∀ x ∈ args, E x = E' x) : planB C E b args ts = planB C E' b args ts := by
  unfold planB
  split
  case h_2 =>
    have hm := List.map_congr_left (fun x hx => h x (List.mem_cons_of_mem _ hx))
    simp only [h _ List.mem_cons_self, hm]
  case h_3 =>
    have hm := List.map_congr_left (fun x hx => h x (List.mem_cons_of_mem _ hx))
    simp only [h _ List.mem_cons_self, hm]
  all_goals simp_all
theorem plan_congr {C : Cfg} {E E' : Operand → AV} {o : Oper} (h : ∀ x ∈ o.op.operands, E x = E' x) : plan C E o = plan C E' o := by
  unfold plan
  cases hop : o.op <;> simp only [hop, Op.operands] at h <;> first | rfl | skip
  case slice t x lo hi mx =>
    simp only
    have hs : ∀ size z, sliceA size E z lo hi mx = sliceA size E' z lo hi mx := fun size z => sliceA_congr (fun y hy => h y (by simp [hy])) (fun y hy => h y (by simp [hy])) (fun y hy => h y (by simp [hy]))
    simp only [h x (by simp), hs]
  case build t ps =>
    have hm : (ps.toList.map fun p => (p.1, E p.2)) = ps.toList.map fun p => (p.1, E' p.2) := List.map_congr_left fun p hp => by rw [h p.2 (by simp; exact ⟨p.1, by simpa using hp⟩)]
    simp only [hm]
  case buildSlice t n ps =>
    have hm : (ps.toList.map fun p => (p.1, E p.2)) = ps.toList.map fun p => (p.1, E' p.2) := List.map_congr_left fun p hp => by rw [h p.2 (by simp; exact ⟨p.1, by simpa using hp⟩)]
    simp only [hm]
  case makeMap t q =>
    cases q with
    | none => rfl
    | some x => simp only [h x (by simp)]
  case makeFunc fn a c =>
    have h1 : a.toList.map E = a.toList.map E' := List.map_congr_left fun x hx => h x (by simp; exact .inl (by simpa using hx))
    have h2 : c.toList.map E = c.toList.map E' := List.map_congr_left fun x hx => h x (by simp; exact .inr (by simpa using hx))
    simp only [h1, h2]
  case call c =>
    simp only
    have ha : ∀ x ∈ c.args.toList, E x = E' x := fun x hx => h x (by simp [Call.operands]; exact .inr (by simpa using hx))
    have hm : c.args.toList.map E = c.args.toList.map E' := List.map_congr_left ha
    cases hc : c.callee with
    | builtin b => simp only [planB_congr ha]
    | invoke r m =>
      have hf : E r = E' r := h r (by simp [Call.operands, hc])
      simp only [hf, hm]
    | value f =>
      have hf : E f = E' f := h f (by simp [Call.operands, hc])
      simp only [hf, hm]
  all_goals simp_all
def gups (g : Nat → Option Blk) : List (Nat × Option Blk) → Nat → Option Blk
  | [] => g
  | (i, b) :: r => gups (fun j => if i = j then b else g j) r
def gput (g : Nat → Option Blk) (ups : List (Nat × Option Blk)) (at_ : Nat) (news : Heap) : Nat → Option Blk := fun j => if at_ ≤ j ∧ j < at_ + news.length then hget news (j - at_) else gups g ups j
theorem hget_gups : ∀ (ups : List (Nat × Option Blk)) (h : Heap), hget (hups h ups) = gups (hget h) ups
  | [], h => rfl
  | (i, b) :: r, h => by
    rw [hups, gups, hget_gups r]
    congr 1
    funext j
    rw [hget_hset]
theorem hget_gput (h : Heap) (ups : List (Nat × Option Blk)) (at_ : Nat) (news : Heap) : hget (hputs (hups h ups) at_ news) = gput (hget h) ups at_ news := by
  funext j
  rw [hget_hputs, hget_gups]
  rfl
theorem gups_out : ∀ (ups : List (Nat × Option Blk)) (g : Nat → Option Blk) (j : Nat), (∀ p ∈ ups, p.1 ≠ j) → gups g ups j = g j
  | [], g, j, _ => rfl
  | (i, b) :: r, g, j, h => by
    rw [gups, gups_out r _ j (fun p hp => h p (by simp [hp])), if_neg (h (i, b) (by simp))]
theorem gups_in : ∀ (ups : List (Nat × Option Blk)) (g g' : Nat → Option Blk) (j : Nat), (∃ p ∈ ups, p.1 = j) → gups g ups j = gups g' ups j
  | [], _, _, j, h => by obtain ⟨p, hp, _⟩ := h; cases hp
  | (i, b) :: r, g, g', j, h => by
    rw [gups, gups]
    by_cases hr : ∃ p ∈ r, p.1 = j
    · exact gups_in r _ _ j hr
    · have hr' : ∀ p ∈ r, p.1 ≠ j := fun p hp e => hr ⟨p, hp, e⟩
      rw [gups_out r _ j hr', gups_out r _ j hr']
      obtain ⟨p, hp, e⟩ := h
      rcases List.mem_cons.1 hp with rfl | hp
      · simp only at e; rw [if_pos e, if_pos e]
      · exact absurd ⟨p, hp, e⟩ hr
theorem gput_comm {g : Nat → Option Blk} {u1 u2 : List (Nat × Option Blk)} {a1 a2 : Nat} {n1 n2 : Heap} (hr : a1 + n1.length ≤ a2 ∨ a2 + n2.length ≤ a1) (h12 : ∀ p ∈ u1, ∀ q ∈ u2, p.1 ≠ q.1)
    (h1 : ∀ p ∈ u1, ¬ (a2 ≤ p.1 ∧ p.1 < a2 + n2.length)) (h2 : ∀ p ∈ u2, ¬ (a1 ≤ p.1 ∧ p.1 < a1 + n1.length)) : gput (gput g u1 a1 n1) u2 a2 n2 = gput (gput g u2 a2 n2) u1 a1 n1 := by
  have P : ∀ (g : Nat → Option Blk) u a n j, gput g u a n j = if a ≤ j ∧ j < a + n.length then hget n (j - a) else gups g u j := fun _ _ _ _ _ => rfl
  funext j
  rw [P, P]
  by_cases c1 : a1 ≤ j ∧ j < a1 + n1.length
  · have c2 : ¬ (a2 ≤ j ∧ j < a2 + n2.length) := by omega
    rw [if_neg c2, if_pos c1, gups_out u2 _ j (fun p hp e => h2 p hp (e ▸ c1)), P, if_pos c1]
  · by_cases c2 : a2 ≤ j ∧ j < a2 + n2.length
    · rw [if_pos c2, if_neg c1, gups_out u1 _ j (fun p hp e => h1 p hp (e ▸ c2)), P, if_pos c2]
    · rw [if_neg c2, if_neg c1]
      by_cases k1 : ∃ p ∈ u1, p.1 = j
      · have k2 : ∀ q ∈ u2, q.1 ≠ j := fun q hq e => by
          obtain ⟨p, hp, e'⟩ := k1
          exact h12 p hp q hq (e'.trans e.symm)
        rw [gups_out u2 _ j k2, P, if_neg c1]
        exact gups_in u1 _ _ j k1
      · have k1' : ∀ p ∈ u1, p.1 ≠ j := fun p hp e => k1 ⟨p, hp, e⟩
        rw [gups_out u1 _ j k1', P, if_neg c2]
        by_cases k2 : ∃ q ∈ u2, q.1 = j
        · exact gups_in u2 _ _ j k2
        · have k2' : ∀ q ∈ u2, q.1 ≠ j := fun p hp e => k2 ⟨p, hp, e⟩
          rw [gups_out u2 _ j k2', gups_out u2 _ j k2', P, if_neg c1, gups_out u1 _ j k1']
theorem act_zero {C : Cfg} {call : CallT} {S : Type} {H : Option (Hd S)} {at_ : Nat} {look : Nat → Option Blk} {s : S} {ma : MA} {r : Res S} (h : act C call H at_ look s ma = some r) (ht : (touch C ma).cls = 0) :
    r.ups = [] ∧ r.s = s ∧ ∀ look' s', act C call H at_ look' s' ma = some { r with s := s' } := by
  cases ma <;> simp only [touch, reduceCtorEq] at ht
  case pure v => simp only [act, Option.some.injEq] at h; subst h; exact ⟨rfl, rfl, fun _ _ => rfl⟩
  case newp sz e =>
    simp only [act] at h
    split at h
    · rename_i hok; cases h; exact ⟨rfl, rfl, fun _ _ => by simp only [act, hok, if_true]⟩
    · cases h
  case news sz es n cap =>
    simp only [act] at h
    split at h
    · rename_i hok; cases h; exact ⟨rfl, rfl, fun _ _ => by simp only [act, hok, if_true]⟩
    · cases h
  case newe sz => simp only [act, Option.some.injEq] at h; subst h; exact ⟨rfl, rfl, fun _ _ => rfl⟩
  case newm => simp only [act, Option.some.injEq] at h; subst h; exact ⟨rfl, rfl, fun _ _ => rfl⟩
  case call f args => split at ht <;> simp at ht
  case callp f i sz k j agg n args => split at ht <;> simp at ht
theorem actCall_keeps {C : Cfg} {call : CallT} {S : Type} {H : Option (Hd S)} {at_ : Nat} {look : Nat → Option Blk} {s : S} {f : FuncId} {args : List AV} {r : Res S} (h : actCall C call H at_ look s f args = some r) (ht : ∀ b bs, C.ext f = none → C.wr f ≠ b :: bs) :
    r.s = s ∧ r.ups = [] := by
  unfold actCall at h
  split at h
  · rw [Option.map_eq_some_iff] at h
    obtain ⟨v, _, rfl⟩ := h
    exact ⟨rfl, rfl⟩
  · rename_i he
    split at h
    · split at h
      · cases h; exact ⟨rfl, rfl⟩
      · cases h
    · rename_i hw
      exfalso
      cases hwf : C.wr f with
      | nil => exact hw hwf
      | cons b bs => exact ht b bs he hwf
theorem act_keeps {C : Cfg} {call : CallT} {S : Type} {H : Option (Hd S)} {at_ : Nat} {look : Nat → Option Blk} {s : S} {ma : MA} {r : Res S} (h : act C call H at_ look s ma = some r) (ht : (touch C ma).cls ≠ 4) :
    r.s = s ∧ ∀ p ∈ r.ups, (touch C ma).cls = 2 ∧ p.1 ∈ (touch C ma).is := by
  cases ma <;> simp only [touch, ne_eq, not_true_eq_false, reduceCtorEq] at ht
  case pure v => simp only [act, Option.some.injEq] at h; subst h; exact ⟨rfl, fun p hp => by cases hp⟩
  case newp sz e =>
    simp only [act] at h
    split at h
    · cases h; exact ⟨rfl, fun p hp => by cases hp⟩
    · cases h
  case news sz es n cap =>
    simp only [act] at h
    split at h
    · cases h; exact ⟨rfl, fun p hp => by cases hp⟩
    · cases h
  case newe sz => simp only [act, Option.some.injEq] at h; subst h; exact ⟨rfl, fun p hp => by cases hp⟩
  case newm => simp only [act, Option.some.injEq] at h; subst h; exact ⟨rfl, fun p hp => by cases hp⟩
  case mlen i =>
    simp only [act] at h
    repeat' (split at h)
    all_goals first
      | (cases h; done)
      | (cases h; exact ⟨rfl, fun p hp => by cases hp⟩)
  case mget i T k z ok =>
    simp only [act] at h
    repeat' (split at h)
    all_goals first
      | (cases h; done)
      | (cases h; exact ⟨rfl, fun p hp => by cases hp⟩)
  case mset i T k v =>
    simp only [act] at h
    repeat' (split at h)
    all_goals first
      | (cases h; done)
      | (cases h; exact ⟨rfl, fun p hp => by simp only [List.mem_singleton] at hp; subst hp; exact ⟨rfl, by simp [touch]⟩⟩)
  case mdel i T k =>
    simp only [act] at h
    repeat' (split at h)
    all_goals first
      | (cases h; done)
      | (cases h; exact ⟨rfl, fun p hp => by simp only [List.mem_singleton] at hp; subst hp; exact ⟨rfl, by simp [touch]⟩⟩)
  case load i sz k j agg n =>
    simp only [act] at h
    repeat' (split at h)
    all_goals first
      | (cases h; done)
      | (cases h; exact ⟨rfl, fun p hp => by cases hp⟩)
  case store i sz k j cs =>
    simp only [act] at h
    repeat' (split at h)
    all_goals first
      | (cases h; done)
      | (cases h; exact ⟨rfl, fun p hp => by simp only [List.mem_singleton] at hp; subst hp; exact ⟨rfl, by simp [touch]⟩⟩)
  case append a x sz by_ =>
    simp only [act] at h
    repeat' (split at h)
    all_goals first
      | (cases h; done)
      | (cases h
         refine ⟨rfl, fun p hp => ?_⟩
         first
           | exact absurd hp List.not_mem_nil
           | (simp only [List.mem_singleton] at hp; subst hp; exact ⟨rfl, by simp [touch, sid]⟩))
  case copy d x ss =>
    simp only [act] at h
    repeat' (split at h)
    all_goals first
      | (cases h; done)
      | (cases h
         refine ⟨rfl, fun p hp => ?_⟩
         first
           | exact absurd hp List.not_mem_nil
           | (simp only [List.mem_singleton] at hp; subst hp; exact ⟨rfl, by simp [touch, sid]⟩))
  case call f args =>
    simp only [act] at h
    obtain ⟨h1, h2⟩ := actCall_keeps h fun b bs he hw => ht (by rw [he, hw])
    exact ⟨h1, fun p hp => by rw [h2] at hp; cases hp⟩
  case callp f i sz k j agg n args =>
    simp only [act] at h
    split at h
    case h_2 => cases h
    obtain ⟨h1, h2⟩ := actCall_keeps h fun b bs he hw => ht (by rw [he, hw])
    exact ⟨h1, fun p hp => by rw [h2] at hp; cases hp⟩
theorem any_symm (xs ys : List Nat) : xs.any (ys.contains ·) = ys.any (xs.contains ·) := by
  rw [Bool.eq_iff_iff]
  simp only [List.any_eq_true, List.contains_iff_mem]
  exact ⟨fun ⟨x, h1, h2⟩ => ⟨x, h2, h1⟩, fun ⟨x, h1, h2⟩ => ⟨x, h2, h1⟩⟩
theorem clash_symm (a b : Touch) : clash a b = clash b a := by
  obtain ⟨ca, ia⟩ := a
  obtain ⟨cb, ib⟩ := b
  rcases ca with _ | _ | _ | _ | _ | ca <;> rcases cb with _ | _ | _ | _ | _ | cb <;> first | rfl | exact any_symm ia ib
structure It where
  o : Oper
  i : Nat
  a : Nat
  n : Nat
def lookOf (m : Nat) (done : List Done) (dep : Nat) (t : Touch) (g : Nat → Option Blk) : Nat → Option Blk :=
  fun id => if visible m done dep id && (decide (t.cls = 3 ∨ t.cls = 4) || t.is.contains id) then g id else none
def EndX (C : Cfg) (pn : Option (Nat × TypeId)) (i : Nat) (ma : MA) (v : AV) : Prop :=
  (exA ma v = .normal ∧ ∀ q, pn = some q → i ≠ q.1 ∧ (touch C ma).cls ≠ 2 ∧ (touch C ma).cls ≠ 4) ∨ ∃ t, pn = some (i, t) ∧ exA ma v = .pan t ∧ (touch C ma).cls = 3
def RunX (C : Cfg) (call : CallT) {S : Type} (H : Option (Hd S)) (ops : Array Oper) (deps : Array Nat) (m : Nat) (pn : Option (Nat × TypeId)) (ts' : List AV) (g' : Nat → Option Blk) (s' : S) : List It → List Done → List AV → (Nat → Option Blk) → S → Prop
  | [], _, ts, g, s => ts = ts' ∧ g = g' ∧ s = s'
  | x :: L, done, ts, g, s =>
    (wantedA ops ts x.o = some false ∧ (x.n = 0 ∧ ∀ q, pn = some q → x.i ≠ q.1) ∧ RunX C call H ops deps m pn ts' g' s' L done (put x.o.dst .und ts) g s) ∨
    (wantedA ops ts x.o = some true ∧ ∃ ma r, plan C (ev ts) x.o = some ma ∧ (∀ d ∈ done, (deps.getD x.i 0).testBit d.i = true ∨ clash d.t (touch C ma) = false) ∧
      act C call H x.a (lookOf m done (deps.getD x.i 0) (touch C ma) g) s ma = some r ∧ (r.news.length = x.n ∧ EndX C pn x.i ma r.v) ∧
      RunX C call H ops deps m pn ts' g' s' L (⟨x.i, touch C ma, x.a, x.n⟩ :: done) (put x.o.dst r.v ts) (gput g r.ups x.a r.news) r.s)
section
variable {C : Cfg} {call : CallT} {S : Type} {H : Option (Hd S)} {ops : Array Oper} {deps : Array Nat} {m : Nat} {pn : Option (Nat × TypeId)} {ts' : List AV} {g' : Nat → Option Blk} {s' : S}
theorem visible_mem {done done' : List Done} (h : ∀ d, d ∈ done ↔ d ∈ done') (dep id : Nat) : visible m done dep id = visible m done' dep id := by
  unfold visible
  congr 1
  rw [Bool.eq_iff_iff]
  simp only [List.any_eq_true]
  exact ⟨fun ⟨d, hd, e⟩ => ⟨d, (h d).1 hd, e⟩, fun ⟨d, hd, e⟩ => ⟨d, (h d).2 hd, e⟩⟩
theorem RunX.mem : ∀ {L : List It} {done done' : List Done} {ts : List AV} {g : Nat → Option Blk} {s : S}, (∀ d, d ∈ done ↔ d ∈ done') → RunX C call H ops deps m pn ts' g' s' L done ts g s → RunX C call H ops deps m pn ts' g' s' L done' ts g s
  | [], _, _, _, _, _, _, h => h
  | x :: L, done, done', ts, g, s, hd, h => by
    rcases h with ⟨h1, h2, h3⟩ | ⟨h1, ma, r, h2, h3, h4, h5, h6⟩
    · exact .inl ⟨h1, h2, h3.mem hd⟩
    · refine .inr ⟨h1, ma, r, h2, fun d hd' => h3 d ((hd d).2 hd'), ?_, h5, h6.mem (fun d => by simp only [List.mem_cons, hd d])⟩
      have : lookOf m done' (deps.getD x.i 0) (touch C ma) g = lookOf m done (deps.getD x.i 0) (touch C ma) g := by
        funext id
        simp only [lookOf, visible_mem hd]
      rw [this]; exact h4
def pnEx : Option (Nat × TypeId) → Ex
  | none => .normal
  | some q => .pan q.2
theorem exA_or (ma : MA) (v : AV) : exA ma v = .normal ∨ ∃ t, exA ma v = .pan t := by
  have h : ∀ v, exV v = .normal ∨ ∃ t, exV v = .pan t := fun v => by
    unfold exV
    cases panOf v with
    | none => exact .inl rfl
    | some t => exact .inr ⟨t, rfl⟩
  cases ma <;> first | exact .inl rfl | exact h v
theorem runD_X {e : Ex} {σ' : St} : ∀ (L : List (Oper × Nat)) (done : List Done) (σ : St) (s : S), (L.map (·.2)).Nodup → runD C call H ops deps m L done σ s = some (e, σ', s') →
    ∃ (pn : Option (Nat × TypeId)) (its : List It) (rest : List (Oper × Nat)), its.map (fun x => (x.o, x.i)) ++ rest = L ∧ e = pnEx pn ∧ RunX C call H ops deps m pn σ'.tmps (hget σ'.h) s' its done σ.tmps (hget σ.h) s ∧ σ.h.length ≤ σ'.h.length ∧
      (∀ x ∈ its, σ.h.length ≤ x.a ∧ x.a + x.n ≤ σ'.h.length) ∧ its.Pairwise (fun x y => x.a + x.n ≤ y.a) ∧ (pn = none → rest = []) ∧
      (∀ q, pn = some q → (∃ x ∈ its, x.i = q.1) ∧ (∀ p ∈ rest, (deps.getD p.2 0).testBit q.1 = true) ∧ ∀ d ∈ done, d.t.cls ≠ 2 ∧ d.t.cls ≠ 4)
  | [], done, σ, s, _, h => by
    simp only [runD, Option.some.injEq, Prod.mk.injEq] at h
    obtain ⟨rfl, rfl, rfl⟩ := h
    exact ⟨none, [], [], rfl, rfl, ⟨rfl, rfl, rfl⟩, Nat.le_refl _, (fun x hx => by cases hx), List.Pairwise.nil, fun _ => rfl, (fun q h => by cases h)⟩
  | (o, i) :: L, done, σ, s, hnd, h => by
    rw [List.map_cons, List.nodup_cons] at hnd
    have hni : ∀ {its : List It} {rest : List (Oper × Nat)}, its.map (fun x => (x.o, x.i)) ++ rest = L → ∀ x ∈ its, i ≠ x.i := fun {its rest} h1 x hx e => by
      refine hnd.1 ?_
      rw [← h1, List.map_append, List.map_map]
      exact List.mem_append_left _ (List.mem_map.2 ⟨x, hx, e.symm⟩)
    simp only [runD] at h
    split at h
    · cases h
    · rename_i hw
      obtain ⟨pn, its, rest, h1, he, h2, h3, h4, h5, h6, h7⟩ := runD_X L done _ s hnd.2 h
      refine ⟨pn, ⟨o, i, σ.h.length, 0⟩ :: its, rest, by simp [h1], he, .inl ⟨hw, ⟨rfl, fun q hq e => ?_⟩, h2⟩, h3, fun x hx => ?_, List.pairwise_cons.2 ⟨fun x hx => (h4 x hx).1, h5⟩, h6, fun q hq => ?_⟩
      · obtain ⟨x, hx, hxi⟩ := (h7 q hq).1
        exact hni h1 x hx (e.trans hxi.symm)
      · rcases List.mem_cons.1 hx with rfl | hx
        · exact ⟨Nat.le_refl _, h3⟩
        · exact h4 x hx
      · obtain ⟨⟨x, hx, hxi⟩, k2, k3⟩ := h7 q hq
        exact ⟨⟨x, List.mem_cons_of_mem _ hx, hxi⟩, k2, k3⟩
    · rename_i hw
      split at h
      · cases h
      rename_i ma hp
      split at h
      · cases h
      rename_i hcl
      split at h
      · cases h
      rename_i r ha
      have hlen : σ.h.length + r.news.length ≤ (hputs (hups σ.h r.ups) σ.h.length r.news).length := by
        by_cases hn : r.news = []
        · rw [hn]; exact Nat.le_trans (length_hups _ _) (length_hputs _ _ _)
        · exact length_hputs_ge _ _ _ hn
      have hclash : ∀ d ∈ done, (deps.getD i 0).testBit d.i = true ∨ clash d.t (touch C ma) = false := fun d hd => by
        apply Classical.byContradiction
        intro hne
        rw [not_or] at hne
        refine hcl (List.any_eq_true.2 ⟨d, hd, ?_⟩)
        simp only [Bool.and_eq_true, Bool.not_eq_true']
        exact ⟨by simpa using hne.1, by simpa using hne.2⟩
      split at h
      · rename_i hex
        obtain ⟨pn, its, rest, h1, he, h2, h3, h4, h5, h6, h7⟩ := runD_X L _ _ _ hnd.2 h
        simp only at h2 h3 h4
        refine ⟨pn, ⟨o, i, σ.h.length, r.news.length⟩ :: its, rest, by simp [h1], he, .inr ⟨hw, ma, r, hp, hclash, ha, ⟨rfl, .inl ⟨hex, fun q hq => ?_⟩⟩, ?_⟩, by omega, fun x hx => ?_, List.pairwise_cons.2 ⟨fun x hx => by have := (h4 x hx).1; simp only; omega, h5⟩, h6, fun q hq => ?_⟩
        · obtain ⟨⟨x, hx, hxi⟩, _, k3⟩ := h7 q hq
          exact ⟨fun e => hni h1 x hx (e.trans hxi.symm), k3 _ List.mem_cons_self⟩
        · rw [← hget_gput]; exact h2
        · rcases List.mem_cons.1 hx with rfl | hx
          · exact ⟨Nat.le_refl _, by simp only; omega⟩
          · have := h4 x hx
            exact ⟨by omega, this.2⟩
        · obtain ⟨⟨x, hx, hxi⟩, k2, k3⟩ := h7 q hq
          exact ⟨⟨x, List.mem_cons_of_mem _ hx, hxi⟩, k2, fun d hd => k3 d (List.mem_cons_of_mem _ hd)⟩
      · rename_i hne
        split at h
        case isFalse => cases h
        rename_i hc
        simp only [Bool.and_eq_true, List.all_eq_true, decide_eq_true_eq] at hc
        simp only [Option.some.injEq, Prod.mk.injEq] at h
        obtain ⟨rfl, rfl, rfl⟩ := h
        obtain ⟨t, ht⟩ := (exA_or ma r.v).resolve_left hne
        refine ⟨some (i, t), [⟨o, i, σ.h.length, r.news.length⟩], L, rfl, ht, .inr ⟨hw, ma, r, hp, hclash, ha, ⟨rfl, .inr ⟨t, rfl, ht, hc.2.2⟩⟩, ⟨rfl, (hget_gput ..).symm, rfl⟩⟩, by simp only; omega, fun x hx => ?_, List.pairwise_singleton _ _, (fun h => by cases h), fun q hq => ?_⟩
        · rcases List.mem_singleton.1 hx with rfl
          exact ⟨Nat.le_refl _, hlen⟩
        · cases hq
          exact ⟨⟨_, List.mem_singleton_self _, rfl⟩, hc.1, hc.2.1⟩
theorem reach_some {look : Nat → Option Blk} : ∀ (f : Nat) (q acc : List Nat) (i : Nat), i ∈ reach look f q acc → i ∈ acc ∨ (look i).isSome = true
  | 0, q, acc, i, h => by cases q <;> simp only [reach, List.mem_reverse] at h <;> exact .inl h
  | f + 1, [], acc, i, h => by simp only [reach, List.mem_reverse] at h; exact .inl h
  | f + 1, j :: q, acc, i, h => by
    unfold reach at h
    split at h
    · exact reach_some f q acc i h
    · split at h
      · exact reach_some f q acc i h
      · rename_i b hb
        rcases reach_some f _ _ i h with h | h
        · rcases List.mem_cons.1 h with rfl | h
          · exact .inr (by rw [hb]; rfl)
          · exact .inl h
        · exact .inr h
theorem act_seen {at_ : Nat} {look : Nat → Option Blk} {s : S} {ma : MA} {r : Res S} (h : act C call H at_ look s ma = some r) : ∀ p ∈ r.ups, (look p.1).isSome = true := by
  have hb : ∀ (flags : List Bool) (args : List AV) (nh : Heap), ∀ p ∈ (handBack (handIn look flags args).1 at_ nh).1, (look p.1).isSome = true := by
    intro flags args nh p hp
    have : p.1 ∈ (handIn look flags args).1 := by
      rw [← handBack_keys (handIn look flags args).1 at_ nh]
      exact List.mem_map_of_mem (f := fun p : Nat × Option Blk => p.1) hp
    exact (reach_some _ _ _ _ this).resolve_left (fun h => by cases h)
  cases ma <;> simp only [act, actCall] at h
  all_goals
    repeat' (split at h)
    all_goals first
      | (cases h; done)
      | (rw [Option.map_eq_some_iff] at h; obtain ⟨v, _, rfl⟩ := h; exact fun p hp => absurd hp List.not_mem_nil)
      | (cases h; exact fun p hp => absurd hp List.not_mem_nil)
      | (cases h; exact hb _ _ _)
      | (cases h
         intro p hp
         simp only [List.mem_singleton] at hp
         subst hp
         simp [*])
theorem put_comm {ts : List AV} {x y : Option Tmp} (u v : AV) (h : ∀ d, x = some d → y ≠ some d) : put y v (put x u ts) = put x u (put y v ts) := by
  cases x with
  | none => rfl
  | some d =>
    cases y with
    | none => rfl
    | some e =>
      simp only [put]
      exact List.set_comm _ _ (fun e' => h d rfl (by rw [e']))
theorem ev_put {ts : List AV} {dst : Option Tmp} {v : AV} {x : Operand} (h : ∀ d, dst = some d → x ≠ .tmp d) : ev (put dst v ts) x = ev ts x := by
  cases dst with
  | none => rfl
  | some d =>
    cases x with
    | tmp t =>
      have hne : d ≠ t := fun e => h d rfl (by rw [e])
      simp only [ev, put]
      rw [List.getElem?_set_ne hne]
    | _ => rfl
theorem plan_put {ts : List AV} {o : Oper} {dst : Option Tmp} {v : AV} (h : ∀ d, dst = some d → d ∉ o.looksAt ops) : plan C (ev (put dst v ts)) o = plan C (ev ts) o :=
  plan_congr fun x hx => ev_put fun d hd hxd => h d hd (by
    subst hxd
    exact List.mem_append_left _ (List.mem_filterMap.2 ⟨.tmp d, by simpa using hx, rfl⟩))
theorem wanted_put' {ts : List AV} {o : Oper} {dst : Option Tmp} {v : AV} (h : ∀ d, dst = some d → d ∉ o.looksAt ops) : wantedA ops (put dst v ts) o = wantedA ops ts o := by
  unfold wantedA
  cases hg : o.guard with
  | none => rfl
  | some p =>
    obtain ⟨j, want⟩ := p
    simp only
    cases hd : (ops[j]?).bind (·.dst) with
    | none => rfl
    | some t =>
      simp only [Option.bind_some]
      cases dst with
      | none => rfl
      | some d =>
        have hne : d ≠ t := fun e => h d rfl (by
          refine List.mem_append_right _ ?_
          simp only [hg]
          rw [hd, e]; simp)
        simp only [put]
        rw [List.getElem?_set_ne hne]
theorem act_at {at_ : Nat} {l1 l2 : Nat → Option Blk} {s1 s2 : S} {ma : MA} {r : Res S} (h : act C call H at_ l1 s1 ma = some r) (hl : (touch C ma).cls ≠ 0 → l2 = l1 ∧ s2 = s1) :
    ∃ r', act C call H at_ l2 s2 ma = some r' ∧ r'.v = r.v ∧ r'.ups = r.ups ∧ r'.news = r.news ∧ (r'.s = if (touch C ma).cls = 0 then s2 else r.s) := by
  by_cases h0 : (touch C ma).cls = 0
  · obtain ⟨_, _, h3⟩ := act_zero h h0
    exact ⟨_, h3 l2 s2, rfl, rfl, rfl, by rw [if_pos h0]⟩
  · obtain ⟨rfl, rfl⟩ := hl h0
    exact ⟨r, h, rfl, rfl, rfl, by rw [if_neg h0]⟩
theorem clash_four {a b : Touch} (h : clash a b = false) : a.cls = 0 ∨ b.cls = 0 ∨ (a.cls ≠ 4 ∧ b.cls ≠ 4) := by
  obtain ⟨ca, ia⟩ := a
  obtain ⟨cb, ib⟩ := b
  rcases ca with _ | _ | _ | _ | _ | ca <;> rcases cb with _ | _ | _ | _ | _ | cb <;> simp_all [clash]
theorem clash_two {a b : Touch} (h : clash a b = false) (ha : a.cls = 2) (hb : b.cls ≠ 0) : b.cls ≠ 3 ∧ b.cls ≠ 4 ∧ ∀ i, i ∈ a.is → i ∉ b.is := by
  obtain ⟨ca, ia⟩ := a
  obtain ⟨cb, ib⟩ := b
  simp only at ha hb
  subst ha
  rcases cb with _ | _ | _ | _ | _ | cb <;> simp_all [clash]
theorem lookOf_gput {tx ty : Touch} (hc : clash tx ty = false) (hy : ty.cls ≠ 0) {u : List (Nat × Option Blk)} (hu : ∀ p ∈ u, tx.cls = 2 ∧ p.1 ∈ tx.is) {done : List Done} {X : Done} {dep : Nat} (hb : dep.testBit X.i = false)
    {a : Nat} {news : Heap} (hv : ∀ id, visible m done dep id = true → ¬ (a ≤ id ∧ id < a + news.length)) (g : Nat → Option Blk) : lookOf m (X :: done) dep ty (gput g u a news) = lookOf m done dep ty g := by
  funext id
  have hvis : visible m (X :: done) dep id = visible m done dep id := by simp [visible, hb]
  simp only [lookOf, hvis]
  split
  · rename_i h
    simp only [Bool.and_eq_true, Bool.or_eq_true, decide_eq_true_eq, List.contains_iff_mem] at h
    simp only [gput, if_neg (hv id h.1)]
    refine gups_out u g id fun p hp e => ?_
    obtain ⟨h1, h2⟩ := hu p hp
    obtain ⟨h3, h4, h5⟩ := clash_two hc h1 hy
    subst e
    rcases h.2 with h' | h'
    · exact h'.elim h3 h4
    · exact h5 _ h2 h'
  · rfl
theorem visible_out {done : List Done} {dep a n : Nat} (hm : m ≤ a) (hd : ∀ d ∈ done, d.a + d.n ≤ a ∨ a + n ≤ d.a) : ∀ id, visible m done dep id = true → ¬ (a ≤ id ∧ id < a + n) := by
  intro id h
  simp only [visible, Bool.or_eq_true, decide_eq_true_eq, List.any_eq_true, Bool.and_eq_true] at h
  rcases h with h | ⟨d, hd', _, h1, h2⟩
  · omega
  · have := hd d hd'; omega
theorem RunX.swap {x y : It} {L : List It} {done : List Done} {ts : List AV} {g : Nat → Option Blk} {s : S} (hxy : (deps.getD y.i 0).testBit x.i = false) (hyx : (deps.getD x.i 0).testBit y.i = false) (hap : y.o.apart ops x.o = true)
    (hr : x.a + x.n ≤ y.a ∨ y.a + y.n ≤ x.a) (hmx : m ≤ x.a) (hmy : m ≤ y.a) (hdx : ∀ d ∈ done, d.a + d.n ≤ x.a ∨ x.a + x.n ≤ d.a) (hdy : ∀ d ∈ done, d.a + d.n ≤ y.a ∨ y.a + y.n ≤ d.a)
    (h : RunX C call H ops deps m pn ts' g' s' (x :: y :: L) done ts g s) : RunX C call H ops deps m pn ts' g' s' (y :: x :: L) done ts g s := by
  obtain ⟨a1, a2, a3⟩ := Oper.apart_spec hap
  rcases h with ⟨x1, x2, h⟩ | ⟨x1, max, rx, x2, x3, x4, x5, h⟩
  · rcases h with ⟨y1, y2, h⟩ | ⟨y1, may, ry, y2, y3, y4, y5, h⟩
    · rw [wanted_put' a3] at y1
      refine .inl ⟨y1, y2, .inl ⟨by rw [wanted_put' a1]; exact x1, x2, ?_⟩⟩
      rw [put_comm _ _ a2]; exact h
    · rw [wanted_put' a3] at y1
      rw [plan_put a3] at y2
      refine .inr ⟨y1, may, ry, y2, y3, y4, y5, .inl ⟨by rw [wanted_put' a1]; exact x1, x2, ?_⟩⟩
      rw [put_comm _ _ a2]; exact h
  · rcases h with ⟨y1, y2, h⟩ | ⟨y1, may, ry, y2, y3, y4, y5, h⟩
    · rw [wanted_put' a3] at y1
      refine .inl ⟨y1, y2, .inr ⟨by rw [wanted_put' a1]; exact x1, max, rx, by rw [plan_put a1]; exact x2, x3, x4, x5, ?_⟩⟩
      rw [put_comm _ _ a2]; exact h
    · rw [wanted_put' a3] at y1
      rw [plan_put a3] at y2
      have hclash : clash (touch C max) (touch C may) = false := (y3 _ List.mem_cons_self).resolve_left (by simp only [hxy]; exact Bool.false_ne_true)
      have hclash' : clash (touch C may) (touch C max) = false := by rw [clash_symm]; exact hclash
      have h4 := clash_four hclash
      have ux : (touch C may).cls ≠ 0 → ∀ p ∈ rx.ups, (touch C max).cls = 2 ∧ p.1 ∈ (touch C max).is := fun hne p hp => by
        rcases h4 with h | h | h
        · rw [(act_zero x4 h).1] at hp; cases hp
        · exact absurd h hne
        · exact (act_keeps x4 h.1).2 p hp
      have uy : (touch C max).cls ≠ 0 → ∀ p ∈ ry.ups, (touch C may).cls = 2 ∧ p.1 ∈ (touch C may).is := fun hne p hp => by
        rcases h4 with h | h | h
        · exact absurd h hne
        · rw [(act_zero y4 h).1] at hp; cases hp
        · exact (act_keeps y4 h.2).2 p hp
      have vx := visible_out (dep := deps.getD y.i 0) hmx hdx
      have vy := visible_out (dep := deps.getD x.i 0) hmy hdy
      have ly : (touch C may).cls ≠ 0 → lookOf m (⟨x.i, touch C max, x.a, x.n⟩ :: done) (deps.getD y.i 0) (touch C may) (gput g rx.ups x.a rx.news) = lookOf m done (deps.getD y.i 0) (touch C may) g := fun hne =>
        lookOf_gput hclash hne (ux hne) hxy (by rw [x5.1]; exact vx) g
      have hsx : (touch C may).cls ≠ 0 → rx.s = s := fun hne => by
        rcases h4 with h | h | h
        · exact (act_zero x4 h).2.1
        · exact absurd h hne
        · exact (act_keeps x4 h.1).1
      have hsy : (touch C max).cls ≠ 0 → ry.s = rx.s := fun hne => by
        rcases h4 with h | h | h
        · exact absurd h hne
        · exact (act_zero y4 h).2.1
        · exact (act_keeps y4 h.2).1
      obtain ⟨ry', y4', hyv, hyu, hyn, hys⟩ := act_at (l2 := lookOf m done (deps.getD y.i 0) (touch C may) g) (s2 := s) y4 (fun hne => ⟨(ly hne).symm, (hsx hne).symm⟩)
      have lx : (touch C max).cls ≠ 0 → lookOf m (⟨y.i, touch C may, y.a, y.n⟩ :: done) (deps.getD x.i 0) (touch C max) (gput g ry'.ups y.a ry'.news) = lookOf m done (deps.getD x.i 0) (touch C max) g := fun hne =>
        lookOf_gput hclash' hne (by rw [hyu]; exact uy hne) hyx (by rw [hyn, y5.1]; exact vy) g
      have hs2 : (touch C max).cls ≠ 0 → ry'.s = s := fun hne => by
        rw [hys]; split
        · rfl
        · rename_i hne'; rw [hsy hne, hsx hne']
      obtain ⟨rx', x4', hxv, hxu, hxn, hxs⟩ := act_at (l2 := lookOf m (⟨y.i, touch C may, y.a, y.n⟩ :: done) (deps.getD x.i 0) (touch C max) (gput g ry'.ups y.a ry'.news)) (s2 := ry'.s) x4 (fun hne => ⟨lx hne, hs2 hne⟩)
      refine .inr ⟨y1, may, ry', y2, fun d hd => y3 d (List.mem_cons_of_mem _ hd), y4', ⟨by rw [hyn, y5.1], by rw [hyv]; exact y5.2⟩, .inr ⟨by rw [wanted_put' a1]; exact x1, max, rx', by rw [plan_put a1]; exact x2, ?_, x4', ⟨by rw [hxn, x5.1], by rw [hxv]; exact x5.2⟩, ?_⟩⟩
      · intro d hd
        rcases List.mem_cons.1 hd with rfl | hd
        · exact .inr hclash'
        · exact x3 d hd
      · have hseen := act_seen x4
        have hseen' := act_seen y4'
        rw [hxv, hxu, hxn, hyv, hyu, hyn, put_comm _ _ a2]
        rw [hyu] at hseen'
        have hg : gput (gput g ry.ups y.a ry.news) rx.ups x.a rx.news = gput (gput g rx.ups x.a rx.news) ry.ups y.a ry.news := by
          refine gput_comm (by rw [x5.1, y5.1]; omega) (fun p hp q hq e => ?_) (fun p hp hh => ?_) (fun p hp hh => ?_)
          · rcases h4 with h | h | h
            · rw [(act_zero x4 h).1] at hq; cases hq
            · rw [(act_zero y4 h).1] at hp; cases hp
            · obtain ⟨k1, k2⟩ := (act_keeps y4 h.2).2 p hp
              obtain ⟨k3, k4⟩ := (act_keeps x4 h.1).2 q hq
              obtain ⟨_, _, k5⟩ := clash_two hclash' k1 (by rw [k3]; simp)
              exact k5 _ k2 (e ▸ k4)
          · have := hseen' p hp
            simp only [lookOf] at this
            split at this
            · rename_i hv
              rw [x5.1] at hh
              exact vx _ (by simp only [Bool.and_eq_true] at hv; exact hv.1) hh
            · cases this
          · have := hseen p hp
            simp only [lookOf] at this
            split at this
            · rename_i hv
              rw [y5.1] at hh
              exact vy _ (by simp only [Bool.and_eq_true] at hv; exact hv.1) hh
            · cases this
        rw [hg]
        have hs : rx'.s = ry.s := by
          rw [hxs]
          by_cases h0 : (touch C max).cls = 0
          · rw [if_pos h0, hys]
            by_cases h0' : (touch C may).cls = 0
            · rw [if_pos h0', (act_zero y4 h0').2.1, (act_zero x4 h0).2.1]
            · rw [if_neg h0']
          · rw [if_neg h0, hsy h0]
        rw [hs]
        refine h.mem fun d => ?_
        simp only [List.mem_cons]
        constructor <;> rintro (h | h | h) <;> simp [h]
end
section
variable {ops : Array Oper}
theorem regOk_at (h : regOk ops = true) {j : Nat} {o : Oper} (ho : ops[j]? = some o) :
    (∀ e ∈ o.after, Region.binds .any e = true → e.on < j) ∧
    ((Region.before ops).getD j 0 = o.after.toList.foldl (fun s e => if Region.binds .any e then s ||| 2 ^ e.on ||| (Region.before ops).getD e.on 0 else s) 0) ∧
    ∀ (i : Nat) (oi : Oper), ops[i]? = some oi → i < j → ((Region.before ops).getD j 0).testBit i = false → o.apart ops oi = true := by
  have mem : ∀ {j o}, ops[j]? = some o → (o, j) ∈ ops.toList.zipIdx := fun {j o} ho => by
    rw [List.mem_zipIdx_iff_getElem?]
    simpa using ho
  unfold regOk at h
  simp only [List.all_eq_true] at h
  have hj := h _ (mem ho)
  simp only [Bool.and_eq_true, List.all_eq_true, decide_eq_true_eq, Bool.or_eq_true, Bool.not_eq_true', decide_eq_false_iff_not] at hj
  refine ⟨fun e he hb => ?_, hj.2.1, fun i oi hi hlt hbit => ?_⟩
  · have := hj.1 e (by simpa using he)
    rcases this with h | h
    · rw [hb] at h; cases h
    · exact h
  · have := hj.2.2 _ (mem hi)
    rcases this with h | h | h
    · exact absurd hlt h
    · simp only at h; rw [hbit] at h; cases h
    · exact h
theorem fold_bit (b : Nat → Nat) (c : Edge → Bool) : ∀ (l : List Edge) (s i : Nat), (l.foldl (fun s e => if c e then s ||| 2 ^ e.on ||| b e.on else s) s).testBit i = true →
    s.testBit i = true ∨ ∃ e ∈ l, c e = true ∧ (e.on = i ∨ (b e.on).testBit i = true)
  | [], s, i, h => .inl h
  | e :: l, s, i, h => by
    rw [List.foldl_cons] at h
    rcases fold_bit b c l _ i h with h | ⟨e', he, h1, h2⟩
    · split at h
      · rename_i hc
        simp only [Nat.testBit_or, Bool.or_eq_true, Nat.testBit_two_pow, decide_eq_true_eq] at h
        rcases h with (h | h) | h
        · exact .inl h
        · exact .inr ⟨e, List.mem_cons_self, hc, .inl h⟩
        · exact .inr ⟨e, List.mem_cons_self, hc, .inr h⟩
      · exact .inl h
    · exact .inr ⟨e', List.mem_cons_of_mem _ he, h1, h2⟩
theorem bits_at (h : regOk ops = true) {j : Nat} {o : Oper} (ho : ops[j]? = some o) {i : Nat} (hb : ((Region.before ops).getD j 0).testBit i = true) :
    ∃ e ∈ o.after, Region.binds .any e = true ∧ e.on < j ∧ (e.on = i ∨ ((Region.before ops).getD e.on 0).testBit i = true) := by
  obtain ⟨h1, h2, _⟩ := regOk_at h ho
  rw [h2] at hb
  rcases fold_bit (fun k => (Region.before ops).getD k 0) (fun e => Region.binds .any e) o.after.toList 0 i hb with h | ⟨e, he, h3, h4⟩
  · rw [Nat.zero_testBit] at h; cases h
  · exact ⟨e, by simpa using he, h3, h1 e (by simpa using he) h3, h4⟩
theorem bits_lt (h : regOk ops = true) : ∀ (j : Nat) (o : Oper), ops[j]? = some o → ∀ i, ((Region.before ops).getD j 0).testBit i = true → i < j := by
  intro j
  induction j using Nat.strongRecOn with
  | _ j ih =>
    intro o ho i hb
    obtain ⟨e, _, _, h3, h4⟩ := bits_at h ho hb
    rcases h4 with h4 | h4
    · omega
    · have hj : j < ops.size := (Array.getElem?_eq_some_iff.1 ho).1
      have := ih e.on h3 ops[e.on] (by rw [Array.getElem?_eq_getElem (by omega)]) i h4
      omega
structure Side2 (m : Nat) (its : List It) (done : List Done) : Prop where
  low : ∀ x ∈ its, m ≤ x.a
  dn : ∀ x ∈ its, ∀ d ∈ done, d.a + d.n ≤ x.a ∨ x.a + x.n ≤ d.a
  pw : its.Pairwise (fun x y => x.a + x.n ≤ y.a ∨ y.a + y.n ≤ x.a)
variable {C : Cfg} {call : CallT} {S : Type} {H : Option (Hd S)} {deps : Array Nat} {m : Nat} {pn : Option (Nat × TypeId)} {ts' : List AV} {g' : Nat → Option Blk} {s' : S}
theorem RunX.same {q : Nat × TypeId} (hq : pn = some q) : ∀ {L : List It} {done : List Done} {ts : List AV} {g : Nat → Option Blk} {s : S}, RunX C call H ops deps m pn ts' g' s' L done ts g s → s' = s
  | [], _, _, _, _, h => h.2.2.symm
  | x :: L, done, ts, g, s, h => by
    rcases h with ⟨_, _, h⟩ | ⟨_, ma, r, _, _, h4, h5, h⟩
    · exact h.same hq
    · have hcls : (touch C ma).cls ≠ 4 := by
        rcases h5.2 with ⟨_, hc⟩ | ⟨t, _, _, hc⟩
        · exact (hc q hq).2.2
        · rw [hc]; decide
      exact (h.same hq).trans (act_keeps h4 hcls).1
theorem RunX.bubble {x : It} {post : List It} : ∀ (pre : List It) (done : List Done) (ts : List AV) (g : Nat → Option Blk) (s : S),
    (∀ p ∈ pre, (deps.getD x.i 0).testBit p.i = false ∧ (deps.getD p.i 0).testBit x.i = false ∧ x.o.apart ops p.o = true) → Side2 m (pre ++ x :: post) done →
    RunX C call H ops deps m pn ts' g' s' (pre ++ x :: post) done ts g s → RunX C call H ops deps m pn ts' g' s' (x :: (pre ++ post)) done ts g s
  | [], _, _, _, _, _, _, h => h
  | p :: pre, done, ts, g, s, hp, hs, h => by
    have hs' := hs.pw
    rw [List.cons_append, List.pairwise_cons] at hs'
    have hpd := hs.dn p (by simp)
    have hsub : ∀ done', (∀ y ∈ pre ++ x :: post, ∀ d ∈ done', d.a + d.n ≤ y.a ∨ y.a + y.n ≤ d.a) → Side2 m (pre ++ x :: post) done' := fun done' hd =>
      ⟨fun y hy => hs.low y (by rw [List.cons_append]; exact List.mem_cons_of_mem _ hy), hd, hs'.2⟩
    have hd0 : ∀ y ∈ pre ++ x :: post, ∀ d ∈ done, d.a + d.n ≤ y.a ∨ y.a + y.n ≤ d.a := fun y hy => hs.dn y (by rw [List.cons_append]; exact List.mem_cons_of_mem _ hy)
    have hx := hp p List.mem_cons_self
    have hrest : ∀ q ∈ pre, _ := fun q hq => hp q (List.mem_cons_of_mem _ hq)
    refine RunX.swap (x := p) (y := x) hx.1 hx.2.1 hx.2.2 (hs'.1 x (by simp)) (hs.low p (by simp)) (hs.low x (by simp)) hpd (hs.dn x (by simp)) ?_
    rcases h with ⟨h1, h2, h3⟩ | ⟨h1, ma, r, h2, h3, h4, h5, h6⟩
    · exact .inl ⟨h1, h2, RunX.bubble pre done _ _ _ hrest (hsub _ hd0) h3⟩
    · refine .inr ⟨h1, ma, r, h2, h3, h4, h5, RunX.bubble pre _ _ _ _ hrest (hsub _ fun y hy d hd => ?_) h6⟩
      rcases List.mem_cons.1 hd with rfl | hd
      · exact hs'.1 y hy
      · exact hd0 y hy d hd
end
section
variable {w w' : World} {G G' J U U' N N' : Nat → Prop} {ν ν' : Names} {h nh : Heap}
theorem Own_congr {h h' : Heap} (e : hget h = hget h') {b : Nat} (ho : Own ν h b) : Own ν h' b := by
  obtain ⟨i, B, h1, h2⟩ := ho
  exact ⟨i, B, by rw [← e]; exact h1, h2⟩
theorem SR.heap {h h' : Heap} (S : SR w G J U N ν h) (e : hget h = hget h') (hl : ∀ i b, ν.φ i = some b → i < h'.length) : SR w G J U N ν h' :=
  ⟨fun i B hB => S.blk i B (by rw [e]; exact hB), fun i j B B' b h1 h2 => S.inj i j B B' b (by rw [e]; exact h1) (by rw [e]; exact h2), hl, S.glt, S.jlt, S.nlt,
   fun b hb ho => S.gown b hb (Own_congr e.symm ho), fun b hb ho => S.jown b hb (Own_congr e.symm ho), fun b hb ho => S.nown b hb (Own_congr e.symm ho), S.gu, S.ju, S.un⟩
theorem Inv1.heap {S : Type} {RS : StRel S} {B : Base} {sd : List (Nat × Obj)} {ts : List AV} {h h' : Heap} {s : S} {a : Act} (I : Inv1 RS B J sd ⟨ts, h⟩ s a w ν G U N) (e : hget h = hget h') (hl : ∀ i b, ν.φ i = some b → i < h'.length) (hk : B.k ≤ h'.length) :
    Inv1 RS B J sd ⟨ts, h'⟩ s a w ν G U N :=
  ⟨I.sr.heap e hl, I.ts, I.rs, I.ext.less (fun _ hb => Own_congr e.symm hb), I.first, I.y, hk, fun p hp => (I.side p hp).less (fun _ hb => Own_congr e.symm hb),
   fun d hd => (I.marks d hd).imp_right fun ⟨r, e', hs⟩ => ⟨r, e', hs.less (fun _ hb => Own_congr e.symm hb)⟩, I.nd, I.low⟩
def Agree (ops : Array Oper) (ts0 ts : List AV) : Prop := ts.length = ts0.length ∧ ∀ i, (∀ o ∈ ops.toList, o.dst ≠ some i) → ts[i]? = ts0[i]?
theorem put_len (d : Option Tmp) (v : AV) (ts : List AV) : (put d v ts).length = ts.length := by cases d <;> simp [put]
theorem agree_put {ops : Array Oper} {ts0 ts : List AV} {o : Oper} (ho : o ∈ ops.toList) (h : Agree ops ts0 ts) (v : AV) : Agree ops ts0 (put o.dst v ts) := ⟨(put_len _ _ _).trans h.1, fun i hi => by
  rw [← h.2 i hi]
  have := hi o ho
  cases hd : o.dst with
  | none => rfl
  | some d =>
    rw [hd] at this
    exact List.getElem?_set_ne fun e => this (by rw [e])⟩
theorem strikeT_length : ∀ (l : List Oper) (ts : List AV), (strikeT l ts).length = ts.length
  | [], _ => rfl
  | o :: l, ts => (strikeT_length l _).trans (put_len o.dst .any ts)
theorem strikeT_get : ∀ (l : List Oper) (ts : List AV) (i : Nat) (c : AV), (strikeT l ts)[i]? = some c → c = .any ∨ (ts[i]? = some c ∧ ∀ o ∈ l, o.dst ≠ some i)
  | [], _, _, _, h => .inr ⟨h, fun o ho => by cases ho⟩
  | o :: l, ts, i, c, h => by
    rcases strikeT_get l (put o.dst .any ts) i c h with h | ⟨h, h'⟩
    · exact .inl h
    · cases hd : o.dst with
      | none =>
        rw [hd] at h
        refine .inr ⟨h, fun o' ho => ?_⟩
        rcases List.mem_cons.1 ho with rfl | ho
        · rw [hd]; exact fun e => by cases e
        · exact h' o' ho
      | some d =>
        rw [hd] at h
        simp only [put] at h
        by_cases e : d = i
        · subst e
          rw [List.getElem?_set] at h
          split at h
          · split at h
            · exact .inl (Option.some.inj h).symm
            · cases h
          · rename_i hne; exact absurd rfl hne
        · rw [List.getElem?_set_ne e] at h
          refine .inr ⟨h, fun o' ho => ?_⟩
          rcases List.mem_cons.1 ho with rfl | ho
          · rw [hd]; exact fun e' => e (Option.some.inj e')
          · exact h' o' ho
theorem RelL_of_get {w : World} {G J : Nat → Prop} {ν : Names} : ∀ {cs : List AV} {vs : List Value}, cs.length = vs.length → (∀ (i : Nat) (c : AV) (v : Value), cs[i]? = some c → vs[i]? = some v → Rel w G c ν J v) → RelL w G cs ν J vs
  | [], [], _, _ => RelL_nil
  | [], _ :: _, h, _ => by cases h
  | _ :: _, [], h, _ => by cases h
  | c :: cs, v :: vs, h, hr => RelL_cons (hr 0 c v rfl rfl) (RelL_of_get (by simpa using h) fun i c v h1 h2 => hr (i + 1) c v (by simpa using h1) (by simpa using h2))
theorem any_ok {C : Cfg} (hC : ∀ t T, C.ty t = some T → tyOf C.P t = some T) {call : CallT} (hCall : CallOK C.P call) (hExt : ExtOK C) {F : Fence} (hF : Wide F) {S : Type} {RS : StRel S} (hRM : RMono RS) {H : Option (Hd S)}
    {B : Base} {sd : List (Nat × Obj)} (hH : HSO C.P RS H B.y) {ops : Array Oper} (hok : regOk ops = true) {m M : Nat} (hk : B.k ≤ m) {ts' : List AV} {h' : Heap} {s' : S} (hM : M ≤ h'.length) (hm : m ≤ M) {Q : Exit → Act → World → Prop}
    {pn : Option (Nat × TypeId)} {ts0 : List AV} {g0 : Nat → Option Blk} {s0 : S} (hQ : pn = none → ∀ a' w', Inv RS B J sd ⟨ts', h'⟩ s' a' w' → Q .normal a' w')
    (hQp : ∀ q, pn = some q → ∀ ts h a w ν G U N, Inv1 RS B J sd ⟨ts, h⟩ s0 a w ν G U N → Agree ops ts0 ts → (∀ j, j < m → hget h j = g0 j) → (∀ j b, ν.φ j = some b → j < M) → Q (.panic (panE q.2)) a w) :
    ∀ (fuel : Nat) (its : List It) (listed : Array Bool) (done : List Done) (ts : List AV) (h : Heap) (s : S) (a : Act) (w : World) (ν : Names) (G U N : Nat → Prop),
      its.length ≤ fuel → listed.size = ops.size → its.Pairwise (fun x y => x.i < y.i) → (∀ x ∈ its, ops[x.i]? = some x.o ∧ listed.getD x.i true = false) → (∀ i, listed.getD i true = false → (∃ x ∈ its, x.i = i) ∨ ∃ q, pn = some q ∧ ((Region.before ops).getD i 0).testBit q.1 = true) → (∀ q, pn = some q → (∃ x ∈ its, x.i = q.1) ∧ Agree ops ts0 ts ∧ (∀ j, j < m → hget h j = g0 j) ∧ s = s0) →
      (∀ k, k < ops.size → listed.getD k true = true → ∀ i, ((Region.before ops).getD k 0).testBit i = true → listed.getD i true = true) →
      Side2 m its done → (∀ x ∈ its, x.a + x.n ≤ M) → (∀ d ∈ done, d.a + d.n ≤ M) → (∀ j b, ν.φ j = some b → j < m ∨ ∃ d ∈ done, d.a ≤ j ∧ j < d.a + d.n) →
      RunX C call H ops (Region.before ops) m pn ts' (hget h') s' its done ts (hget h) s → Inv1 RS B J sd ⟨ts, h⟩ s a w ν G U N →
      wpAnyIn F 0 C.P .any ops Q fuel listed a w := by
  intro fuel
  have fin : ∀ (listed : Array Bool) (its : List It) (done : List Done) (ts : List AV) (h : Heap) (s : S) (a : Act) (w : World) (ν : Names) (G U N : Nat → Prop), its = [] → pn = none → (∀ d ∈ done, d.a + d.n ≤ M) → (∀ j b, ν.φ j = some b → j < m ∨ ∃ d ∈ done, d.a ≤ j ∧ j < d.a + d.n) →
      RunX C call H ops (Region.before ops) m pn ts' (hget h') s' its done ts (hget h) s → Inv1 RS B J sd ⟨ts, h⟩ s a w ν G U N → Q .normal a w := by
    intro listed its done ts h s a w ν G U N he hpn hdM hn hr I
    subst he
    obtain ⟨rfl, e, rfl⟩ := hr
    refine hQ hpn a w ⟨ν, G, U, N, I.heap e (fun i b hi => ?_) (by omega)⟩
    rcases hn i b hi with h1 | ⟨d, hd, h1, h2⟩
    · omega
    · have := hdM d hd; omega
  have noReady : ∀ (listed : Array Bool) (its : List It), listed.size = ops.size → (∀ x ∈ its, ops[x.i]? = some x.o ∧ listed.getD x.i true = false) → (∀ i, listed.getD i true = false → (∃ x ∈ its, x.i = i) ∨ ∃ q, pn = some q ∧ ((Region.before ops).getD i 0).testBit q.1 = true) → (∀ q, pn = some q → ∃ x ∈ its, x.i = q.1) →
      Region.ready .any ops listed = [] → its = [] := by
    intro listed its hsz hx hall hpi hr
    cases its with
    | nil => rfl
    | cons y ys =>
      exfalso
      have key : ∀ n, ∀ i, i ≤ n → listed.getD i true = true := by
        intro n
        induction n using Nat.strongRecOn with
        | _ n ih =>
          intro i hi
          apply Classical.byContradiction
          intro hne
          have hf : listed.getD i true = false := by simpa using hne
          rcases hall i hf with ⟨x, hxm, rfl⟩ | ⟨q, hq, hqb⟩
          case inr =>
            obtain ⟨x, hxm, hxq⟩ := hpi q hq
            have hisz : i < ops.size := by
              rw [← hsz]
              apply Classical.byContradiction
              intro hge
              simp [Array.getD, hge] at hf
            have hlt := bits_lt hok i ops[i] (Array.getElem?_eq_getElem hisz) q.1 hqb
            have := ih q.1 (by omega) q.1 (Nat.le_refl _)
            rw [← hxq, (hx x hxm).2] at this
            cases this
          have hmem : x.i ∈ Region.ready .any ops listed := by
            refine mem_ready.2 ⟨hf, x.o, (hx x hxm).1, fun e he hb => ?_⟩
            have hlt := (regOk_at hok (hx x hxm).1).1 e he hb
            have := ih e.on (by omega) e.on (Nat.le_refl _)
            have hsz' : e.on < listed.size := by
              rw [hsz]
              exact Nat.lt_trans hlt (Array.getElem?_eq_some_iff.1 (hx x hxm).1).1
            simp only [Array.getD, hsz', dif_pos] at this ⊢
            exact this
          rw [hr] at hmem; cases hmem
      have := key y.i y.i (Nat.le_refl _)
      rw [(hx y List.mem_cons_self).2] at this
      cases this
  induction fuel with
  | zero =>
    intro its listed done ts h s a w ν G U N hlen hsz hpw hx hall hpi hcl hs2 hitM hdM hn hr I
    have hnil : its = [] := List.length_eq_zero_iff.1 (by omega)
    have hpn : pn = none := by
      cases hq : pn with
      | none => rfl
      | some q =>
        obtain ⟨⟨x, hx', _⟩, _⟩ := hpi q hq
        rw [hnil] at hx'; cases hx'
    refine ⟨?_, fin listed its done ts h s a w ν G U N hnil hpn hdM hn hr I⟩
    cases hrd : Region.ready .any ops listed with
    | nil => rfl
    | cons i r =>
      exfalso
      have hmem : i ∈ Region.ready .any ops listed := by rw [hrd]; exact List.mem_cons_self
      rcases hall i (mem_ready.1 hmem).1 with ⟨x, hx', _⟩ | ⟨q, hq, _⟩
      · rw [hnil] at hx'; cases hx'
      · rw [hpn] at hq; cases hq
  | succ fuel ih =>
    intro its listed done ts h s a w ν G U N hlen hsz hpw hx hall hpi hcl hs2 hitM hdM hn hr I
    refine ⟨fun h0 => ?_, fun i hi => ?_⟩
    · have hnil := noReady listed its hsz hx hall (fun q hq => (hpi q hq).1) h0
      have hpn : pn = none := by
        cases hq : pn with
        | none => rfl
        | some q =>
          obtain ⟨⟨x, hx', _⟩, _⟩ := hpi q hq
          rw [hnil] at hx'; cases hx'
      exact fin listed its done ts h s a w ν G U N hnil hpn hdM hn hr I
    obtain ⟨hun, o, ho, hedge⟩ := mem_ready.1 hi
    have hiz : i < ops.size := (Array.getElem?_eq_some_iff.1 ho).1
    have hbits0 : ∀ k, ((Region.before ops).getD i 0).testBit k = true → listed.getD k true = true := fun k hb => by
      obtain ⟨e, he, h1, h2, h3⟩ := bits_at hok ho hb
      have hle := hedge e he h1
      have hsz' : e.on < listed.size := by omega
      have hle' : listed.getD e.on true = true := by
        simp only [Array.getD, hsz', dif_pos] at hle ⊢
        exact hle
      rcases h3 with rfl | h3
      · exact hle'
      · exact hcl e.on (by omega) hle' k h3
    rcases hall i hun with ⟨x, hxm, rfl⟩ | ⟨q, hq, hqb⟩
    case inr =>
      exfalso
      obtain ⟨⟨x, hxm, hxq⟩, _⟩ := hpi q hq
      have := hbits0 q.1 hqb
      rw [← hxq, (hx x hxm).2] at this
      cases this
    have hxo : x.o = o := by
      have := (hx x hxm).1
      rw [ho] at this; exact (Option.some.inj this).symm
    obtain ⟨pre, post, rfl⟩ := List.append_of_mem hxm
    have hisz : x.i < ops.size := (Array.getElem?_eq_some_iff.1 ho).1
    have hbits := hbits0
    have hpre : ∀ p ∈ pre, p.i < x.i := fun p hp => (List.pairwise_append.1 hpw).2.2 p hp x List.mem_cons_self
    have hr1 := RunX.bubble pre done ts (hget h) s (fun p hp => by
      have hpx := hx p (by simp [hp])
      have h1 : ((Region.before ops).getD x.i 0).testBit p.i = false := by
        cases hb : ((Region.before ops).getD x.i 0).testBit p.i with
        | false => rfl
        | true => rw [hbits _ hb] at hpx; cases hpx.2
      refine ⟨h1, ?_, ?_⟩
      · cases hb : ((Region.before ops).getD p.i 0).testBit x.i with
        | false => rfl
        | true => have := bits_lt hok p.i p.o hpx.1 x.i hb; have := hpre p hp; omega
      · exact (regOk_at hok (hx x (by simp)).1).2.2 p.i p.o hpx.1 (hpre p hp) h1) hs2 hr
    -- what holds of the others
    have hsub : (pre ++ post).Sublist (pre ++ x :: post) := List.Sublist.append_left (List.sublist_cons_self x post) pre
    have hne : ∀ y ∈ pre ++ post, y.i ≠ x.i := fun y hy e => by
      rcases List.mem_append.1 hy with hy | hy
      · have := hpre y hy; omega
      · have := (List.pairwise_cons.1 (List.pairwise_append.1 hpw).2.1).1 y hy; omega
    have hget' : ∀ k, (listed.setIfInBounds x.i true).getD k true = if k = x.i then true else listed.getD k true := fun k => by
      by_cases e : k = x.i
      · subst e
        rw [if_pos rfl]
        simp only [Array.getD, Array.size_setIfInBounds]
        split
        · simp
        · rfl
      · rw [if_neg e, getD_set_ne true (Ne.symm e)]
    have c1 : (pre ++ post).length ≤ fuel := by simp only [List.length_append, List.length_cons] at hlen ⊢; omega
    have c2 : (listed.setIfInBounds x.i true).size = ops.size := by rw [Array.size_setIfInBounds, hsz]
    have c3 := hpw.sublist hsub
    have c4 : ∀ y ∈ pre ++ post, ops[y.i]? = some y.o ∧ (listed.setIfInBounds x.i true).getD y.i true = false := fun y hy => by
      have := hx y (hsub.subset hy)
      rw [hget', if_neg (hne y hy)]; exact this
    have c5 : ∀ i, (listed.setIfInBounds x.i true).getD i true = false → (∃ y ∈ pre ++ post, y.i = i) ∨ ∃ q, pn = some q ∧ ((Region.before ops).getD i 0).testBit q.1 = true := fun i hi' => by
      rw [hget'] at hi'
      split at hi'
      · cases hi'
      rename_i hne'
      rcases hall i hi' with ⟨y, hy, e⟩ | hq
      case inr => exact .inr hq
      refine .inl ⟨y, ?_, e⟩
      rcases List.mem_append.1 hy with hy | hy
      · exact List.mem_append_left _ hy
      · rcases List.mem_cons.1 hy with rfl | hy
        · exact absurd e.symm hne'
        · exact List.mem_append_right _ hy
    have c6 : ∀ k, k < ops.size → (listed.setIfInBounds x.i true).getD k true = true → ∀ i, ((Region.before ops).getD k 0).testBit i = true → (listed.setIfInBounds x.i true).getD i true = true := fun k hk' hl i hb => by
      have hl' : listed.getD i true = true := by
        rw [hget'] at hl
        split at hl
        · rename_i e; subst e; exact hbits i hb
        · exact hcl k hk' hl i hb
      rw [hget', hl']; split <;> rfl
    have hxin : x.o ∈ ops.toList := by
      rw [hxo]
      exact List.mem_of_getElem? (by rw [Array.getElem?_toList]; exact ho)
    have cpn : ∀ ts2 (h2 : Heap) (s2 : S), (∀ q, pn = some q → x.i ≠ q.1 ∧ Agree ops ts0 ts2 ∧ (∀ j, j < m → hget h2 j = g0 j) ∧ s2 = s0) → ∀ q, pn = some q → (∃ y ∈ pre ++ post, y.i = q.1) ∧ Agree ops ts0 ts2 ∧ (∀ j, j < m → hget h2 j = g0 j) ∧ s2 = s0 := fun ts2 h2 s2 hall2 q hq => by
      obtain ⟨k1, k2⟩ := hall2 q hq
      obtain ⟨⟨y, hy, hyq⟩, _⟩ := hpi q hq
      refine ⟨⟨y, ?_, hyq⟩, k2⟩
      rcases List.mem_append.1 hy with hy | hy
      · exact List.mem_append_left _ hy
      · rcases List.mem_cons.1 hy with rfl | hy
        · exact absurd hyq k1
        · exact List.mem_append_right _ hy
    have hs' := hs2.pw
    have c7 : ∀ done', (∀ y ∈ pre ++ post, ∀ d ∈ done', d.a + d.n ≤ y.a ∨ y.a + y.n ≤ d.a) → Side2 m (pre ++ post) done' := fun done' hd => ⟨fun y hy => hs2.low y (hsub.subset hy), hd, hs'.sublist hsub⟩
    have c8 : ∀ y ∈ pre ++ post, y.a + y.n ≤ M := fun y hy => hitM y (hsub.subset hy)
    have hdn0 : ∀ y ∈ pre ++ post, ∀ d ∈ done, d.a + d.n ≤ y.a ∨ y.a + y.n ≤ d.a := fun y hy => hs2.dn y (hsub.subset hy)
    have hdf : ∀ u, (a.put o.dst u).defers = a.defers := fun u => by cases o.dst <;> rfl
    unfold wpOpIn
    rw [ho]
    simp only
    rcases hr1 with ⟨h1, h2, h3⟩ | ⟨h1, ma, r, h2, h3, h4, h5, h6⟩
    · rw [hxo] at h1 h3
      rw [wanted_spec I.ts h1]
      simp only [Bool.false_eq_true, if_false]
      refine ⟨fun f _ => hF.fn f, ?_⟩
      refine ih (pre ++ post) _ done _ h s _ w ν G U N c1 c2 c3 c4 c5 (cpn _ _ _ fun q hq => ⟨h2.2 q hq, agree_put (by rw [← hxo]; exact hxin) (hpi q hq).2.1 _, (hpi q hq).2.2⟩) c6 (c7 _ hdn0) c8 hdM hn h3 ⟨I.sr, put_rel I.ts o.dst (by simp only [Rel]), I.rs, I.ext, I.first, I.y, I.len, I.side, ?_, ?_, ?_⟩
      · rw [hdf]; exact I.marks
      · rw [hdf]; exact I.nd
      · rw [hdf]; exact I.low
    · rw [hxo] at h1 h2 h6
      rw [wanted_spec I.ts h1]
      simp only [if_true]
      have hlo := hs2.low x (by simp)
      have hfresh : ∀ j, x.a ≤ j → j < x.a + r.news.length → ν.φ j = none := fun j j1 j2 => by
        rw [h5.1] at j2
        cases hj : ν.φ j with
        | none => rfl
        | some b =>
          rcases hn j b hj with h0 | ⟨d, hd, d1, d2⟩
          · omega
          · have := hs2.dn x (by simp) d hd; omega
      have hupd : ∀ q, pn = some q → (∀ j, j < m → hget (hputs (hups h r.ups) x.a r.news) j = g0 j) ∧ r.s = s0 := fun q hq => by
        obtain ⟨_, _, k3, k4⟩ := hpi q hq
        have hcls : (touch C ma).cls ≠ 2 ∧ (touch C ma).cls ≠ 4 := by
          rcases h5.2 with ⟨_, hc⟩ | ⟨t, _, _, hc⟩
          · exact (hc q hq).2
          · rw [hc]; exact ⟨by decide, by decide⟩
        obtain ⟨e1, e2⟩ := act_keeps h4 hcls.2
        refine ⟨fun j hj => ?_, e1.trans k4⟩
        rw [hget_gput, ← k3 j hj]
        unfold gput
        rw [if_neg (by omega)]
        exact gups_out _ _ _ fun p hp => absurd (e2 p hp).1 hcls.1
      refine Oper.wpIn_mono (K := fun a' w' => exA ma r.v = .normal ∧ ∃ u, a' = a.put o.dst u ∧ After RS w G J U N ν h x.a r u w') ?_
        (op_wp hC hCall hExt hF hRM (by rw [I.y]; exact hH) I.sr I.ts I.rs (look := lookOf m done ((Region.before ops).getD x.i 0) (touch C ma) (hget h)) (fun i B' hB => by
          simp only [lookOf] at hB
          split at hB
          · exact hB
          · cases hB) h2 hfresh h4 fun t w' ht hA => ?_)
      case refine_2 =>
        obtain ⟨q, hq, hqt⟩ : ∃ q, pn = some q ∧ q.2 = t := by
          rcases h5.2 with ⟨hn', _⟩ | ⟨t', hq, ht', _⟩
          · rw [hn'] at ht; cases ht
          · rw [ht'] at ht
            cases ht
            exact ⟨_, hq, rfl⟩
        obtain ⟨ν', G', U', N', k1, k2, k3, k4, k5, k6, k7⟩ := hA
        obtain ⟨u1, u2⟩ := hupd q hq
        rw [u2] at k6
        rw [← hqt]
        refine hQp q hq ts (hputs (hups h r.ups) x.a r.news) a w' ν' G' U' N' ⟨k1, I.sr.relL k5 k2 I.ts, k6, I.ext.trans k5, fun i hi => ?_, k3.trans I.y, ?_, fun p hp => (I.side p hp).ext k5, ?_, I.nd, I.low⟩ (hpi q hq).2.1 u1 fun j b hj => ?_
        · rw [← I.first i hi]
          apply Classical.byContradiction
          intro hne'
          have := (k7 i hne').1
          omega
        · exact Nat.le_trans I.len (Nat.le_trans (length_hups _ _) (length_hputs _ _ _))
        · exact fun d hd => (I.marks d hd).imp_right fun ⟨r, e, h⟩ => ⟨r, e, h.ext k5⟩
        · by_cases hc : ν'.φ j = ν.φ j
          · rw [hc] at hj
            rcases hn j b hj with h0 | ⟨d, hd, _, h0⟩
            · omega
            · have := hdM d hd; omega
          · have := (k7 j hc).2
            rw [h5.1] at this
            have := hitM x (by simp)
            omega
      rintro a' w' ⟨hnorm, u, rfl, ν', G', U', N', k1, k2, k3, k4, k5, k6, k7⟩
      rw [← hget_gput] at h6
      refine ih (pre ++ post) _ _ _ (hputs (hups h r.ups) x.a r.news) r.s _ w' ν' G' U' N' c1 c2 c3 c4 c5 (cpn _ _ _ fun q hq => ⟨?_, agree_put (by rw [← hxo]; exact hxin) (hpi q hq).2.1 _, hupd q hq⟩) c6 (c7 _ fun y hy d hd => ?_) c8 (fun d hd => ?_) (fun j b hj => ?_) h6
        ⟨k1, put_rel (I.sr.relL k5 k2 I.ts) o.dst k4, k6, I.ext.trans k5, fun i hi => ?_, k3.trans I.y, ?_, fun p hp => (I.side p hp).ext k5, ?_, ?_, ?_⟩
      · rcases h5.2 with ⟨_, hc⟩ | ⟨t, _, ht, _⟩
        · exact (hc q hq).1
        · rw [ht] at hnorm; cases hnorm
      · rcases List.mem_cons.1 hd with rfl | hd
        · rcases List.mem_append.1 hy with hy | hy
          · have := (List.pairwise_append.1 hs').2.2 y hy x List.mem_cons_self
            simp only; omega
          · exact (List.pairwise_cons.1 (List.pairwise_append.1 hs').2.1).1 y hy
        · exact hdn0 y hy d hd
      · rcases List.mem_cons.1 hd with rfl | hd
        · exact hitM x (by simp)
        · exact hdM d hd
      · by_cases hc : ν'.φ j = ν.φ j
        · rw [hc] at hj
          rcases hn j b hj with h0 | ⟨d, hd, h0⟩
          · exact .inl h0
          · exact .inr ⟨d, List.mem_cons_of_mem _ hd, h0⟩
        · have := k7 j hc
          rw [h5.1] at this
          exact .inr ⟨_, List.mem_cons_self, this⟩
      · rw [← I.first i hi]
        apply Classical.byContradiction
        intro hne'
        have := (k7 i hne').1
        omega
      · exact Nat.le_trans I.len (Nat.le_trans (length_hups _ _) (length_hputs _ _ _))
      · rw [hdf]
        exact fun d hd => (I.marks d hd).imp_right fun ⟨r, e, h⟩ => ⟨r, e, h.ext k5⟩
      · rw [hdf]; exact I.nd
      · rw [hdf]; exact I.low
theorem draw_ok {C : Cfg} (hC : ∀ t T, C.ty t = some T → tyOf C.P t = some T) {call : CallT} (hCall : CallOK C.P call) (hExt : ExtOK C) (hMix : C.P.follows .mixedOrders = true) {F : Fence} (hF : Wide F) {S : Type} {RS : StRel S} (hRM : RMono RS) {H : Option (Hd S)}
    {B : Base} {sd : List (Nat × Obj)} (hH : HSO C.P RS H B.y) {ops : Array Oper} (hok : regOk ops = true) {e : Ex} {σ σ' : St} {s s' : S} {a : Act} {id : Nat} (I : Inv RS B J sd σ s a w)
    (hr : drawA C call H ops σ s = some (e, σ', s')) :
    (Code.region id ops true).wpIn F 0 C.P (fun x a' w' => x = exOf e ∧ Inv RS B J sd σ' s' a' w') a w := by
  obtain ⟨ν, G, U, N, I⟩ := I
  obtain ⟨e0, σ1, s1, hrun, hcase⟩ : ∃ e0 σ1 s1, runD C call H ops (Region.before ops) σ.h.length (ops.toList.zip (List.range ops.size)) [] σ s = some (e0, σ1, s1) ∧
      ((e0 = .normal ∧ e = .normal ∧ σ' = σ1 ∧ s' = s1) ∨ (e = e0 ∧ σ' = { tmps := strikeT ops.toList σ.tmps, h := σ.h ++ List.replicate (σ1.h.length - σ.h.length) none } ∧ s' = s1 ∧ e0 ≠ .normal)) := by
    unfold drawA at hr
    split at hr
    · rename_i σ1 s1 h
      cases hr
      exact ⟨_, _, _, h, .inl ⟨rfl, rfl, rfl, rfl⟩⟩
    · rename_i e1 σ1 s1 hne h
      cases hr
      exact ⟨_, _, _, h, .inr ⟨rfl, rfl, rfl, fun h' => hne h'⟩⟩
    · cases hr
  have hnd : ((ops.toList.zip (List.range ops.size)).map (·.2)).Nodup := by
    rw [show (fun p : Oper × Nat => p.2) = Prod.snd from rfl, List.map_snd_zip (by simp)]
    exact List.nodup_range
  obtain ⟨pn, its, rest, h1, he0, h2, h3, h4, h5, h6, h7⟩ := runD_X _ _ _ _ hnd hrun
  have I' : Inv1 RS B J sd ⟨σ.tmps, σ.h⟩ s a { w with drawn := w.drawn + 1 } ν G U N :=
    I.on (w' := { w with drawn := w.drawn + 1 }) (G' := G) hRM ⟨rfl, rfl⟩ (Nat.le_refl _) (fun _ => Nat.le_refl _) (fun _ h => h) (fun _ _ => rfl) I.sr.glt (fun _ _ _ => rfl) (fun _ h => .inl h)
  have hlen : its.length + rest.length = ops.size := by
    have := congrArg List.length h1
    simpa using this
  have hat0 : ∀ k, k < ops.size → (its.map (fun x => (x.o, x.i)) ++ rest)[k]? = some (ops.getD k default, k) := fun k hk => by
    rw [h1, List.getElem?_eq_getElem (by simp; omega)]
    simp [Array.getD, hk]
  have hat : ∀ k (hk : k < its.length), its[k].i = k ∧ ops[k]? = some its[k].o := fun k hk => by
    have := hat0 k (by omega)
    rw [List.getElem?_append_left (by simpa using hk), List.getElem?_map, List.getElem?_eq_getElem hk] at this
    simp only [Option.map_some, Option.some.injEq, Prod.mk.injEq] at this
    exact ⟨this.2, by rw [Array.getElem?_eq_getElem (by omega), this.1]; simp [Array.getD, show k < ops.size by omega]⟩
  have hrest : ∀ k, its.length ≤ k → k < ops.size → ∃ o, (o, k) ∈ rest := fun k hk1 hk2 => by
    have := hat0 k hk2
    rw [List.getElem?_append_right (by simpa using hk1)] at this
    exact ⟨_, List.mem_of_getElem? this⟩
  refine wpIn_region_any hMix ?_
  refine any_ok hC hCall hExt hF hRM hH hok (m := σ.h.length) (M := σ1.h.length) I.len (h' := σ1.h) (ts' := σ1.tmps) (s' := s1) (pn := pn) (ts0 := σ.tmps) (g0 := hget σ.h) (s0 := s) (Nat.le_refl _) h3 (Q := fun x a' w' => x = exOf e ∧ Inv RS B J sd σ' s' a' w') (fun hpn a' w' I => ?_) (fun q hq ts h a w' ν G U N I hag hh hdom => ?_)
    ops.size its (Array.replicate ops.size false) [] σ.tmps σ.h s a _ ν G U N (by omega) (by simp) ?_ ?_ ?_ (fun q hq => ⟨(h7 q hq).1, ⟨rfl, fun _ _ => rfl⟩, fun _ _ => rfl, rfl⟩) ?_ ⟨fun x hx => (h4 x hx).1, fun x hx d hd => by (cases hd), h5.imp (fun h => .inl h)⟩ (fun x hx => (h4 x hx).2) (fun d hd => by cases hd) (fun j b hj => .inl (I.sr.dom j b hj)) h2 I'
  · rw [hpn] at he0
    rcases hcase with ⟨_, rfl, rfl, rfl⟩ | ⟨_, _, _, hne⟩
    · exact ⟨rfl, I⟩
    · exact absurd he0 hne
  · rw [hq] at he0
    rcases hcase with ⟨hn, _⟩ | ⟨rfl, rfl, rfl, _⟩
    · rw [hn] at he0; cases he0
    rw [he0, h2.same hq]
    refine ⟨rfl, ν, G, U, N, ?_⟩
    have hblk : ∀ i B, hget (σ.h ++ List.replicate (σ1.h.length - σ.h.length) none) i = some B → hget h i = some B := fun i B hi => by
      unfold hget at hi
      rw [List.getElem?_append] at hi
      split at hi
      · rename_i hlt
        rw [hh i hlt]; exact hi
      · rw [List.getElem?_replicate] at hi
        split at hi <;> cases hi
    have hown : ∀ b, Own ν (σ.h ++ List.replicate (σ1.h.length - σ.h.length) none) b → Own ν h b := fun b ⟨i, B, k1, k2⟩ => ⟨i, B, hblk i B k1, k2⟩
    have hl : (σ.h ++ List.replicate (σ1.h.length - σ.h.length) (none : Option Blk)).length = σ1.h.length := by simp; omega
    refine ⟨⟨fun i B hi => I.sr.blk i B (hblk i B hi), fun i j B B' b k1 k2 => I.sr.inj i j B B' b (hblk _ _ k1) (hblk _ _ k2), fun i b hb => by rw [hl]; exact hdom i b hb, I.sr.glt, I.sr.jlt, I.sr.nlt, fun b hb ho => I.sr.gown b hb (hown b ho), fun b hb ho => I.sr.jown b hb (hown b ho), fun b hb ho => I.sr.nown b hb (hown b ho), I.sr.gu, I.sr.ju, I.sr.un⟩,
      ?_, I.rs, I.ext.less hown, I.first, I.y, ?_, fun p hp => (I.side p hp).less hown, fun d hd => (I.marks d hd).imp_right fun ⟨r, e', hs⟩ => ⟨r, e', hs.less hown⟩, I.nd, I.low⟩
    · have hts := I.ts
      have hlen2 := RelL_length hts
      refine RelL_of_get ((strikeT_length _ _).trans (hag.1.symm.trans hlen2)) fun i c v hc hv => ?_
      rcases strikeT_get _ _ _ _ hc with rfl | ⟨hc, hno⟩
      · simp only [Rel]
      · rw [← hag.2 i hno] at hc
        obtain ⟨v', hv', hr'⟩ := RelL_get hts hc
        rw [hv] at hv'
        cases hv'
        exact hr'
    · show B.k ≤ _
      rw [hl]
      exact Nat.le_trans I'.len h3
  · rw [List.pairwise_iff_getElem]
    intro i j hi hj hij
    rw [(hat i hi).1, (hat j hj).1]; exact hij
  · intro x hx
    obtain ⟨k, hk, rfl⟩ := List.getElem_of_mem hx
    have := hat k hk
    rw [this.1]
    refine ⟨this.2, ?_⟩
    have hk' : k < ops.size := by omega
    simp [Array.getD, hk']
  · intro i hi
    have hi' : i < ops.size := by
      apply Classical.byContradiction
      intro hn
      simp [Array.getD, hn] at hi
    by_cases hlt : i < its.length
    · exact .inl ⟨its[i], List.getElem_mem _, (hat i hlt).1⟩
    · obtain ⟨o, ho⟩ := hrest i (by omega) hi'
      cases hq : pn with
      | none =>
        rw [h6 hq] at ho; cases ho
      | some q => exact .inr ⟨q, rfl, (h7 q hq).2.1 _ ho⟩
  · intro k hk hl
    simp [Array.getD, hk] at hl
end
theorem calls_ok {C : Cfg} (hC : ∀ t T, C.ty t = some T → tyOf C.P t = some T) (hExt : ExtOK C) (hMix : C.P.follows .mixedOrders = true) (hP : ∀ (f : FuncId) (fn : Func), C.P.funcs[f]? = some fn → fn.body.isSome = true → fn.name ≠ "runtime.NumGoroutine")
    (hR : ∀ (f : FuncId) (fn : Func) (c : Code), C.P.funcs[f]? = some fn → fn.body = some c → regsOk c = true) : ∀ n, CallOK C.P (callA C n) :=
  call_ok hC hExt (fun _ hCall _ _ _ _ _ _ _ _ _ _ _ _ _ _ _ _ hRM hF hH hok I hr => draw_ok hC hCall hExt hMix hF hRM hH hok I hr) hP hR
end Go.Lite
