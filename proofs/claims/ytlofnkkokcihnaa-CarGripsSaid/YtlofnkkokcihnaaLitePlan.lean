import Derived.Test.YtlofnkkokcihnaaLiteOps
namespace Go.Lite
section
variable {w : World} {G : Nat → Prop} {ν : Names} {J : Nat → Prop}

theorem Rel_inner {c : AV} {kd : Kd} {v : Value} (h : Rel w G c Names.none (innP J kd) v) : Rel w G c ν J v :=
  Rel_mono (fun _ h => h) (fun _ _ => rfl) (fun _ => Nat.le_refl _) c (Names.none_le _) (fun b h => .inl (innP_sub b h)) (fun _ _ => rfl) h
theorem RelL_inner {c : List AV} {kd : Kd} {v : List Value} (h : RelL w G c Names.none (innP J kd) v) : RelL w G c ν J v :=
  RelL_mono (fun _ h => h) (fun _ _ => rfl) (fun _ => Nat.le_refl _) c (Names.none_le _) (fun b h => .inl (innP_sub b h)) (fun _ _ => rfl) h

theorem foldInts_run {P : Program} (isMin : Bool) : ∀ (cs : List AV) (vs : List Value) (k : IntKind) (a : Int) (z : AV), RelL w G cs ν J vs →
    foldInts (if isMin then (fun a b => if b < a then b else a) else (fun a b => if b > a then b else a)) k cs a = some z →
    ∃ r, (vs.foldlM (if isMin then Builtin.min2 else Builtin.max2) (.int k a)).run P w = .ok r w ∧ Rel w G z ν J r
  | [], _, k, a, z, h, hz => by
    simp only [RelL] at h; subst h
    simp only [foldInts, Option.some.injEq] at hz; subst hz
    exact ⟨_, rfl, mk_int⟩
  | c :: cs, _, k, a, z, h, hz => by
    simp only [RelL] at h
    obtain ⟨u, us, rfl, h1, h2⟩ := h
    cases c <;> simp only [foldInts, reduceCtorEq] at hz
    rename_i k' b
    split at hz
    · rename_i hk; subst hk
      rw [rel_int rfl h1]
      obtain ⟨r, hr, hrel⟩ := foldInts_run isMin cs us k _ z h2 hz
      refine ⟨r, ?_, hrel⟩
      rw [List.foldlM_cons]
      cases isMin <;> simpa [Builtin.min2, Builtin.max2, Sem.run_bind] using hr
    · cases hz

theorem places_mapM {P : Program} : ∀ (fs : List Field), fs.all (fun f => tyValid P f.type) = true → fs.mapM (fun f => (P.info? f.type).map fun i => (f.offset, i.size)) = some (fs.map fun f => (f.offset, P.cellsOf f.type))
  | [], _ => rfl
  | f :: fs, h => by
    simp only [List.all_cons, Bool.and_eq_true] at h
    obtain ⟨i, d, hi, _⟩ := valid_parts h.1
    simp [List.mapM_cons, hi, places_mapM fs h.2, Program.cellsOf]

theorem built_struct {P : Program} {t : TypeId} {T : Ty} (hT : tyOf P t = some T) {fs : List (Nat × Nat × Bool)} (hk : T.kind = .struct fs) {z : List AV} (hz : T.zero = some z) {E : Operand → AV} {ρ : Operand → Value} (hE : ∀ x, Rel w G (E x) ν J (ρ x)) {ps : Array (Nat × Operand)} {cs : List AV}
    (hf : fillA (fun i => (fs[i]?).map fun (f : Nat × Nat × Bool) => (f.1, f.2.1)) z (ps.toList.map fun p => (p.1, E p.2)) = some cs) :
    ∃ us : Array Value, P.built t (ps.map fun (i, x) => (i, ρ x)).toList = some us ∧ RelL w G cs ν J us.toList := by
  obtain ⟨i, d, hi, hd, hk', _, _, _, hz', _⟩ := ty_info hT
  obtain ⟨gs, hu, hfs, hv⟩ := kind_struct (hk'.symm.trans hk)
  rw [hz] at hz'
  cases hz0 : i.zero with
  | none => rw [hz0] at hz'; cases hz'
  | some z0 =>
    rw [hz0] at hz'; simp at hz'
    obtain ⟨us, hus, hrel⟩ := fillA_run hE ps.toList z z0.cells cs (by rw [hz']; exact avOf1_relL w G ν J _) hf
    refine ⟨us, ?_, hrel⟩
    unfold Program.built
    simp only [hi, hu, hz0, places_mapM gs.toList hv]
    have e1 : (fun (i : Nat) => (fs[i]?).map fun (f : Nat × Nat × Bool) => (f.1, f.2.1)) = fun i => ((gs.toList.map fun f => (f.offset, P.cellsOf f.type)).toArray)[i]? := by
      funext i; subst hfs; simp [List.getElem?_map, Option.map_map, Function.comp_def]
    rw [e1] at hus
    have e2 : (ps.map fun (i, x) => (i, ρ x)).toList = ps.toList.map fun p => (p.1, ρ p.2) := by simp
    rw [e2]; exact hus
theorem built_array {P : Program} {t : TypeId} {T : Ty} (hT : tyOf P t = some T) {n es : Nat} {ea : Bool} (hk : T.kind = .array n es ea) {z : List AV} (hz : T.zero = some z) {E : Operand → AV} {ρ : Operand → Value} (hE : ∀ x, Rel w G (E x) ν J (ρ x)) {ps : Array (Nat × Operand)} {cs : List AV}
    (hf : fillA (fun i => some (i * es, es)) z (ps.toList.map fun p => (p.1, E p.2)) = some cs) :
    ∃ us : Array Value, P.built t (ps.map fun (i, x) => (i, ρ x)).toList = some us ∧ RelL w G cs ν J us.toList := by
  obtain ⟨i, d, hi, hd, hk', _, _, _, hz', _⟩ := ty_info hT
  obtain ⟨e, hu, rfl, _, hv⟩ := kind_array (hk'.symm.trans hk)
  obtain ⟨ie, de, hie, hde⟩ := valid_parts hv
  rw [hz] at hz'
  cases hz0 : i.zero with
  | none => rw [hz0] at hz'; cases hz'
  | some z0 =>
    rw [hz0] at hz'; simp at hz'
    obtain ⟨us, hus, hrel⟩ := fillA_run hE ps.toList z z0.cells cs (by rw [hz']; exact avOf1_relL w G ν J _) hf
    refine ⟨us, ?_, hrel⟩
    unfold Program.built
    simp only [hi, hu, hz0, hie]
    have e2 : (ps.map fun (i, x) => (i, ρ x)).toList = ps.toList.map fun p => (p.1, ρ p.2) := by simp
    rw [e2]
    have : P.cellsOf e = ie.size := by simp [Program.cellsOf, hie]
    rw [this] at hus; exact hus

theorem toList_one {α : Type} {xs : Array α} {x : α} (h : xs.toList = [x]) : xs = #[x] := by
  cases xs; simp at h; simp [h]
theorem toList_two {α : Type} {xs : Array α} {x y : α} (h : xs.toList = [x, y]) : xs = #[x, y] := by
  cases xs; simp at h; simp [h]

theorem planB_pure {C : Cfg} (hC : ∀ t T, C.ty t = some T → tyOf C.P t = some T) {E : Operand → AV} {ρ : Operand → Value} (hE : ∀ x, Rel w G (E x) ν J (ρ x)) {b : Builtin} {args : Array Operand} {ts : Array TypeId} {c : AV}
    (h : planB C E b args.toList ts.toList = some (.pure c)) (type : TypeId) (consts : Array Bool) :
    ∃ v, (builtin b ts type consts (args.map ρ)).run C.P w = .ok (.value v) w ∧ Rel w G c ν J v := by
  unfold planB at h
  split at h
  · -- len
    rename_i x t ex et
    rw [toList_one ex, toList_one et]
    cases hT : C.ty t with
    | none => simp [hT] at h
    | some T =>
      obtain ⟨i, d, hi, hd, hk, -⟩ := ty_info (hC _ _ hT)
      obtain ⟨kind, agg, size, bytes, zero, eqOk⟩ := T
      simp only [hT] at h
      cases kind <;> try (simp at h; done)
      case slice e =>
        simp only [Option.map_eq_some_iff, MA.pure.injEq] at h
        obtain ⟨n, hn, rfl⟩ := h
        obtain ⟨a, cap, hv, _⟩ := rel_len hn (hE x)
        refine ⟨.int .i64 n, ?_, mk_int⟩
        simp [builtin, Builtin.len_, Sem.run_bind, run_underlying (kind_slice hk.symm), hv, goInt]
      case array n es ea =>
        simp only [Option.some.injEq, MA.pure.injEq] at h; subst h
        obtain ⟨e, hu, _⟩ := kind_array hk.symm
        refine ⟨.int .i64 n, ?_, mk_int⟩
        simp [builtin, Builtin.len_, Sem.run_bind, run_underlying hu, goInt]
      case map k e =>
        have hm : C.P.underlying t = some (.map k e) := by
          have := hk.symm
          unfold tyKind at this; repeat (split at this <;> try (first | (cases this; assumption) | (cases this; done)))
        dsimp only at h
        split at h
        · rename_i ev
          simp only [Option.some.injEq, MA.pure.injEq] at h; subst h
          have hr := hE x
          rw [ev] at hr; simp only [Rel] at hr
          refine ⟨.int .i64 0, ?_, mk_int⟩
          simp [builtin, Builtin.len_, Sem.run_bind, run_underlying hm, hr, goInt]
        · simp at h
        · cases h
  · -- min
    rename_i _ x r ex
    split at h
    · rename_i k n hx
      simp only [Option.map_eq_some_iff, MA.pure.injEq] at h
      obtain ⟨z, hz, rfl⟩ := h
      have hr : RelL w G (r.map E) ν J (r.map ρ) := by
        clear ex hz
        induction r with
        | nil => exact RelL_nil
        | cons y r ih => exact RelL_cons (hE y) ih
      obtain ⟨v, hv, hrel⟩ := foldInts_run (P := C.P) true (r.map E) (r.map ρ) k n z hr (by simpa using hz)
      refine ⟨v, ?_, hrel⟩
      simp only [if_true] at hv
      simp [builtin, Builtin.min_, ex, rel_int hx (hE x), hv]
    · cases h
  · -- max
    rename_i _ x r ex
    split at h
    · rename_i k n hx
      simp only [Option.map_eq_some_iff, MA.pure.injEq] at h
      obtain ⟨z, hz, rfl⟩ := h
      have hr : RelL w G (r.map E) ν J (r.map ρ) := by
        clear ex hz
        induction r with
        | nil => exact RelL_nil
        | cons y r ih => exact RelL_cons (hE y) ih
      obtain ⟨v, hv, hrel⟩ := foldInts_run (P := C.P) false (r.map E) (r.map ρ) k n z hr (by simpa using hz)
      refine ⟨v, ?_, hrel⟩
      simp only [Bool.false_eq_true, if_false] at hv
      simp [builtin, Builtin.max_, ex, rel_int hx (hE x), hv]
    · cases h
  · -- append
    repeat (split at h <;> try (simp at h; done))
  · -- copy
    repeat (split at h <;> try (simp at h; done))
  · cases h

theorem run_builtin {P : Program} {a : Act} {o : Oper} {cl : Call} (hop : o.op = .call cl) {b : Builtin} (hb : cl.callee = .builtin b) :
    ∃ consts, (execOp a.eval o).run P w = (builtin b cl.argTypes o.type consts (cl.args.map a.eval)).run P w := by
  unfold execOp
  simp only [hop, resolve, hb, Sem.run_bind, Sem.run_pure, Result.andThen_ok, invoke]
  exact ⟨_, rfl⟩

/-- What is planned as a value is that value, at once. -/
theorem plan_pure {C : Cfg} (hC : ∀ t T, C.ty t = some T → tyOf C.P t = some T) {ts : List AV} {a : Act} (hts : RelL w G ts ν J a.tmps.toList) {o : Oper} {c : AV} (h : plan C (ev ts) o = some (.pure c)) :
    ∃ v, Runs C.P o a w v w ∧ Rel w G c ν J v := by
  have hE : ∀ x, Rel w G (ev ts x) ν J (a.eval x) := ev_rel hts
  have fin : ∀ {s : Sem Value} {v : Value}, (execOp a.eval o = do pure (.value (← s))) → s.run C.P w = .ok v w → Rel w G c ν J v → ∃ v, Runs C.P o a w v w ∧ Rel w G c ν J v := by
    intro s v e hs hr
    exact ⟨v, .inl (by rw [e]; simp [hs]), hr⟩
  unfold plan at h
  cases hop : o.op with
  | move x =>
    simp only [hop, Option.some.injEq, MA.pure.injEq] at h; subst h
    exact ⟨_, .inl (by unfold execOp; simp only [hop]; rfl), hE x⟩
  | assign x =>
    simp only [hop, Option.some.injEq, MA.pure.injEq] at h; subst h
    exact ⟨_, .inl (by unfold execOp; simp only [hop]; rfl), hE x⟩
  | pick x y z =>
    simp only [hop] at h
    split at h
    · rename_i t ht
      simp only [Option.some.injEq, MA.pure.injEq] at h
      have hb := rel_bool ht (hE x)
      refine ⟨if t then a.eval y else a.eval z, .inl ?_, ?_⟩
      · unfold execOp; simp only [hop, hb]; cases t <;> simp [asBool]
      · subst h; cases t <;> simp [hE]
    · cases h
  | build t ps =>
    simp only [hop] at h
    cases hT : C.ty t with
    | none => simp [hT] at h
    | some T =>
      have hT' := hC _ _ hT
      obtain ⟨kind, agg, size, bytes, zero, eqOk⟩ := T
      simp only [hT] at h
      cases zero with
      | none => cases kind <;> simp at h
      | some z =>
        cases kind <;> try (simp at h; done)
        case struct fs =>
          simp only [Option.map_eq_some_iff, MA.pure.injEq] at h
          obtain ⟨cs, hf, rfl⟩ := h
          obtain ⟨us, hus, hrel⟩ := built_struct hT' rfl rfl hE hf
          refine fin (s := Instr.build t (ps.map fun (i, x) => (i, a.eval x))) (v := .agg us) (by unfold execOp; simp only [hop]) (run_build w t _ us hus) ?_
          simp only [Rel]; exact ⟨us.toList, rfl, hrel⟩
        case array n es ea =>
          simp only [Option.map_eq_some_iff, MA.pure.injEq] at h
          obtain ⟨cs, hf, rfl⟩ := h
          obtain ⟨us, hus, hrel⟩ := built_array hT' rfl rfl hE hf
          refine fin (s := Instr.build t (ps.map fun (i, x) => (i, a.eval x))) (v := .agg us) (by unfold execOp; simp only [hop]) (run_build w t _ us hus) ?_
          simp only [Rel]; exact ⟨us.toList, rfl, hrel⟩
  | nilCheck x =>
    simp only [hop] at h
    split at h
    · rename_i i s k j hx
      simp only [Option.some.injEq, MA.pure.injEq] at h; subst h
      have hr := hE x; rw [hx] at hr
      obtain ⟨b, hv⟩ := rel_ptrish rfl hr
      refine ⟨a.eval x, .inl ?_, by rw [← hx]; exact hE x⟩
      unfold execOp; simp only [hop, hv]; rfl
    · rename_i kd cs hx
      simp only [Option.some.injEq, MA.pure.injEq] at h; subst h
      have hr := hE x; rw [hx] at hr
      obtain ⟨b, hv⟩ := rel_ptrish rfl hr
      refine ⟨a.eval x, .inl ?_, by rw [← hx]; exact hE x⟩
      unfold execOp; simp only [hop, hv]; rfl
    · rename_i f p q hx
      simp only [Option.some.injEq, MA.pure.injEq] at h; subst h
      have hr := hE x; rw [hx] at hr
      have hr' := hr
      simp only [Rel] at hr'
      obtain ⟨as, cs, hv, _⟩ := hr'
      refine ⟨a.eval x, .inl ?_, hr⟩
      unfold execOp; simp only [hop, hv]; rfl
    · cases h
  | binOp op t x y yt =>
    simp only [hop, Option.map_eq_some_iff, MA.pure.injEq] at h
    obtain ⟨z, hz, rfl⟩ := h
    obtain ⟨r, hr, hrel⟩ := binA_run (P := C.P) (fun T' e => hC t T' e) hz (hE x) (hE y) x y
    exact fin (s := do eqGuard op t x y (a.eval x) (a.eval y); binOp op t (a.eval x) (a.eval y)) (by unfold execOp; simp only [hop]) hr hrel
  | unOp op t x =>
    simp only [hop, Option.map_eq_some_iff, MA.pure.injEq] at h
    obtain ⟨z, hz, rfl⟩ := h
    unfold unA at hz
    split at hz
    · rename_i k n hx
      simp only [Option.some.injEq] at hz; subst hz
      have := rel_int hx (hE x)
      exact fin (s := Op.unary .neg (a.eval x)) (by unfold execOp; simp only [hop]) (by rw [this]; simp [Op.unary, Op.intArith]) mk_int
    · rename_i b hx
      simp only [Option.some.injEq] at hz; subst hz
      have := rel_bool hx (hE x)
      exact fin (s := Op.unary .not (a.eval x)) (by unfold execOp; simp only [hop]) (by rw [this]; simp [Op.unary]) mk_bool
    · cases hz
  | convert sT dT x =>
    simp only [hop] at h
    cases hS : C.ty sT with
    | none => simp [hS] at h
    | some S =>
      cases hD : C.ty dT with
      | none => simp [hS, hD] at h
      | some D =>
        obtain ⟨is, ds, _, hsu, hsk, -⟩ := ty_info (hC _ _ hS)
        obtain ⟨id, dd, _, hdu, hdk, -⟩ := ty_info (hC _ _ hD)
        obtain ⟨kindS, _, _, _, _, _⟩ := S
        obtain ⟨kindD, _, _, _, _, _⟩ := D
        cases hx : ev ts x <;> simp only [hS, hD, hx] at h
        all_goals (cases kindS <;> try (simp at h; done))
        all_goals (cases kindD <;> try (simp at h; done))
        rename_i k' n k1 k
        simp only [Option.some.injEq, MA.pure.injEq] at h; subst h
        have hv := rel_int hx (hE x)
        refine fin (s := convert sT dT (a.eval x)) (by unfold execOp; simp only [hop]) ?_ mk_int
        rw [hv]
        simp [convert, Sem.run_bind, run_underlying (kind_int hsk.symm), run_underlying (kind_int hdk.symm), Conv.intToInt]
  | makeInterface t x =>
    simp only [hop] at h
    cases hT : C.ty t with
    | none => simp [hT] at h
    | some T =>
      obtain ⟨i, d, _, hu, hk, -⟩ := ty_info (hC _ _ hT)
      obtain ⟨kind, _, _, _, _, _⟩ := T
      have hni : kind ≠ .iface := by rintro rfl; simp [hT] at h
      have h' : some (MA.pure (.ifc t (ev ts x))) = some (.pure c) := by
        simp only [hT] at h
        cases kind <;> first | exact h | exact absurd rfl hni
      simp only [Option.some.injEq, MA.pure.injEq] at h'; subst h'
      refine fin (s := Instr.makeInterface t (a.eval x)) (v := .iface t (a.eval x)) (by unfold execOp; simp only [hop]) (run_makeInterface w t _ ?_) (by simp only [Rel]; exact ⟨_, rfl, hE x⟩)
      have hni' := kind_not_iface (t := t) (P := C.P) (by rw [← hk]; exact hni)
      unfold Program.concrete
      rw [hu]
      cases d <;> first | rfl | exact absurd hu (hni' _)
  | makeFunc f p q =>
    simp only [hop, Option.some.injEq, MA.pure.injEq] at h; subst h
    refine fin (s := Instr.makeFunc f (p.map a.eval) (q.map a.eval)) (v := .func f (p.map a.eval) (q.map a.eval)) (by unfold execOp; simp only [hop]) rfl ?_
    simp only [Rel]
    refine ⟨p.toList.map a.eval, q.toList.map a.eval, ?_, ev_relL hts _, ev_relL hts _⟩
    rw [show (p.toList.map a.eval).toArray = p.map a.eval from Array.ext' (by simp), show (q.toList.map a.eval).toArray = q.map a.eval from Array.ext' (by simp)]
  | slice t x lo hi mx =>
    simp only [hop] at h
    cases hT : C.ty t with
    | none => simp [hT] at h
    | some T =>
      obtain ⟨i, d, _, hu, hk, -⟩ := ty_info (hC _ _ hT)
      obtain ⟨kind, _, _, _, _, _⟩ := T
      simp only [hT] at h
      cases kind <;> try (simp at h; done)
      rename_i e
      dsimp only at h
      cases he : C.ty e with
      | none => simp [he] at h
      | some te =>
        simp only [he, Option.map_eq_some_iff, MA.pure.injEq] at h
        obtain ⟨z, hz, rfl⟩ := h
        obtain ⟨ie, de, hie, _, _, _, hsz, -⟩ := ty_info (hC _ _ he)
        rw [hsz] at hz
        obtain ⟨r, hr, hrel⟩ := sliceA_run (P := C.P) hE (kind_slice hk.symm) hie hz (hE x)
        exact fin (by unfold execOp; simp only [hop]) hr hrel
  | fieldAddr t x f =>
    simp only [hop] at h
    cases hT : C.ty t with
    | none => simp [hT] at h
    | some T =>
      have hT' := hC _ _ hT
      obtain ⟨kind, _, _, _, _, _⟩ := T
      simp only [hT] at h
      cases kind <;> try (simp at h; done)
      rename_i fs
      dsimp only at h
      cases hf : fs[f]? with
      | none => simp [hf] at h
      | some g =>
        obtain ⟨off, sz, ag⟩ := g
        simp only [hf] at h
        split at h
        · cases h
        · rename_i hz
          have hr := hE x
          cases hx : ev ts x <;> simp only [hx, reduceCtorEq, Option.some.injEq, MA.pure.injEq] at h
          · rename_i i s k j
            subst h
            rw [hx] at hr; simp only [Rel] at hr
            obtain ⟨b, hb, hv⟩ := hr
            refine fin (s := Instr.fieldAt t (a.eval x) f) (by unfold execOp; simp only [hop]) (by rw [hv]; exact fieldAddr_run hT' rfl hf hz _ _) ?_
            simp only [Rel]; exact ⟨b, hb, by rw [Nat.add_assoc]⟩
          · rename_i kd cs
            subst h
            rw [hx] at hr; simp only [Rel] at hr
            obtain ⟨b, o, hv, hl, hm⟩ := hr
            refine fin (s := Instr.fieldAt t (a.eval x) f) (by unfold execOp; simp only [hop]) (by rw [hv]; exact fieldAddr_run hT' rfl hf hz _ _) ?_
            simp only [Rel]; exact ⟨b, _, rfl, hl, MemL_drop off hm⟩
  | field t x f =>
    simp only [hop] at h
    cases hT : C.ty t with
    | none => simp [hT] at h
    | some T =>
      have hT' := hC _ _ hT
      obtain ⟨kind, _, _, _, _, _⟩ := T
      have hr := hE x
      cases hx : ev ts x <;> simp only [hT, hx] at h
      all_goals (cases kind <;> try (simp at h; done))
      rename_i cs fs
      dsimp only at h
      rw [hx] at hr; simp only [Rel] at hr
      obtain ⟨vs, hv, hr⟩ := hr
      cases hf : fs[f]? with
      | none => simp [hf] at h
      | some g =>
        obtain ⟨off, sz, ag⟩ := g
        obtain ⟨gs, g, ig, dg, hu, hg, rfl, rfl, hag, hig, hdg⟩ := field_run hT' rfl hf
        simp only [hf] at h
        have run : ∀ v, (part g.type vs.toArray g.offset).run C.P w = .ok v w → (Instr.field t (a.eval x) f).run C.P w = .ok v w := by
          intro v e
          rw [hv]
          simp [Instr.field, Sem.run_bind, run_underlying hu, hg, asAgg, e]
        cases ag with
        | true =>
          simp only at h
          split at h
          · rename_i hle
            simp only [Option.some.injEq, MA.pure.injEq] at h; subst h
            refine fin (s := Instr.field t (a.eval x) f) (by unfold execOp; simp only [hop]) (run _ (part_run hag ⟨_, hig⟩ _ _)) ?_
            simp only [Rel]
            refine ⟨(vs.drop g.offset).take (C.P.cellsOf g.type), ?_, RelL_take _ (RelL_drop _ hr)⟩
            congr 1
            apply Array.ext'
            simp [List.extract_eq_take_drop]
          · cases h
        | false =>
          simp only [Option.map_eq_some_iff, MA.pure.injEq] at h
          obtain ⟨z, hz, rfl⟩ := h
          obtain ⟨v, hv', hrel⟩ := RelL_get hr hz
          exact fin (s := Instr.field t (a.eval x) f) (by unfold execOp; simp only [hop]) (run _ (part_run1 hdg hag _ _ (by simpa using hv'))) hrel
  | indexAddr t x ix =>
    simp only [hop] at h
    cases hT : C.ty t with
    | none => simp [hT] at h
    | some T =>
      obtain ⟨i, d, _, hu, hk, -⟩ := ty_info (hC _ _ hT)
      obtain ⟨kind, _, _, _, _, _⟩ := T
      have hri := hE ix
      cases hix : ev ts ix <;> simp only [hT, hix] at h
      all_goals (cases kind <;> try (simp at h; done))
      · rename_i kk n e
        rw [hix] at hri
        have hiv := rel_int rfl hri
        dsimp only at h
        cases he : C.ty e with
        | none => simp [he] at h
        | some te =>
          obtain ⟨ie, de, hie, _, _, _, hsz, -⟩ := ty_info (hC _ _ he)
          have hr := hE x
          cases hx : ev ts x <;> simp only [he, hx, reduceCtorEq] at h
          · rename_i kd c0 s es
            split at h
            · rename_i hn
              split at h
              · rename_i cs hcs
                simp only [Option.some.injEq, MA.pure.injEq] at h; subst h
                rw [hx] at hr; simp only [Rel] at hr
                obtain ⟨b, o', cap, hv, hcap, _, hl, hm⟩ := hr.resolve_left (by rintro ⟨rfl, _⟩; simp at hcs)
                obtain ⟨_, hm2⟩ := MemE_get hm hcs
                have hlt : n.toNat < es.length := (List.getElem?_eq_some_iff.1 hcs).1
                refine fin (s := Instr.indexAt t (a.eval x) (a.eval ix)) (v := .pointer (some ⟨b, o' + n.toNat * s, none⟩)) (by unfold execOp; simp only [hop]) ?_ ?_
                · have h2 : n < (es.length : Int) := by omega
                  rw [hv, hiv]
                  simp [Instr.indexAt, Sem.run_bind, asIntOf, run_underlying (kind_slice hk.symm), hn.1, h2, run_sizeOf hie, add_none, ← hsz, hn.2]
                · simp only [Rel]
                  exact ⟨b, _, rfl, hl (by rintro rfl; simp at hlt), hm2⟩
              · cases h
            · cases h
          · rename_i i' s lo m cap
            split at h
            · rename_i hn
              simp only [Option.some.injEq, MA.pure.injEq] at h; subst h
              rw [hx] at hr; simp only [Rel] at hr
              obtain ⟨b, o', c', hφ, hv, hcap, ho, _⟩ := hr
              refine fin (s := Instr.indexAt t (a.eval x) (a.eval ix)) (v := .pointer (some ⟨b, o' + n.toNat * s, none⟩)) (by unfold execOp; simp only [hop]) ?_ ?_
              · rw [hv, hiv]
                simp [Instr.indexAt, Sem.run_bind, asIntOf, run_underlying (kind_slice hk.symm), hn.1, hn.2.1, run_sizeOf hie, add_none, ← hsz, hn.2.2]
              · simp only [Rel]
                refine ⟨b, hφ, ?_⟩
                rw [ho (by omega), Nat.add_mul]; rfl
            · cases h
      · rename_i kk n m es ea
        rw [hix] at hri
        have hiv := rel_int rfl hri
        obtain ⟨e, hue, rfl, _, hve⟩ := kind_array hk.symm
        obtain ⟨ie, de, hie, _⟩ := valid_parts hve
        have hsz : C.P.cellsOf e = ie.size := by simp [Program.cellsOf, hie]
        dsimp only at h
        split at h
        · rename_i hn
          have hr := hE x
          have run : ∀ b o', a.eval x = .pointer (some ⟨b, o', none⟩) → (Instr.indexAt t (a.eval x) (a.eval ix)).run C.P w = .ok (.pointer (some ⟨b, o' + n.toNat * C.P.cellsOf e, none⟩)) w := by
            intro b o' hv
            rw [hv, hiv]
            simp [Instr.indexAt, Sem.run_bind, asIntOf, run_underlying hue, hn.1, hn.2, run_sizeOf hie, add_none, hsz, Instr.sureAddr]
          cases hx : ev ts x <;> simp only [hx, reduceCtorEq, Option.some.injEq, MA.pure.injEq] at h
          · subst h
            rw [hx] at hr; simp only [Rel] at hr
            obtain ⟨b, hφ, hv⟩ := hr
            exact fin (s := Instr.indexAt t (a.eval x) (a.eval ix)) (by unfold execOp; simp only [hop]) (run _ _ hv) (by simp only [Rel]; exact ⟨b, hφ, by rw [Nat.add_assoc]⟩)
          · subst h
            rw [hx] at hr; simp only [Rel] at hr
            obtain ⟨b, o', hv, hl, hm⟩ := hr
            exact fin (s := Instr.indexAt t (a.eval x) (a.eval ix)) (by unfold execOp; simp only [hop]) (run _ _ hv) (by simp only [Rel]; exact ⟨b, _, rfl, hl, MemL_drop _ hm⟩)
        · cases h
  | index t x ix =>
    simp only [hop] at h
    cases hT : C.ty t with
    | none => simp [hT] at h
    | some T =>
      obtain ⟨i, d, _, hu, hk, -⟩ := ty_info (hC _ _ hT)
      obtain ⟨kind, _, _, _, _, _⟩ := T
      have hr := hE x
      have hri := hE ix
      cases hx : ev ts x <;> simp only [hT, hx] at h
      all_goals (cases kind <;> try (simp at h; done))
      rename_i cs m es ea
      cases hix : ev ts ix <;> simp only [hix, reduceCtorEq] at h
      rename_i kk n
      rw [hix] at hri; rw [hx] at hr
      have hiv := rel_int rfl hri
      simp only [Rel] at hr
      obtain ⟨vs, hv, hr⟩ := hr
      obtain ⟨e, hue, rfl, rfl, hve⟩ := kind_array hk.symm
      obtain ⟨ie, de, hie, hde⟩ := valid_parts hve
      have hsz : C.P.cellsOf e = ie.size := by simp [Program.cellsOf, hie]
      split at h
      · rename_i hn
        have run : ∀ v, (part e vs.toArray (n.toNat * C.P.cellsOf e)).run C.P w = .ok v w → (Instr.index t (a.eval x) (a.eval ix)).run C.P w = .ok v w := by
          intro v hp
          rw [hv, hiv]
          rw [hsz] at hp
          simp [Instr.index, Sem.run_bind, asIntOf, run_underlying hue, hn.1, hn.2, run_sizeOf hie, hp]
        cases hag : tyAgg C.P e with
        | true =>
          simp only [hag, if_true] at h
          split at h
          · simp only [Option.some.injEq, MA.pure.injEq] at h; subst h
            refine fin (s := Instr.index t (a.eval x) (a.eval ix)) (by unfold execOp; simp only [hop]) (run _ (part_run hag ⟨_, hie⟩ _ _)) ?_
            simp only [Rel]
            refine ⟨(vs.drop (n.toNat * C.P.cellsOf e)).take (C.P.cellsOf e), ?_, RelL_take _ (RelL_drop _ hr)⟩
            congr 1
            apply Array.ext'
            simp [List.extract_eq_take_drop]
          · cases h
        | false =>
          simp only [hag, Bool.false_eq_true, if_false, Option.map_eq_some_iff, MA.pure.injEq] at h
          obtain ⟨z, hz, rfl⟩ := h
          obtain ⟨v, hv', hrel⟩ := RelL_get hr hz
          exact fin (s := Instr.index t (a.eval x) (a.eval ix)) (by unfold execOp; simp only [hop]) (run _ (part_run1 hde hag _ _ (by simpa using hv'))) hrel
      · cases h
  | extract x i =>
    simp only [hop] at h
    have hr := hE x
    cases hx : ev ts x <;> simp only [hx, reduceCtorEq, Option.map_eq_some_iff, MA.pure.injEq] at h
    rename_i vs
    obtain ⟨z, hz, rfl⟩ := h
    rw [hx] at hr; simp only [Rel] at hr
    obtain ⟨us, hv, hr⟩ := hr
    obtain ⟨v, hv', hrel⟩ := RelL_get hr hz
    exact fin (s := Instr.extract (a.eval x) i) (v := v) (by unfold execOp; simp only [hop]) (by rw [hv]; simp [Instr.extract, hv']) hrel
  | load t x =>
    simp only [hop] at h
    cases hT : C.ty t with
    | none => simp [hT] at h
    | some T =>
      obtain ⟨i, d, hi, hu, hk, hag, hsz, -⟩ := ty_info (hC _ _ hT)
      have hr := hE x
      cases hx : ev ts x <;> simp only [hT, hx, reduceCtorEq, Option.some.injEq] at h
      rename_i kd cs
      rw [hx] at hr; simp only [Rel] at hr
      obtain ⟨b, o', hv, hl, hm⟩ := hr
      split at h
      · rename_i hagg
        split at h
        · rename_i hle
          simp only [Option.some.injEq, MA.pure.injEq] at h; subst h
          obtain ⟨vs, hvs, _, hcells⟩ := MemL_vals (MemL_take T.size hm)
          have hlen : vs.length = T.size := by rw [← RelL_length hvs]; simp; omega
          refine fin (s := Instr.loadAt t (a.eval x)) (v := .agg vs.toArray) (by unfold execOp; simp only [hop]) ?_ (by simp only [Rel]; exact ⟨vs, rfl, RelL_inner hvs⟩)
          have hload := run_loadCells_list (P := C.P) w ⟨b, o', none⟩ vs (fun j v hj => by rw [add_none]; exact hcells j v hj)
          rw [hv]
          rw [hlen, hsz] at hload
          simp [Instr.loadAt, Instr.sureAddr, loadVar, Sem.run_bind, run_isAgg hu, ← hag, hagg, run_sizeOf hi, hload]
        · cases h
      · rename_i hagg
        simp only [Option.map_eq_some_iff, MA.pure.injEq] at h
        obtain ⟨z, hz, rfl⟩ := h
        obtain ⟨v, hc, _, hrel⟩ := MemL_get (i := 0) hm (by rw [← List.head?_eq_getElem?]; exact hz)
        refine fin (s := Instr.loadAt t (a.eval x)) (v := v) (by unfold execOp; simp only [hop]) ?_ (Rel_inner hrel)
        rw [hv]
        have : tyAgg C.P t = false := by rw [← hag]; simpa using hagg
        simp only [Nat.add_zero] at hc
        simp [Instr.loadAt, Instr.sureAddr, loadVar, Sem.run_bind, run_isAgg hu, this, run_load, hc]
  | call cl =>
    simp only [hop] at h
    split at h
    · rename_i b hb
      obtain ⟨consts, he⟩ := run_builtin (P := C.P) (w := w) (a := a) hop hb
      obtain ⟨v, hv, hrel⟩ := planB_pure hC hE h o.type consts
      exact ⟨v, .inl (by rw [he]; exact hv), hrel⟩
    · split at h <;> simp at h
    · cases h
  | _ => simp only [hop] at h; first | (cases h; done) | (repeat (split at h <;> try (simp at h; done)))
end
end Go.Lite
