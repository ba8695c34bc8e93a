import Derived.Test.YtlofnkkokcihnaaLiteState
namespace Go.Lite

/-! ### Types -/
section
variable {P : Program} {t : TypeId} {T : Ty}
theorem ty_info (h : tyOf P t = some T) : ∃ i d, P.info? t = some i ∧ P.underlying t = some d ∧ T.kind = tyKind P t ∧ T.agg = tyAgg P t ∧ T.size = i.size ∧ T.bytes = i.bytes ∧
    T.zero = i.zero.map (fun v => v.cells.toList.map avOf1) ∧ T.eqOk = tyEqOk P t := by
  unfold tyOf at h
  split at h
  · rename_i i d hi hd
    cases h
    exact ⟨i, d, hi, hd, rfl, rfl, rfl, rfl, rfl, rfl⟩
  · cases h
theorem kind_int {k : IntKind} (h : tyKind P t = .int k) : P.underlying t = some (.int k) := by
  unfold tyKind at h; repeat (split at h <;> try (first | (cases h; assumption) | (cases h; done)))
theorem kind_bool (h : tyKind P t = .bool) : P.underlying t = some .bool := by
  unfold tyKind at h; repeat (split at h <;> try (first | assumption | (cases h; done)))
theorem kind_slice {e : TypeId} (h : tyKind P t = .slice e) : P.underlying t = some (.slice e) := by
  unfold tyKind at h; repeat (split at h <;> try (first | (cases h; assumption) | (cases h; done)))
theorem kind_ptr {e : TypeId} (h : tyKind P t = .ptr e) : P.underlying t = some (.pointer e) := by
  unfold tyKind at h; repeat (split at h <;> try (first | (cases h; assumption) | (cases h; done)))
theorem kind_struct {fs : List (Nat × Nat × Bool)} (h : tyKind P t = .struct fs) :
    ∃ gs, P.underlying t = some (.struct gs) ∧ (fs = gs.toList.map fun f => (f.offset, P.cellsOf f.type, tyAgg P f.type)) ∧ gs.toList.all (fun f => tyValid P f.type) = true := by
  unfold tyKind at h; repeat (split at h <;> try (first | (cases h; exact ⟨_, ‹_›, rfl, ‹_›⟩) | (cases h; done)))
theorem kind_array {n es : Nat} {ea : Bool} (h : tyKind P t = .array n es ea) : ∃ e, P.underlying t = some (.array n e) ∧ es = P.cellsOf e ∧ ea = tyAgg P e ∧ tyValid P e = true := by
  unfold tyKind at h; repeat (split at h <;> try (first | (cases h; exact ⟨_, ‹_›, rfl, rfl, ‹_›⟩) | (cases h; done)))
theorem kind_iface (h : tyKind P t = .iface) : ∃ ms, P.underlying t = some (.interface ms) := by
  unfold tyKind at h; repeat (split at h <;> try (first | (cases h; exact ⟨_, ‹_›⟩) | (exact ⟨_, ‹_›⟩) | (cases h; done)))
theorem valid_parts (h : tyValid P t = true) : ∃ i d, P.info? t = some i ∧ P.underlying t = some d := by
  unfold tyValid at h
  simp only [Bool.and_eq_true, Option.isSome_iff_exists] at h
  obtain ⟨⟨i, hi⟩, ⟨d, hd⟩⟩ := h
  exact ⟨i, d, hi, hd⟩
theorem kind_not_iface (h : tyKind P t ≠ .iface) : ∀ ms, P.underlying t ≠ some (.interface ms) := by
  intro ms e; apply h; simp [tyKind, e]
end

/-! ### What is carried out at once -/
def Runs (P : Program) (o : Oper) (a : Act) (w : World) (v : Value) (w' : World) : Prop :=
  (execOp a.eval o).run P w = .ok (.value v) w' ∨ ((execOp a.eval o).run P w = .ok .skip w' ∧ v = undef)

theorem Runs.wp {F : Fence} {n : Nat} {P : Program} {o : Oper} {a : Act} {w w' : World} {v : Value} {K : Act → World → Prop} {Q : Exit → Act → World → Prop}
    (h : Runs P o a w v w') (hF : ∀ f, F.fn f) (hK : K (a.put o.dst v) w') : o.wpIn F n P a w K Q := by
  have hd : ∀ c, o.op ≠ .defer c := by
    intro c hc
    unfold Runs execOp at h
    simp only [hc, Sem.run_bind] at h
    rcases h with h | ⟨h, _⟩ <;> (cases e : (resolve a.eval c o.type).run P w <;> simp [e, Result.andThen] at h)
  refine ⟨fun f _ => hF f, ?_⟩
  rw [Oper.semAt_eq _ _ _ hd]
  rcases h with h | ⟨h, rfl⟩
  · rw [h]; exact hK
  · rw [h]; exact hK

section
variable {P : Program} {w : World} {G : Nat → Prop} {ν : Names} {J : Nat → Prop}

theorem rel_int {c : AV} {k : IntKind} {n : Int} {v : Value} (hc : c = .int k n) (h : Rel w G c ν J v) : v = .int k n := by subst hc; simpa only [Rel] using h
theorem rel_bool {c : AV} {b : Bool} {v : Value} (hc : c = .bool b) (h : Rel w G c ν J v) : v = .bool b := by subst hc; simpa only [Rel] using h

theorem mk_int {k : IntKind} {n : Int} : Rel w G (.int k n) ν J (.int k n) := by simp only [Rel]
theorem mk_bool {b : Bool} : Rel w G (.bool b) ν J (.bool b) := by simp only [Rel]

theorem binInt_run {op : BinOp} {k : IntKind} {a b : Int} {z : AV} (h : binInt op k a b = some z) (t : TypeId) (xo yo : Operand) :
    ∃ r, (do eqGuard op t xo yo (.int k a) (.int k b); binOp op t (.int k a) (.int k b) : Sem Value).run P w = .ok r w ∧ Rel w G z ν J r := by
  cases op <;> simp only [binInt, Option.some.injEq] at h
  case quo =>
    split at h
    · cases h
    · rename_i hb; cases h
      exact ⟨_, by simp [eqGuard, binOp, Op.intDiv, hb], mk_int⟩
  case rem =>
    split at h
    · cases h
    · rename_i hb; cases h
      exact ⟨_, by simp [eqGuard, binOp, Op.intDiv, hb], mk_int⟩
  case shl => cases h
  case shr => cases h
  case andNot => cases h
  all_goals (subst h; first | exact ⟨_, by simp [eqGuard, binOp, Op.intArith, Op.intBits, Op.intCmp], mk_int⟩ | exact ⟨_, by simp [eqGuard, binOp, Op.intCmp], mk_bool⟩)

theorem shift_run {op : BinOp} {k yk : IntKind} {a b : Int} (hb : ¬ b < 0) (t : TypeId) (xo yo : Operand) (ho : op = .shl ∨ op = .shr) :
    (do eqGuard op t xo yo (.int k a) (.int yk b); binOp op t (.int k a) (.int yk b) : Sem Value).run P w =
      .ok (.int k (if op = .shl then k.wrap (a * 2 ^ (min b.toNat k.bits)) else a.fdiv (2 ^ (min b.toNat k.bits)))) w := by
  rcases ho with rfl | rfl <;> simp [eqGuard, binOp, Op.shift, hb]
end
section
variable {P : Program} {w : World} {G : Nat → Prop} {ν : Names} {J : Nat → Prop}

theorem run_isAgg {t : TypeId} {d : TypeDesc} (h : P.underlying t = some d) : (isAgg t).run P w = .ok (tyAgg P t) w := by
  unfold isAgg tyAgg
  simp only [Sem.run_bind, run_underlying h, Result.andThen_ok, h]
  cases d <;> rfl

theorem eqFields_run (d : Nat) (vx vy : Array Value) : ∀ (fs : List Field) (i : Nat) (ks : List Bool) (xs ys : List AV) (r : Bool), plainFields P fs i = some ks →
    RelL w G xs ν J (vx.toList.drop i) → RelL w G ys ν J (vy.toList.drop i) → eqCells ks xs ys = some r →
    (Op.eqFields (d + 1) vx vy fs).run P w = .ok r w
  | [], i, ks, xs, ys, r, hp, _, _, he => by
    simp only [plainFields, Option.some.injEq] at hp
    subst hp
    cases xs <;> cases ys <;> simp only [eqCells, reduceCtorEq, Option.some.injEq] at he
    subst he; simp [Op.eqFields]
  | f :: fs, i, ks, xs, ys, r, hp, hx, hy, he => by
    simp only [plainFields] at hp
    split at hp
    case isFalse => cases hp
    rename_i hc
    simp only [Bool.and_eq_true, bne_iff_ne, ne_eq, beq_iff_eq] at hc
    obtain ⟨hn, ho⟩ := hc
    have key : ∀ (q : Bool) (k : List Bool) (x y : AV) (xs' ys' : List AV) (r' : Bool) (dd : TypeDesc), P.underlying f.type = some dd → tyAgg P f.type = false → plainFields P fs (i + 1) = some k →
        xs = x :: xs' → ys = y :: ys' → eqCells k xs' ys' = some r' →
        (∀ u v, Rel w G x ν J u → Rel w G y ν J v → (Op.equalIn (d + 1) f.type u v).run P w = .ok q w) →
        (Op.eqFields (d + 1) vx vy (f :: fs)).run P w = .ok (q && r') w := by
      rintro q k x y xs' ys' r' dd hdd hagg hpk rfl rfl hek hq
      simp only [RelL] at hx hy
      obtain ⟨u, us, eu, hxu, hxs⟩ := hx
      obtain ⟨v, vs, ev, hyv, hys⟩ := hy
      have du : vx[i]? = some u := by
        have := congrArg (·[0]?) eu
        simpa [List.getElem?_drop] using this
      have dv : vy[i]? = some v := by
        have := congrArg (·[0]?) ev
        simpa [List.getElem?_drop] using this
      have eu' : vx.toList.drop (i + 1) = us := by rw [← List.drop_drop, eu]; rfl
      have ev' : vy.toList.drop (i + 1) = vs := by rw [← List.drop_drop, ev]; rfl
      have pa : ∀ (vz : Array Value) (z : Value), vz[i]? = some z → (part f.type vz f.offset).run P w = .ok z w := by
        intro vz z hz
        unfold part
        rw [ho]
        simp only [Sem.run_bind, run_isAgg hdd, Result.andThen_ok, hagg, Bool.false_eq_true, if_false, hz]
        rfl
      have ih := eqFields_run d vx vy fs (i + 1) k xs' ys' r' hpk (by rw [eu']; exact hxs) (by rw [ev']; exact hys) hek
      simp only [Op.eqFields, hn, not_false_eq_true, ne_eq, if_true, Sem.run_bind, pa vx u du, pa vy v dv, Result.andThen_ok, hq u v hxu hyv]
      cases q
      · simp
      · simpa using ih
    split at hp
    · rename_i kk e
      cases hpk : plainFields P fs (i + 1) with
      | none => rw [hpk] at hp; cases hp
      | some k =>
        rw [hpk] at hp; simp at hp; subst hp
        cases xs with
        | nil => simp [eqCells] at he
        | cons x xs =>
          cases ys with
          | nil => cases x <;> simp [eqCells] at he
          | cons y ys =>
            cases x <;> cases y <;> simp only [eqCells, reduceCtorEq] at he
            rename_i k1 a k2 b
            split at he
            · rename_i hk; subst hk
              cases hr : eqCells k xs ys with
              | none => rw [hr] at he; simp at he
              | some r' =>
                rw [hr] at he; simp at he; subst he
                exact key (a == b) k _ _ xs ys r' _ e (by simp [tyAgg, e]) hpk rfl rfl hr (fun u v hu hv => by
                  rw [rel_int rfl hu, rel_int rfl hv]; exact run_equalIn_int w d f.type _ kk a b e)
            · cases he
    · rename_i e
      cases hpk : plainFields P fs (i + 1) with
      | none => rw [hpk] at hp; cases hp
      | some k =>
        rw [hpk] at hp; simp at hp; subst hp
        cases xs with
        | nil => simp [eqCells] at he
        | cons x xs =>
          cases ys with
          | nil => cases x <;> simp [eqCells] at he
          | cons y ys =>
            cases x <;> cases y <;> simp only [eqCells, reduceCtorEq] at he
            rename_i a b
            cases hr : eqCells k xs ys with
            | none => rw [hr] at he; simp at he
            | some r' =>
              rw [hr] at he; simp at he; subst he
              exact key (a == b) k _ _ xs ys r' _ e (by simp [tyAgg, e]) hpk rfl rfl hr (fun u v hu hv => by
                rw [rel_bool rfl hu, rel_bool rfl hv]; exact run_equalIn_bool' w d f.type a b e)
    · cases hp

def ptrish : AV → Bool
  | .ptr _ _ _ _ => true
  | .eptr _ _ => true
  | _ => false
theorem rel_ptrish {c : AV} {v : Value} (hc : ptrish c = true) (h : Rel w G c ν J v) : ∃ a, v = .pointer (some a) := by
  cases c <;> simp only [ptrish, Bool.false_eq_true] at hc
  case ptr => simp only [Rel] at h; obtain ⟨b, _, rfl⟩ := h; exact ⟨_, rfl⟩
  case eptr kd cs => (simp only [Rel] at h; obtain ⟨b, o, rfl, _⟩ := h; exact ⟨_, rfl⟩)
def slish : AV → Bool
  | .ro _ _ _ (_ :: _) => true
  | .sl _ _ _ _ _ => true
  | _ => false
theorem rel_slish {c : AV} {v : Value} (hc : slish c = true) (h : Rel w G c ν J v) : ∃ a n m, v = .slice (some a) n m := by
  cases c <;> simp only [slish, Bool.false_eq_true] at hc
  case sl => simp only [Rel] at h; obtain ⟨b, o, c, _, rfl, _⟩ := h; exact ⟨_, _, _, rfl⟩
  case ro kd c0 s es => (cases es with | nil => cases hc | cons e es => simp only [Rel] at h; rcases h with ⟨h, _⟩ | ⟨b, o, cap, rfl, _⟩ <;> first | (cases h; done) | exact ⟨_, _, _, rfl⟩)

theorem eqNilP {t e : TypeId} (hb : P.underlying t = some (.pointer e)) (p q : Option Addr) (h : p = none ∨ q = none) (xo yo : Operand) (op : BinOp) :
    (eqGuard op t xo yo (.pointer p) (.pointer q)).run P w = .ok () w ∧ (Op.equal t (.pointer p) (.pointer q)).run P w = .ok (p.isNone && q.isNone) w ∧ (∀ k n, Value.pointer p ≠ .int k n) ∧ (∀ a b, Value.pointer p ≠ .float a b) ∧ (∀ a b c, Value.pointer p ≠ .complex a b c) ∧ (∀ a, Value.pointer p ≠ .string a) := by
  have key : ∀ d, (Op.equalIn (d + 1) t (.pointer p) (.pointer q)).run P w = .ok (p.isNone && q.isNone) w := by
    intro d
    cases p <;> cases q <;> first | (rcases h with h | h <;> cases h; done) | (simp [Op.equalIn, run_underlying hb]; done)
  exact ⟨by cases op <;> simp [eqGuard], key 9999, by simp, by simp, by simp, by simp⟩
theorem eqNilS {t e : TypeId} (hb : P.underlying t = some (.slice e)) (p q : Option Addr) (n m n' m' : Nat) (h : p = none ∨ q = none) (xo yo : Operand) (op : BinOp) :
    (eqGuard op t xo yo (.slice p n m) (.slice q n' m')).run P w = .ok () w ∧ (Op.equal t (.slice p n m) (.slice q n' m')).run P w = .ok (p.isNone && q.isNone) w ∧ (∀ k i, Value.slice p n m ≠ .int k i) ∧ (∀ a b, Value.slice p n m ≠ .float a b) ∧ (∀ a b c, Value.slice p n m ≠ .complex a b c) ∧ (∀ a, Value.slice p n m ≠ .string a) := by
  have key : ∀ d, (Op.equalIn (d + 1) t (.slice p n m) (.slice q n' m')).run P w = .ok (p.isNone && q.isNone) w := by
    intro d
    cases p <;> cases q <;> first | (rcases h with h | h <;> cases h; done) | (simp [Op.equalIn, run_underlying hb]; done)
  exact ⟨by cases op <;> simp [eqGuard], key 9999, by simp, by simp, by simp, by simp⟩
theorem run_equalIn_iface {t : TypeId} {ms : Array (String × TypeId)} (hb : P.underlying t = some (.interface ms)) (d : Nat) (v u : Value) (i : TypeId × Value) (h : (v = .nilIface ∧ u = .iface i.1 i.2) ∨ (u = .nilIface ∧ v = .iface i.1 i.2)) :
    (Op.equalIn (d + 1) t v u).run P w = .ok false w := by
  rcases h with ⟨rfl, rfl⟩ | ⟨rfl, rfl⟩ <;> simp [Op.equalIn, run_underlying hb]

theorem eqA_run {t : TypeId} {T : Option Ty} {x y : AV} {v u : Value} {r : Bool} (hT : ∀ T', T = some T' → tyOf P t = some T') (h : eqA T x y = some r) (hx : Rel w G x ν J v) (hy : Rel w G y ν J u) (xo yo : Operand) (op : BinOp) :
    (eqGuard op t xo yo v u).run P w = .ok () w ∧ (Op.equal t v u).run P w = .ok r w ∧ (∀ k n, v ≠ .int k n) ∧ (∀ a b, v ≠ .float a b) ∧ (∀ a b c, v ≠ .complex a b c) ∧ (∀ a, v ≠ .string a) := by
  unfold eqA at h
  split at h
  · -- bools
    rename_i a b
    split at h
    · rename_i T' _ _ _ _ _
      cases h
      obtain ⟨i, d, _, _, hk, _⟩ := ty_info (hT _ rfl)
      have hb := kind_bool hk.symm
      rw [rel_bool rfl hx, rel_bool rfl hy]
      refine ⟨by cases op <;> simp [eqGuard], run_equalIn_bool' w 9999 t a b hb, by simp, by simp, by simp, by simp⟩
    · cases h
  · -- structs
    rename_i xs ys
    split at h
    · rename_i T' _ _ _ _ _ ks
      obtain ⟨i, d, _, hu, _, _, _, _, _, he⟩ := ty_info (hT _ rfl)
      simp only [Rel] at hx hy
      obtain ⟨vx, rfl, hx⟩ := hx
      obtain ⟨vy, rfl, hy⟩ := hy
      unfold tyEqOk at he
      simp only at he
      split at he
      · rename_i fs hfs
        split at he
        · rename_i hc
          simp only [Bool.and_eq_true, Bool.not_eq_true'] at hc
          have hf : P.fieldsOf t = fs := by simp [Program.fieldsOf, hfs]
          refine ⟨run_eqGuard_agg w op t xo yo _ _ hc.2, ?_, by simp, by simp, by simp, by simp⟩
          have := run_equalIn_struct (P := P) w 9999 t vx.toArray vy.toArray (by rw [hf]; exact hfs) hc.1
          rw [hf] at this
          show (Op.equalIn 10000 t _ _).run P w = _
          rw [this]
          exact eqFields_run 9998 _ _ fs.toList 0 ks xs ys r he.symm (by simpa using hx) (by simpa using hy) h
        · cases he
      · cases he
    · cases h
  · split at h <;> first | (cases h; done) | (cases h; obtain ⟨i, d, _, _, hk, _⟩ := ty_info (hT _ rfl))
    · simp only [Rel] at hx hy; subst hx; subst hy; exact eqNilP (kind_ptr hk.symm) none none (.inl rfl) xo yo op
    · simp only [Rel] at hx; subst hx; obtain ⟨b, rfl⟩ := rel_ptrish rfl hy; exact eqNilP (kind_ptr hk.symm) none (some b) (.inl rfl) xo yo op
    · simp only [Rel] at hx; subst hx; obtain ⟨b, rfl⟩ := rel_ptrish rfl hy; exact eqNilP (kind_ptr hk.symm) none (some b) (.inl rfl) xo yo op
    · simp only [Rel] at hy; subst hy; obtain ⟨b, rfl⟩ := rel_ptrish rfl hx; exact eqNilP (kind_ptr hk.symm) (some b) none (.inr rfl) xo yo op
    · simp only [Rel] at hy; subst hy; obtain ⟨b, rfl⟩ := rel_ptrish rfl hx; exact eqNilP (kind_ptr hk.symm) (some b) none (.inr rfl) xo yo op
    · simp only [Rel] at hx hy; subst hx; subst hy; exact eqNilS (kind_slice hk.symm) none none 0 0 0 0 (.inl rfl) xo yo op
    · simp only [Rel] at hx; subst hx; obtain ⟨b, n, m, rfl⟩ := rel_slish rfl hy; exact eqNilS (kind_slice hk.symm) none (some b) 0 0 n m (.inl rfl) xo yo op
    · simp only [Rel] at hx; subst hx; obtain ⟨b, n, m, rfl⟩ := rel_slish rfl hy; exact eqNilS (kind_slice hk.symm) none (some b) 0 0 n m (.inl rfl) xo yo op
    · simp only [Rel] at hy; subst hy; obtain ⟨b, n, m, rfl⟩ := rel_slish rfl hx; exact eqNilS (kind_slice hk.symm) (some b) none n m 0 0 (.inr rfl) xo yo op
    · simp only [Rel] at hy; subst hy; obtain ⟨b, n, m, rfl⟩ := rel_slish rfl hx; exact eqNilS (kind_slice hk.symm) (some b) none n m 0 0 (.inr rfl) xo yo op
    · obtain ⟨ms, hb⟩ := kind_iface hk.symm
      simp only [Rel] at hx hy; subst hx; obtain ⟨b, rfl, _⟩ := hy
      exact ⟨by cases op <;> simp [eqGuard], run_equalIn_iface hb 9999 _ _ (_, _) (.inl ⟨rfl, rfl⟩), by simp, by simp, by simp, by simp⟩
    · obtain ⟨ms, hb⟩ := kind_iface hk.symm
      simp only [Rel] at hx hy; subst hy; obtain ⟨b, rfl, _⟩ := hx
      exact ⟨by cases op <;> simp [eqGuard], run_equalIn_iface hb 9999 _ _ (_, _) (.inr ⟨rfl, rfl⟩), by simp, by simp, by simp, by simp⟩

theorem binA_run {t : TypeId} {T : Option Ty} {op : BinOp} {x y z : AV} {v u : Value} (hT : ∀ T', T = some T' → tyOf P t = some T') (h : binA T op x y = some z) (hx : Rel w G x ν J v) (hy : Rel w G y ν J u) (xo yo : Operand) :
    ∃ r, (do eqGuard op t xo yo v u; binOp op t v u : Sem Value).run P w = .ok r w ∧ Rel w G z ν J r := by
  unfold binA at h
  split at h
  · rename_i k a yk b
    rw [rel_int rfl hx, rel_int rfl hy]
    split at h
    · cases h
    · rename_i hb; cases h
      exact ⟨_, shift_run hb t xo yo (.inl rfl), by simpa using mk_int⟩
  · rename_i k a yk b
    rw [rel_int rfl hx, rel_int rfl hy]
    split at h
    · cases h
    · rename_i hb; cases h
      exact ⟨_, shift_run hb t xo yo (.inr rfl), by simpa using mk_int⟩
  · rename_i k a k' b _ _
    split at h
    · rename_i hk; subst hk
      rw [rel_int rfl hx, rel_int rfl hy]
      exact binInt_run h t xo yo
    · cases h
  · cases e : eqA T x y with
    | none => rw [e] at h; cases h
    | some r =>
      rw [e] at h; cases h
      obtain ⟨h1, h2, h3, h4, h5, h6⟩ := eqA_run hT e hx hy xo yo .eql
      refine ⟨.bool r, ?_, mk_bool⟩
      simp only [Sem.run_bind, h1, Result.andThen_ok]
      have : binOp .eql t v u = (do pure (.bool (← Op.equal t v u))) := by
        cases v <;> first | rfl | exact absurd rfl (h3 _ _) | exact absurd rfl (h4 _ _) | exact absurd rfl (h5 _ _ _) | exact absurd rfl (h6 _)
      rw [this]
      simp only [Sem.run_bind, h2, Result.andThen_ok]; rfl
  · cases e : eqA T x y with
    | none => rw [e] at h; cases h
    | some r =>
      rw [e] at h; cases h
      obtain ⟨h1, h2, h3, h4, h5, h6⟩ := eqA_run hT e hx hy xo yo .neq
      refine ⟨.bool !r, ?_, mk_bool⟩
      simp only [Sem.run_bind, h1, Result.andThen_ok]
      have : binOp .neq t v u = (do pure (.bool (!(← Op.equal t v u)))) := by
        cases v <;> first | rfl | exact absurd rfl (h3 _ _) | exact absurd rfl (h4 _ _) | exact absurd rfl (h5 _ _ _) | exact absurd rfl (h6 _)
      rw [this]
      simp only [Sem.run_bind, h2, Result.andThen_ok]; rfl
  · cases h
end
end Go.Lite
