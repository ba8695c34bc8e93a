/-
  Small words for what symbolic trees say.
-/
import Derived.Test.YtlofnkkokcihnaaSymShape
namespace Go.Lite
/-- The integer in a cell. -/
def ix (c : List D) (j : Nat) : Int := (c.getD j default).I
def bx (c : List D) (j : Nat) : Bool := (c.getD j default).B
def lx (c : List D) (j : Nat) : List (List D) := (c.getD j default).L
theorem ix_def (c : List D) (j : Nat) : (c.getD j default).I = ix c j := rfl
theorem bx_def (c : List D) (j : Nat) : (c.getD j default).B = bx c j := rfl
theorem lx_def (c : List D) (j : Nat) : (c.getD j default).L = lx c j := rfl

theorem wrap_id {x : Int} (h1 : -9223372036854775808 ≤ x) (h2 : x < 9223372036854775808) : IntKind.wrap .i64 x = x := by
  unfold IntKind.wrap
  simp [IntKind.signed, IntKind.bits]
  omega

theorem run_ite {α : Type} {c : Bool} {t e : T α} : (T.ite c t e).run = if c = true then t.run else e.run := rfl
theorem run_need {α : Type} {c : Bool} {t : T α} : (T.need c t).run = if c = true then t.run else none := rfl
theorem run_leaf {α : Type} {a : α} : (T.leaf a).run = some a := rfl
theorem run_fail {α : Type} : (T.fail : T α).run = none := rfl
theorem need_some {α : Type} {c : Bool} {t : T α} {a : α} (h : (T.need c t).run = some a) : c = true ∧ t.run = some a := by
  rw [run_need] at h
  split at h
  · exact ⟨‹_›, h⟩
  · cases h

/-- A condition that need not be reckoned. -/
noncomputable def yes (p : Prop) : Bool := @decide p (Classical.propDecidable p)
theorem yes_iff {p : Prop} : yes p = true ↔ p := by unfold yes; exact @decide_eq_true_iff p (Classical.propDecidable p)
theorem yes_true {p : Prop} (h : p) : yes p = true := yes_iff.2 h

def within (n low high : Int) : Bool := decide (low ≤ n) && decide (n ≤ high)
theorem within_iff {n a b : Int} : within n a b = true ↔ a ≤ n ∧ n ≤ b := by simp [within]
/-- Something holds from one index on, for so many. -/
def allFrom (p : Nat → Bool) : Nat → Nat → Bool
  | _, 0 => true
  | i, k + 1 => p i && allFrom p (i + 1) k
theorem allFrom_iff {p : Nat → Bool} : ∀ {i k : Nat}, allFrom p i k = true ↔ ∀ j, i ≤ j → j < i + k → p j = true
  | i, 0 => by simp only [allFrom, true_iff]; intro j h1 h2; omega
  | i, k + 1 => by
    simp only [allFrom, Bool.and_eq_true, allFrom_iff]
    constructor
    · rintro ⟨h1, h2⟩ j h3 h4
      by_cases e : j = i
      · subst e; exact h1
      · exact h2 j (by omega) (by omega)
    · intro h
      exact ⟨h i (Nat.le_refl _) (by omega), fun j h1 h2 => h j (by omega) (by omega)⟩
theorem allFrom_false {p : Nat → Bool} {i k : Nat} : allFrom p i k = false ↔ ∃ j, i ≤ j ∧ j < i + k ∧ p j = false := by
  rw [← Bool.not_eq_true, allFrom_iff]
  constructor
  · intro h
    apply Classical.byContradiction
    intro hn
    refine h fun j h1 h2 => ?_
    cases hp : p j with
    | true => rfl
    | false => exact (hn ⟨j, h1, h2, hp⟩).elim
  · rintro ⟨j, h1, h2, h3⟩ h
    rw [h j h1 h2] at h3; cases h3
/-- The first index from one on, of so many, at which something holds; -1, if there is none. -/
def firstFrom (p : Nat → Bool) : Nat → Nat → Int
  | _, 0 => -1
  | i, k + 1 => if p i then i else firstFrom p (i + 1) k
theorem firstFrom_all {p : Nat → Bool} : ∀ {i k : Nat}, decide (firstFrom p i k ≥ 0) = !allFrom (fun j => !p j) i k
  | i, 0 => by simp [firstFrom, allFrom]
  | i, k + 1 => by
    simp only [firstFrom, allFrom]
    by_cases h : p i = true
    · simp [h]
    · simp only [h, Bool.false_eq_true, if_false, Bool.not_false, Bool.true_and]
      exact firstFrom_all
theorem firstFrom_neg {p : Nat → Bool} : ∀ {i k : Nat}, firstFrom p i k < 0 → firstFrom p i k = -1
  | i, 0, _ => rfl
  | i, k + 1, h => by
    simp only [firstFrom] at h ⊢
    split at h
    · omega
    · rename_i hp; rw [if_neg hp]; exact firstFrom_neg h
def big : Nat := 4611686018427387904

/-- A loop's shapes, told shortly. -/
abbrev ShpT := Nat × List (Nat × SK) × List BK
def mkShp (t : ShpT) : Shp := ⟨slots t.1 0 t.2.1, t.2.2⟩
def mkLS (live : List Nat) (head : List ShpT) (exits : List (Ex × List Nat × List ShpT)) : LSig := ⟨live, head.map mkShp, exits.map fun e => (e.1, e.2.1, e.2.2.map mkShp)⟩
theorem need_yes {α : Type} {p : Prop} {t : T α} (h : p) : (T.need (yes p) t).run = t.run := by rw [run_need, if_pos (yes_true h)]
theorem I_i (n : Int) : (D.i n).I = n := rfl
theorem B_b (x : Bool) : (D.b x).B = x := rfl
theorem L_l (x : List (List D)) : (D.l x).L = x := rfl
theorem wrap_succ {k : Nat} (h : k < 9223372036854775807) : IntKind.i64.wrap ((k : Int) + 1) = ((k + 1 : Nat) : Int) := by rw [wrap_id (by omega) (by omega)]; rfl
theorem wrap_pred {k : Nat} (h : k < 9223372036854775807) : IntKind.i64.wrap ((k : Int) - 1) = (k : Int) - 1 := wrap_id (by omega) (by omega)
theorem toNat_pred {k : Nat} : ((k : Int) - 1).toNat = k - 1 := by omega
/-! ### The loops of a function -/
def loopsIn : Code → List Code
  | .loop b => [b]
  | .seq a b => loopsIn a ++ loopsIn b
  | .cond _ a b => loopsIn a ++ loopsIn b
  | .block _ b => loopsIn b
  | .scope b => loopsIn b
  | _ => []
theorem loopsOK_of {C : Cfg} {tab : Tab} {n : Nat} {f : FuncId} : ∀ (c : Code), (∀ b ∈ loopsIn c, ∀ L, tab.lp f (keyOf b) = some L → LoopSim C n f b L) → LoopsOK C tab n f c
  | .loop b, h => h b (by simp [loopsIn])
  | .seq a b, h => ⟨loopsOK_of a fun x hx => h x (by simp [loopsIn, hx]), loopsOK_of b fun x hx => h x (by simp [loopsIn, hx])⟩
  | .cond _ a b, h => ⟨loopsOK_of a fun x hx => h x (by simp [loopsIn, hx]), loopsOK_of b fun x hx => h x (by simp [loopsIn, hx])⟩
  | .block _ b, h => loopsOK_of b fun x hx => h x (by simpa [loopsIn] using hx)
  | .scope b, h => loopsOK_of b fun x hx => h x (by simpa [loopsIn] using hx)
  | .skip, _ => trivial
  | .label _, _ => trivial
  | .region _ _ _, _ => trivial
  | .rangeFunc _ _ _ _, _ => trivial
  | .exit _, _ => trivial
  | .ret, _ => trivial
  | .goto _, _ => trivial
  | .refuse _, _ => trivial
/-- Loops told by their keys. -/
def LpsOK (C : Cfg) (n : Nat) (f : FuncId) : LpL → Prop
  | [] => True
  | p :: ps => LoopSim C n f (loopOf C.P f p.1) p.2 ∧ LpsOK C n f ps
theorem lps_get {C : Cfg} {n : Nat} {f : FuncId} {lp : LpL} (h : LpsOK C n f lp) {k : Nat} {L : SSt → T (Ex × SSt)} (hk : lpOf lp k = some L) : LoopSim C n f (loopOf C.P f k) L := by
  induction lp with
  | nil => cases hk
  | cons p ps ih =>
    simp only [lpOf] at hk
    split at hk
    · rename_i e
      cases hk
      subst e
      exact h.1
    · exact ih h.2 hk
theorem loops_of {C : Cfg} {sp : SpL} {lp : LpL} {n : Nat} {f : FuncId} {c : Code} (keys : List Nat) (h1 : loopsIn c = keys.map (loopOf C.P f)) (h2 : keys.map (fun k => keyOf (loopOf C.P f k)) = keys)
    (h : ∀ k ∈ keys, ∀ L, lpOf lp k = some L → LoopSim C n f (loopOf C.P f k) L) : LoopsOK C (mkTab sp lp) n f c := by
  refine loopsOK_of c fun b hb L hL => ?_
  rw [h1, List.mem_map] at hb
  obtain ⟨k, hk, rfl⟩ := hb
  have hkey : keyOf (loopOf C.P f k) = k := by
    have := List.map_inj_left.1 (h2.trans (List.map_id keys).symm) k hk
    simpa using this
  simp only [mkTab, hkey] at hL
  exact h k hk L hL
theorem no_loops {C : Cfg} {sp : SpL} {lp : LpL} {n : Nat} {f : FuncId} {c : Code} (h1 : loopsIn c = []) : LoopsOK C (mkTab sp lp) n f c := loopsOK_of c fun b hb => by rw [h1] at hb; cases hb
/-- The kinds of a parameter. -/
def argSK (P : Program) (t : TypeId) : SK := match kindOf P 12 t with
  | some ks => if tyAgg P t then .agg (ks.map .k) else .k (ks.headD .bool)
  | none => .any

/-! ### Putting together -/
def hasBody (P : Program) (f : FuncId) : Bool := match P.funcs[f]? with
  | some fn => fn.body.isSome
  | none => false
theorem hasBody_spec {P : Program} {f : FuncId} (h : hasBody P f = true) : ∃ fn, P.funcs[f]? = some fn ∧ fn.body = some (bodyAt P f) := by
  unfold hasBody at h
  split at h
  · rename_i fn hfn
    obtain ⟨c, hc⟩ := Option.isSome_iff_exists.1 h
    exact ⟨fn, hfn, by simp [bodyAt, hfn, hc]⟩
  · cases h
def liveB (C : Cfg) (f : FuncId) (b : Code) (s : LSig) : Bool := (C.ann f (keyOf b) == some s.live) && s.exits.all fun p => match p.1 with
  | .normal => false
  | .exit id => C.annX f (keyOf b) (some id) == some p.2.1
  | .ret => C.annX f (keyOf b) none == some p.2.1
theorem live_of {C : Cfg} {f : FuncId} {b : Code} {s : LSig} (h : liveB C f b s = true) : LiveOK C f b s := by
  unfold liveB at h
  simp only [Bool.and_eq_true, beq_iff_eq, List.all_eq_true] at h
  refine ⟨h.1, fun p hp => ?_⟩
  have := h.2 p hp
  split <;> rename_i e <;> rw [e] at this
  · cases this
  · simpa using this
  · simpa using this
section
variable {C : Cfg} (hC : ∀ t Y, C.ty t = some Y → tyOf C.P t = some Y) {sp : SpL} {lp : LpL} {n : Nat} {f : FuncId}
include hC
theorem fn_of (hsp : AllOK C n sp) (hf : hasBody C.P f = true) (keys : List Nat) (h1 : loopsIn (bodyAt C.P f) = keys.map (loopOf C.P f)) (h2 : keys.map (fun k => keyOf (loopOf C.P f k)) = keys)
    (hl : ∀ k ∈ keys, ∀ L, lpOf lp k = some L → LoopSim C n f (loopOf C.P f k) L) {s : Sig} {G : List D → T (List D)} (hG : ∀ ds r, (G ds).run = some r → (fnT C (mkTab sp lp) f s ds).run = some r) : FnOK C (n + 1) f (mkF s G) := by
  obtain ⟨fn, h3, h4⟩ := hasBody_spec hf
  exact fn_ok hC (spOK_of hsp) h3 h4 (loops_of keys h1 h2 hl) hG
theorem loop_of (hsp : AllOK C n sp) {b : Code} (keys : List Nat) (h1 : loopsIn b = keys.map (loopOf C.P f)) (h2 : keys.map (fun k => keyOf (loopOf C.P f k)) = keys)
    (hl : ∀ k ∈ keys, ∀ L, lpOf lp k = some L → LoopSim C n f (loopOf C.P f k) L) {s : LSig} (hlv : liveB C f b s = true) {G : List D → T (Ex × List D)} (μ : List D → Nat)
    (round : ∀ ds r, (G ds).run = some r → μ ds < C.fuel ∧ ∃ o, (roundT C (mkTab sp lp) f b s ds).run = some o ∧ ((∃ ds', o = .again ds' ∧ (G ds').run = some r ∧ μ ds' < μ ds) ∨ o = .out r.1 r.2)) : LoopSim C n f b (mkL s G) :=
  loop_ok' hC (spOK_of hsp) (loops_of keys h1 h2 hl) (live_of hlv) μ round
end

/-- What is asked of a round. -/
def RdOK (G : List D → T (Ex × List D)) (μ : List D → Nat) (ds : List D) (r : Ex × List D) (X : Option Rd) : Prop := ∃ o, X = some o ∧ ((∃ ds', o = .again ds' ∧ (G ds').run = some r ∧ μ ds' < μ ds) ∨ o = .out r.1 r.2)
/-- A loop that goes on while something holds. -/
theorem all_loop {G : List D → T (Ex × List D)} {μ : List D → Nat} {ds : List D} {r : Ex × List D} {p : Nat → Bool} {i len : Nat} {rt rf : Ex × List D} {X : Option Rd} (again : List D)
    (hG : (T.ite (allFrom p i (len - i)) (.leaf rt) (.leaf rf)).run = some r)
    (hX : X = if i < len then (if p i = true then some (.again again) else some (.out rf.1 rf.2)) else some (.out rt.1 rt.2))
    (hnext : i < len → p i = true → (T.ite (allFrom p (i + 1) (len - (i + 1))) (.leaf rt) (.leaf rf)).run = some r → (G again).run = some r ∧ μ again < μ ds) : RdOK G μ ds r X := by
  unfold RdOK
  rw [hX]
  by_cases hlt : i < len
  · rw [if_pos hlt]
    have e : len - i = (len - (i + 1)) + 1 := by omega
    rw [e] at hG
    simp only [allFrom] at hG
    by_cases hp : p i = true
    · rw [if_pos hp]
      rw [hp, Bool.true_and] at hG
      obtain ⟨h1, h2⟩ := hnext hlt hp hG
      exact ⟨_, rfl, .inl ⟨_, rfl, h1, h2⟩⟩
    · rw [if_neg hp]
      have : p i = false := by simpa using hp
      rw [this, Bool.false_and] at hG
      simp only [run_ite, run_leaf, Bool.false_eq_true, if_false, Option.some.injEq] at hG
      subst hG
      exact ⟨_, rfl, .inr rfl⟩
  · rw [if_neg hlt]
    have e : len - i = 0 := by omega
    rw [e] at hG
    simp only [allFrom, run_ite, run_leaf, if_true, Option.some.injEq] at hG
    subst hG
    exact ⟨_, rfl, .inr rfl⟩
/-- A loop that looks for the first one. -/
theorem first_loop {G : List D → T (Ex × List D)} {μ : List D → Nat} {ds : List D} {r : Ex × List D} {p : Nat → Bool} {i len : Nat} {ro : Ex × List D} {X : Option Rd} (again : List D)
    (hG : (T.ite (decide (firstFrom p i (len - i) ≥ 0)) (.leaf (.ret, [.i (firstFrom p i (len - i))])) (.leaf ro)).run = some r)
    (hX : X = if i < len then (if p i = true then some (.out .ret [.i (i : Int)]) else some (.again again)) else some (.out ro.1 ro.2))
    (hnext : i < len → p i = false → (T.ite (decide (firstFrom p (i + 1) (len - (i + 1)) ≥ 0)) (.leaf (.ret, [.i (firstFrom p (i + 1) (len - (i + 1)))])) (.leaf ro)).run = some r → (G again).run = some r ∧ μ again < μ ds) : RdOK G μ ds r X := by
  unfold RdOK
  rw [hX]
  by_cases hlt : i < len
  · rw [if_pos hlt]
    have e : len - i = (len - (i + 1)) + 1 := by omega
    rw [e] at hG
    simp only [firstFrom] at hG
    by_cases hp : p i = true
    · rw [if_pos hp]
      simp only [hp, if_true, run_ite, run_leaf] at hG
      rw [if_pos (by simp)] at hG
      cases hG
      exact ⟨_, rfl, .inr rfl⟩
    · rw [if_neg hp]
      have hp' : p i = false := by simpa using hp
      simp only [hp', Bool.false_eq_true, if_false] at hG
      obtain ⟨h1, h2⟩ := hnext hlt hp' hG
      exact ⟨_, rfl, .inl ⟨_, rfl, h1, h2⟩⟩
  · rw [if_neg hlt]
    have e : len - i = 0 := by omega
    rw [e] at hG
    simp only [firstFrom, run_ite, run_leaf] at hG
    rw [if_neg (by simp)] at hG
    cases hG
    exact ⟨_, rfl, .inr rfl⟩
/-- A loop that looks for something and hands back what it found. -/
theorem find_loop {G : List D → T (Ex × List D)} {μ : List D → Nat} {ds : List D} {r : Ex × List D} {q : Nat → Bool} {i len : Nat} {val : Nat → Nat → Ex × List D} {w rt : Ex × List D} {X : Option Rd} (again : List D)
    (hG : (T.ite (allFrom q i (len - i)) (.leaf rt) (.leaf (val i (len - i)))).run = some r)
    (hv : ∀ k, val i (k + 1) = if q i = true then val (i + 1) k else w)
    (hX : X = if i < len then (if q i = true then some (.again again) else some (.out w.1 w.2)) else some (.out rt.1 rt.2))
    (hnext : i < len → q i = true → (T.ite (allFrom q (i + 1) (len - (i + 1))) (.leaf rt) (.leaf (val (i + 1) (len - (i + 1))))).run = some r → (G again).run = some r ∧ μ again < μ ds) : RdOK G μ ds r X := by
  unfold RdOK
  rw [hX]
  by_cases hlt : i < len
  · rw [if_pos hlt]
    have e : len - i = (len - (i + 1)) + 1 := by omega
    rw [e, hv] at hG
    simp only [allFrom] at hG
    by_cases hp : q i = true
    · rw [if_pos hp]
      rw [hp, Bool.true_and, if_pos rfl] at hG
      obtain ⟨h1, h2⟩ := hnext hlt hp hG
      exact ⟨_, rfl, .inl ⟨_, rfl, h1, h2⟩⟩
    · rw [if_neg hp]
      have : q i = false := by simpa using hp
      rw [this, Bool.false_and] at hG
      simp only [run_ite, run_leaf, Bool.false_eq_true, if_false, Option.some.injEq] at hG
      subst hG
      exact ⟨_, rfl, .inr rfl⟩
  · rw [if_neg hlt]
    have e : len - i = 0 := by omega
    rw [e] at hG
    simp only [allFrom, run_ite, run_leaf, if_true, Option.some.injEq] at hG
    subst hG
    exact ⟨_, rfl, .inr rfl⟩

/-! ### Bounds -/
theorem mul_abs {a b : Int} {A B : Nat} (ha : a.natAbs ≤ A) (hb : b.natAbs ≤ B) : (a * b).natAbs ≤ A * B := by
  rw [Int.natAbs_mul]; exact Nat.mul_le_mul ha hb
theorem tdiv_abs {a b : Int} {A : Nat} (ha : a.natAbs ≤ A) : (a.tdiv b).natAbs ≤ A := by
  rw [Int.natAbs_tdiv]; exact Nat.le_trans (Nat.div_le_self _ _) ha
theorem wrap_abs {a : Int} {A : Nat} (ha : a.natAbs ≤ A) (hA : A < 9223372036854775808) : IntKind.i64.wrap a = a := wrap_id (by omega) (by omega)
/-- Between two values. -/
theorem tdiv_between {g n m : Int} (hn : 0 ≤ n) (hm : 0 < m) (hnm : n ≤ m) : (0 ≤ g → 0 ≤ (g * n).tdiv m ∧ (g * n).tdiv m ≤ g) ∧ (g ≤ 0 → g ≤ (g * n).tdiv m ∧ (g * n).tdiv m ≤ 0) := by
  have key : ∀ x : Int, 0 ≤ x → 0 ≤ (x * n).tdiv m ∧ (x * n).tdiv m ≤ x := fun x hx => by
    have h0 : 0 ≤ x * n := Int.mul_nonneg hx hn
    rw [Int.tdiv_eq_ediv_of_nonneg h0]
    refine ⟨Int.ediv_nonneg h0 (by omega), ?_⟩
    refine Int.le_of_lt_add_one (Int.ediv_lt_of_lt_mul hm ?_)
    have : x * n ≤ x * m := Int.mul_le_mul_of_nonneg_left hnm hx
    rw [Int.add_mul, Int.one_mul]
    omega
  refine ⟨key g, fun hg => ?_⟩
  have := key (-g) (by omega)
  rw [Int.neg_mul, Int.neg_tdiv] at this
  omega
end Go.Lite
