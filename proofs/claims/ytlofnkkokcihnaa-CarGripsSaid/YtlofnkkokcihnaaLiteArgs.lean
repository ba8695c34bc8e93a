import Derived.Test.YtlofnkkokcihnaaLiteSound
import Derived.ProofKit
import Derived.ReadAgain
namespace Go.Lite
open Go.ChangeShapes Go.WideShapes Go.ChangeAt Go.RowKit

/-! ### Plain types: integers, bools, slices and structs of them -/
def contig (P : Program) : List Field → Nat → Option Nat
  | [], o => some o
  | f :: fs, o => if f.offset = o then contig P fs (o + P.cellsOf f.type) else none
def plainTy (P : Program) : Nat → TypeId → Bool
  | 0, _ => false
  | d + 1, t => match P.underlying t with
    | some .bool => true
    | some (.int _) => true
    | some (.slice e) => decide (0 < P.cellsOf e) && plainTy P d e
    | some (.struct fs) => decide (contig P fs.toList 0 = some (P.cellsOf t)) && fs.toList.all (fun f => plainTy P d f.type)
    | _ => false

/-- The cells of a struct, field by field. -/
def Parts (S : TypeId → List AV → Prop) : List Field → List AV → Prop
  | [], as => as = []
  | f :: fs, as => ∃ p q, as = p ++ q ∧ S f.type p ∧ Parts S fs q
/-- What the cells of a value of a plain type are. -/
def Shape (P : Program) : Nat → TypeId → List AV → Prop
  | 0, _, _ => False
  | d + 1, t, as => match P.underlying t with
    | some .bool => ∃ b, as = [.bool b]
    | some (.int k) => ∃ n, as = [.int k n] ∧ (Lit.int k n).wf = true
    | some (.slice e) => ∃ es : List (List AV), as = [.ro .g false (P.cellsOf e) es] ∧ es.length ≤ maxLen ∧ ∀ x ∈ es, Shape P d e x
    | some (.struct fs) => Parts (fun t as => Shape P d t as) fs.toList as
    | _ => False

section
variable {H : Type} {enc : TypeId × Value → H} {P : Program} {W : World} {base n : Nat} {held : Bool} {J : Nat → Prop}

theorem exists_list {α β : Type} {r : Nat → α → β → Prop} : ∀ (l : List α), (∀ i x, l[i]? = some x → ∃ y, r i x y) → ∃ ys : List β, ys.length = l.length ∧ ∀ i x y, l[i]? = some x → ys[i]? = some y → r i x y
  | [], _ => ⟨[], rfl, fun i x y h => by simp at h⟩
  | x :: l, h => by
    obtain ⟨y, hy⟩ := h 0 x rfl
    obtain ⟨ys, hl, hs⟩ := exists_list (r := fun i => r (i + 1)) l (fun i x hx => h (i + 1) x (by simpa using hx))
    refine ⟨y :: ys, by simp [hl], fun i x' y' h1 h2 => ?_⟩
    cases i with
    | zero => simp at h1 h2; subst h1; subst h2; exact hy
    | succ i => simp at h1 h2; exact hs i x' y' h1 h2

theorem cells_shape : ∀ (d : Nat) (J : Nat → Prop) (t : TypeId) (fuel : Nat) (cs : List Value) (x : DataW H × List MemPlace), plainTy P d t = true → DataW.trod enc P W base (fun _ => true) held fuel t cs = some x →
    ∃ as, Shape P d t as ∧ RelL W (fun b => b < W.heap.size) as Names.none J cs ∧ (∀ v ∈ cs, v.oneCell' = true)
  | 0, J, t, fuel, cs, x, hp, h => by simp [plainTy] at hp
  | d + 1, J, t, fuel, cs, x, hp, h => by
    unfold plainTy at hp
    split at hp
    · rename_i hu
      obtain ⟨b, rfl, -⟩ := DataW.trod_bool hu h
      exact ⟨[.bool b], by simp [Shape, hu], by simp [RelL, Rel], by simp [Value.oneCell']⟩
    · rename_i k hu
      obtain ⟨n, rfl, -, hw⟩ := DataW.trod_int hu h
      exact ⟨[.int k n], by simp [Shape, hu, hw], by simp [RelL, Rel], by simp [Value.oneCell']⟩
    · rename_i e hu
      simp only [Bool.and_eq_true, decide_eq_true_eq] at hp
      rcases DataW.trod_slice hu h with ⟨rfl, -⟩ | ⟨a, len, cap, elems, rest, n, -, rfl, -, -, hl, hm, hlen, hel, -⟩
      · refine ⟨[.ro .g false (P.cellsOf e) []], by simp [Shape, hu], ?_, by simp [Value.oneCell']⟩
        simp only [RelL, Rel]
        exact ⟨_, _, rfl, .inl ⟨by trivial, none, 0, rfl, fun _ => rfl⟩, rfl⟩
      · have step : ∀ i y, elems[i]? = some y → ∃ as, Shape P d e as ∧ as.length = P.cellsOf e ∧ MemL W (fun b => b < W.heap.size) as Names.none (fun _ => False) a.block (a.off + i * P.cellsOf e) ∧ a.spot = none ∧ a.block < W.heap.size := by
          intro i y hy
          have hi : i < len := by rw [← hlen]; exact (List.getElem?_eq_some_iff.1 hy).1
          have hb := hel i hi
          rw [hy, Option.bind_eq_some_iff] at hb
          obtain ⟨cs', hc1, hc2⟩ := hb
          obtain ⟨-, hcl, hcc⟩ := World.cells?_some hc1
          have hspot : a.spot = none ∧ a.block < W.heap.size := by
            have h0 := hel 0 (by omega)
            have he0 : 0 < elems.length := by omega
            rw [List.getElem?_eq_getElem he0, Option.bind_eq_some_iff] at h0
            obtain ⟨cs0, hd1, -⟩ := h0
            obtain ⟨-, hdl, hdd⟩ := World.cells?_some hd1
            have := hdd 0 (by omega)
            rw [List.getElem?_eq_getElem (by omega)] at this
            simp only [Nat.zero_mul, Addr.add, if_true] at this
            unfold World.cell? at this
            split at this
            · rename_i hh
              split at this
              · cases this
              · rename_i hs
                exact ⟨by simpa using hs, (Array.getElem?_eq_some_iff.1 hh).1⟩
            · cases this
          obtain ⟨as, hs1, hs2, hs3⟩ := cells_shape d (fun _ => False) e n cs' y hp.2 hc2
          refine ⟨as, hs1, ?_, ?_, hspot⟩
          · rw [RelL_length hs2, hcl]
          · refine MemL_of_vals hs2 hs3 fun j v hj => ?_
            have hjl : j < P.cellsOf e := by rw [← hcl]; exact (List.getElem?_eq_some_iff.1 hj).1
            have := hcc j hjl
            rw [hj] at this
            rw [← this]
            obtain ⟨ab, ao, asp⟩ := a
            have hsp := hspot.1
            simp only at hsp
            subst hsp
            simp only [add_none]
        obtain ⟨es, hes, hall⟩ := exists_list (r := fun i _ as => Shape P d e as ∧ as.length = P.cellsOf e ∧ MemL W (fun b => b < W.heap.size) as Names.none (fun _ => False) a.block (a.off + i * P.cellsOf e) ∧ a.spot = none ∧ a.block < W.heap.size) elems step
        have hall' : ∀ i as, es[i]? = some as → Shape P d e as ∧ as.length = P.cellsOf e ∧ MemL W (fun b => b < W.heap.size) as Names.none (fun _ => False) a.block (a.off + i * P.cellsOf e) ∧ a.spot = none ∧ a.block < W.heap.size := fun i as hi => by
          have hlt : i < elems.length := by rw [← hes]; exact (List.getElem?_eq_some_iff.1 hi).1
          exact hall i _ as (List.getElem?_eq_getElem hlt) hi
        refine ⟨[.ro .g false (P.cellsOf e) es], ?_, ?_, by simp [Value.oneCell']⟩
        · simp only [Shape, hu]
          refine ⟨es, rfl, by omega, fun as has => ?_⟩
          obtain ⟨i, hi, rfl⟩ := List.getElem_of_mem has
          exact (hall' i _ (List.getElem?_eq_getElem hi)).1
        · simp only [RelL, Rel]
          refine ⟨_, _, rfl, ?_, rfl⟩
          by_cases hz : es = []
          · exact .inl ⟨hz, some a, cap, by rw [hz] at hes; simp at hes; rw [← hlen, ← hes], fun h => by cases h⟩
          · right
            have hpos : 0 < es.length := List.length_pos_iff.2 hz
            obtain ⟨-, -, -, hsp, hbl⟩ := hall' 0 _ (List.getElem?_eq_getElem hpos)
            obtain ⟨ab, ao, asp⟩ := a
            simp only at hsp hbl
            subst hsp
            exact ⟨ab, ao, cap, by rw [hes, hlen], by omega, (fun h => by cases h), fun _ => hbl, MemE_of fun k e' hk => ⟨(hall' k e' hk).2.1, (hall' k e' hk).2.2.1⟩⟩
    · rename_i fs hu
      simp only [Bool.and_eq_true, decide_eq_true_eq, List.all_eq_true] at hp
      obtain ⟨xs, n, -, -, hcl, hxl, hx⟩ := DataW.trod_struct hu h
      have key : ∀ (l : List Field) (k off : Nat), fs.toList.drop k = l → contig P l off = some cs.length → ∃ as, Parts (fun t as => Shape P d t as) l as ∧ RelL W (fun b => b < W.heap.size) as Names.none J (cs.drop off) ∧ ∀ v ∈ cs.drop off, v.oneCell' = true := by
        intro l
        induction l with
        | nil =>
          intro k off hk hc
          simp only [contig, Option.some.injEq] at hc
          refine ⟨[], rfl, ?_, ?_⟩
          · rw [List.drop_eq_nil_of_le (by omega)]; simp [RelL]
          · rw [List.drop_eq_nil_of_le (by omega)]; intro v hv; cases hv
        | cons f l ih =>
          intro k off hk hc
          simp only [contig] at hc
          split at hc
          case isFalse => cases hc
          rename_i hoff
          have hfk : fs.toList[k]? = some f := by
            have := congrArg (·[0]?) hk
            simpa using this
          have hfk' : fs[k]? = some f := by simpa using hfk
          have hklt : k < fs.size := (Array.getElem?_eq_some_iff.1 hfk').1
          obtain ⟨as2, hp2, hr2, ho2⟩ := ih (k + 1) _ (by have := congrArg List.tail hk; simpa using this) hc
          have hy := hx k f hfk'
          rw [List.getElem?_eq_getElem (by omega)] at hy
          obtain ⟨as1, hp1, hr1, ho1⟩ := cells_shape d J f.type n _ _ (hp.2 f (List.mem_of_getElem? hfk)) hy
          rw [hoff] at hr1 ho1
          have hsplit : cs.drop off = (cs.drop off).take (P.cellsOf f.type) ++ cs.drop (off + P.cellsOf f.type) := by
            rw [← List.drop_drop]; exact (List.take_append_drop _ _).symm
          refine ⟨as1 ++ as2, ⟨as1, as2, rfl, hp1, hp2⟩, ?_, ?_⟩
          · rw [hsplit]; exact RelL_append hr1 hr2
          · rw [hsplit]
            intro v hv
            exact (List.mem_append.1 hv).elim (ho1 v) (ho2 v)
      obtain ⟨as, h1, h2, h3⟩ := key fs.toList 0 0 rfl (by rw [hcl]; exact hp.1)
      exact ⟨as, by simp only [Shape, hu]; exact h1, by simpa using h2, by simpa using h3⟩
    · cases hp

/-- An argument's value. -/
def argOf (P : Program) (t : TypeId) (as : List AV) : AV := if tyAgg P t then .agg as else as.headD .und
def ArgsShape (P : Program) (d : Nat) : List TypeId → List AV → Prop
  | [], as => as = []
  | t :: ts, as => ∃ cs rest, as = argOf P t cs :: rest ∧ Shape P d t cs ∧ ArgsShape P d ts rest

theorem arg_shape {d : Nat} {t : TypeId} {v : Value} {r : Reach} {D : DataW H} {ps : List MemPlace} (hp : plainTy P d t = true) (hv : Value.okWide P W r base t v) (h : DataW.Trod enc P W 0 (fun _ => true) held t v D ps) :
    ∃ cs, Shape P d t cs ∧ Rel W (fun b => b < W.heap.size) (argOf P t cs) Names.none J v := by
  obtain ⟨fuel, hf⟩ := h
  obtain ⟨as, h1, h2, h3⟩ := cells_shape d J t fuel _ _ hp hf
  refine ⟨as, h1, ?_⟩
  unfold Value.okWide at hv
  cases d with
  | zero => simp [plainTy] at hp
  | succ d =>
    unfold plainTy at hp
    unfold Shape at h1
    unfold argOf tyAgg
    split at hp
    · rename_i hu
      simp only [hu] at hv h1 ⊢
      obtain ⟨b, rfl⟩ := h1
      obtain ⟨b', rfl⟩ := okWide_bool hu (by unfold Value.okWide; simp only [hu]; exact hv)
      simpa [RelL, Value.cells] using h2
    · rename_i k hu
      simp only [hu] at hv h1 ⊢
      obtain ⟨n, rfl, -⟩ := h1
      obtain ⟨b', rfl⟩ := okWide_int hu (by unfold Value.okWide; simp only [hu]; exact hv)
      simpa [RelL, Value.cells] using h2
    · rename_i e hu
      simp only [hu] at hv h1 ⊢
      obtain ⟨es, rfl, -⟩ := h1
      obtain ⟨a0, len, cap, rfl⟩ := okWide_slice hu (by unfold Value.okWide; simp only [hu]; exact hv)
      simpa [RelL, Value.cells] using h2
    · rename_i fs hu
      simp only [hu] at hv h1 ⊢
      obtain ⟨cs, rfl, -⟩ := hv
      simp only [if_true, Rel]
      exact ⟨cs.toList, by simp, by simpa [Value.cells] using h2⟩
    · cases hp
theorem args_shape {d : Nat} {r : Reach} : ∀ {ts : List TypeId} {vs : List Value} {ds : List (DataW H)} {ps : List MemPlace}, (∀ t ∈ ts, plainTy P d t = true) → (∀ (j : Nat) t v, ts[j]? = some t → vs[j]? = some v → Value.okWide P W r base t v) →
    DataW.TrodAll enc P W 0 (fun _ => true) held ts vs ds ps → ∃ as, ArgsShape P d ts as ∧ RelL W (fun b => b < W.heap.size) as Names.none J vs
  | [], [], [], _, _, _, _ => ⟨[], rfl, by simp [RelL]⟩
  | t :: ts, v :: vs, D :: ds, _, hp, hv, ⟨p, q, h1, h2, _⟩ => by
    obtain ⟨cs, ha, hr⟩ := arg_shape (J := J) (hp t List.mem_cons_self) (hv 0 t v rfl rfl) h1
    obtain ⟨as, ha2, hr2⟩ := args_shape (fun t ht => hp t (List.mem_cons_of_mem _ ht)) (fun j t v hj hj' => hv (j + 1) t v (by simpa using hj) (by simpa using hj')) h2
    exact ⟨_, ⟨cs, as, rfl, ha, ha2⟩, RelL_cons hr hr2⟩
  | [], [], _ :: _, _, _, _, h => h.elim
  | [], _ :: _, _, _, _, _, h => h.elim
  | _ :: _, [], _, _, _, _, h => h.elim
  | _ :: _, _ :: _, [], _, _, _, h => h.elim

/-! ### A law holds -/
theorem keptBut_of {w w' : World} (h1 : w'.os = w.os) (h2 : w'.output = w.output) (hk : ∀ b, b < w.heap.size → w'.heap[b]? = w.heap[b]?) (may : MemPlace → Prop) : w.keptBut w' may := by
  refine ⟨h1, h2, fun i hi => ?_⟩
  rw [hk i hi]
  cases w.heap[i]? with
  | none => rfl
  | some o => cases o <;> first | rfl | exact ⟨rfl, rfl, rfl, fun _ _ => rfl⟩ | exact .inr ⟨rfl, rfl⟩
theorem sameAt_of {w w' : World} {p : MemPlace} (h : w'.heap[p.block]? = w.heap[p.block]?) : w.sameAt w' p := by
  cases p with
  | cell b off => exact cell_of_heap h off
  | map b => exact h
theorem trodAll_carry {w w' : World} {spare : Nat → Bool} : ∀ {ts : List TypeId} {vs : List Value} {ds : List (DataW H)} {ps : List MemPlace}, DataW.TrodAll enc P w base spare held ts vs ds ps → (∀ p ∈ ps, w.sameAt w' p) → DataW.TrodAll enc P w' base spare held ts vs ds ps
  | [], [], [], _, h, _ => h
  | _ :: _, _ :: _, _ :: _, _, ⟨p, q, ⟨n, h1⟩, h2, e⟩, hs => ⟨p, q, ⟨n, DataW.trod_carry n _ _ _ h1 (fun x hx => hs x (by rw [e]; exact List.mem_append_left _ hx))⟩, trodAll_carry h2 (fun x hx => hs x (by rw [e]; exact List.mem_append_right _ hx)), e⟩
  | [], [], _ :: _, _, h, _ => h.elim
  | [], _ :: _, _, _, h, _ => h.elim
  | _ :: _, [], _, _, h, _ => h.elim
  | _ :: _, _ :: _, [], _, h, _ => h.elim

theorem frozen_of {w w' : World} {b off : Nat} (h : w'.heap[b]? = w.heap[b]?) : w'.frozen? ⟨b, off, none⟩ = w.frozen? ⟨b, off, none⟩ := by
  simp only [World.frozen?, h]

theorem post_of_kept {f : Func} {s : ChangeSpec} {apart fresh handsOn again : Bool} {W W' : World} {args : Array Value} {v : Value} {ds gs : List (DataW H)} {before pa pv : List MemPlace}
    (hW : DataW.Whole enc P f.params.toList s.vars apart W args.toList ds gs before)
    (hres : ∀ (b : Nat) (sp : Nat → Bool) (hd : Bool), DataW.TrodAll enc P W' b sp hd f.resultTypes.toList (v.resultList f.resultTypes.size) (s.fn H (ds ++ gs)).results [])
    (hargs : ∀ sp : Nat → Bool, (∀ p ∈ before, sp p.block = true) → DataW.TrodAll enc P W' 0 sp true f.params.toList args.toList (s.fn H (ds ++ gs)).args pa)
    (hvars : ∀ sp : Nat → Bool, (∀ p ∈ before, sp p.block = true) → DataW.TrodVars enc P W' sp s.vars (s.fn H (ds ++ gs)).vars pv)
    (hps : before = pa ++ pv) (h1 : W'.os = W.os) (h2 : W'.output = W.output) (hk : ∀ b, b < W.heap.size → W'.heap[b]? = W.heap[b]?)
    (hok : ∀ (j : Nat) (t : TypeId) (r : Value), f.resultTypes[j]? = some t → (v.resultList f.resultTypes.size)[j]? = some r → Value.okWide P W' .any 0 t r) :
    s.post enc P f apart fresh handsOn again W args v W' := by
  have hlt : ∀ p ∈ before, p.block < W.heap.size := fun p hp => hW.lt p hp
  have hold : ∀ p ∈ before, (fun b => decide (b < W.heap.size)) p.block = true := fun p hp => by simpa using hlt p hp
  refine ⟨ds, gs, before, [], pa, pv, hW, hres _ _ _, hargs _ hold, hvars _ hold, World.keptBut_mono (fun p hp => ⟨hp, ?_⟩) (keptBut_of h1 h2 hk (· ∈ before)), fun _ => ?_⟩
  · rw [hps, List.mem_append] at hp
    exact Or.inr hp
  · obtain ⟨_, _, _, _, _, hz, hn⟩ := hW
    refine ⟨hok, _, _, ([] ++ pa) ++ pv, ⟨[] ++ pa, pv, trodAll_append (hargs _ (fun _ _ => rfl)) (hres _ _ _), hvars _ (fun _ _ => rfl), rfl, ?_, ?_⟩, ?_⟩
    · intro b off hp
      have hin : MemPlace.cell b off ∈ before := by rw [hps]; simpa using hp
      rw [frozen_of (hk b (hlt _ hin))]
      exact hz b off hin
    · intro ha
      have := hn ha
      rw [hps] at this
      simpa using this
    · intro p hp _
      rw [hps]
      simpa using hp

theorem no_own {b : Nat} : ¬ Own Names.none [] b := by
  rintro ⟨i, B, e, _⟩
  rw [hget_nil] at e; cases e
theorem sr_init : SR W (fun b => b < W.heap.size) (fun _ => False) (fun _ => False) (fun _ => False) Names.none [] where
  blk i B e := by rw [hget_nil] at e; cases e
  inj i j B B' b e := by rw [hget_nil] at e; cases e
  dom i b e := by cases e
  glt _ h := h
  jlt _ h := h.elim
  nlt _ h := h.elim
  gown _ _ := no_own
  jown _ h := h.elim
  nown _ h := h.elim
  gu _ _ h := h
  ju _ _ h := h
  un _ h := h.elim
/-- What was reckoned to be true is returned, and nothing that lay before turns. -/
theorem law_calls {C : Cfg} (hCall : CallOK C.P (callA C n)) {f : FuncId} {as : List AV} {vs : List Value} {h' : Heap} (hr : callA C n Unit none f as [] () = some (.bool true, h', ()))
    (hrel : RelL W (fun b => b < W.heap.size) as Names.none (fun _ => False) vs) :
    Calls C.P f vs.toArray W fun e W' => e = .returned (.bool true) ∧ W'.os = W.os ∧ W'.output = W.output ∧ ∀ b, b < W.heap.size → W'.heap[b]? = W.heap[b]? := by
  have hg := hCall _ _ _ _ _ _ _ _ _ hr
  have hc := hg.2 (fun _ _ _ _ _ => True) W (fun b => b < W.heap.size) (fun _ => False) (fun _ => False) (fun _ => False) Names.none vs (fun _ _ _ _ _ _ _ _ _ _ _ _ _ _ _ _ => trivial) (fun Hf l e => by cases e)
    sr_init hrel trivial
  refine (callsIn_wide.1 hc).mono fun e W' hR => ?_
  cases e with
  | panicked _ => exact hR.elim
  | outgrown => exact hR.elim
  | returned u =>
    obtain ⟨ν', G', U', N', -, -, -, hv, E, -⟩ := hR
    simp only [Rel] at hv
    subst hv
    exact ⟨rfl, E.env.1, E.env.2, fun b hb => E.keep b hb no_own (fun h => h)⟩
end
end Go.Lite
