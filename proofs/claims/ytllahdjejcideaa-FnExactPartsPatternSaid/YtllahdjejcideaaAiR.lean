/- One order stands for all. -/
import Derived.Test.YtllahdjejcideaaAiC
namespace Go.Proofs.YtllahdjejcideaaAi
open Go Go.RowKit
set_option linter.unusedVariables false
set_option linter.unusedSimpArgs false

variable {P : Program} {S : Spec}

theorem optNat_congr {s s' : St} {x : Option Opd} (h : ∀ y ∈ optOpds x, s'.ev y = s.ev y) (d : Nat) : optNat s' d x = optNat s d x := by
  cases x with
  | none => rfl
  | some y => simp only [optNat, h y (by simp [optOpds])]
theorem optMax_congr {s s' : St} {x : Option Opd} (h : ∀ y ∈ optOpds x, s'.ev y = s.ev y) : optMax s' x = optMax s x := by
  cases x with
  | none => rfl
  | some y => simp only [optMax, optNat_congr h]
theorem map_ev_congr {s s' : St} {xs : List Opd} (h : ∀ y ∈ xs, s'.ev y = s.ev y) : xs.map s'.ev = xs.map s.ev := List.map_congr_left h

theorem optW_mono {α : Type} {x : Option α} {K K' : α → Prop} {h : Hold K} (hk : ∀ v, K v → K' v) (hx : optW x K h) : optW x K' := by
  obtain ⟨v, h1, h2⟩ := optW_iff.1 hx
  exact optW_iff.2 ⟨v, h1, hk v h2⟩
theorem brW_mono {b : Bool} {x y x' y' : Prop} {h : Hold x} {k : Hold y} (h1 : x → x') (h2 : y → y') (hh : brW b x y h k) : brW b x' y' := by
  cases b
  · rw [brW_false] at *; exact h2 hh
  · rw [brW_true] at *; exact h1 hh
theorem nilW_mono {q : Option Nat} {K K' : Bool → Prop} {h : Hold K} (hk : ∀ v, K v → K' v) (hx : nilW q K h) : nilW q K' := by
  cases q with
  | none => exact hk _ hx
  | some n => exact fun r hr => hk _ (hx r hr)

theorem opW_congr' {s s' : St} {op : AOp} (hA : s'.A = s.A) (he : ∀ x ∈ opdsOf op, s'.ev x = s.ev x) {K : AV → AHeap → Prop} (hw : opW P S s' op K) : opW P S s op K := by
  obtain ⟨t', A⟩ := s'
  obtain ⟨t, A0⟩ := s
  obtain rfl : A = A0 := hA
  cases op with
  | sli e x lo hi mx =>
    have h1 := he x (by simp [opdsOf])
    have h2 := fun d => optNat_congr (x := lo) (d := d) (fun y hy => he y (by simp [opdsOf, hy]))
    have h3 := fun d => optNat_congr (x := hi) (d := d) (fun y hy => he y (by simp [opdsOf, hy]))
    have h4 := optMax_congr (x := mx) (fun y hy => he y (by simp [opdsOf, hy]))
    simpa only [opW, pureOp, h1, h2, h3, h4] using hw
  | sls x lo hi =>
    have h1 := he x (by simp [opdsOf])
    have h2 := fun d => optNat_congr (x := lo) (d := d) (fun y hy => he y (by simp [opdsOf, hy]))
    have h3 := fun d => optNat_congr (x := hi) (d := d) (fun y hy => he y (by simp [opdsOf, hy]))
    simpa only [opW, pureOp, h1, h2, h3] using hw
  | bld z parts =>
    have h1 : (parts.map fun p => (p.1, p.2.1, (St.mk t' A).ev p.2.2)) = parts.map fun p => (p.1, p.2.1, (St.mk t A).ev p.2.2) := List.map_congr_left fun p hp => by
      rw [he p.2.2 (List.mem_map.2 ⟨p, hp, rfl⟩)]
    simpa only [opW, pureOp, h1] using hw
  | bsl e n z parts =>
    have h1 : (parts.map fun p => (p.1 * e, e, (St.mk t' A).ev p.2)) = parts.map fun p => (p.1 * e, e, (St.mk t A).ev p.2) := List.map_congr_left fun p hp => by
      rw [he p.2 (List.mem_map.2 ⟨p, hp, rfl⟩)]
    simp only [opW] at hw ⊢
    rw [h1] at hw
    exact hw
  | mkf f caps =>
    have h1 := map_ev_congr (xs := caps) (fun y hy => he y hy)
    simpa only [opW, pureOp, h1] using hw
  | call f args =>
    have h0 := he f (by simp [opdsOf])
    have h1 := map_ev_congr (xs := args) (fun y hy => he y (by simp [opdsOf, hy]))
    simp only [opW] at hw ⊢
    rw [h0, h1] at hw
    exact hw
  | callq f args =>
    have h0 := he f (by simp [opdsOf])
    have h1 := map_ev_congr (xs := args) (fun y hy => he y (by simp [opdsOf, hy]))
    simpa only [opW, h0, h1] using hw
  | calle f args cks =>
    have h0 := he f (by simp [opdsOf])
    have h1 := map_ev_congr (xs := args) (fun y hy => he y (by simp [opdsOf, hy]))
    have h2 : (cks.map fun c => ((St.mk t' A).ev c.1, c.2)) = cks.map fun c => ((St.mk t A).ev c.1, c.2) := List.map_congr_left fun c hc => by
      rw [he c.1 (by simp only [opdsOf, List.mem_cons, List.mem_append, List.mem_map]; exact .inr (.inr ⟨c, hc, rfl⟩))]
    simp only [opW] at hw ⊢
    rw [h0, h1, h2] at hw
    exact hw
  | alloc cs => exact hw
  | bad => exact hw
  | box n x =>
    have h0 := he x (by simp [opdsOf])
    simp only [opW] at hw ⊢
    rw [h0] at hw
    exact hw
  | app e by_ x y =>
    have h0 := he x (by simp [opdsOf])
    have h1 := he y (by simp [opdsOf])
    simp only [opW] at hw ⊢
    rw [h0, h1] at hw
    exact hw
  | cpy e x y =>
    have h0 := he x (by simp [opdsOf])
    have h1 := he y (by simp [opdsOf])
    simp only [opW] at hw ⊢
    rw [h0, h1] at hw
    exact hw
  | _ =>
    simp only [opdsOf, List.mem_cons, List.not_mem_nil, or_false, forall_eq_or_imp, forall_eq] at he
    simp only [opW, pureOp, he] at hw ⊢
    exact hw

theorem opW_congr {s s' : St} {op : AOp} (hA : s'.A = s.A) (he : ∀ x ∈ opdsOf op, s'.ev x = s.ev x) {K : AV → AHeap → Prop} : opW P S s' op K = opW P S s op K :=
  propext ⟨opW_congr' hA he, opW_congr' hA.symm (fun x hx => (he x hx).symm)⟩

theorem iteI {p : Prop} [Decidable p] {a b a' b' : Prop} (h1 : a → a') (h2 : b → b') (h : if p then a else b) : if p then a' else b' := by
  by_cases hp : p
  · rw [if_pos hp] at *; exact h1 h
  · rw [if_neg hp] at *; exact h2 h

theorem appW_mono {A : AHeap} {e by_ : Nat} {s : AV} {ys : List AV} {m : Nat} {K K' : AV → AHeap → Prop} {h' : Hold K} (h : ∀ r A', K r A' → K' r A') (hK : appW A e by_ s ys m K h') : appW A e by_ s ys m K' := by
  have ha : ∀ {A : AHeap} {f : AV} {p : Prop}, (p ∧ K f A) → (p ∧ K' f A) := fun hK => ⟨hK.1, h _ _ hK.2⟩
  cases s <;> first | (exact hK.elim) | skip
  · simp only [appW] at *
    exact brW_mono (h _ _) (optW_mono fun _ => ha) hK
  · rename_i b e' o n t
    simp only [appW] at *
    refine brW_mono (h _ _) (optW_mono fun cs => optW_mono fun _ hK => ?_) hK
    cases t with
    | tight => exact ha hK
    | full => exact brW_mono (h _ _) (optW_mono fun _ => ha) hK
    | unk => exact hK

theorem opW_mono {s : St} {op : AOp} {K K' : AV → AHeap → Prop} (h : ∀ r A', K r A' → K' r A') (hK : opW P S s op K) : opW P S s op K' := by
  cases op with
  | alloc cs => exact h _ _ hK
  | box n x => exact ⟨hK.1, h _ _ hK.2⟩
  | bad => exact hK
  | _ =>
    simp only [opW] at hK ⊢
    refine optW_mono ?_ hK
    first
      | exact fun v => h _ _
      | exact fun p hK => T.mono hK h
      | exact fun p hK => ⟨hK.1, h _ _ hK.2⟩
      | (intro ys hK
         refine optW_mono ?_ hK
         first
           | exact fun m => appW_mono h
           | (intro m hK
              refine optW_mono ?_ hK
              exact fun p => h _ _))
      | exact fun p hK => ⟨hK.1, hK.2.1, hK.2.2.1, h _ _ hK.2.2.2⟩
      | (intro cs hK
         refine brW_mono ?_ ?_ hK
         · exact h _ _
         · exact h _ _)
      | (intro q hK
         refine nilW_mono ?_ hK
         exact fun r => h _ _)

theorem opW_le {s : St} {op : AOp} (hg : grows op = true) {K : AV → AHeap → Prop} (hK : opW P S s op K) : opW P S s op fun r A' => s.A.le A' ∧ K r A' := by
  have h0 : s.A.le s.A := fun _ _ h => h
  cases op with
  | alloc cs => exact ⟨s.A.le_push _, hK⟩
  | box n x => exact ⟨hK.1, s.A.le_push _, hK.2⟩
  | st _ _ _ | app _ _ _ _ | cpy _ _ _ | clr _ _ _ | call _ _ | calle _ _ _ | bad => cases hg
  | _ =>
    simp only [opW] at hK ⊢
    refine optW_mono ?_ hK
    first
      | exact fun v h => ⟨h0, h⟩
      | exact fun p hK => ⟨hK.1, hK.2.1, hK.2.2.1, s.A.le_push _, hK.2.2.2⟩
      | (intro cs hK
         refine brW_mono ?_ ?_ hK
         · exact fun h => ⟨s.A.le_push _, h⟩
         · exact fun h => ⟨s.A.le_push _, h⟩)
      | (intro q hK
         refine nilW_mono ?_ hK
         exact fun r h => ⟨h0, h⟩)

/-- What an operation yields that does nothing to memory. -/
def yv (S : Spec) (s : St) : AOp → Option AV
  | .callq g args => (calleeOf (s.ev g)).bind fun p => S.q p.1 (looseL (args.map s.ev ++ p.2))
  | op => pureOp s op

theorem opW_yv {s : St} {op : AOp} (hp : (isPure op || isLd op) = true) {K : AV → AHeap → Prop} : opW P S s op K ↔ ∃ v, yv S s op = some v ∧ K v s.A := by
  cases op with
  | st _ _ _ | alloc _ | box _ _ | bsl _ _ _ _ | mks _ _ _ _ _ | app _ _ _ _ | cpy _ _ _ | clr _ _ _ | call _ _ | calle _ _ _ | bad | eqn _ _ | eqi _ _ => cases hp
  | _ =>
    simp only [opW, yv]
    exact optW_iff

theorem ldVar_le {A A' : AHeap} (h : A.le A') {p : AV} {n : Nat} {g : Bool} {v : AV} (e : ldVar A p n g = some v) : ldVar A' p n g = some v := by
  have hc : ∀ (q v : AV), ldCell A q = some v → ldCell A' q = some v := by
    intro q v e
    cases q <;> simp only [ldCell] at e ⊢ <;> first | (cases e; done) | skip
    · obtain ⟨cs, h1, h2⟩ := Option.bind_eq_some_iff.1 e
      rw [h _ _ h1]; exact h2
    · rename_i x i off
      cases x <;> simp only [elemCell] at e ⊢ <;> first | (cases e; done) | (exact e) | skip
      split at e
      · rename_i hh
        rw [if_pos hh]
        obtain ⟨cs, h1, h2⟩ := Option.bind_eq_some_iff.1 e
        rw [h _ _ h1]; exact h2
      · cases e
  have hcs : ∀ (n : Nat) (cs : List AV), ldCells A p n = some cs → ldCells A' p n = some cs := by
    intro n
    induction n with
    | zero => exact fun cs e => e
    | succ n ih =>
      intro cs e
      simp only [ldCells] at e ⊢
      obtain ⟨c1, h1, e⟩ := Option.bind_eq_some_iff.1 e
      obtain ⟨q, h2, e⟩ := Option.bind_eq_some_iff.1 e
      obtain ⟨u, h3, e⟩ := Option.map_eq_some_iff.1 e
      rw [ih _ h1, Option.bind_some, h2, Option.bind_some, hc _ _ h3, Option.map_some, e]
  unfold ldVar at *
  split at e
  · rename_i hg
    rw [if_pos hg]
    split at e
    · cases e
    · rename_i h0
      rw [if_neg h0]
      obtain ⟨cs, h1, h2⟩ := Option.map_eq_some_iff.1 e
      rw [hcs _ _ h1, Option.map_some, h2]
  · rename_i hg
    rw [if_neg hg]
    exact hc _ _ e

theorem onesOf_le {A A' : AHeap} (h : A.le A') {x : AV} {v : List AV} (e : onesOf A x = some v) : onesOf A' x = some v := by
  cases x <;> simp only [onesOf] at e ⊢ <;> first | (cases e; done) | (exact e) | skip
  split at e
  · rename_i hh
    rw [if_pos hh]
    obtain ⟨cs, h1, h2⟩ := Option.bind_eq_some_iff.1 e
    rw [h _ _ h1]; exact h2
  · cases e

theorem yv_keep {s s' : St} {op : AOp} (hp : (isPure op || isLd op) = true) (he : ∀ x ∈ opdsOf op, s'.ev x = s.ev x) (hA : isPure op = true ∨ s.A.le s'.A) {v : AV} (h : yv S s op = some v) : yv S s' op = some v := by
  by_cases hld : isLd op = true
  · have hle : s.A.le s'.A := hA.resolve_left (by cases op <;> first | (cases hld; done) | (intro h; cases h))
    cases op <;> first | (cases hld; done) | skip
    · simp only [opdsOf, List.mem_cons, List.not_mem_nil, or_false, forall_eq] at he
      simp only [yv, pureOp, he] at h ⊢
      obtain ⟨x, h1, h2⟩ := Option.bind_eq_some_iff.1 h
      rw [onesOf_le hle h1]; exact h2
    · simp only [opdsOf, List.mem_cons, List.not_mem_nil, or_false, forall_eq] at he
      simp only [yv, pureOp, he] at h ⊢
      exact ldVar_le hle h
  · have hpp : isPure op = true := by
      cases hh : isPure op
      · rw [hh] at hp; simp at hp; exact absurd hp hld
      · rfl
    -- such an operation looks at no memory
    have hs : yv S s' op = yv S { s' with A := s.A } op := by
      cases op <;> first | rfl | (cases hpp; done) | (exact absurd rfl hld)
    rw [hs]
    have h1 := (opW_yv (P := default) (S := S) (s := s) hp (K := fun r _ => r = v)).2 ⟨v, h, rfl⟩
    rw [← opW_congr (s := s) (s' := { s' with A := s.A }) rfl he] at h1
    obtain ⟨v', h2, h3⟩ := (opW_yv hp).1 h1
    rw [h2, h3]

def yld (S : Spec) (o : AOper) (v : AV) (s : St) : Prop :=
  (guardOk s o.guard = some false ∧ v = .tup []) ∨ (guardOk s o.guard = some true ∧ yv S s o.op = some v)

theorem wpg_yld {o : AOper} (hp : (isPure o.op || isLd o.op) = true) {s : St} {K : St → Prop} : wpg P S s o K ↔ ∃ v, yld S o v s ∧ K (s.put o.dst v) := by
  unfold wpg yld
  cases hg : guardOk s o.guard with
  | none =>
    rw [optW_none]
    constructor
    · exact False.elim
    · rintro ⟨v, h1, h2⟩; rcases h1 with h1 | h1 <;> cases h1.1
  | some gb =>
  rw [optW_some]
  cases gb with
  | true =>
    rw [brW_true]
    unfold wpo
    rw [opW_yv hp]
    constructor
    · rintro ⟨v, h1, h2⟩; exact ⟨v, .inr ⟨rfl, h1⟩, h2⟩
    · rintro ⟨v, h1, h2⟩; exact ⟨v, (h1.resolve_left (fun h => by cases h.1)).2, h2⟩
  | false =>
    rw [brW_false]
    constructor
    · intro h; exact ⟨_, .inl ⟨rfl, rfl⟩, h⟩
    · rintro ⟨v, h1, h2⟩
      obtain ⟨_, rfl⟩ := h1.resolve_right (fun h => by cases h.1)
      exact h2

theorem put_t {s : St} {d : Option Nat} {v : AV} {t : Nat} (h : d ≠ some t) : (s.put d v).t t = s.t t := by
  cases d with
  | none => rfl
  | some d =>
    have : t ≠ d := fun e => h (by rw [e])
    simp [St.put, putT, this]
@[simp] theorem put_A {s : St} {d : Option Nat} {v : AV} : (s.put d v).A = s.A := by cases d <;> rfl

theorem put_put {s : St} {A' : AHeap} {d d' : Option Nat} {v r : AV} (h : ∀ i, d = some i → d' ≠ some i) : ({ s.put d v with A := A' } : St).put d' r = (({ s with A := A' } : St).put d' r).put d v := by
  cases d with
  | none => cases d' <;> rfl
  | some d =>
    cases d' with
    | none => rfl
    | some d' =>
      have hne : d' ≠ d := fun e => h d rfl (by rw [e])
      simp only [St.put]
      congr 1
      funext i
      simp only [putT]
      by_cases h1 : i = d
      · subst h1; simp [Ne.symm hne]
      · simp [h1]

theorem looks_ev {o : AOper} {s s' : St} (h : ∀ t ∈ looks o, s'.t t = s.t t) : (∀ x ∈ opdsOf o.op, s'.ev x = s.ev x) ∧ guardOk s' o.guard = guardOk s o.guard := by
  constructor
  · intro x hx
    cases x with
    | t n => exact h n (by unfold looks; exact List.mem_append.2 (.inl (List.mem_filterMap.2 ⟨.t n, hx, rfl⟩)))
    | c v => rfl
  · cases hg : o.guard with
    | none => rfl
    | some p =>
      obtain ⟨g, want⟩ := p
      simp only [guardOk]
      rw [h g (by unfold looks; rw [hg]; simp)]

theorem commutes_spec {x y : AOper} (h : commutes x y = true) : (∀ d, x.dst = some d → d ∉ looks y) ∧ (∀ d, x.dst = some d → y.dst ≠ some d) ∧ (∀ d, y.dst = some d → d ∉ looks x) ∧ (isPure x.op = true ∨ (isLd x.op = true ∧ (grows y.op = true ∨ ckd x.op y.op = true))) := by
  unfold commutes at h
  rw [Bool.and_eq_true] at h
  obtain ⟨h, h4⟩ := h
  refine ⟨fun d hd => ?_, fun d hd => ?_, fun d hd => ?_, by simpa using h4⟩ <;> simp [apartA, hd] at h
  · exact h.1.1
  · exact h.1.2
  · exact h.2

theorem cksW_get {A A' : AHeap} : ∀ {l : List (AV × Nat × Bool)}, cksW A A' l → ∀ c ∈ l, ldVar A' c.1 c.2.1 c.2.2 = ldVar A c.1 c.2.1 c.2.2
  | [], _, c, hc => by cases hc
  | d :: r, h, c, hc => by
    rcases List.mem_cons.1 hc with rfl | hc
    · exact h.1
    · exact cksW_get h.2 c hc
theorem opW_ckd {s : St} {x y : AOp} (hc : ckd x y = true) {K : AV → AHeap → Prop} (hK : opW P S s y K) : opW P S s y fun r A' => (∀ (v : AV) (s' : St), (∀ z ∈ opdsOf x, s'.ev z = s.ev z) → s'.A = A' → yv S s x = some v → yv S s' x = some v) ∧ K r A' := by
  cases x <;> first | (cases hc; done) | skip
  rename_i p n g
  cases y <;> first | (cases hc; done) | skip
  rename_i f args cks
  simp only [ckd, List.any_eq_true, Bool.and_eq_true, beq_iff_eq] at hc
  obtain ⟨c, hc, h1, h2, h3⟩ := hc
  have hp : c.1 = p := by
    generalize c.1 = d at h1
    cases d <;> cases p <;> simp_all [opdB]
  simp only [opW] at hK ⊢
  refine optW_mono (fun r hK => ⟨hK.1, fun v s' he hA hv => ?_, hK.2⟩) hK
  have := cksW_get hK.1 (s.ev c.1, c.2) (List.mem_map.2 ⟨c, hc, rfl⟩)
  simp only [opdsOf, List.mem_cons, List.not_mem_nil, or_false, forall_eq] at he
  simp only [yv, pureOp] at hv ⊢
  rw [he, hA]
  simp only [hp, h2, h3] at this
  rw [this]
  exact hv

theorem wpg_frame {x y : AOper} (hc : commutes x y = true) {v : AV} {s : St} (hy : yld S x v s) {K : St → Prop} (h : wpg P S (s.put x.dst v) y K) :
    wpg P S s y fun s' => K (s'.put x.dst v) ∧ yld S x v s' := by
  obtain ⟨h1, h2, h3, h4⟩ := commutes_spec hc
  have hev := looks_ev (o := y) (s := s) (s' := s.put x.dst v) (fun t ht => put_t (fun e => h1 t e ht))
  have keep : ∀ (A' : AHeap) (r : AV), (isPure x.op = true ∨ s.A.le A') → yld S x v (({ s with A := A' } : St).put y.dst r) := by
    intro A' r hA
    have hx := looks_ev (o := x) (s := s) (s' := ({ s with A := A' } : St).put y.dst r) (fun t ht => by rw [put_t (fun e => h3 t e ht)])
    unfold yld at *
    rw [hx.2]
    rcases hy with hy | hy
    · exact .inl hy
    · refine .inr ⟨hy.1, yv_keep ?_ hx.1 (by simpa using hA) hy.2⟩
      rcases h4 with h4 | h4
      · simp [h4]
      · simp [h4.1]
  unfold wpg at *
  rw [hev.2] at h
  obtain ⟨gb, hg, h⟩ := optW_iff.1 h
  refine optW_iff.2 ⟨gb, hg, ?_⟩
  cases gb with
  | true =>
    rw [brW_true] at *
    unfold wpo at *
    rw [opW_congr (s := s) (s' := s.put x.dst v) (by simp) hev.1] at h
    have hput : ∀ r A', ({ s.put x.dst v with A := A' } : St).put y.dst r = (({ s with A := A' } : St).put y.dst r).put x.dst v := fun r A' => put_put h2
    rcases h4 with h4 | h4
    · refine opW_mono (fun r A' hk => ?_) h
      rw [hput] at hk
      exact ⟨hk, keep A' r (.inl h4)⟩
    · obtain ⟨hld, h4⟩ := h4
      rcases h4 with h4 | h4
      · refine opW_mono (fun r A' hk => ?_) (opW_le h4 h)
        rw [hput] at hk
        exact ⟨hk.2, keep A' r (.inr hk.1)⟩
      · refine opW_mono (fun r A' hk => ?_) (opW_ckd (x := x.op) h4 h)
        rw [hput] at hk
        refine ⟨hk.2, ?_⟩
        have hx := looks_ev (o := x) (s := s) (s' := ({ s with A := A' } : St).put y.dst r) (fun t ht => by rw [put_t (fun e => h3 t e ht)])
        unfold yld at *
        rw [hx.2]
        rcases hy with hy | hy
        · exact .inl hy
        · exact .inr ⟨hy.1, hk.1 v _ hx.1 (by simp) hy.2⟩
  | false =>
    rw [brW_false] at *
    have := put_put (s := s) (A' := s.A) (d := x.dst) (d' := y.dst) (v := v) (r := .tup []) h2
    have e1 : ({ s.put x.dst v with A := s.A } : St) = s.put x.dst v := by cases hd : x.dst <;> rfl
    rw [e1] at this
    rw [this] at h
    exact ⟨h, keep s.A _ (.inr (fun _ _ h => h))⟩

end Go.Proofs.YtllahdjejcideaaAi
