/- A call with a part of the heap. -/
import Derived.Test.YtllahdjejcideaaAiX
namespace Go.Proofs.YtllahdjejcideaaAi
open Go Go.RowKit
set_option linter.unusedVariables false
set_option linter.unusedSimpArgs false

variable {P : Program} {S : Spec} {N : Nat}

/-- The heap behind a call that has seen a part of it. -/
def upd (f g : Nat → Nat) : Nat → List (Option (List AV)) → List (Option (List AV)) → List (Option (List AV)) → List (Option (List AV))
  | _, [], r1, l => l ++ r1.map (Option.map (renL g))
  | _, _ :: _, [], l => l
  | i, o :: r, o1 :: r1, l => upd f g (i + 1) r r1 (if o.isSome = true then hset l (f i) (o1.map (renL g)) else l)
/-- Names behind a call that has seen a part: its own new ones come behind. -/
def extN (n m : Nat) (f : Nat → Nat) : Nat → Nat := fun b => if b < n then f b else m + (b - n)

theorem hget_map (g : List AV → List AV) : ∀ (l : List (Option (List AV))) (i : Nat), hget (l.map (Option.map g)) i = (hget l i).map g
  | [], i => rfl
  | o :: r, i => by
    simp only [List.map_cons, hget]
    split
    · rfl
    · exact hget_map g r _

theorem upd_len (f g : Nat → Nat) : ∀ (l' l1 l : List (Option (List AV))) (i : Nat), l'.length ≤ l1.length → (upd f g i l' l1 l).length = l.length + (l1.length - l'.length)
  | [], l1, l, i, h => by simp [upd]
  | o :: r, [], l, i, h => by simp at h
  | o :: r, o1 :: r1, l, i, h => by
    rw [upd, upd_len f g r r1 _ _ (by simpa using h)]
    simp only [List.length_cons]
    split <;> simp <;> omega

theorem upd_frame (f g : Nat → Nat) : ∀ (l' l1 l : List (Option (List AV))) (k i : Nat), i < l.length → (∀ b cs, hget l' b = some cs → f (k + b) ≠ i) → hget (upd f g k l' l1 l) i = hget l i
  | [], l1, l, k, i, hi, _ => by rw [upd, hget_append, if_pos hi]
  | o :: r, [], l, k, i, hi, _ => rfl
  | o :: r, o1 :: r1, l, k, i, hi, h => by
    have hr : ∀ b cs, hget r b = some cs → f (k + 1 + b) ≠ i := fun b cs hb => by
      have := h (b + 1) cs (by simpa [hget] using hb)
      rwa [show k + (b + 1) = k + 1 + b by omega] at this
    rw [upd]
    cases o with
    | none => exact upd_frame f g r r1 l (k + 1) i hi hr
    | some cs =>
      have h0 := h 0 cs (by simp [hget])
      rw [upd_frame f g r r1 _ (k + 1) i (by simpa using hi) hr]
      simp only [Option.isSome_some, if_true]
      rw [hget_hset, if_neg (fun e => h0 e.1.symm)]

theorem upd_own (f g : Nat → Nat) : ∀ (l' l1 l : List (Option (List AV))) (k b : Nat) (cs : List AV), l'.length ≤ l1.length → hget l' b = some cs → f (k + b) < l.length → (∀ b b' cs cs', hget l' b = some cs → hget l' b' = some cs' → f (k + b) = f (k + b') → b = b') →
    hget (upd f g k l' l1 l) (f (k + b)) = (hget l1 b).map (renL g)
  | [], l1, l, k, b, cs, _, h, _, _ => by cases h
  | o :: r, [], l, k, b, cs, hl, h, _, _ => by simp at hl
  | o :: r, o1 :: r1, l, k, b, cs, hl, h, hlt, hinj => by
    rw [upd]
    have hinj' : ∀ b b' cs cs', hget r b = some cs → hget r b' = some cs' → f (k + 1 + b) = f (k + 1 + b') → b = b' := fun b b' cs cs' h1 h2 e => by
      have := hinj (b + 1) (b' + 1) cs cs' (by simpa [hget] using h1) (by simpa [hget] using h2) (by rw [show k + (b + 1) = k + 1 + b by omega, show k + (b' + 1) = k + 1 + b' by omega]; exact e)
      omega
    by_cases hb : b = 0
    · subst hb
      simp only [hget, if_true] at h
      subst h
      simp only [Option.isSome_some, if_true, Nat.add_zero] at *
      rw [upd_frame f g r r1 _ (k + 1) (f k) (by simpa using hlt) (fun b' cs' hb' e => by
        have := hinj (b' + 1) 0 cs' cs (by simpa [hget] using hb') (by simp [hget]) (by rw [show k + (b' + 1) = k + 1 + b' by omega]; simpa using e)
        omega)]
      rw [hget_hset, if_pos ⟨rfl, hlt⟩]
      simp [hget]
    · obtain ⟨b, rfl⟩ : ∃ c, b = c + 1 := ⟨b - 1, by omega⟩
      have h' : hget r b = some cs := by simpa [hget] using h
      have e : k + (b + 1) = k + 1 + b := by omega
      rw [e] at hlt ⊢
      have hlen : (if o.isSome = true then hset l (f k) (o1.map (renL g)) else l).length = l.length := by split <;> simp
      rw [upd_own f g r r1 _ (k + 1) b cs (by simpa using hl) h' (by rw [hlen]; exact hlt) hinj']
      simp [hget]

theorem upd_fresh (f g : Nat → Nat) : ∀ (l' l1 l : List (Option (List AV))) (k j : Nat), l'.length ≤ l1.length → hget (upd f g k l' l1 l) (l.length + j) = (hget l1 (l'.length + j)).map (renL g)
  | [], l1, l, k, j, _ => by
    rw [upd, hget_append, if_neg (by omega), show l.length + j - l.length = j by omega, hget_map]
    simp
  | o :: r, [], l, k, j, h => by simp at h
  | o :: r, o1 :: r1, l, k, j, h => by
    rw [upd]
    have hlen : (if o.isSome = true then hset l (f k) (o1.map (renL g)) else l).length = l.length := by split <;> simp
    have := upd_fresh f g r r1 (if o.isSome = true then hset l (f k) (o1.map (renL g)) else l) (k + 1) j (by simpa using h)
    rw [hlen] at this
    rw [this]
    simp only [List.length_cons, hget]
    rw [if_neg (by omega), show r.length + 1 + j - 1 = r.length + j by omega]

mutual
theorem rep_lt {σ : Sg} {n : Nat} (h : ∀ b x, σ.nm b = some x → b < n) : ∀ (x : AV) (v : Value), Rep σ x v → x.lt n = true
  | .ptr b _, v, hr => by cases hr with | ptr _ _ c sz h1 => exact decide_eq_true (h _ _ h1)
  | .ref b _ _ _ _, v, hr => by cases hr with | ref _ _ _ _ _ ad cap c sz h1 h2 h3 h4 h5 h6 h7 => exact decide_eq_true (h _ _ h5)
  | .ep x _ _, v, hr => by
    cases hr with
    | epsl => rfl
    | epref _ _ _ _ _ _ _ c sz h1 => exact decide_eq_true (h _ _ h1)
  | .fn _ cs, v, hr => by cases hr with | fn _ _ vs h1 h2 => exact repL_lt h cs vs h1 h2
  | .agg cs, v, hr => by cases hr with | agg _ vs h1 _ h2 => exact repL_lt h cs vs h1 h2
  | .tup cs, v, hr => by cases hr with | tup _ vs h1 h2 => exact repL_lt h cs vs h1 h2
  | .bool _, _, _ | .int _ _, _, _ | .str _, _, _ | .sl _ _, _, _ | .nilp, _, _ | .nilf, _, _ | .nili, _, _ | .iface, _, _ | .any, _, _ => rfl
theorem repL_lt {σ : Sg} {n : Nat} (h : ∀ b x, σ.nm b = some x → b < n) : ∀ (cs : List AV) (vs : List Value), cs.length = vs.length → (∀ (i : Nat) (c : AV) (v : Value), cs[i]? = some c → vs[i]? = some v → Rep σ c v) → ltL n cs = true
  | [], vs, _, _ => rfl
  | x :: cs, [], hl, _ => by simp at hl
  | x :: cs, v :: vs, hl, hr => by
    simp only [ltL, Bool.and_eq_true]
    exact ⟨rep_lt h x v (hr 0 x v rfl rfl), repL_lt h cs vs (by simpa using hl) fun i c u h1 h2 => hr (i + 1) c u (by simpa using h1) (by simpa using h2)⟩
end
theorem Sim.lt_of {B : Nat → Prop} {σ : Sg} {A : AHeap} {w : World} (h : Sim B σ A w) (x : AV) (v : Value) (hr : Rep σ x v) : x.lt A.n = true :=
  rep_lt (fun b y e => (h.nm b y.1 y.2 e).1) x v hr

/-- Other blocks are protected. -/
theorem Sim.protect {B B' : Nat → Prop} {σ : Sg} {A : AHeap} {w : World} (h : Sim B σ A w) (h1 : ∀ c, B' c → c < w.heap.size) (h2 : ∀ b cs c n, A b = some cs → σ.nm b = some (c, n) → ¬ B' c) : Sim B' { σ with base := σ.mem } A w := by
  refine ⟨h1, h.mem, fun c o e => .inl e, h.nm, h.tot, fun b cs e => ?_, h.inj⟩
  obtain ⟨c, cur, t, k1, k2, k3, k4, k5, k6⟩ := h.own b cs e
  exact ⟨c, cur, t, k1, h2 b cs c _ e k1, k3, k4, k5, fun j x hx => by
    obtain ⟨v, e1, e2, e3⟩ := k6 j x hx
    exact ⟨v, e1, Rep.mono' (σ := σ) (σ' := { σ with base := σ.mem }) (fun _ _ h => h) (fun _ _ h => h) e2, e3⟩⟩

theorem T.embed {f : FuncId} {args : List AV} {A A' : AHeap} {R : AV → AHeap → Prop} (h : T P f args A' R) {π : Nat → Nat} (hv : View π A A') (hl : ltL A'.n args = true) :
    T P f (renL π args) A fun r A1 => ∃ r' A1', R r' A1' ∧ r = r'.ren (extN A'.n A.n π) ∧ A1 = ⟨upd π (extN A'.n A.n π) 0 A'.l A1'.l A.l⟩ := by
  refine ⟨h.1, fun B w0 σ w vs hb hs ha => ?_⟩
  have hs1 := hs.view hv
  let F : Nat → Prop := fun c => ∃ b cs n, A' b = some cs ∧ σ.nm (π b) = some (c, n)
  let B' : Nat → Prop := fun c => c < w.heap.size ∧ ¬ F c
  have hFB : ∀ c, F c → ¬ B c ∧ σ.mem c = none := by
    rintro c ⟨b, cs, n, h1, h2⟩
    obtain ⟨c', cur, e, k1, k2, k3, _⟩ := hs.own _ _ (hv.own b cs h1).2
    rw [h2] at k1
    injection k1 with k1; injection k1 with k1 _
    subst k1
    exact ⟨k2, k3⟩
  have hs2 := hs1.protect (B' := B') (fun c h => h.1) (fun b cs c n h1 h2 h3 => h3.2 ⟨b, cs, n, h1, by rw [Sg.see_at (AHeap.lt h1)] at h2; exact h2⟩)
  have ha1 : RepL { σ.see π A'.n with base := σ.mem } args vs := by
    refine ⟨by have := ha.1; rw [renL_map] at this; simpa using this, fun i c v hc hvv => ?_⟩
    have := ha.2 i (c.ren π) v (by rw [renL_map, List.getElem?_map, hc]; rfl) hvv
    exact Rep.mono' (σ := σ.see π A'.n) (σ' := { σ.see π A'.n with base := σ.mem }) (fun _ _ h => h) (fun _ _ h => h) (Sg.see_rep (ltL_get hl i c hc) this)
  refine (h.2 B' w _ w vs (Keeps.refl _ _) hs2 ha1).mono fun e w' ⟨r', A1', v, σ2, he, hR, hle, hs3, hrep, hk⟩ => ?_
  have hn1 : A'.n ≤ A1'.n := by
    rcases Nat.lt_or_ge A1'.n A'.n with hlt | hge
    · obtain ⟨x, hx⟩ := hs2.tot A1'.n hlt
      exact absurd (hs3.nm A1'.n x.1 x.2 (hle.nm _ _ hx)).1 (Nat.lt_irrefl _)
    · exact hge
  have hnmS : ∀ b, b < A'.n → σ2.nm b = σ.nm (π b) := by
    intro b hb
    obtain ⟨x, hx⟩ := hs.tot _ (hv.into b hb)
    rw [hx]
    exact hle.nm b x (by show (σ.see π A'.n).nm b = _; rw [Sg.see_at hb]; exact hx)
  let g := extN A'.n A.n π
  let σ3 : Sg := ⟨σ2.mem, fun i => if i < A.n then σ.nm i else σ2.nm (A'.n + (i - A.n)), σ.base⟩
  have hmem : ∀ b o, σ.mem b = some o → σ2.mem b = some o := fun b o h => hle.mem b o h
  have hle3 : σ.Le σ3 := ⟨hmem, fun b x e => by
    show (if b < A.n then _ else _) = _
    rw [if_pos (hs.nm b x.1 x.2 e).1]; exact e, rfl⟩
  have hren : ∀ b x, b < A1'.n → σ2.nm b = some x → σ3.nm (g b) = some x := by
    intro b x hb e
    show (if g b < A.n then σ.nm (g b) else σ2.nm (A'.n + (g b - A.n))) = some x
    simp only [g, extN]
    by_cases hlt : b < A'.n
    · rw [if_pos hlt, if_pos (hv.into b hlt), ← hnmS b hlt]; exact e
    · rw [if_neg hlt, if_neg (by omega), show A'.n + (A.n + (b - A'.n) - A.n) = b by omega]; exact e
  have hltR : ∀ {x : AV} {u : Value}, Rep σ2 x u → x.lt A1'.n = true := fun {x u} hr => hs3.lt_of x u hr
  have hrn : ∀ {x : AV} {u : Value}, Rep σ2 x u → Rep σ3 (x.ren g) u := fun {x u} hr => rep_ren hren (fun _ _ h => h) x u (hltR hr) hr
  have hkeep : ∀ c, c < w.heap.size → ¬ F c → w'.heap[c]? = w.heap[c]? := fun c h1 h2 => hk.block c ⟨h1, h2⟩
  have hFn : ∀ c n n', (∃ b cs, A' b = some cs ∧ σ.nm (π b) = some (c, n)) → (∃ cs e fr, w.heap[c]? = some (.cells cs e fr) ∧ cs.size = n') → ∃ cs e fr, w'.heap[c]? = some (.cells cs e fr) ∧ cs.size = n' := by
    rintro c n n' ⟨b, cs, h1, h2⟩ ⟨cs1, e1, fr1, h3, h4⟩
    obtain ⟨_, cs2, e2, fr2, h5, h6⟩ := hs3.nm b c n (by rw [hnmS b (AHeap.lt h1)]; exact h2)
    obtain ⟨_, cs3, e3, fr3, h7, h8⟩ := hs.nm _ c n h2
    rw [h3] at h7
    injection h7 with h7; injection h7 with h7
    subst h7
    exact ⟨cs2, e2, fr2, h5, by omega⟩
  have hown : ∀ b cs, A' b = some cs → hget (upd π g 0 A'.l A1'.l A.l) (π b) = (A1' b).map (renL g) := by
    intro b cs hb
    have := upd_own π g A'.l A1'.l A.l 0 b cs hn1 hb (by rw [Nat.zero_add]; exact hv.into b (AHeap.lt hb)) (fun b b' cs cs' h1 h2 e => hv.inj b b' cs cs' h1 h2 (by simpa using e))
    simpa using this
  have hframe : ∀ i, i < A.n → (∀ b cs, A' b = some cs → π b ≠ i) → hget (upd π g 0 A'.l A1'.l A.l) i = A i := fun i hi h => upd_frame π g A'.l A1'.l A.l 0 i hi (fun b cs hb => by rw [Nat.zero_add]; exact h b cs hb)
  have hfresh : ∀ j, hget (upd π g 0 A'.l A1'.l A.l) (A.n + j) = (A1' (A'.n + j)).map (renL g) := fun j => upd_fresh π g A'.l A1'.l A.l 0 j hn1
  have hlen : (upd π g 0 A'.l A1'.l A.l).length = A.n + (A1'.n - A'.n) := upd_len π g A'.l A1'.l A.l 0 hn1
  -- what is owned behind the call
  have hwhat : ∀ i cs, hget (upd π g 0 A'.l A1'.l A.l) i = some cs → (∃ b cs', A1' b = some cs' ∧ cs = renL g cs' ∧ i = g b) ∨ (i < A.n ∧ A i = some cs ∧ ∀ c n, σ.nm i = some (c, n) → ¬ F c) := by
    intro i cs hi
    by_cases hlt : i < A.n
    · by_cases hex : ∃ b cs, A' b = some cs ∧ π b = i
      · obtain ⟨b, cs0, h1, rfl⟩ := hex
        rw [hown b cs0 h1] at hi
        obtain ⟨cs', h2, rfl⟩ := Option.map_eq_some_iff.1 hi
        exact .inl ⟨b, cs', h2, rfl, by simp only [g, extN]; rw [if_pos (AHeap.lt h1)]⟩
      · rw [hframe i hlt (fun b cs h1 h2 => hex ⟨b, cs, h1, h2⟩)] at hi
        refine .inr ⟨hlt, hi, fun c n h1 ⟨b, cs', n', h2, h3⟩ => hex ⟨b, cs', h2, ?_⟩⟩
        exact hs.inj _ _ _ _ _ _ _ (hv.own b cs' h2).2 hi h3 h1
    · obtain ⟨j, rfl⟩ : ∃ j, i = A.n + j := ⟨i - A.n, by omega⟩
      rw [hfresh j] at hi
      obtain ⟨cs', h2, rfl⟩ := Option.map_eq_some_iff.1 hi
      exact .inl ⟨A'.n + j, cs', h2, rfl, by simp only [g, extN]; rw [if_neg (by omega)]; omega⟩
  refine ⟨r'.ren g, ⟨upd π g 0 A'.l A1'.l A.l⟩, v, σ3, he, ⟨r', A1', hR, rfl, rfl⟩, hle3, ⟨?_, hs3.mem, ?_, ?_, ?_, ?_, ?_⟩, hrn hrep, hb.trans (hk.mono fun c hc => ⟨hs.base c hc, fun hf => (hFB c hf).1 hc⟩)⟩
  · exact fun c hc => Nat.lt_of_lt_of_le (hs.base c hc) hk.size
  · intro c o hc
    rcases hs3.low c o hc with h1 | h1
    · have h1 : σ.mem c = some o := by rw [hle.base] at h1; exact h1
      exact hs.low c o h1
    · refine .inr fun hB => h1 ⟨hs.base c hB, fun hf => (hFB c hf).1 hB⟩
  · intro b c n e
    have e : (if b < A.n then σ.nm b else σ2.nm (A'.n + (b - A.n))) = some (c, n) := e
    show b < (upd π g 0 A'.l A1'.l A.l).length ∧ _
    rw [hlen]
    split at e
    · rename_i hlt
      refine ⟨by omega, ?_⟩
      obtain ⟨_, hh⟩ := hs.nm b c n e
      by_cases hf : F c
      · obtain ⟨b1, cs1, n1, h1, h2⟩ := hf
        exact hFn c n1 n ⟨b1, cs1, h1, h2⟩ hh
      · rw [hkeep c (hs.nmLt e) hf]; exact hh
    · obtain ⟨h1, h2⟩ := hs3.nm _ c n e
      exact ⟨by omega, h2⟩
  · intro b hb
    have hb : b < (upd π g 0 A'.l A1'.l A.l).length := hb
    rw [hlen] at hb
    show ∃ x, (if b < A.n then σ.nm b else σ2.nm (A'.n + (b - A.n))) = some x
    split
    · rename_i hlt; exact hs.tot b hlt
    · exact hs3.tot _ (by omega)
  · intro i cs hi
    rcases hwhat i cs hi with ⟨b, cs', h1, rfl, rfl⟩ | ⟨hlt, h1, h2⟩
    · obtain ⟨c, cur, t, k1, k2, k3, k4, k5, k6⟩ := hs3.own b cs' h1
      refine ⟨c, cur, t, hren b _ (AHeap.lt h1) k1, fun hB => k2 ⟨hs.base c hB, fun hf => (hFB c hf).1 hB⟩, k3, k4, by rw [renL_map]; simpa using k5, fun j x hx => ?_⟩
      rw [renL_map, List.getElem?_map] at hx
      obtain ⟨y, hy, rfl⟩ := Option.map_eq_some_iff.1 hx
      obtain ⟨u, e1, e2, e3⟩ := k6 j y hy
      exact ⟨u, e1, hrn e2, e3⟩
    · obtain ⟨c, cur, t, k1, k2, k3, k4, k5, k6⟩ := hs.own i cs h1
      have hf := h2 c _ k1
      refine ⟨c, cur, t, hle3.nm _ _ k1, k2, ?_, by rw [hkeep c (hs.nmLt k1) hf]; exact k4, k5, fun j x hx => ?_⟩
      · show σ2.mem c = none
        cases hm : σ2.mem c with
        | none => rfl
        | some o =>
          rcases hs3.low c o hm with e1 | e1
          · have e1 : σ.mem c = some o := by rw [hle.base] at e1; exact e1
            rw [k3] at e1; cases e1
          · exact absurd ⟨hs.nmLt k1, hf⟩ e1
      · obtain ⟨u, e1, e2, e3⟩ := k6 j x hx
        exact ⟨u, e1, e2.mono hle3, e3⟩
  · intro i i' cs cs' c n n' e1 e2 e3 e4
    have sees : ∀ b cs1, A1' b = some cs1 → ∀ c n, σ3.nm (g b) = some (c, n) → σ2.nm b = some (c, n) := by
      intro b cs1 hb c n e
      obtain ⟨x, hx⟩ := hs3.tot b (AHeap.lt hb)
      have := hren b x (AHeap.lt hb) hx
      rw [e] at this
      rw [hx, ← this]
    have apart : ∀ b cs1 i, A1' b = some cs1 → (i < A.n ∧ ∀ c n, σ.nm i = some (c, n) → ¬ F c) → ∀ c n n', σ3.nm (g b) = some (c, n) → σ3.nm i = some (c, n') → False := by
      intro b cs1 i hb ⟨hi, hf⟩ c n n' h1 h2
      have h2 : σ.nm i = some (c, n') := by
        have h2 : (if i < A.n then σ.nm i else _) = some (c, n') := h2
        rwa [if_pos hi] at h2
      obtain ⟨c', cur, t, k1, k2, _⟩ := hs3.own b cs1 hb
      rw [sees b cs1 hb c n h1] at k1
      injection k1 with k1; injection k1 with k1 _
      subst k1
      exact k2 ⟨hs.nmLt h2, hf c n' h2⟩
    rcases hwhat i cs e1 with ⟨b, cs1, h1, rfl, rfl⟩ | ⟨hlt, h1, h2⟩ <;> rcases hwhat i' cs' e2 with ⟨b', cs1', h1', rfl, rfl⟩ | ⟨hlt', h1', h2'⟩
    · rw [hs3.inj b b' cs1 cs1' c n n' h1 h1' (sees _ _ h1 _ _ e3) (sees _ _ h1' _ _ e4)]
    · exact (apart b cs1 i' h1 ⟨hlt', h2'⟩ c n n' e3 e4).elim
    · exact (apart b' cs1' i h1' ⟨hlt, h2⟩ c n' n e4 e3).elim
    · have u1 : σ.nm i = some (c, n) := by
        have e3 : (if i < A.n then σ.nm i else _) = some (c, n) := e3
        rwa [if_pos hlt] at e3
      have u2 : σ.nm i' = some (c, n') := by
        have e4 : (if i' < A.n then σ.nm i' else _) = some (c, n') := e4
        rwa [if_pos hlt'] at e4
      exact hs.inj _ _ _ _ _ _ _ h1 h1' u1 u2

end Go.Proofs.YtllahdjejcideaaAi
