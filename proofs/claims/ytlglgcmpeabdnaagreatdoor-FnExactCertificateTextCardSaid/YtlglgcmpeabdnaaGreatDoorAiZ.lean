/- The framework, merged: X2 Y Y2 Y3 Y4 Z. -/
import Derived.Test.YtlglgcmpeabdnaaGreatDoorAiX
/- A call with a part of the heap. -/
namespace Go.Proofs.YtlglgcmpeabdnaaGreatDoorAi
open Go Go.RowKit
set_option linter.unusedVariables false
set_option linter.unusedSimpArgs false

variable {P : Program} {S : Spec} {N : Nat}

/-- The heap behind a call that has seen a part of it. -/
def upd (f g : Nat → Nat) : Nat → List (Option (List AV)) → List (Option (List AV)) → List (Option (List AV)) → List (Option (List AV))
  | _, [], r1, l => l ++ r1.map (Option.map (renL g))
  | _, _ :: _, [], l => l
  | i, o :: r, o1 :: r1, l => upd f g (i + 1) r r1 (if o.isSome = true then hset l (f i) (o1.map (renL g)) else l)
/-- Names behind a call that has seen a part: its own new ones come behind. -/
def extN (n m : Nat) (f : Nat → Nat) : Nat → Nat := fun b => if b < n then f b else m + (b - n)

theorem hget_map (g : List AV → List AV) : ∀ (l : List (Option (List AV))) (i : Nat), hget (l.map (Option.map g)) i = (hget l i).map g
  | [], i => rfl
  | o :: r, i => by
    simp only [List.map_cons, hget]
    split
    · rfl
    · exact hget_map g r _

theorem upd_len (f g : Nat → Nat) : ∀ (l' l1 l : List (Option (List AV))) (i : Nat), l'.length ≤ l1.length → (upd f g i l' l1 l).length = l.length + (l1.length - l'.length)
  | [], l1, l, i, h => by simp [upd]
  | o :: r, [], l, i, h => by simp at h
  | o :: r, o1 :: r1, l, i, h => by
    rw [upd, upd_len f g r r1 _ _ (by simpa using h)]
    simp only [List.length_cons]
    split <;> simp <;> omega

theorem upd_frame (f g : Nat → Nat) : ∀ (l' l1 l : List (Option (List AV))) (k i : Nat), i < l.length → (∀ b cs, hget l' b = some cs → f (k + b) ≠ i) → hget (upd f g k l' l1 l) i = hget l i
  | [], l1, l, k, i, hi, _ => by rw [upd, hget_append, if_pos hi]
  | o :: r, [], l, k, i, hi, _ => rfl
  | o :: r, o1 :: r1, l, k, i, hi, h => by
    have hr : ∀ b cs, hget r b = some cs → f (k + 1 + b) ≠ i := fun b cs hb => by
      have := h (b + 1) cs (by simpa [hget] using hb)
      rwa [show k + (b + 1) = k + 1 + b by omega] at this
    rw [upd]
    cases o with
    | none => exact upd_frame f g r r1 l (k + 1) i hi hr
    | some cs =>
      have h0 := h 0 cs (by simp [hget])
      rw [upd_frame f g r r1 _ (k + 1) i (by simpa using hi) hr]
      simp only [Option.isSome_some, if_true]
      rw [hget_hset, if_neg (fun e => h0 e.1.symm)]

theorem upd_own (f g : Nat → Nat) : ∀ (l' l1 l : List (Option (List AV))) (k b : Nat) (cs : List AV), l'.length ≤ l1.length → hget l' b = some cs → f (k + b) < l.length → (∀ b b' cs cs', hget l' b = some cs → hget l' b' = some cs' → f (k + b) = f (k + b') → b = b') →
    hget (upd f g k l' l1 l) (f (k + b)) = (hget l1 b).map (renL g)
  | [], l1, l, k, b, cs, _, h, _, _ => by cases h
  | o :: r, [], l, k, b, cs, hl, h, _, _ => by simp at hl
  | o :: r, o1 :: r1, l, k, b, cs, hl, h, hlt, hinj => by
    rw [upd]
    have hinj' : ∀ b b' cs cs', hget r b = some cs → hget r b' = some cs' → f (k + 1 + b) = f (k + 1 + b') → b = b' := fun b b' cs cs' h1 h2 e => by
      have := hinj (b + 1) (b' + 1) cs cs' (by simpa [hget] using h1) (by simpa [hget] using h2) (by rw [show k + (b + 1) = k + 1 + b by omega, show k + (b' + 1) = k + 1 + b' by omega]; exact e)
      omega
    by_cases hb : b = 0
    · subst hb
      simp only [hget, if_true] at h
      subst h
      simp only [Option.isSome_some, if_true, Nat.add_zero] at *
      rw [upd_frame f g r r1 _ (k + 1) (f k) (by simpa using hlt) (fun b' cs' hb' e => by
        have := hinj (b' + 1) 0 cs' cs (by simpa [hget] using hb') (by simp [hget]) (by rw [show k + (b' + 1) = k + 1 + b' by omega]; simpa using e)
        omega)]
      rw [hget_hset, if_pos ⟨rfl, hlt⟩]
      simp [hget]
    · obtain ⟨b, rfl⟩ : ∃ c, b = c + 1 := ⟨b - 1, by omega⟩
      have h' : hget r b = some cs := by simpa [hget] using h
      have e : k + (b + 1) = k + 1 + b := by omega
      rw [e] at hlt ⊢
      have hlen : (if o.isSome = true then hset l (f k) (o1.map (renL g)) else l).length = l.length := by split <;> simp
      rw [upd_own f g r r1 _ (k + 1) b cs (by simpa using hl) h' (by rw [hlen]; exact hlt) hinj']
      simp [hget]

theorem upd_fresh (f g : Nat → Nat) : ∀ (l' l1 l : List (Option (List AV))) (k j : Nat), l'.length ≤ l1.length → hget (upd f g k l' l1 l) (l.length + j) = (hget l1 (l'.length + j)).map (renL g)
  | [], l1, l, k, j, _ => by
    rw [upd, hget_append, if_neg (by omega), show l.length + j - l.length = j by omega, hget_map]
    simp
  | o :: r, [], l, k, j, h => by simp at h
  | o :: r, o1 :: r1, l, k, j, h => by
    rw [upd]
    have hlen : (if o.isSome = true then hset l (f k) (o1.map (renL g)) else l).length = l.length := by split <;> simp
    have := upd_fresh f g r r1 (if o.isSome = true then hset l (f k) (o1.map (renL g)) else l) (k + 1) j (by simpa using h)
    rw [hlen] at this
    rw [this]
    simp only [List.length_cons, hget]
    rw [if_neg (by omega), show r.length + 1 + j - 1 = r.length + j by omega]

mutual
theorem rep_lt {σ : Sg} {n : Nat} (h : ∀ b x, σ.nm b = some x → b < n) : ∀ (x : AV) (v : Value), Rep σ x v → x.lt n = true
  | .ptr b _, v, hr => by cases hr with | ptr _ _ c sz h1 => exact decide_eq_true (h _ _ h1)
  | .ref b _ _ _ _, v, hr => by cases hr with | ref _ _ _ _ _ ad cap c sz h1 h2 h3 h4 h5 h6 h7 => exact decide_eq_true (h _ _ h5)
  | .ep x _ _, v, hr => by
    cases hr with
    | epsl => rfl
    | epref _ _ _ _ _ _ _ c sz h1 => exact decide_eq_true (h _ _ h1)
    | eptr _ _ c h1 h2 => exact decide_eq_true (h _ _ h1)
  | .fn _ cs, v, hr => by cases hr with | fn _ _ vs h1 h2 => exact repL_lt h cs vs h1 h2
  | .agg cs, v, hr => by cases hr with | agg _ vs h1 _ h2 => exact repL_lt h cs vs h1 h2
  | .tup cs, v, hr => by cases hr with | tup _ vs h1 h2 => exact repL_lt h cs vs h1 h2
  | .bool _, _, _ | .int _ _, _, _ | .str _, _, _ | .sl _ _, _, _ | .nilp, _, _ | .nilf, _, _ | .nili, _, _ | .iface, _, _ | .mv _ _, _, _ | .any, _, _ => rfl
theorem repL_lt {σ : Sg} {n : Nat} (h : ∀ b x, σ.nm b = some x → b < n) : ∀ (cs : List AV) (vs : List Value), cs.length = vs.length → (∀ (i : Nat) (c : AV) (v : Value), cs[i]? = some c → vs[i]? = some v → Rep σ c v) → ltL n cs = true
  | [], vs, _, _ => rfl
  | x :: cs, [], hl, _ => by simp at hl
  | x :: cs, v :: vs, hl, hr => by
    simp only [ltL, Bool.and_eq_true]
    exact ⟨rep_lt h x v (hr 0 x v rfl rfl), repL_lt h cs vs (by simpa using hl) fun i c u h1 h2 => hr (i + 1) c u (by simpa using h1) (by simpa using h2)⟩
end
theorem Sim.lt_of {B : Nat → Prop} {σ : Sg} {A : AHeap} {w : World} (h : Sim B σ A w) (x : AV) (v : Value) (hr : Rep σ x v) : x.lt A.n = true :=
  rep_lt (fun b y e => (h.nm b y.1 y.2 e).1) x v hr

/-- Other blocks are protected. -/
theorem Sim.protect {B B' : Nat → Prop} {σ : Sg} {A : AHeap} {w : World} (h : Sim B σ A w) (h1 : ∀ c, B' c → c < w.heap.size) (h2 : ∀ b cs c n, A b = some cs → σ.nm b = some (c, n) → ¬ B' c) : Sim B' { σ with base := σ.mem } A w := by
  refine ⟨h1, h.mem, fun c o e => .inl e, h.nm, h.tot, fun b cs e => ?_, h.inj, h.ty⟩
  obtain ⟨c, cur, t, k1, k2, k3, k4, k5, k6⟩ := h.own b cs e
  exact ⟨c, cur, t, k1, h2 b cs c _ e k1, k3, k4, k5, fun j x hx => by
    obtain ⟨v, e1, e2, e3⟩ := k6 j x hx
    exact ⟨v, e1, Rep.mono' (σ := σ) (σ' := { σ with base := σ.mem }) (fun _ _ h => h) (fun _ _ h => h) (fun _ _ h => h) e2, e3⟩⟩

theorem T.embed {f : FuncId} {args : List AV} {A A' : AHeap} {R : AV → AHeap → Prop} (h : T P f args A' R) {π : Nat → Nat} (hv : View π A A') (hl : ltL A'.n args = true) :
    T P f (renL π args) A fun r A1 => ∃ r' A1', R r' A1' ∧ r = r'.ren (extN A'.n A.n π) ∧ A1 = ⟨upd π (extN A'.n A.n π) 0 A'.l A1'.l A.l⟩ := by
  refine ⟨h.1, fun B w0 σ w vs hG hb hs ha => ?_⟩
  have hs1 := hs.view hv
  let F : Nat → Prop := fun c => ∃ b cs n, A' b = some cs ∧ σ.nm (π b) = some (c, n)
  let B' : Nat → Prop := fun c => c < w.heap.size ∧ ¬ F c
  have hFB : ∀ c, F c → ¬ B c ∧ σ.mem c = none := by
    rintro c ⟨b, cs, n, h1, h2⟩
    obtain ⟨c', cur, e, k1, k2, k3, _⟩ := hs.own _ _ (hv.own b cs h1).2
    rw [h2] at k1
    injection k1 with k1; injection k1 with k1 _
    subst k1
    exact ⟨k2, k3⟩
  have hs2 := hs1.protect (B' := B') (fun c h => h.1) (fun b cs c n h1 h2 h3 => h3.2 ⟨b, cs, n, h1, by rw [Sg.see_at (AHeap.lt h1)] at h2; exact h2⟩)
  have ha1 : RepL { σ.see π A'.n with base := σ.mem } args vs := by
    refine ⟨by have := ha.1; rw [renL_map] at this; simpa using this, fun i c v hc hvv => ?_⟩
    have := ha.2 i (c.ren π) v (by rw [renL_map, List.getElem?_map, hc]; rfl) hvv
    exact Rep.mono' (σ := σ.see π A'.n) (σ' := { σ.see π A'.n with base := σ.mem }) (fun _ _ h => h) (fun _ _ h => h) (fun _ _ h => h) (Sg.see_rep (ltL_get hl i c hc) this)
  have hG' : GoodP P B' w := fun w2 hw2 => hG w2 (hb.trans (hw2.mono fun c hc => ⟨hs.base c hc, fun hf => (hFB c hf).1 hc⟩))
  refine (h.2 B' w _ w vs hG' (Keeps.refl _ _) hs2 ha1).mono fun e w' ⟨r', A1', v, σ2, he, hR, hle, hs3, hrep, hk⟩ => ?_
  have hn1 : A'.n ≤ A1'.n := by
    rcases Nat.lt_or_ge A1'.n A'.n with hlt | hge
    · obtain ⟨x, hx⟩ := hs2.tot A1'.n hlt
      exact absurd (hs3.nm A1'.n x.1 x.2 (hle.nm _ _ hx)).1 (Nat.lt_irrefl _)
    · exact hge
  have hnmS : ∀ b, b < A'.n → σ2.nm b = σ.nm (π b) := by
    intro b hb
    obtain ⟨x, hx⟩ := hs.tot _ (hv.into b hb)
    rw [hx]
    exact hle.nm b x (by show (σ.see π A'.n).nm b = _; rw [Sg.see_at hb]; exact hx)
  let g := extN A'.n A.n π
  let σ3 : Sg := ⟨σ2.mem, fun i => if i < A.n then σ.nm i else σ2.nm (A'.n + (i - A.n)), σ.base, σ2.ty⟩
  have hmem : ∀ b o, σ.mem b = some o → σ2.mem b = some o := fun b o h => hle.mem b o h
  have hle3 : σ.Le σ3 := ⟨hmem, fun b x e => by
    show (if b < A.n then _ else _) = _
    rw [if_pos (hs.nm b x.1 x.2 e).1]; exact e, rfl, hle.ty⟩
  have hren : ∀ b x, b < A1'.n → σ2.nm b = some x → σ3.nm (g b) = some x := by
    intro b x hb e
    show (if g b < A.n then σ.nm (g b) else σ2.nm (A'.n + (g b - A.n))) = some x
    simp only [g, extN]
    by_cases hlt : b < A'.n
    · rw [if_pos hlt, if_pos (hv.into b hlt), ← hnmS b hlt]; exact e
    · rw [if_neg hlt, if_neg (by omega), show A'.n + (A.n + (b - A'.n) - A.n) = b by omega]; exact e
  have hltR : ∀ {x : AV} {u : Value}, Rep σ2 x u → x.lt A1'.n = true := fun {x u} hr => hs3.lt_of x u hr
  have hrn : ∀ {x : AV} {u : Value}, Rep σ2 x u → Rep σ3 (x.ren g) u := fun {x u} hr => rep_ren hren (fun _ _ h => h) (fun _ _ _ h => h) x u (hltR hr) hr
  have hkeep : ∀ c, c < w.heap.size → ¬ F c → w'.heap[c]? = w.heap[c]? := fun c h1 h2 => hk.block c ⟨h1, h2⟩
  have hFn : ∀ c n n', (∃ b cs, A' b = some cs ∧ σ.nm (π b) = some (c, n)) → (∃ cs e fr, w.heap[c]? = some (.cells cs e fr) ∧ cs.size = n') → ∃ cs e fr, w'.heap[c]? = some (.cells cs e fr) ∧ cs.size = n' := by
    rintro c n n' ⟨b, cs, h1, h2⟩ ⟨cs1, e1, fr1, h3, h4⟩
    obtain ⟨_, cs2, e2, fr2, h5, h6⟩ := hs3.nm b c n (by rw [hnmS b (AHeap.lt h1)]; exact h2)
    obtain ⟨_, cs3, e3, fr3, h7, h8⟩ := hs.nm _ c n h2
    rw [h3] at h7
    injection h7 with h7; injection h7 with h7
    subst h7
    exact ⟨cs2, e2, fr2, h5, by omega⟩
  have hown : ∀ b cs, A' b = some cs → hget (upd π g 0 A'.l A1'.l A.l) (π b) = (A1' b).map (renL g) := by
    intro b cs hb
    have := upd_own π g A'.l A1'.l A.l 0 b cs hn1 hb (by rw [Nat.zero_add]; exact hv.into b (AHeap.lt hb)) (fun b b' cs cs' h1 h2 e => hv.inj b b' cs cs' h1 h2 (by simpa using e))
    simpa using this
  have hframe : ∀ i, i < A.n → (∀ b cs, A' b = some cs → π b ≠ i) → hget (upd π g 0 A'.l A1'.l A.l) i = A i := fun i hi h => upd_frame π g A'.l A1'.l A.l 0 i hi (fun b cs hb => by rw [Nat.zero_add]; exact h b cs hb)
  have hfresh : ∀ j, hget (upd π g 0 A'.l A1'.l A.l) (A.n + j) = (A1' (A'.n + j)).map (renL g) := fun j => upd_fresh π g A'.l A1'.l A.l 0 j hn1
  have hlen : (upd π g 0 A'.l A1'.l A.l).length = A.n + (A1'.n - A'.n) := upd_len π g A'.l A1'.l A.l 0 hn1
  -- what is owned behind the call
  have hwhat : ∀ i cs, hget (upd π g 0 A'.l A1'.l A.l) i = some cs → (∃ b cs', A1' b = some cs' ∧ cs = renL g cs' ∧ i = g b) ∨ (i < A.n ∧ A i = some cs ∧ ∀ c n, σ.nm i = some (c, n) → ¬ F c) := by
    intro i cs hi
    by_cases hlt : i < A.n
    · by_cases hex : ∃ b cs, A' b = some cs ∧ π b = i
      · obtain ⟨b, cs0, h1, rfl⟩ := hex
        rw [hown b cs0 h1] at hi
        obtain ⟨cs', h2, rfl⟩ := Option.map_eq_some_iff.1 hi
        exact .inl ⟨b, cs', h2, rfl, by simp only [g, extN]; rw [if_pos (AHeap.lt h1)]⟩
      · rw [hframe i hlt (fun b cs h1 h2 => hex ⟨b, cs, h1, h2⟩)] at hi
        refine .inr ⟨hlt, hi, fun c n h1 ⟨b, cs', n', h2, h3⟩ => hex ⟨b, cs', h2, ?_⟩⟩
        exact hs.inj _ _ _ _ _ _ _ (hv.own b cs' h2).2 hi h3 h1
    · obtain ⟨j, rfl⟩ : ∃ j, i = A.n + j := ⟨i - A.n, by omega⟩
      rw [hfresh j] at hi
      obtain ⟨cs', h2, rfl⟩ := Option.map_eq_some_iff.1 hi
      exact .inl ⟨A'.n + j, cs', h2, rfl, by simp only [g, extN]; rw [if_neg (by omega)]; omega⟩
  refine ⟨r'.ren g, ⟨upd π g 0 A'.l A1'.l A.l⟩, v, σ3, he, ⟨r', A1', hR, rfl, rfl⟩, hle3, ⟨?_, hs3.mem, ?_, ?_, ?_, ?_, ?_, hs3.ty⟩, hrn hrep, hb.trans (hk.mono fun c hc => ⟨hs.base c hc, fun hf => (hFB c hf).1 hc⟩)⟩
  · exact fun c hc => Nat.lt_of_lt_of_le (hs.base c hc) hk.size
  · intro c o hc
    rcases hs3.low c o hc with h1 | h1
    · have h1 : σ.mem c = some o := by rw [hle.base] at h1; exact h1
      exact hs.low c o h1
    · refine .inr fun hB => h1 ⟨hs.base c hB, fun hf => (hFB c hf).1 hB⟩
  · intro b c n e
    have e : (if b < A.n then σ.nm b else σ2.nm (A'.n + (b - A.n))) = some (c, n) := e
    show b < (upd π g 0 A'.l A1'.l A.l).length ∧ _
    rw [hlen]
    split at e
    · rename_i hlt
      refine ⟨by omega, ?_⟩
      obtain ⟨_, hh⟩ := hs.nm b c n e
      by_cases hf : F c
      · obtain ⟨b1, cs1, n1, h1, h2⟩ := hf
        exact hFn c n1 n ⟨b1, cs1, h1, h2⟩ hh
      · rw [hkeep c (hs.nmLt e) hf]; exact hh
    · obtain ⟨h1, h2⟩ := hs3.nm _ c n e
      exact ⟨by omega, h2⟩
  · intro b hb
    have hb : b < (upd π g 0 A'.l A1'.l A.l).length := hb
    rw [hlen] at hb
    show ∃ x, (if b < A.n then σ.nm b else σ2.nm (A'.n + (b - A.n))) = some x
    split
    · rename_i hlt; exact hs.tot b hlt
    · exact hs3.tot _ (by omega)
  · intro i cs hi
    rcases hwhat i cs hi with ⟨b, cs', h1, rfl, rfl⟩ | ⟨hlt, h1, h2⟩
    · obtain ⟨c, cur, t, k1, k2, k3, k4, k5, k6⟩ := hs3.own b cs' h1
      refine ⟨c, cur, t, hren b _ (AHeap.lt h1) k1, fun hB => k2 ⟨hs.base c hB, fun hf => (hFB c hf).1 hB⟩, k3, k4, by rw [renL_map]; simpa using k5, fun j x hx => ?_⟩
      rw [renL_map, List.getElem?_map] at hx
      obtain ⟨y, hy, rfl⟩ := Option.map_eq_some_iff.1 hx
      obtain ⟨u, e1, e2, e3⟩ := k6 j y hy
      exact ⟨u, e1, hrn e2, e3⟩
    · obtain ⟨c, cur, t, k1, k2, k3, k4, k5, k6⟩ := hs.own i cs h1
      have hf := h2 c _ k1
      refine ⟨c, cur, t, hle3.nm _ _ k1, k2, ?_, by rw [hkeep c (hs.nmLt k1) hf]; exact k4, k5, fun j x hx => ?_⟩
      · show σ2.mem c = none
        cases hm : σ2.mem c with
        | none => rfl
        | some o =>
          rcases hs3.low c o hm with e1 | e1
          · have e1 : σ.mem c = some o := by rw [hle.base] at e1; exact e1
            rw [k3] at e1; cases e1
          · exact absurd ⟨hs.nmLt k1, hf⟩ e1
      · obtain ⟨u, e1, e2, e3⟩ := k6 j x hx
        exact ⟨u, e1, e2.mono hle3, e3⟩
  · intro i i' cs cs' c n n' e1 e2 e3 e4
    have sees : ∀ b cs1, A1' b = some cs1 → ∀ c n, σ3.nm (g b) = some (c, n) → σ2.nm b = some (c, n) := by
      intro b cs1 hb c n e
      obtain ⟨x, hx⟩ := hs3.tot b (AHeap.lt hb)
      have := hren b x (AHeap.lt hb) hx
      rw [e] at this
      rw [hx, ← this]
    have apart : ∀ b cs1 i, A1' b = some cs1 → (i < A.n ∧ ∀ c n, σ.nm i = some (c, n) → ¬ F c) → ∀ c n n', σ3.nm (g b) = some (c, n) → σ3.nm i = some (c, n') → False := by
      intro b cs1 i hb ⟨hi, hf⟩ c n n' h1 h2
      have h2 : σ.nm i = some (c, n') := by
        have h2 : (if i < A.n then σ.nm i else _) = some (c, n') := h2
        rwa [if_pos hi] at h2
      obtain ⟨c', cur, t, k1, k2, _⟩ := hs3.own b cs1 hb
      rw [sees b cs1 hb c n h1] at k1
      injection k1 with k1; injection k1 with k1 _
      subst k1
      exact k2 ⟨hs.nmLt h2, hf c n' h2⟩
    rcases hwhat i cs e1 with ⟨b, cs1, h1, rfl, rfl⟩ | ⟨hlt, h1, h2⟩ <;> rcases hwhat i' cs' e2 with ⟨b', cs1', h1', rfl, rfl⟩ | ⟨hlt', h1', h2'⟩
    · rw [hs3.inj b b' cs1 cs1' c n n' h1 h1' (sees _ _ h1 _ _ e3) (sees _ _ h1' _ _ e4)]
    · exact (apart b cs1 i' h1 ⟨hlt', h2'⟩ c n n' e3 e4).elim
    · exact (apart b' cs1' i h1' ⟨hlt, h2⟩ c n' n e4 e3).elim
    · have u1 : σ.nm i = some (c, n) := by
        have e3 : (if i < A.n then σ.nm i else _) = some (c, n) := e3
        rwa [if_pos hlt] at e3
      have u2 : σ.nm i' = some (c, n') := by
        have e4 : (if i' < A.n then σ.nm i' else _) = some (c, n') := e4
        rwa [if_pos hlt'] at e4
      exact hs.inj _ _ _ _ _ _ _ h1 h1' u1 u2

end Go.Proofs.YtlglgcmpeabdnaaGreatDoorAi

/- Contracts, tables of contracts; owned objects that will not change again become values; loops. -/
namespace Go.Proofs.YtlglgcmpeabdnaaGreatDoorAi
open Go Go.RowKit
set_option linter.unusedVariables false
set_option linter.unusedSimpArgs false

variable {P : Program} {S : Spec} {N : Nat} {σ : Sg} {w : World}

/-! ### contracts -/
/-- A function of which the result is known, and that touches nothing. -/
def QP (P : Program) (f : FuncId) (sp : List AV → Option AV) : Prop := ∀ args r, sp args = some r → (ltL 0 args = true ∧ r.lt 0 = true) ∧ T P f args .nil fun r' A' => r' = r ∧ A' = .nil
/-- A function of which the result and the heap behind it are known. -/
def QE (P : Program) (f : FuncId) (sp : List AV → AHeap → Option (AV × AHeap)) : Prop := ∀ args A r A1, sp args A = some (r, A1) → T P f args A fun r' A' => r' = r ∧ A' = A1

theorem View.nil (f : Nat → Nat) (A : AHeap) : View f A .nil := ⟨fun b h => (by simp [AHeap.nil, AHeap.n] at h), fun b cs h => (by cases h), fun b b' cs cs' h => (by cases h)⟩

theorem QP.at {f : FuncId} {sp : List AV → Option AV} (h : QP P f sp) {args : List AV} {r : AV} (e : sp args = some r) (A : AHeap) : T P f args A fun r' A' => r' = r ∧ A' = A := by
  obtain ⟨⟨h1, h2⟩, h3⟩ := h args r e
  have := h3.embed (A := A) (View.nil (fun b => b) A) h1
  rw [renL_low _ _ h1] at this
  refine this.mono ?_
  rintro r1 A1 ⟨r', A1', ⟨rfl, rfl⟩, rfl, rfl⟩
  exact ⟨ren_low _ _ h2, AHeap.ext' (by simp [AHeap.nil, upd])⟩

/-- New objects come behind. -/
def shiftN (n : Nat) : Nat → Nat := fun b => n + b
def addObjs (A : AHeap) (os : List (Option (List AV))) : AHeap := ⟨A.l ++ os.map (Option.map (renL (shiftN A.n)))⟩

/-- A function that makes objects and touches none. -/
def QN (P : Program) (f : FuncId) (sp : List AV → Option (AV × List (Option (List AV)))) : Prop := ∀ args r os, sp args = some (r, os) → ltL 0 args = true ∧ T P f args .nil fun r' A' => r' = r ∧ A' = ⟨os⟩
def spN (sp : List AV → Option (AV × List (Option (List AV)))) : List AV → AHeap → Option (AV × AHeap) := fun args A => (sp args).map fun p => (p.1.ren (shiftN A.n), addObjs A p.2)
theorem T.new {f : FuncId} {args : List AV} {R : AV → AHeap → Prop} (h : T P f args .nil R) (h1 : ltL 0 args = true) (A : AHeap) : T P f args A fun r A1 => ∃ r' A1', R r' A1' ∧ r = r'.ren (shiftN A.n) ∧ A1 = addObjs A A1'.l := by
  have := h.embed (A := A) (View.nil (fun b => b) A) h1
  rw [renL_low _ _ h1] at this
  have he : extN AHeap.nil.n A.n (fun b => b) = shiftN A.n := by
    funext b; simp [extN, AHeap.nil, AHeap.n, shiftN]
  rw [he] at this
  refine this.mono ?_
  rintro r1 A1 ⟨r', A1', hR, rfl, rfl⟩
  exact ⟨r', A1', hR, rfl, rfl⟩
theorem QN.toE {f : FuncId} {sp : List AV → Option (AV × List (Option (List AV)))} (h : QN P f sp) : QE P f (spN sp) := by
  intro args A r A1 e
  obtain ⟨⟨r0, os⟩, e0, e1⟩ := Option.map_eq_some_iff.1 e
  injection e1 with e1 e2
  subst e1; subst e2
  obtain ⟨h1, h2⟩ := h args r0 os e0
  refine (h2.new h1 A).mono ?_
  rintro r1 A1 ⟨r', A1', ⟨rfl, rfl⟩, rfl, rfl⟩
  exact ⟨rfl, rfl⟩

/-- A method by a pointer to one object without names. -/
def QM (P : Program) (f : FuncId) (sp : List AV → List AV → Option (AV × List AV)) : Prop := ∀ cs args r cs', sp cs args = some (r, cs') → (ltL 0 args = true ∧ ltL 0 cs = true ∧ r.lt 0 = true ∧ ltL 0 cs' = true) ∧ T P f (.ptr 0 0 :: args) ⟨[some cs]⟩ fun r' A' => r' = r ∧ A' = ⟨[some cs']⟩
def spM (sp : List AV → List AV → Option (AV × List AV)) : List AV → AHeap → Option (AV × AHeap)
  | .ptr b 0 :: args, A => (A b).bind fun cs => (sp (looseL cs) args).map fun p => (p.1, A.set b p.2)
  | _, _ => none
theorem looseL_map : ∀ cs : List AV, looseL cs = cs.map AV.loose
  | [] => rfl
  | x :: r => by rw [looseL, looseL_map r]; rfl
theorem Sim.loose {B : Nat → Prop} {l : List (Option (List AV))} (h : Sim B σ ⟨l⟩ w) : Sim B σ ⟨l.map (Option.map looseL)⟩ w := by
  have hn : (AHeap.mk (l.map (Option.map looseL))).n = (AHeap.mk l).n := by simp [AHeap.n]
  have hg : ∀ b cs, hget (l.map (Option.map looseL)) b = some cs → ∃ cs0, hget l b = some cs0 ∧ cs = looseL cs0 := by
    intro b cs hb
    rw [hget_map] at hb
    obtain ⟨cs0, h1, rfl⟩ := Option.map_eq_some_iff.1 hb
    exact ⟨cs0, h1, rfl⟩
  refine ⟨h.base, h.mem, h.low, fun b c n e => by rw [hn]; exact h.nm b c n e, fun b e => h.tot b (by rw [← hn]; exact e), fun b cs hb => ?_, fun b b' cs cs' c n n' e1 e2 => ?_, h.ty⟩
  · obtain ⟨cs0, h1, rfl⟩ := hg b cs hb
    obtain ⟨c, cur, t, k1, k2, k3, k4, k5, k6⟩ := h.own b cs0 h1
    refine ⟨c, cur, t, k1, k2, k3, k4, by rw [looseL_len]; exact k5, fun j x hx => ?_⟩
    rw [looseL_map, List.getElem?_map] at hx
    obtain ⟨y, hy, rfl⟩ := Option.map_eq_some_iff.1 hx
    obtain ⟨v, e1, e2, e3⟩ := k6 j y hy
    exact ⟨v, e1, rep_loose _ _ e2, e3⟩
  · obtain ⟨_, h1, _⟩ := hg _ _ e1
    obtain ⟨_, h2, _⟩ := hg _ _ e2
    exact h.inj b b' _ _ c n n' h1 h2
theorem T.looseA {f : FuncId} {args : List AV} {l : List (Option (List AV))} {R : AV → AHeap → Prop} (h : T P f args ⟨l.map (Option.map looseL)⟩ R) : T P f args ⟨l⟩ R :=
  ⟨h.1, fun B w0 σ w vs hG hb hs ha => h.2 B w0 σ w vs hG hb hs.loose ha⟩
mutual
theorem loose_lt (n : Nat) : ∀ x : AV, x.loose.lt n = x.lt n
  | .fn _ cs => by simp only [AV.loose, AV.lt, looseL_lt n cs]
  | .agg cs => by simp only [AV.loose, AV.lt, looseL_lt n cs]
  | .tup cs => by simp only [AV.loose, AV.lt, looseL_lt n cs]
  | .sl _ _ | .ep _ _ _ | .bool _ | .int _ _ | .str _ | .ptr _ _ | .ref _ _ _ _ _ | .nilp | .nilf | .nili | .iface | .mv _ _ | .any => rfl
theorem looseL_lt (n : Nat) : ∀ cs : List AV, ltL n (looseL cs) = ltL n cs
  | [] => rfl
  | x :: r => by simp only [looseL, ltL, loose_lt n x, looseL_lt n r]
end
theorem QM.toE {f : FuncId} {sp : List AV → List AV → Option (AV × List AV)} (h : QM P f sp) : QE P f (spM sp) := by
  intro args A r A1 e
  unfold spM at e
  split at e
  · rename_i b args
    obtain ⟨cs, hb, e⟩ := Option.bind_eq_some_iff.1 e
    obtain ⟨⟨r0, cs'⟩, e0, e1⟩ := Option.map_eq_some_iff.1 e
    injection e1 with e1 e2
    subst e1; subst e2
    obtain ⟨⟨h1, h2, h3, h4⟩, hT⟩ := h (looseL cs) args r0 cs' e0
    rw [looseL_lt] at h2
    replace hT := T.looseA (l := [some cs]) hT
    have hlt : b < A.n := AHeap.lt hb
    have hv : View (fun _ => b) A ⟨[some cs]⟩ := by
      refine ⟨fun i _ => hlt, fun i c hi => ?_, fun i i' c c' h1 h2 _ => ?_⟩
      · have : i = 0 := by have := AHeap.lt (A := ⟨[some cs]⟩) hi; simp [AHeap.n] at this; exact this
        subst this
        simp [hget] at hi
        subst hi
        exact ⟨ltL_mono (Nat.zero_le _) _ h2, by rw [renL_low _ _ h2]; exact hb⟩
      · have e1 := AHeap.lt (A := ⟨[some cs]⟩) h1
        have e2 := AHeap.lt (A := ⟨[some cs]⟩) h2
        simp [AHeap.n] at e1 e2
        omega
    have := hT.embed hv (by simp only [ltL, AV.lt, AHeap.n]; simpa using ltL_mono (Nat.zero_le 1) _ h1)
    simp only [renL, AV.ren, renL_low _ _ h1] at this
    refine this.mono ?_
    rintro r1 A1 ⟨r', A1', ⟨rfl, rfl⟩, rfl, rfl⟩
    exact ⟨ren_low _ _ h3, AHeap.ext' (by simp [upd, renL_low _ _ h4, AHeap.set])⟩
  · cases e

def tabQ : List (FuncId × (List AV → Option AV)) → FuncId → List AV → Option AV
  | [], _, _ => none
  | (g, sp) :: l, f, args => if f = g then sp args else tabQ l f args
def tabE : List (FuncId × (List AV → AHeap → Option (AV × AHeap))) → FuncId → List AV → AHeap → Option (AV × AHeap)
  | [], _, _, _ => none
  | (g, sp) :: l, f, args, A => if f = g then sp args A else tabE l f args A
def tab (l : List (FuncId × (List AV → Option AV))) (l2 : List (FuncId × (List AV → AHeap → Option (AV × AHeap)))) : Spec := ⟨tabQ l, tabE l2⟩
theorem Quiet.nil : Quiet P (tab [] []) := ⟨fun f args r h => (by cases h), fun f args A r A1 h => (by cases h)⟩
theorem Quiet.q1 {g : FuncId} {sp : List AV → Option AV} {l : List (FuncId × (List AV → Option AV))} {l2 : List (FuncId × (List AV → AHeap → Option (AV × AHeap)))} (h : QP P g sp) (k : Quiet P (tab l l2)) : Quiet P (tab ((g, sp) :: l) l2) := ⟨fun f args r e A => by
  simp only [tab, tabQ] at e
  split at e
  · rename_i hf; subst hf; exact h.at e A
  · exact k.q f args r e A, k.e⟩
theorem Quiet.e1 {g : FuncId} {sp : List AV → AHeap → Option (AV × AHeap)} {l : List (FuncId × (List AV → Option AV))} {l2 : List (FuncId × (List AV → AHeap → Option (AV × AHeap)))} (h : QE P g sp) (k : Quiet P (tab l l2)) : Quiet P (tab l ((g, sp) :: l2)) := ⟨k.q, fun f args A r A1 e => by
  simp only [tab, tabE] at e
  split at e
  · rename_i hf; subst hf; exact h args A r A1 e
  · exact k.e f args A r A1 e⟩

/-- The end of a function with one known result that touches nothing. -/
def endP (rs : List ARes) (r : AV) : Ex → St → Prop
  | .normal, s | .ret, s => optW (resultsA s rs) fun v => v = r
  | _, _ => False

theorem P_code (hS : Quiet P S) (hm : P.follows .mixedOrders = true) {f : FuncId} {nargs : Nat} {q : FuncId → Nat} {hints : List Hint} {c : AC} {rs : List ARes} (h : acLin P f nargs q hints = some (c, rs))
    {args : List AV} (ha : args.length = nargs) {r : AV} (hr : r.lt 0 = true) (vc : wpc 0 P S c (initSt args .nil) (endP rs r)) : T P f args .nil fun r' A' => r' = r ∧ A' = .nil := by
  refine T_code hS hm h ha (wpc_mono c (fun e s k => ?_) _ vc)
  cases e with
  | exit id => exact k
  | _ =>
    simp only [endP, optW_iff] at k
    obtain ⟨v, h0, rfl⟩ := k
    simp only [endW, optW_iff]
    exact ⟨v, h0, v, .nil, EndS.pure hr, rfl, rfl⟩

/-- A contract by a family of arguments and results. -/
noncomputable def pf {ι α : Type} (p : ι → Prop) (args : ι → List AV) (res : ι → α) : List AV → Option α := by
  classical exact fun a => if h : ∃ i, p i ∧ args i = a then some (res (Classical.choose h)) else none
theorem pf_eq {ι α : Type} {p : ι → Prop} {args : ι → List AV} {res : ι → α} (i : ι) (hp : p i) (hd : ∀ j, p j → args j = args i → res j = res i) : pf p args res (args i) = some (res i) := by
  have h : ∃ j, p j ∧ args j = args i := ⟨i, hp, rfl⟩
  unfold pf
  rw [dif_pos h]
  have := Classical.choose_spec h
  rw [hd _ this.1 this.2]
theorem pf_some {ι α : Type} {p : ι → Prop} {args : ι → List AV} {res : ι → α} {a : List AV} {r : α} (h : pf p args res a = some r) : ∃ i, p i ∧ args i = a ∧ res i = r := by
  unfold pf at h
  split at h
  · rename_i hh
    exact ⟨_, (Classical.choose_spec hh).1, (Classical.choose_spec hh).2, Option.some.inj h⟩
  · cases h
theorem QP_pf {ι : Type} {f : FuncId} {p : ι → Prop} {args : ι → List AV} {res : ι → AV} (hl : ∀ i, p i → ltL 0 (args i) = true ∧ (res i).lt 0 = true) (h : ∀ i, p i → T P f (args i) .nil fun r' A' => r' = res i ∧ A' = .nil) : QP P f (pf p args res) := by
  intro a r e
  obtain ⟨i, hp, rfl, rfl⟩ := pf_some e
  exact ⟨hl i hp, h i hp⟩
theorem QN_pf {ι : Type} {f : FuncId} {p : ι → Prop} {args : ι → List AV} {res : ι → AV × List (Option (List AV))} (hl : ∀ i, p i → ltL 0 (args i) = true) (h : ∀ i, p i → T P f (args i) .nil fun r' A' => r' = (res i).1 ∧ A' = ⟨(res i).2⟩) : QN P f (pf p args res) := by
  intro a r os e
  obtain ⟨i, hp, rfl, e2⟩ := pf_some e
  refine ⟨hl i hp, ?_⟩
  have := h i hp
  rw [e2] at this
  exact this

/-! ### objects that will not change again -/
/-- A slice of an object, by value. -/
def FzOne (b : Nat) (cs : List AV) (v v' : AV) : Prop := v' = v ∨ v' = v.loose ∨ ∃ e o n t xs t', v = .ref b e o n t ∧ v' = .sl xs t' ∧ (t' = true → t = .tight) ∧ (o + n) * e ≤ cs.length ∧ xs.length = n ∧
  (∀ x ∈ xs, x.cells.length = e ∧ ltL 0 x.cells = true) ∧ (xs.flatMap AV.cells = (cs.drop (o * e)).take (n * e) ∨ xs.flatMap AV.cells = looseL ((cs.drop (o * e)).take (n * e)))
def FzL (b : Nat) (cs : List AV) (l l' : List AV) : Prop := l.length = l'.length ∧ ∀ (i : Nat) x x', l[i]? = some x → l'[i]? = some x' → FzOne b cs x x'
def Fz (b : Nat) (cs : List AV) (v v' : AV) : Prop := FzOne b cs v v' ∨ (∃ l l', v = .agg l ∧ v' = .agg l' ∧ FzL b cs l l') ∨ ∃ l l', v = .tup l ∧ v' = .tup l' ∧ l.length = l'.length ∧ ∀ (i : Nat) x x', l[i]? = some x → l'[i]? = some x' → FzOne b cs x x' ∨ ∃ l l', x = .agg l ∧ x' = .agg l' ∧ FzL b cs l l'

theorem Fz.refl (b : Nat) (cs : List AV) (v : AV) : Fz b cs v v := .inl (.inl rfl)

theorem flatMap_cell (e : Nat) (xs : List AV) (h : ∀ x ∈ xs, x.cells.length = e) (i j : Nat) {x c : AV} (hx : xs[i]? = some x) (hc : x.cells[j]? = some c) : (xs.flatMap AV.cells)[i * e + j]? = some c := by
  have hj : j < e := by rw [← h x (List.mem_of_getElem? hx)]; exact (List.getElem?_eq_some_iff.1 hc).1
  have he : 0 < e := by omega
  rw [flatMap_get e xs _ h he]
  have h1 : (i * e + j) / e = i := by
    rw [Nat.mul_comm, Nat.mul_add_div he, Nat.div_eq_of_lt hj, Nat.add_zero]
  have h2 : (i * e + j) % e = j := by
    rw [Nat.mul_comm, Nat.mul_add_mod, Nat.mod_eq_of_lt hj]
  rw [h1, h2, hx]
  exact hc

/-- A slice of an object by value, where the object's block is known to stay. -/
theorem sl_rep {σ' : Sg} {e o n : Nat} {xs : List AV} {t' : Bool} {c0 cap : Nat} {cur : Array Value} {te : TypeId} {fr : Nat × Nat} (hn : xs.length = n) (hcap : n ≤ cap) (hmx : cap ≤ maxLen) (ht : t' = true → cap = n)
    (hx : ∀ x ∈ xs, x.cells.length = e ∧ ltL 0 x.cells = true) (hm : σ'.mem c0 = some (.cells cur te fr))
    (hc : ∀ (k : Nat) c, (xs.flatMap AV.cells)[k]? = some c → ∃ v, cur[o * e + k]? = some v ∧ Rep σ' c v ∧ v.oneCell' = true) :
    Rep σ' (.sl xs t') (.slice (some ⟨c0, o * e, none⟩) n cap) := by
  have key : ∀ (i j : Nat) (x c : AV), xs[i]? = some x → x.cells[j]? = some c → ∃ u, σ'.cell c0 (o * e + i * e + j) = some u ∧ Rep σ' c u ∧ u.oneCell' = true := by
    intro i j x c hxi hcj
    have h1 := flatMap_cell e xs (fun x h => (hx x h).1) i j hxi hcj
    obtain ⟨u, k1, k2, k3⟩ := hc _ _ h1
    refine ⟨u, ?_, k2, k3⟩
    unfold Sg.cell
    rw [hm]
    simp only
    rw [Nat.add_assoc]
    exact k1
  classical
  let val : Nat → Nat → Value := fun i j => match σ'.cell c0 (o * e + i * e + j) with | some u => if u.oneCell' = true then u else .bool false | none => .bool false
  have hval : ∀ (i j : Nat) (x c : AV), xs[i]? = some x → x.cells[j]? = some c → σ'.cell c0 (o * e + i * e + j) = some (val i j) ∧ Rep σ' c (val i j) := by
    intro i j x c hxi hcj
    obtain ⟨u, k1, k2, k3⟩ := key i j x c hxi hcj
    have : val i j = u := by simp only [val, k1, if_pos k3]
    rw [this]
    exact ⟨k1, k2⟩
  rw [← hn]
  refine .sl xs t' c0 (o * e) e cap val (by omega) hmx (fun h => by rw [hn]; exact ht h) (fun i x hxi => (hx x (List.mem_of_getElem? hxi)).1) ?_ ?_ ?_ (fun i x hxi => (hx x (List.mem_of_getElem? hxi)).2)
  · exact fun i x hxi j c hcj => (hval i j x c hxi hcj).1
  · exact fun i x hxi j c hcj => (hval i j x c hxi hcj).2
  · intro i j
    simp only [val]
    split
    · split
      · assumption
      · rfl
    · rfl

theorem FzOne.rep {B : Nat → Prop} {A : AHeap} (h : Sim B σ A w) {b : Nat} {cs : List AV} (hb : A b = some cs) {σ' : Sg} (hle : σ.Le σ') (hm : ∀ c n, σ.nm b = some (c, n) → σ'.mem c = w.heap[c]?) {v v' : AV} {u : Value} (hf : FzOne b cs v v') (hr : Rep σ v u) : Rep σ' v' u := by
  rcases hf with rfl | rfl | ⟨e, o, n, t, xs, t', rfl, rfl, ht, hfit, hl, hx, hfl⟩
  · exact hr.mono hle
  · exact rep_loose _ _ (hr.mono hle)
  · obtain ⟨ad, cap, c0, sz, rfl, h3, h4, h5, h6, h7, h8, h9, h10⟩ := hr.refInv
    by_cases h0 : n = 0
    · subst h0
      have : xs = [] := List.length_eq_zero_iff.1 hl
      subst this
      exact .slnil _ _ _ (fun h => h5 (ht h)) h4 (fun h => by cases h)
    · have had := h6 (by omega)
      subst had
      obtain ⟨c1, cur, te, k1, _, _, hh, hcl, hcell⟩ := h.own b cs hb
      rw [h7] at k1
      injection k1 with k1; injection k1 with k1 _
      subst k1
      refine sl_rep hl h3 h4 (fun h => h5 (ht h)) hx (by rw [hm _ _ h7]; exact hh) fun k c hk => ?_
      have key : ∀ c, ((cs.drop (o * e)).take (n * e))[k]? = some c → ∃ v, cur[o * e + k]? = some v ∧ Rep σ' c v ∧ v.oneCell' = true := by
        intro c hk
        rw [List.getElem?_take] at hk
        split at hk
        · rw [List.getElem?_drop] at hk
          obtain ⟨u, e1, e2, e3⟩ := hcell _ _ hk
          exact ⟨u, e1, e2.mono hle, e3⟩
        · cases hk
      rcases hfl with hfl | hfl
      · rw [hfl] at hk; exact key c hk
      · rw [hfl, looseL_map, List.getElem?_map] at hk
        obtain ⟨y, hy, rfl⟩ := Option.map_eq_some_iff.1 hk
        obtain ⟨u, e1, e2, e3⟩ := key y hy
        exact ⟨u, e1, rep_loose _ _ e2, e3⟩

theorem FzL.rep {B : Nat → Prop} {A : AHeap} (h : Sim B σ A w) {b : Nat} {cs : List AV} (hb : A b = some cs) {σ' : Sg} (hle : σ.Le σ') (hm : ∀ c n, σ.nm b = some (c, n) → σ'.mem c = w.heap[c]?) {l l' : List AV} {u : Value} (hf : FzL b cs l l') (hr : Rep σ (.agg l) u) : Rep σ' (.agg l') u := by
  cases hr with
  | agg cs vs hl h1 hr =>
    refine .agg _ _ (by rw [← hf.1, hl]) h1 fun i c v hc hv => ?_
    have hlt : i < l.length := by rw [hf.1]; exact (List.getElem?_eq_some_iff.1 hc).1
    exact FzOne.rep h hb hle hm (hf.2 i _ c (List.getElem?_eq_getElem hlt) hc) (hr i _ v (List.getElem?_eq_getElem hlt) hv)

theorem Fz.rep {B : Nat → Prop} {A : AHeap} (h : Sim B σ A w) {b : Nat} {cs : List AV} (hb : A b = some cs) {σ' : Sg} (hle : σ.Le σ') (hm : ∀ c n, σ.nm b = some (c, n) → σ'.mem c = w.heap[c]?) {v v' : AV} {u : Value} (hf : Fz b cs v v') (hr : Rep σ v u) : Rep σ' v' u := by
  rcases hf with hf | ⟨l, l', rfl, rfl, hf⟩ | ⟨l, l', rfl, rfl, hl', hf⟩
  · exact FzOne.rep h hb hle hm hf hr
  · exact FzL.rep h hb hle hm hf hr
  · cases hr with
    | tup cs vs hl hr =>
      refine .tup _ _ (by rw [← hl', hl]) fun i c v hc hv => ?_
      have hlt : i < l.length := by rw [hl']; exact (List.getElem?_eq_some_iff.1 hc).1
      have hr' := hr i _ v (List.getElem?_eq_getElem hlt) hv
      rcases hf i _ c (List.getElem?_eq_getElem hlt) hc with hf | ⟨k, k', e1, rfl, hf⟩
      · exact FzOne.rep h hb hle hm hf hr'
      · rw [e1] at hr'
        exact FzL.rep h hb hle hm hf hr'

def Sg.freeze (σ : Sg) (c : Nat) (o : Option Obj) : Sg := { σ with mem := fun i => if i = c then o else σ.mem i }

/-- An object that will not change again. -/
theorem Shift.freeze {s s' : St} {b : Nat} {cs : List AV} (hb : s.A b = some cs) (ht : ∀ i, s'.t i = .any ∨ Fz b cs (s.t i) (s'.t i)) (hn : s'.A.n = s.A.n) (hA : ∀ i l', s'.A i = some l' → i ≠ b ∧ ∃ l, s.A i = some l ∧ FzL b cs l l') : Shift N s s' := by
  intro B w0 n σ a w hs
  obtain ⟨c0, cur, te, hnm, hB, hmem, hh, hcl, hcell⟩ := hs.sim.own b cs hb
  have hle : σ.Le (σ.freeze c0 w.heap[c0]?) := ⟨fun i o h => by
    have hne : i ≠ c0 := fun e => by subst e; rw [hmem] at h; cases h
    simpa [Sg.freeze, hne] using h, fun i m h => h, rfl, fun _ _ h => h⟩
  have hm : ∀ c n, σ.nm b = some (c, n) → (σ.freeze c0 w.heap[c0]?).mem c = w.heap[c]? := fun c n e => by
    rw [hnm] at e
    injection e with e; injection e with e _
    subst e
    simp [Sg.freeze]
  refine ⟨σ.freeze c0 w.heap[c0]?, hle.toN N, ⟨hs.sim.base, fun i o h => ?_, fun i o h => ?_, fun i c m h => by rw [hn]; exact hs.sim.nm i c m h, fun i h => hs.sim.tot i (by rw [← hn]; exact h), fun i l' h => ?_, fun i i' l l' c m m' e1 e2 e3 e4 => ?_, hs.sim.ty⟩, fun t => ?_, hs.size, hs.defers, hs.below⟩
  · by_cases hi : i = c0
    · subst hi; simpa [Sg.freeze] using h
    · exact hs.sim.mem i o (by simpa [Sg.freeze, hi] using h)
  · by_cases hi : i = c0
    · subst hi; exact .inr hB
    · exact hs.sim.low i o (by simpa [Sg.freeze, hi] using h)
  · obtain ⟨hne, l, hl, hf⟩ := hA i l' h
    obtain ⟨c, cur', te', k1, k2, k3, k4, k5, k6⟩ := hs.sim.own i l hl
    have hcc : c ≠ c0 := fun e => by subst e; exact hne (hs.sim.inj _ _ _ _ _ _ _ hl hb k1 hnm)
    refine ⟨c, cur', te', k1, k2, by simpa [Sg.freeze, hcc] using k3, k4, by rw [← hf.1]; exact k5, fun j c hj => ?_⟩
    have hlt : j < l.length := by rw [hf.1]; exact (List.getElem?_eq_some_iff.1 hj).1
    obtain ⟨v, e1, e2, e3⟩ := k6 j _ (List.getElem?_eq_getElem hlt)
    exact ⟨v, e1, FzOne.rep hs.sim hb hle hm (hf.2 j _ c (List.getElem?_eq_getElem hlt) hj) e2, e3⟩
  · obtain ⟨_, l0, h1, _⟩ := hA _ _ e1
    obtain ⟨_, l1, h2, _⟩ := hA _ _ e2
    exact hs.sim.inj _ _ _ _ c m m' h1 h2 e3 e4
  · rcases ht t with h | h
    · rw [h]; exact .any _
    · exact Fz.rep hs.sim hb hle hm h (hs.tmps t)

theorem Shift.refl (s : St) : Shift N s s := fun B w0 n σ a w hs => ⟨σ, .refl N σ, hs⟩
theorem Shift.trans {a b c : St} (h : Shift N a b) (k : Shift N b c) : Shift N a c := fun B w0 n σ x w hs => by
  obtain ⟨σ1, l1, s1⟩ := h B w0 n σ x w hs
  obtain ⟨σ2, l2, s2⟩ := k B w0 n σ1 x w s1
  exact ⟨σ2, l1.trans l2, s2⟩

/-- The slice in a temporary, by value. -/
def St.frzT (s : St) (k b : Nat) (v : AV) : St := { t := fun i => if i = k then v else s.t i, A := s.A.del b }
theorem Shift.tmp {s : St} {k b e o n : Nat} {t : Cp} {cs xs : List AV} {t' : Bool} (hk : s.t k = .ref b e o n t) (hb : s.A b = some cs) (ht : t' = true → t = .tight) (hfit : (o + n) * e ≤ cs.length) (hl : xs.length = n)
    (hx : ∀ x ∈ xs, x.cells.length = e ∧ ltL 0 x.cells = true) (hfl : xs.flatMap AV.cells = (cs.drop (o * e)).take (n * e) ∨ xs.flatMap AV.cells = looseL ((cs.drop (o * e)).take (n * e))) : Shift N s (s.frzT k b (.sl xs t')) := by
  refine Shift.freeze hb (fun i => .inr ?_) (AHeap.del_n _ _) (fun i l' h => ?_)
  · simp only [St.frzT]
    by_cases hi : i = k
    · subst hi
      rw [if_pos rfl, hk]
      exact .inl (.inr (.inr ⟨e, o, n, t, xs, t', rfl, rfl, ht, hfit, hl, hx, hfl⟩))
    · rw [if_neg hi]
      exact Fz.refl _ _ _
  · simp only [St.frzT] at h
    rw [AHeap.del_at] at h
    split at h
    · cases h
    · rename_i hne
      exact ⟨hne, l', h, rfl, fun j x x' h1 h2 => .inl (by rw [h1] at h2; exact (Option.some.inj h2).symm)⟩

theorem ones_flat : ∀ (cs : List AV), (∀ x ∈ cs, x.one = true) → cs.flatMap AV.cells = cs
  | [], _ => rfl
  | x :: cs, h => by
    rw [List.flatMap_cons, ones_flat cs fun y hy => h y (List.mem_cons_of_mem _ hy)]
    have hx := h x (List.mem_cons_self ..)
    cases x <;> first | rfl | (simp [AV.one] at hx)

/-- A whole object of one-cell elements. -/
theorem Shift.tmp1 {s : St} {k b n : Nat} {t : Cp} {cs : List AV} (hk : s.t k = .ref b 1 0 n t) (hb : s.A b = some cs) (hn : cs.length = n) (h1 : (cs.all fun x => x.one && x.lt 0) = true) : Shift N s (s.frzT k b (.sl cs (decide (t = .tight)))) := by
  have h1' : ∀ x ∈ cs, x.one = true ∧ x.lt 0 = true := fun x hx => by simpa using List.all_eq_true.1 h1 x hx
  refine Shift.tmp hk hb (fun h => of_decide_eq_true h) (by omega) hn (fun x hx => ?_) ?_
  · have := h1' x hx
    cases x <;> first | exact ⟨rfl, by simpa [AV.cells, ltL] using this.2⟩ | (simp [AV.one] at this)
  · refine .inl ?_
    rw [ones_flat cs fun x hx => (h1' x hx).1]
    simp [← hn]

/-- A slice of an owned object that is written element by element. -/
structure Filled (e : Nat) (cs xs : List AV) (i : Nat) : Prop where
  len : cs.length = xs.length * e
  get : ∀ j, j < i → ∀ c, c < e → cs[j * e + c]? = (xs[j]?).bind fun x => x.cells[c]?

theorem Filled.zero {e : Nat} {cs xs : List AV} (h : cs.length = xs.length * e) : Filled e cs xs 0 := ⟨h, fun j hj => by omega⟩

theorem Filled.step {e : Nat} {cs xs : List AV} {i : Nat} (h : Filled e cs xs i) {x : AV} (hx : xs[i]? = some x) (hc : x.cells.length = e) : Filled e (setCells cs (i * e) x.cells) xs (i + 1) := by
  have hi : i < xs.length := (List.getElem?_eq_some_iff.1 hx).1
  have hfit : i * e + x.cells.length ≤ cs.length := by
    rw [h.len, hc]
    have : (i + 1) * e ≤ xs.length * e := Nat.mul_le_mul_right _ hi
    rw [Nat.add_mul] at this
    omega
  refine ⟨by rw [setCells_length, h.len], fun j hj c hce => ?_⟩
  rw [setCells_get _ _ _ _ hfit]
  by_cases hji : j = i
  · subst hji
    rw [if_pos (by omega), hx]
    simp
  · have hlt : j < i := by omega
    have hle : (j + 1) * e ≤ i * e := Nat.mul_le_mul_right _ hlt
    rw [Nat.add_mul] at hle
    rw [if_neg (by omega)]
    exact h.get j hlt c hce

theorem Filled.all {e : Nat} {cs xs : List AV} (h : Filled e cs xs xs.length) (hx : ∀ x ∈ xs, x.cells.length = e) (he : 0 < e) : xs.flatMap AV.cells = cs := by
  apply List.ext_getElem?
  intro k
  rw [flatMap_get e xs k hx he]
  rcases Nat.lt_or_ge k cs.length with hk | hk
  · have h1 : k / e < xs.length := (Nat.div_lt_iff_lt_mul he).2 (by rw [← h.len]; exact hk)
    have h2 := h.get (k / e) h1 (k % e) (Nat.mod_lt _ he)
    rw [Nat.mul_comm, Nat.div_add_mod] at h2
    exact h2.symm
  · have h1 : xs.length ≤ k / e := (Nat.le_div_iff_mul_le he).2 (by rw [← h.len]; exact hk)
    rw [List.getElem?_eq_none h1, List.getElem?_eq_none hk]
    rfl

theorem setCells_lt {n : Nat} : ∀ (cs : List AV) (off : Nat) (vs : List AV), ltL n cs = true → ltL n vs = true → ltL n (setCells cs off vs) = true
  | cs, off, [], h, _ => h
  | cs, off, v :: vs, h, hv => by
    simp only [ltL, Bool.and_eq_true] at hv
    rw [setCells]
    refine setCells_lt _ _ vs (ltL_of fun x hx => ?_) hv.2
    rcases List.mem_or_eq_of_mem_set hx with h1 | h1
    · obtain ⟨i, hi⟩ := List.getElem?_of_mem h1
      exact ltL_get h i x hi
    · rw [h1]; exact hv.1
theorem newCells_lt {n : Nat} (e m : Nat) {z : List AV} (h : ltL n z = true) : ltL n (newCells e m z) = true := by
  refine ltL_of fun x hx => ?_
  obtain ⟨l, hl, hx⟩ := List.mem_flatten.1 hx
  rw [List.eq_of_mem_replicate hl] at hx
  obtain ⟨i, hi⟩ := List.getElem?_of_mem hx
  exact ltL_get h i x hi

/-! ### loops -/
/-- A part of what is known, under other names. -/
structure Sub (N : Nat) (s s' : St) : Prop where
  ex : ∃ f : Nat → Nat, N ≤ s'.A.n ∧ (∀ b, b < N → f b = b) ∧ View f s.A s'.A ∧ ∀ k, s'.t k = .any ∨ ((s'.t k).lt s'.A.n = true ∧ s.t k = (s'.t k).ren f)
theorem Sub.shift {s s' : St} (h : Sub N s s') : Shift N s s' := by
  obtain ⟨f, h1, h2, h3, h4⟩ := h.ex
  exact .view f h1 h2 h3 h4

/-- Temporaries by a list; of others nothing is known. -/
def tl : List (Nat × AV) → Nat → AV
  | [], _ => .any
  | (k, v) :: r, i => if i = k then v else tl r i
theorem tl_sub {f : Nat → Nat} {n : Nat} {t : Nat → AV} : ∀ {l : List (Nat × AV)}, (∀ p ∈ l, p.2.lt n = true ∧ t p.1 = p.2.ren f) → ∀ k, tl l k = .any ∨ ((tl l k).lt n = true ∧ t k = (tl l k).ren f)
  | [], _, k => .inl rfl
  | (j, v) :: r, h, k => by
    simp only [tl]
    by_cases hk : k = j
    · subst hk
      rw [if_pos rfl]
      exact .inr (h (k, v) (List.mem_cons_self ..))
    · rw [if_neg hk]
      exact tl_sub (fun p hp => h p (List.mem_cons_of_mem _ hp)) k

/-- A heap's first objects as they are seen in another one. -/
def hsub (f : Nat → Nat) (n : Nat) (A : AHeap) : Nat → List (Option (List AV)) → Prop
  | _, [] => True
  | i, none :: r => f i < A.n ∧ hsub f n A (i + 1) r
  | i, some cs :: r => (ltL n cs = true ∧ A (f i) = some (renL f cs)) ∧ hsub f n A (i + 1) r
theorem hsub_get {f : Nat → Nat} {n : Nat} {A : AHeap} : ∀ {l : List (Option (List AV))} {i : Nat}, hsub f n A i l → (∀ b, b < l.length → f (i + b) < A.n) ∧ ∀ b cs, hget l b = some cs → ltL n cs = true ∧ A (f (i + b)) = some (renL f cs)
  | [], i, _ => ⟨fun b h => (by simp at h), fun b cs h => (by cases h)⟩
  | o :: r, i, h => by
    have hr : hsub f n A (i + 1) r := by cases o <;> exact h.2
    have h0 : f i < A.n := by
      cases o with
      | none => exact h.1
      | some cs => exact AHeap.lt h.1.2
    obtain ⟨k1, k2⟩ := hsub_get hr
    refine ⟨fun b hb => ?_, fun b cs hb => ?_⟩
    · cases b with
      | zero => exact h0
      | succ b => rw [show i + (b + 1) = i + 1 + b by omega]; exact k1 b (by simpa using hb)
    · cases b with
      | zero =>
        simp [hget] at hb
        subst hb
        exact h.1
      | succ b =>
        rw [show i + (b + 1) = i + 1 + b by omega]
        exact k2 b cs (by simpa [hget] using hb)

/-- Names that differ. -/
def injB (f : Nat → Nat) (n : Nat) : Bool := (List.range n).all fun i => (List.range n).all fun j => i == j || f i != f j
theorem injB_spec {f : Nat → Nat} {n : Nat} (h : injB f n = true) {i j : Nat} (hi : i < n) (hj : j < n) (e : f i = f j) : i = j := by
  have := List.all_eq_true.1 (List.all_eq_true.1 h i (List.mem_range.2 hi)) j (List.mem_range.2 hj)
  simp [e] at this
  exact this

theorem Sub.mk' (f : Nat → Nat) {s : St} {l : List (Nat × AV)} {os : List (Option (List AV))} (hN : N ≤ os.length) (hf : ∀ b, b < N → f b = b) (hi : injB f os.length = true) (hs : hsub f os.length s.A 0 os) (ht : ∀ p ∈ l, p.2.lt os.length = true ∧ s.t p.1 = p.2.ren f) : Sub N s ⟨tl l, ⟨os⟩⟩ := by
  obtain ⟨h1, h2⟩ := hsub_get hs
  refine ⟨f, hN, hf, ⟨fun b hb => by simpa using h1 b hb, fun b cs hb => by simpa using h2 b cs hb, fun b b' cs cs' e1 e2 e => injB_spec hi (hget_lt e1) (hget_lt e2) e⟩, tl_sub ht⟩

/-- The end of a function with a known result and known objects; others are forgotten. -/
def endH (f : Nat → Nat) (rs : List ARes) (r : AV) (os : List (Option (List AV))) : Ex → St → Prop
  | .normal, s | .ret, s => optW (resultsA s rs) fun v => v = r.ren f ∧ hsub f os.length s.A 0 os
  | _, _ => False
theorem endH_eq1 (f : Nat → Nat) (rs : List ARes) (r : AV) (os : List (Option (List AV))) (t : Nat → AV) (A : AHeap) : endH f rs r os .normal ⟨t, A⟩ = optW (resultsA ⟨t, A⟩ rs) fun v => v = r.ren f ∧ hsub f os.length A 0 os := rfl
theorem endH_eq2 (f : Nat → Nat) (rs : List ARes) (r : AV) (os : List (Option (List AV))) (t : Nat → AV) (A : AHeap) : endH f rs r os .ret ⟨t, A⟩ = optW (resultsA ⟨t, A⟩ rs) fun v => v = r.ren f ∧ hsub f os.length A 0 os := rfl

theorem H_code (hS : Quiet P S) (hm : P.follows .mixedOrders = true) {f : FuncId} {nargs : Nat} {q : FuncId → Nat} {hints : List Hint} {c : AC} {rs : List ARes} (h : acLin P f nargs q hints = some (c, rs))
    {args : List AV} (ha : args.length = nargs) {A : AHeap} {r : AV} {os : List (Option (List AV))} (π : Nat → Nat) (hN : A.n ≤ os.length) (hπ : ∀ b, b < A.n → π b = b) (hi : injB π os.length = true) (hr : r.lt os.length = true)
    (vc : wpc A.n P S c (initSt args A) (endH π rs r os)) : T P f args A fun r' A' => r' = r ∧ A' = ⟨os⟩ := by
  refine T_code hS hm h ha (wpc_mono c (fun e s k => ?_) _ vc)
  cases e with
  | exit id => exact k
  | _ =>
    simp only [endH, optW_iff] at k
    obtain ⟨v, h0, hv, hs⟩ := k
    obtain ⟨h1, h2⟩ := hsub_get hs
    simp only [endW, optW_iff]
    exact ⟨v, h0, r, ⟨os⟩, .view π hN hπ ⟨fun b hb => by simpa using h1 b hb, fun b cs hb => by simpa using h2 b cs hb, fun b b' cs cs' e1 e2 e => injB_spec hi (hget_lt e1) (hget_lt e2) e⟩ ⟨hr, hv⟩, rfl, rfl⟩

/-- A function that sees one object, by its first argument; it may make more. -/
def QB (P : Program) (f : FuncId) (sp : List AV → List AV → Option (AV × List (Option (List AV)))) : Prop := ∀ cs args r os, sp cs args = some (r, os) → (ltL 1 args = true ∧ ltL 0 cs = true ∧ os ≠ []) ∧ T P f args ⟨[some cs]⟩ fun r' A' => r' = r ∧ A' = ⟨os⟩
def nameOf : AV → Option (Nat × AV)
  | .ptr b o => some (b, .ptr 0 o)
  | .ref b e o n t => some (b, .ref 0 e o n t)
  | _ => none
def ext1 (b m : Nat) : Nat → Nat := fun i => if i = 0 then b else m + (i - 1)
def upd1 (l : List (Option (List AV))) (b : Nat) : List (Option (List AV)) → List (Option (List AV))
  | [] => l
  | o :: r => hset l b (o.map (renL (ext1 b l.length))) ++ r.map (Option.map (renL (ext1 b l.length)))
def spB (sp : List AV → List AV → Option (AV × List (Option (List AV)))) : List AV → AHeap → Option (AV × AHeap)
  | x :: args, A => (nameOf x).bind fun p => (A p.1).bind fun cs => if ltL 0 args = true then (sp (looseL cs) (p.2 :: args)).map fun q => (q.1.ren (ext1 p.1 A.n), ⟨upd1 A.l p.1 q.2⟩) else none
  | _, _ => none
theorem QB.toE {f : FuncId} {sp : List AV → List AV → Option (AV × List (Option (List AV)))} (h : QB P f sp) : QE P f (spB sp) := by
  intro args A r A1 e
  unfold spB at e
  split at e
  · rename_i x args
    obtain ⟨⟨b, y⟩, hx, e⟩ := Option.bind_eq_some_iff.1 e
    obtain ⟨cs, hb, e⟩ := Option.bind_eq_some_iff.1 e
    split at e
    · rename_i hargs
      obtain ⟨⟨r0, os⟩, e0, e1⟩ := Option.map_eq_some_iff.1 e
      injection e1 with e1 e2
      subst e1; subst e2
      obtain ⟨⟨h1, h2, h3⟩, hT⟩ := h (looseL cs) (y :: args) r0 os e0
      rw [looseL_lt] at h2
      replace hT := T.looseA (l := [some cs]) hT
      have hb : A b = some cs := hb
      have hlt : b < A.n := AHeap.lt hb
      have hxy : x = y.ren (fun _ => b) := by
        cases x <;> simp [nameOf] at hx
        · obtain ⟨rfl, rfl⟩ := hx; rfl
        · obtain ⟨rfl, rfl⟩ := hx; rfl
      have hv : View (fun _ => b) A ⟨[some cs]⟩ := by
        refine ⟨fun i _ => hlt, fun i c hi => ?_, fun i i' c c' h1 h2 _ => ?_⟩
        · have : i = 0 := by have := AHeap.lt (A := ⟨[some cs]⟩) hi; simp [AHeap.n] at this; exact this
          subst this
          simp [hget] at hi
          subst hi
          exact ⟨ltL_mono (Nat.zero_le _) _ h2, by rw [renL_low _ _ h2]; exact hb⟩
        · have e1 := AHeap.lt (A := ⟨[some cs]⟩) h1
          have e2 := AHeap.lt (A := ⟨[some cs]⟩) h2
          simp [AHeap.n] at e1 e2
          omega
      have := hT.embed hv (by simpa [AHeap.n] using h1)
      simp only [renL, ← hxy, renL_low _ _ hargs] at this
      have hext : extN 1 A.n (fun _ => b) = ext1 b A.n := by
        funext i
        simp only [extN, ext1]
        by_cases hi : i = 0
        · subst hi; simp
        · rw [if_neg (by omega), if_neg hi]
      refine this.mono ?_
      rintro r1 A1 ⟨r', A1', ⟨rfl, rfl⟩, rfl, rfl⟩
      have hn1 : (AHeap.mk [some cs]).n = 1 := rfl
      rw [hn1, hext]
      refine ⟨rfl, ?_⟩
      cases os with
      | nil => exact absurd rfl h3
      | cons o os => simp [upd, upd1]
    · cases e
  · cases e
def pb (sp : List AV → Option (AV × List (Option (List AV)))) : List AV → List AV → Option (AV × List (Option (List AV))) := fun cs args => sp (.agg cs :: args)
theorem QB_pf {ι : Type} {f : FuncId} {p : ι → Prop} {cells args : ι → List AV} {res : ι → AV × List (Option (List AV))} (hl : ∀ i, p i → ltL 1 (args i) = true ∧ ltL 0 (cells i) = true ∧ (res i).2 ≠ [])
    (h : ∀ i, p i → T P f (args i) ⟨[some (cells i)]⟩ fun r' A' => r' = (res i).1 ∧ A' = ⟨(res i).2⟩) : QB P f (pb (pf p (fun i => .agg (cells i) :: args i) res)) := by
  intro cs args0 r os e
  obtain ⟨i, hp, h1, h2⟩ := pf_some e
  injection h1 with h1 h3
  injection h1 with h1
  subst h1; subst h3
  have := h i hp
  have k := hl i hp
  rw [h2] at this k
  exact ⟨k, this⟩

/-- A method by a family. -/
def pm (sp : List AV → Option (AV × List AV)) : List AV → List AV → Option (AV × List AV) := fun cs args => sp (.agg cs :: args)
theorem QM_pf {ι : Type} {f : FuncId} {p : ι → Prop} {cells args : ι → List AV} {res : ι → AV × List AV} (hl : ∀ i, p i → (ltL 0 (args i) = true ∧ ltL 0 (cells i) = true) ∧ (res i).1.lt 0 = true ∧ ltL 0 (res i).2 = true)
    (h : ∀ i, p i → T P f (.ptr 0 0 :: args i) ⟨[some (cells i)]⟩ fun r' A' => r' = (res i).1 ∧ A' = ⟨[some (res i).2]⟩) : QM P f (pm (pf p (fun i => .agg (cells i) :: args i) res)) := by
  intro cs args0 r cs' e
  obtain ⟨i, hp, h1, h2⟩ := pf_some e
  injection h1 with h1 h3
  injection h1 with h1
  subst h1; subst h3
  obtain ⟨⟨a1, a2⟩, a3, a4⟩ := hl i hp
  have := h i hp
  rw [h2] at this a3 a4
  exact ⟨⟨a1, a2, a3, a4⟩, this⟩

/-- A round's end. -/
def Next {ι : Type} (N : Nat) (st : ι → St) (p : ι → Prop) (μ : ι → Nat) (i : ι) (s : St) : Prop := ∃ j, p j ∧ μ j < μ i ∧ Sub N s (st j)
theorem Next.mk {ι : Type} {st : ι → St} {p : ι → Prop} {μ : ι → Nat} {i : ι} {s : St} (j : ι) (h1 : p j) (h2 : μ j < μ i) (h3 : Sub N s (st j)) : Next N st p μ i s := ⟨j, h1, h2, h3⟩
theorem wpLoop_st {ι : Type} {c : AC} {s : St} {Q : Ex → St → Prop} {h : Hold (wpc N P S c)} {h' : Hold Q} (st : ι → St) (p : ι → Prop) (μ : ι → Nat) (i0 : ι) (hp : p i0) (h0 : Sub N s (st i0))
    (hr : ∀ i, p i → wpc N P S c (st i) fun e s' => match e with
      | .normal => Next N st p μ i s'
      | e => Q e s') : wpLoop N (wpc N P S c) s Q h h' := by
  classical
  let G : St → Nat → Prop := fun s m => ∃ i, p i ∧ st i = s ∧ μ i = m
  let ms : St → Nat := fun s => if h : ∃ m, G s m then Classical.choose (least_of h) else 0
  have hms : ∀ i, p i → ms (st i) ≤ μ i ∧ ∃ j, p j ∧ st j = st i ∧ μ j = ms (st i) := by
    intro i hi
    have hex : ∃ m, G (st i) m := ⟨μ i, i, hi, rfl, rfl⟩
    have e : ms (st i) = Classical.choose (least_of hex) := dif_pos hex
    have := Classical.choose_spec (least_of hex)
    rw [e]
    exact ⟨this.2 _ ⟨i, hi, rfl, rfl⟩, this.1⟩
  refine ⟨fun s => ∃ i, p i ∧ st i = s, ms, ⟨_, h0.shift, i0, hp, rfl⟩, ?_⟩
  rintro s1 ⟨i, hi, rfl⟩
  obtain ⟨_, j, hj, hji, hμ⟩ := hms i hi
  rw [← hji]
  refine wpc_mono c (fun e s' he => ?_) _ (hr j hj)
  cases e with
  | normal =>
    obtain ⟨k, hk, hlt, hsub⟩ := he
    refine ⟨st k, hsub.shift, ⟨k, hk, rfl⟩, Nat.lt_of_le_of_lt (hms k hk).1 ?_⟩
    have : ms (st j) = μ j := by rw [hji]; exact hμ.symm
    omega
  | exit id => exact he
  | ret => exact he

end Go.Proofs.YtlglgcmpeabdnaaGreatDoorAi

/- A call to which owned objects are lent: it sees them by value. -/
namespace Go.Proofs.YtlglgcmpeabdnaaGreatDoorAi
open Go Go.RowKit
set_option linter.unusedVariables false
set_option linter.unusedSimpArgs false
set_option linter.unusedSectionVars false

variable {P : Program} {S : Spec} {N : Nat}

mutual
/-- No memory is reached by value. -/
def AV.flat : AV → Bool
  | .sl xs _ => xs.isEmpty
  | .ep _ _ _ => false
  | .fn _ cs => flatL cs
  | .agg cs => flatL cs
  | .tup cs => flatL cs
  | _ => true
def flatL : List AV → Bool
  | [] => true
  | x :: r => x.flat && flatL r
end

mutual
theorem flat_ren {n : Nat} {f : Nat → Nat} {σ σ' : Sg} (hn : ∀ b x, b < n → σ.nm b = some x → σ'.nm (f b) = some x) (hty : ∀ c e, σ.ty c = some e → σ'.ty c = some e) : ∀ (x : AV) (v : Value), x.flat = true → x.lt n = true → Rep σ x v → Rep σ' (x.ren f) v
  | .bool _, v, _, _, h => by cases h; exact .bool _
  | .int _ _, v, _, _, h => by cases h; exact .int _ _
  | .str _, v, _, _, h => by cases h; exact .str _
  | .any, v, _, _, _ => .any v
  | .nilp, v, _, _, h => by cases h; exact .nilp
  | .nilf, v, _, _, h => by cases h; exact .nilf
  | .nili, v, _, _, h => by cases h; exact .nili
  | .iface, v, _, _, h => by cases h; exact .iface _ _
  | .mv _ _, v, _, _, h => by cases h with | mv _ _ vs h => exact .mv _ _ vs h
  | .ptr b o, v, _, hl, h => by
    cases h with
    | ptr _ _ c sz h1 => exact .ptr _ _ c sz (hn b _ (of_decide_eq_true hl) h1)
  | .ref b e o m t, v, _, hl, h => by
    cases h with
    | ref _ _ _ _ _ ad cap c sz h1 h2 h3 h4 h5 h6 h7 h8 => exact .ref _ _ _ _ _ ad cap c sz h1 h2 h3 h4 (hn b _ (of_decide_eq_true hl) h5) h6 h7 fun ht => ⟨(h8 ht).1, hty c _ (h8 ht).2⟩
  | .sl xs t, v, hf, _, h => by
    have : xs = [] := by simpa [AV.flat] using hf
    subst this
    cases h with
    | slnil _ a cap h1 h2 h3 => exact .slnil t a cap h1 h2 h3
    | sl _ _ b off s cap val h1 h2 h3 h4 h5 h6 h7 h8 => exact .sl [] t b off s cap val h1 h2 h3 h4 (fun i x hx => by simp at hx) (fun i x hx => by simp at hx) h7 h8
  | .ep x i o, v, hf, _, _ => by cases hf
  | .fn g cs, v, hf, hl, h => by
    cases h with
    | fn _ _ vs h1 h2 => exact .fn g _ vs (by rw [renL_map]; simpa using h1) (flatL_ren hn hty cs vs hf hl h2)
  | .agg cs, v, hf, hl, h => by
    cases h with
    | agg _ vs h1 h2 h3 => exact .agg _ vs (by rw [renL_map]; simpa using h1) h2 (flatL_ren hn hty cs vs hf hl h3)
  | .tup cs, v, hf, hl, h => by
    cases h with
    | tup _ vs h1 h3 => exact .tup _ vs (by rw [renL_map]; simpa using h1) (flatL_ren hn hty cs vs hf hl h3)
theorem flatL_ren {n : Nat} {f : Nat → Nat} {σ σ' : Sg} (hn : ∀ b x, b < n → σ.nm b = some x → σ'.nm (f b) = some x) (hty : ∀ c e, σ.ty c = some e → σ'.ty c = some e) : ∀ (cs : List AV) (vs : List Value), flatL cs = true → ltL n cs = true →
    (∀ (i : Nat) (c : AV) (v : Value), cs[i]? = some c → vs[i]? = some v → Rep σ c v) → ∀ (i : Nat) (c : AV) (v : Value), (renL f cs)[i]? = some c → vs[i]? = some v → Rep σ' c v
  | [], vs, _, _, _, i, c, v, hc, _ => by simp [renL] at hc
  | x :: cs, vs, hf, hl, h, i, c, v, hc, hv => by
    simp only [ltL, Bool.and_eq_true] at hl
    simp only [flatL, Bool.and_eq_true] at hf
    cases vs with
    | nil => simp at hv
    | cons u us =>
      cases i with
      | zero =>
        simp [renL] at hc hv
        subst hc; subst hv
        exact flat_ren hn hty x u hf.1 hl.1 (h 0 x u rfl rfl)
      | succ i => exact flatL_ren hn hty cs us hf.2 hl.2 (fun i c v h1 h2 => h (i + 1) c v (by simpa using h1) (by simpa using h2)) i c v (by simpa [renL] using hc) (by simpa using hv)
end

theorem flatL_get : ∀ {cs : List AV} {i : Nat} {x : AV}, flatL cs = true → cs[i]? = some x → x.flat = true
  | [], i, x, _, h => by simp at h
  | c :: r, 0, x, hf, h => by
    simp at h; subst h
    simp only [flatL, Bool.and_eq_true] at hf
    exact hf.1
  | c :: r, i + 1, x, hf, h => by
    simp only [flatL, Bool.and_eq_true] at hf
    exact flatL_get hf.2 (by simpa using h)
/-- Cells as elements. -/
def elemA (e : Nat) (cs : List AV) : AV := if e = 1 then (match cs.head? with
  | some (.agg l) => .agg [.agg l]
  | some c => c
  | none => .agg []) else .agg (cs.take e)
def gath (e : Nat) : Nat → List AV → List AV
  | 0, _ => []
  | n + 1, cs => elemA e cs :: gath e n (cs.drop e)
@[simp] theorem gath_len (e : Nat) : ∀ (n : Nat) (cs : List AV), (gath e n cs).length = n
  | 0, _ => rfl
  | n + 1, cs => by simp [gath, gath_len e n]
theorem elemA_cells {e : Nat} {cs : List AV} (h : e ≤ cs.length) : (elemA e cs).cells = cs.take e := by
  unfold elemA
  split
  · rename_i h1
    subst h1
    cases cs with
    | nil => simp at h
    | cons c r => cases c <;> simp
  · simp
theorem gath_get (e : Nat) : ∀ (n : Nat) (cs : List AV) (i : Nat) (x : AV), n * e ≤ cs.length → (gath e n cs)[i]? = some x → x.cells = (cs.drop (i * e)).take e ∧ i < n
  | 0, cs, i, x, _, h => by simp [gath] at h
  | n + 1, cs, 0, x, hl, h => by
    simp [gath] at h
    subst h
    rw [Nat.add_mul] at hl
    exact ⟨by rw [elemA_cells (by omega)]; simp, by omega⟩
  | n + 1, cs, i + 1, x, hl, h => by
    rw [Nat.add_mul] at hl
    have := gath_get e n (cs.drop e) i x (by simp; omega) (by simpa [gath] using h)
    refine ⟨?_, by omega⟩
    rw [this.1, List.drop_drop, Nat.add_mul, Nat.one_mul, Nat.add_comm]

mutual
/-- What lent objects look like by value. -/
def seeV (A : AHeap) : AV → Option AV
  | .ref b e o n _ => (A b).bind fun cs => if (o + n) * e ≤ cs.length ∧ ltL 0 cs = true then some (.sl (gath e n ((looseL cs).drop (o * e))) false) else none
  | .agg l => (seeL A l).map .agg
  | .sl xs t => some (.sl xs false)
  | v => if v.lt 0 = true then some v.loose else none
def seeL (A : AHeap) : List AV → Option (List AV)
  | [] => some []
  | x :: r => (seeV A x).bind fun y => (seeL A r).map (y :: ·)
end
theorem seeV_bool (A : AHeap) (b : Bool) : seeV A (.bool b) = some (.bool b) := rfl
theorem seeV_int (A : AHeap) (k : IntKind) (n : Int) : seeV A (.int k n) = some (.int k n) := rfl
theorem seeV_str (A : AHeap) (s : ByteArray) : seeV A (.str s) = some (.str s) := rfl
theorem seeV_nilp (A : AHeap) : seeV A .nilp = some .nilp := rfl
theorem seeV_nilf (A : AHeap) : seeV A .nilf = some .nilf := rfl
theorem seeV_sl (A : AHeap) (xs : List AV) (t : Bool) : seeV A (.sl xs t) = some (.sl xs false) := rfl
theorem seeV_agg (A : AHeap) (l : List AV) : seeV A (.agg l) = (seeL A l).map .agg := rfl
theorem seeV_ref (A : AHeap) (b e o n : Nat) (t : Cp) : seeV A (.ref b e o n t) = (A b).bind fun cs => if (o + n) * e ≤ cs.length ∧ ltL 0 cs = true then some (.sl (gath e n ((looseL cs).drop (o * e))) false) else none := rfl
theorem seeL_nil (A : AHeap) : seeL A [] = some [] := rfl
theorem seeL_cons (A : AHeap) (x : AV) (r : List AV) : seeL A (x :: r) = (seeV A x).bind fun y => (seeL A r).map (y :: ·) := rfl

def allSg (w : World) : Sg := ⟨fun c => w.heap[c]?, fun _ => none, fun c => w.heap[c]?, fun _ => none⟩
theorem Sim.all {B : Nat → Prop} {σ : Sg} {A : AHeap} {w : World} (h : Sim B σ A w) : Sim (fun c => c < w.heap.size) (allSg w) .nil w :=
  ⟨fun c h => h, fun b o e => e, fun c o e => .inl e, fun b c n e => (by cases e), fun b hb => absurd hb (Nat.not_lt_zero b), fun b cs e => (by cases e), fun b b' cs cs' c n n' e => (by cases e), fun c e h => (by cases h)⟩

section
variable {B : Nat → Prop} {σ : Sg} {A : AHeap} {w : World} (hs : Sim B σ A w)
include hs
theorem low_all {x : AV} {v : Value} (hl : x.lt 0 = true) (h : Rep σ x v) : Rep (allSg w) x v := by
  have := rep_ren (n := 0) (f := fun b => b) (σ := σ) (σ' := allSg w) (fun b x hb => absurd hb (Nat.not_lt_zero _)) (fun b o e => hs.mem b o e) (fun c e h => absurd h (Nat.not_lt_zero 0)) x v hl h
  rwa [ren_low _ _ hl] at this
mutual
theorem see_rep : ∀ (x y : AV) (v : Value), seeV A x = some y → Rep σ x v → Rep (allSg w) y v
  | .ref b e o n t, y, v, hy, h => by
    rw [seeV_ref] at hy
    obtain ⟨cs, hb, hy⟩ := Option.bind_eq_some_iff.1 hy
    split at hy
    · rename_i hc
      obtain rfl := Option.some.inj hy
      cases h with
      | ref _ _ _ _ _ ad cap c sz h1 h2 h3 h4 h5 h6 h7 =>
        by_cases hn : n = 0
        · subst hn
          exact .slnil false _ cap (fun h => by cases h) h2 (fun h => by cases h)
        · have hcap : cap ≠ 0 := by omega
          obtain rfl := h4 hcap
          obtain ⟨c', cur, tt, k1, k2, k3, k4, k5, k6⟩ := hs.own b cs hb
          rw [h5] at k1
          injection k1 with k1; injection k1 with k1 k1'
          subst k1
          have hlen : (gath e n ((looseL cs).drop (o * e))).length = n := gath_len ..
          have hfit : n * e ≤ ((looseL cs).drop (o * e)).length := by
            rw [List.length_drop, looseL_len]
            have := hc.1
            rw [Nat.add_mul] at this
            omega
          have hcell : ∀ (i : Nat) (x : AV), (gath e n ((looseL cs).drop (o * e)))[i]? = some x → ∀ (j : Nat) (y : AV), x.cells[j]? = some y → ∃ y0, cs[o * e + i * e + j]? = some y0 ∧ y = y0.loose := by
            intro i x hx j y hy
            obtain ⟨g1, g2⟩ := gath_get e n _ i x hfit hx
            rw [g1, List.getElem?_take] at hy
            split at hy
            · rw [List.drop_drop, List.getElem?_drop, looseL_map, List.getElem?_map] at hy
              obtain ⟨y0, e1, e2⟩ := Option.map_eq_some_iff.1 hy
              exact ⟨y0, e1, e2.symm⟩
            · cases hy
          have hval : ∀ (i : Nat) (x : AV), (gath e n ((looseL cs).drop (o * e)))[i]? = some x → ∀ (j : Nat) (y : AV), x.cells[j]? = some y → ∃ v, cur[o * e + i * e + j]? = some v ∧ Rep σ y v ∧ v.oneCell' = true ∧ y.lt 0 = true := by
            intro i x hx j y hy
            obtain ⟨y0, e1, rfl⟩ := hcell i x hx j y hy
            obtain ⟨v, e2, e3, e4⟩ := k6 _ _ e1
            exact ⟨v, e2, rep_loose _ _ e3, e4, by rw [loose_lt]; exact ltL_get hc.2 _ _ e1⟩
          have := Rep.sl (σ := allSg w) (gath e n ((looseL cs).drop (o * e))) false c (o * e) e cap (fun i j => if (cur[o * e + i * e + j]?.getD (.bool false)).oneCell' = true then cur[o * e + i * e + j]?.getD (.bool false) else .bool false) (by rw [hlen]; exact h1) h2 (fun h => by cases h)
            (fun i x hx => by
              obtain ⟨g1, g2⟩ := gath_get e n _ i x hfit hx
              rw [g1, List.length_take, List.length_drop]
              have : (i + 1) * e ≤ n * e := Nat.mul_le_mul_right _ (by omega)
              rw [Nat.add_mul] at this
              omega)
            (fun i x hx j y hy => by
              obtain ⟨v, e1, e2, e3, _⟩ := hval i x hx j y hy
              simp only [Sg.cell, allSg, k4]
              rw [e1]
              simp [e3])
            (fun i x hx j y hy => by
              obtain ⟨v, e1, e2, e3, e4⟩ := hval i x hx j y hy
              rw [e1]
              simp only [Option.getD_some, e3, if_true]
              exact low_all hs e4 e2)
            (fun i j => by
              split
              · assumption
              · rfl)
            (fun i x hx => by
              obtain ⟨g1, g2⟩ := gath_get e n _ i x hfit hx
              refine ltL_of fun y hy => ?_
              obtain ⟨j, hy⟩ := List.mem_iff_getElem?.1 hy
              obtain ⟨v, _, _, _, e4⟩ := hval i x hx j y hy
              exact e4)
          rw [hlen] at this
          exact this
    · cases hy
  | .agg l, y, v, hy, h => by
    rw [seeV_agg] at hy
    obtain ⟨l', hl, rfl⟩ := Option.map_eq_some_iff.1 hy
    cases h with
    | agg _ vs h1 h2 h3 =>
      obtain ⟨k1, k2⟩ := seeL_rep l l' vs hl h1 h3
      exact .agg _ vs k1 h2 k2
  | .sl xs t, y, v, hy, h => by
    obtain rfl := Option.some.inj hy
    exact low_all hs rfl (rep_loose _ _ h)
  | .bool _, y, v, hy, h | .int _ _, y, v, hy, h | .str _, y, v, hy, h | .ptr _ _, y, v, hy, h | .ep _ _ _, y, v, hy, h | .fn _ _, y, v, hy, h | .tup _, y, v, hy, h | .nilp, y, v, hy, h | .nilf, y, v, hy, h | .nili, y, v, hy, h | .iface, y, v, hy, h | .mv _ _, y, v, hy, h | .any, y, v, hy, h => by
    simp only [seeV] at hy
    split at hy
    · rename_i hl
      obtain rfl := Option.some.inj hy
      exact low_all hs (by rw [loose_lt]; exact hl) (rep_loose _ _ h)
    · cases hy
theorem seeL_rep : ∀ (l l' : List AV) (vs : List Value), seeL A l = some l' → l.length = vs.length → (∀ (i : Nat) (c : AV) (v : Value), l[i]? = some c → vs[i]? = some v → Rep σ c v) → l'.length = vs.length ∧ ∀ (i : Nat) (c : AV) (v : Value), l'[i]? = some c → vs[i]? = some v → Rep (allSg w) c v
  | [], l', vs, hl, h1, h2 => by
    obtain rfl := Option.some.inj hl
    exact ⟨h1, by simp⟩
  | x :: l, l', [], hl, h1, h2 => by simp at h1
  | x :: l, l', v :: vs, hl, h1, h2 => by
    rw [seeL_cons] at hl
    obtain ⟨y, hy, hl⟩ := Option.bind_eq_some_iff.1 hl
    obtain ⟨l'', hl'', rfl⟩ := Option.map_eq_some_iff.1 hl
    obtain ⟨k1, k2⟩ := seeL_rep l l'' vs hl'' (by simpa using h1) (fun i c u hc hu => h2 (i + 1) c u (by simpa using hc) (by simpa using hu))
    refine ⟨by simpa using k1, fun i c u hc hu => ?_⟩
    cases i with
    | zero =>
      simp at hc hu
      subst hc; subst hu
      exact see_rep x y v hy (h2 0 x v rfl rfl)
    | succ i => exact k2 i c u (by simpa using hc) (by simpa using hu)
end
end

theorem T.borrow {f : FuncId} {args args' : List AV} {A : AHeap} {R : AV → AHeap → Prop} (h : T P f args' .nil R) (hl : seeL A args = some args') (hR : ∀ r A', R r A' → r.flat = true ∧ ∀ b cs, A' b = some cs → flatL cs = true) :
    T P f args A fun r A1 => ∃ r' A1', R r' A1' ∧ r = r'.ren (shiftN A.n) ∧ A1 = addObjs A A1'.l := by
  refine ⟨h.1, fun B w0 σ w vs hG hb hs ha => ?_⟩
  have ha1 : RepL (allSg w) args' vs := seeL_rep hs args args' vs hl ha.1 ha.2
  have hG' : GoodP P (fun c => c < w.heap.size) w := fun w2 hw2 => hG w2 (hb.trans (hw2.mono fun c hc => hs.base c hc))
  refine (h.2 _ w _ w vs hG' (Keeps.refl _ _) hs.all ha1).mono fun e w' ⟨r', A1', v, σ2, he, hr, hle, hs3, hrep, hk⟩ => ?_
  obtain ⟨f1, f2⟩ := hR _ _ hr
  let g := shiftN A.n
  let σ3 : Sg := ⟨σ.mem, fun i => if i < A.n then σ.nm i else σ2.nm (i - A.n), σ.base, fun c => (σ.ty c).or (σ2.ty c)⟩
  have hren : ∀ b x, b < A1'.n → σ2.nm b = some x → σ3.nm (g b) = some x := by
    intro b x _ e
    show (if g b < A.n then σ.nm (g b) else σ2.nm (g b - A.n)) = some x
    simp only [g, shiftN]
    rw [if_neg (by omega), show A.n + b - A.n = b by omega]
    exact e
  have hlt : ∀ {x : AV} {u : Value}, Rep σ2 x u → x.lt A1'.n = true := fun {x u} hr => hs3.lt_of x u hr
  have hle3 : σ.Le σ3 := ⟨fun b o h => h, fun b x e => by
    show (if b < A.n then _ else _) = _
    rw [if_pos (hs.nm b x.1 x.2 e).1]; exact e, rfl, fun c e he => by show (σ.ty c).or (σ2.ty c) = some e; rw [he]; rfl⟩
  have hty4 : ∀ c e, σ3.ty c = some e → ∃ cs fr, w'.heap[c]? = some (.cells cs e fr) := fun c e he => by
    have he : (σ.ty c).or (σ2.ty c) = some e := he
    rcases Option.or_eq_some_iff.1 he with he | ⟨_, he⟩
    · obtain ⟨cs, fr, h2⟩ := hs.ty c e he
      exact ⟨cs, fr, by rw [hk.block c (Array.getElem?_eq_some_iff.1 h2).1]; exact h2⟩
    · exact hs3.ty c e he
  have hty3 : ∀ c e, σ2.ty c = some e → σ3.ty c = some e := fun c e he => by
    show (σ.ty c).or (σ2.ty c) = some e
    cases h1 : σ.ty c with
    | none => simpa using he
    | some e' =>
      obtain ⟨cs, fr, h2⟩ := hs.ty c e' h1
      obtain ⟨cs', fr', h3⟩ := hs3.ty c e he
      rw [hk.block c (Array.getElem?_eq_some_iff.1 h2).1, h2] at h3
      injection h3 with h3; injection h3 with _ h4 _
      rw [h4]; rfl
  have hsame : ∀ c, c < w.heap.size → w'.heap[c]? = w.heap[c]? := fun c hc => hk.block c hc
  have hmem : ∀ c o, σ.mem c = some o → c < w.heap.size := by
    intro c o e
    have := hs.mem c o e
    rcases Nat.lt_or_ge c w.heap.size with h | h
    · exact h
    · simp [Array.getElem?_eq_none h] at this
  have hn : (addObjs A A1'.l).n = A.n + A1'.n := by simp [addObjs, AHeap.n]
  have hget' : ∀ i, (addObjs A A1'.l) i = if i < A.n then A i else (A1' (i - A.n)).map (renL g) := by
    intro i
    show hget (A.l ++ _) i = _
    rw [hget_append, hget_map]
  refine ⟨r'.ren g, addObjs A A1'.l, v, σ3, he, ⟨r', A1', hr, rfl, rfl⟩, hle3, ⟨?_, ?_, hs.low, ?_, ?_, ?_, ?_, hty4⟩, flat_ren hren hty3 r' v f1 (hlt hrep) hrep, hb.trans (hk.mono fun c hc => hs.base c hc)⟩
  · exact fun c hc => Nat.lt_of_lt_of_le (hs.base c hc) hk.size
  · intro b o e
    rw [hsame b (hmem b o e)]
    exact hs.mem b o e
  · intro b c n e
    have e : (if b < A.n then σ.nm b else σ2.nm (b - A.n)) = some (c, n) := e
    rw [hn]
    split at e
    · rename_i hlt
      obtain ⟨_, hh⟩ := hs.nm b c n e
      exact ⟨by omega, by rw [hsame c (hs.nmLt e)]; exact hh⟩
    · obtain ⟨h1, h2⟩ := hs3.nm _ c n e
      exact ⟨by omega, h2⟩
  · intro b hb
    rw [hn] at hb
    show ∃ x, (if b < A.n then σ.nm b else σ2.nm (b - A.n)) = some x
    split
    · rename_i hlt; exact hs.tot b hlt
    · exact hs3.tot _ (by omega)
  · intro i cs hi
    rw [hget'] at hi
    split at hi
    · rename_i hlt
      obtain ⟨c, cur, t, k1, k2, k3, k4, k5, k6⟩ := hs.own i cs hi
      refine ⟨c, cur, t, hle3.nm _ _ k1, k2, k3, by rw [hsame c (hs.nmLt k1)]; exact k4, k5, fun j x hx => ?_⟩
      obtain ⟨u, e1, e2, e3⟩ := k6 j x hx
      exact ⟨u, e1, e2.mono hle3, e3⟩
    · obtain ⟨cs', h1, rfl⟩ := Option.map_eq_some_iff.1 hi
      obtain ⟨c, cur, t, k1, k2, k3, k4, k5, k6⟩ := hs3.own _ cs' h1
      have hi' : i = g (i - A.n) := by simp only [g, shiftN]; omega
      refine ⟨c, cur, t, by rw [hi']; exact hren _ _ (AHeap.lt h1) k1, fun hB => k2 (hs.base c hB), ?_, k4, by rw [renL_map]; simpa using k5, fun j x hx => ?_⟩
      · show σ.mem c = none
        cases hm : σ.mem c with
        | none => rfl
        | some o => exact absurd (hmem c o hm) k2
      · rw [renL_map, List.getElem?_map] at hx
        obtain ⟨y, hy, rfl⟩ := Option.map_eq_some_iff.1 hx
        obtain ⟨u, e1, e2, e3⟩ := k6 j y hy
        exact ⟨u, e1, flat_ren hren hty3 y u (flatL_get (f2 _ _ h1) hy) (hlt e2) e2, e3⟩
  · intro i i' cs cs' c n n' e1 e2 e3 e4
    have old : ∀ i cs c n, i < A.n → (addObjs A A1'.l) i = some cs → σ3.nm i = some (c, n) → A i = some cs ∧ σ.nm i = some (c, n) := by
      intro i cs c n hi h1 h2
      rw [hget', if_pos hi] at h1
      have h2 : (if i < A.n then σ.nm i else _) = some (c, n) := h2
      rw [if_pos hi] at h2
      exact ⟨h1, h2⟩
    have new : ∀ i cs c n, ¬ i < A.n → (addObjs A A1'.l) i = some cs → σ3.nm i = some (c, n) → ∃ cs0, A1' (i - A.n) = some cs0 ∧ σ2.nm (i - A.n) = some (c, n) ∧ ¬ c < w.heap.size := by
      intro i cs c n hi h1 h2
      rw [hget', if_neg hi] at h1
      have h2 : (if i < A.n then σ.nm i else σ2.nm (i - A.n)) = some (c, n) := h2
      rw [if_neg hi] at h2
      obtain ⟨cs0, h3, _⟩ := Option.map_eq_some_iff.1 h1
      obtain ⟨c', cur, t, k1, k2, _⟩ := hs3.own _ cs0 h3
      rw [h2] at k1
      injection k1 with k1; injection k1 with k1 _
      subst k1
      exact ⟨cs0, h3, h2, k2⟩
    by_cases hi : i < A.n <;> by_cases hi' : i' < A.n
    · obtain ⟨a1, a2⟩ := old i cs c n hi e1 e3
      obtain ⟨b1, b2⟩ := old i' cs' c n' hi' e2 e4
      exact hs.inj _ _ _ _ _ _ _ a1 b1 a2 b2
    · obtain ⟨a1, a2⟩ := old i cs c n hi e1 e3
      obtain ⟨_, b1, b2, b3⟩ := new i' cs' c n' hi' e2 e4
      exact absurd (hs.nmLt a2) b3
    · obtain ⟨a1, a2⟩ := old i' cs' c n' hi' e2 e4
      obtain ⟨_, b1, b2, b3⟩ := new i cs c n hi e1 e3
      exact absurd (hs.nmLt a2) b3
    · obtain ⟨_, a1, a2, _⟩ := new i cs c n hi e1 e3
      obtain ⟨_, b1, b2, _⟩ := new i' cs' c n' hi' e2 e4
      have := hs3.inj _ _ _ _ _ _ _ a1 b1 a2 b2
      omega

/-- A pure function to which objects may be lent. -/
def spR (sp : List AV → Option AV) : List AV → AHeap → Option (AV × AHeap) := fun args A => (seeL A args).bind fun a => (sp a).bind fun r => if r.flat = true then some (r, A) else none
theorem QP.toR {f : FuncId} {sp : List AV → Option AV} (h : QP P f sp) : QE P f (spR sp) := by
  intro args A r A1 e
  obtain ⟨a, h1, e⟩ := Option.bind_eq_some_iff.1 e
  obtain ⟨r0, h2, e⟩ := Option.bind_eq_some_iff.1 e
  split at e
  · rename_i hf
    injection e with e
    injection e with e1 e2
    subst e1; subst e2
    obtain ⟨⟨k1, k2⟩, k3⟩ := h a r0 h2
    refine (k3.borrow h1 ?_).mono ?_
    · rintro r A' ⟨rfl, rfl⟩
      exact ⟨hf, fun b cs e => by cases e⟩
    · rintro r1 A1 ⟨r', A1', ⟨rfl, rfl⟩, rfl, rfl⟩
      exact ⟨ren_low _ _ k2, AHeap.ext' (by simp [addObjs, AHeap.nil])⟩
  · cases e
/-- A function that makes objects, to which objects may be lent. -/
def flatO : List (Option (List AV)) → Bool
  | [] => true
  | none :: r => flatO r
  | some cs :: r => flatL cs && flatO r
theorem flatO_get : ∀ {l : List (Option (List AV))} {b : Nat} {cs : List AV}, flatO l = true → hget l b = some cs → flatL cs = true
  | [], b, cs, _, h => by cases h
  | o :: r, b, cs, hf, h => by
    simp only [hget] at h
    split at h
    · subst h
      simp only [flatO, Bool.and_eq_true] at hf
      exact hf.1
    · cases o with
      | none => exact flatO_get (l := r) hf h
      | some c =>
        simp only [flatO, Bool.and_eq_true] at hf
        exact flatO_get hf.2 h
def spRN (sp : List AV → Option (AV × List (Option (List AV)))) : List AV → AHeap → Option (AV × AHeap) := fun args A => (seeL A args).bind fun a => (sp a).bind fun p => if p.1.flat = true ∧ flatO p.2 = true then some (p.1.ren (shiftN A.n), addObjs A p.2) else none
theorem QN.toR {f : FuncId} {sp : List AV → Option (AV × List (Option (List AV)))} (h : QN P f sp) : QE P f (spRN sp) := by
  intro args A r A1 e
  obtain ⟨a, h1, e⟩ := Option.bind_eq_some_iff.1 e
  obtain ⟨⟨r0, os⟩, h2, e⟩ := Option.bind_eq_some_iff.1 e
  split at e
  · rename_i hf
    injection e with e
    injection e with e1 e2
    subst e1; subst e2
    obtain ⟨k1, k3⟩ := h a r0 os h2
    refine (k3.borrow h1 ?_).mono ?_
    · rintro r A' ⟨rfl, rfl⟩
      exact ⟨hf.1, fun b cs e => flatO_get hf.2 e⟩
    · rintro r1 A1 ⟨r', A1', ⟨rfl, rfl⟩, rfl, rfl⟩
      exact ⟨rfl, rfl⟩
  · cases e

end Go.Proofs.YtlglgcmpeabdnaaGreatDoorAi

/- A call that sees the objects that its arguments reach. -/
namespace Go.Proofs.YtlglgcmpeabdnaaGreatDoorAi
open Go Go.RowKit
set_option linter.unusedVariables false
set_option linter.unusedSimpArgs false

variable {P : Program} {S : Spec} {N : Nat}

mutual
/-- The names in a value. -/
def AV.nms : AV → List Nat
  | .ptr b _ => [b]
  | .ref b _ _ _ _ => [b]
  | .ep x _ _ => x.nms
  | .fn _ cs => nmsL cs
  | .agg cs => nmsL cs
  | .tup cs => nmsL cs
  | _ => []
def nmsL : List AV → List Nat
  | [] => []
  | x :: r => x.nms ++ nmsL r
end
def hasN : List Nat → Nat → Bool
  | [], _ => false
  | c :: r, b => b == c || hasN r b
def addN : List Nat → List Nat → List Nat
  | a, [] => a
  | a, b :: r => addN (if hasN a b = true then a else a ++ [b]) r
def cellN (A : AHeap) : List Nat → List Nat
  | [] => []
  | b :: r => ((A b).elim [] nmsL) ++ cellN A r
def reachN (A : AHeap) : Nat → List Nat → List Nat
  | 0, ns => ns
  | k + 1, ns => reachN A k (addN ns (cellN A ns))
def idxN : List Nat → Nat → Nat
  | [], _ => 0
  | c :: r, b => if b = c then 0 else idxN r b + 1
def atN : List Nat → Nat → Nat
  | [], _ => 0
  | c :: r, i => if i = 0 then c else atN r (i - 1)
def nodupN : List Nat → Bool
  | [] => true
  | b :: r => !hasN r b && nodupN r
def allN (ns : List Nat) : List Nat → Bool
  | [] => true
  | b :: r => hasN ns b && allN ns r
/-- The objects of names, as the call names them. -/
def objsN (A : AHeap) (ns : List Nat) : List Nat → List (Option (List AV))
  | [] => []
  | b :: r => (A b).map (renL (idxN ns)) :: objsN A ns r
def okN (A : AHeap) (ns : List Nat) : List Nat → Bool
  | [] => true
  | b :: r => (decide (b < A.n) && (A b).elim true fun cs => allN ns (nmsL cs)) && okN A ns r

theorem idx_lt : ∀ {ns : List Nat} {b : Nat}, hasN ns b = true → idxN ns b < ns.length
  | [], b, h => by cases h
  | c :: r, b, h => by
    simp only [idxN]
    split
    · simp
    · rename_i hne
      have : hasN r b = true := by simpa [hasN, hne] using h
      have := idx_lt this
      simp; omega
theorem at_idx : ∀ {ns : List Nat} {b : Nat}, hasN ns b = true → atN ns (idxN ns b) = b
  | [], b, h => by cases h
  | c :: r, b, h => by
    simp only [idxN]
    split
    · rename_i e; simp [atN, e]
    · rename_i hne
      have h' : hasN r b = true := by simpa [hasN, hne] using h
      rw [atN, if_neg (by omega)]
      simpa using at_idx h'
theorem has_at : ∀ {ns : List Nat} {i : Nat}, i < ns.length → hasN ns (atN ns i) = true
  | [], i, h => by simp at h
  | c :: r, i, h => by
    rw [atN]
    split
    · simp [hasN]
    · have := has_at (ns := r) (i := i - 1) (by simp at h; omega)
      simp [hasN, this]
theorem at_inj : ∀ {ns : List Nat}, nodupN ns = true → ∀ {i j : Nat}, i < ns.length → j < ns.length → atN ns i = atN ns j → i = j
  | [], _, i, j, h, _, _ => by simp at h
  | c :: r, hn, i, j, hi, hj, e => by
    simp only [nodupN, Bool.and_eq_true, Bool.not_eq_true'] at hn
    simp only [List.length_cons] at hi hj
    by_cases i0 : i = 0 <;> by_cases j0 : j = 0
    · omega
    · subst i0
      simp only [atN, if_true, if_neg j0] at e
      have := has_at (ns := r) (i := j - 1) (by omega)
      rw [← e] at this
      rw [this] at hn
      exact absurd hn.1 (by decide)
    · subst j0
      simp only [atN, if_true, if_neg i0] at e
      have := has_at (ns := r) (i := i - 1) (by omega)
      rw [e] at this
      rw [this] at hn
      exact absurd hn.1 (by decide)
    · simp only [atN, if_neg i0, if_neg j0] at e
      have := at_inj hn.2 (i := i - 1) (j := j - 1) (by omega) (by omega) e
      omega
theorem allN_append {ns : List Nat} : ∀ {l k : List Nat}, allN ns (l ++ k) = (allN ns l && allN ns k)
  | [], k => rfl
  | b :: r, k => by simp [allN, allN_append, Bool.and_assoc]
mutual
theorem ren_inv {ns : List Nat} : ∀ x : AV, allN ns x.nms = true → (x.ren (idxN ns)).ren (atN ns) = x ∧ (x.ren (idxN ns)).lt ns.length = true
  | .ptr b o, h => by
    have h : hasN ns b = true := by simpa [AV.nms, allN] using h
    exact ⟨by simp [AV.ren, at_idx h], decide_eq_true (idx_lt h)⟩
  | .ref b e o m t, h => by
    have h : hasN ns b = true := by simpa [AV.nms, allN] using h
    exact ⟨by simp [AV.ren, at_idx h], decide_eq_true (idx_lt h)⟩
  | .ep x i o, h => by
    obtain ⟨h1, h2⟩ := ren_inv x (by simpa [AV.nms] using h)
    exact ⟨by simp [AV.ren, h1], by simpa [AV.ren, AV.lt] using h2⟩
  | .fn f cs, h => by
    obtain ⟨h1, h2⟩ := renL_inv cs (by simpa [AV.nms] using h)
    exact ⟨by simp [AV.ren, h1], by simpa [AV.ren, AV.lt] using h2⟩
  | .agg cs, h => by
    obtain ⟨h1, h2⟩ := renL_inv cs (by simpa [AV.nms] using h)
    exact ⟨by simp [AV.ren, h1], by simpa [AV.ren, AV.lt] using h2⟩
  | .tup cs, h => by
    obtain ⟨h1, h2⟩ := renL_inv cs (by simpa [AV.nms] using h)
    exact ⟨by simp [AV.ren, h1], by simpa [AV.ren, AV.lt] using h2⟩
  | .bool _, _ | .int _ _, _ | .str _, _ | .sl _ _, _ | .nilp, _ | .nilf, _ | .nili, _ | .iface, _ | .mv _ _, _ | .any, _ => ⟨rfl, rfl⟩
theorem renL_inv {ns : List Nat} : ∀ cs : List AV, allN ns (nmsL cs) = true → renL (atN ns) (renL (idxN ns) cs) = cs ∧ ltL ns.length (renL (idxN ns) cs) = true
  | [], _ => ⟨rfl, rfl⟩
  | x :: r, h => by
    rw [nmsL, allN_append, Bool.and_eq_true] at h
    obtain ⟨h1, h2⟩ := ren_inv x h.1
    obtain ⟨h3, h4⟩ := renL_inv r h.2
    exact ⟨by simp [renL, h1, h3], by simp [renL, ltL, h2, h4]⟩
end
theorem objsN_len (A : AHeap) (ns : List Nat) : ∀ l : List Nat, (objsN A ns l).length = l.length
  | [] => rfl
  | b :: r => by simp [objsN, objsN_len A ns r]
theorem objsN_get (A : AHeap) (ns : List Nat) : ∀ (l : List Nat) (i : Nat), i < l.length → hget (objsN A ns l) i = (A (atN l i)).map (renL (idxN ns))
  | [], i, h => by simp at h
  | b :: r, i, h => by
    simp only [objsN, hget, atN]
    split
    · rfl
    · exact objsN_get A ns r (i - 1) (by simp at h; omega)
theorem okN_get (A : AHeap) (ns : List Nat) : ∀ (l : List Nat), okN A ns l = true → ∀ i, i < l.length → atN l i < A.n ∧ ∀ cs, A (atN l i) = some cs → allN ns (nmsL cs) = true
  | [], _, i, h => by simp at h
  | b :: r, h, i, hi => by
    simp only [okN, Bool.and_eq_true, decide_eq_true_eq] at h
    simp only [atN]
    split
    · refine ⟨h.1.1, fun cs e => ?_⟩
      have := h.1.2
      rw [show hget A.l b = some cs from e] at this
      exact this
    · exact okN_get A ns r h.2 (i - 1) (by simp at hi; omega)

/-- A function that sees what its arguments reach. -/
def QV (P : Program) (f : FuncId) (sp : List (Option (List AV)) → List AV → Option (AV × List (Option (List AV)))) : Prop := ∀ os args r os', sp os args = some (r, os') → T P f args ⟨os⟩ fun r' A' => r' = r ∧ A' = ⟨os'⟩
def reachV (A : AHeap) (args : List AV) : List Nat := reachN A 2 (addN [] (nmsL args))
def spV' (sp : List (Option (List AV)) → List AV → Option (AV × List (Option (List AV)))) (args : List AV) (A : AHeap) (ns : List Nat) : Option (AV × AHeap) :=
  if ((nodupN ns && okN A ns ns) && allN ns (nmsL args)) = true then
    (sp ((objsN A ns ns).map (Option.map looseL)) (renL (idxN ns) args)).map fun q => (q.1.ren (extN ns.length A.n (atN ns)), ⟨upd (atN ns) (extN ns.length A.n (atN ns)) 0 (objsN A ns ns) q.2 A.l⟩)
  else none
def spV (sp : List (Option (List AV)) → List AV → Option (AV × List (Option (List AV)))) : List AV → AHeap → Option (AV × AHeap) := fun args A => spV' sp args A (reachV A args)
theorem QV.toE {f : FuncId} {sp : List (Option (List AV)) → List AV → Option (AV × List (Option (List AV)))} (h : QV P f sp) : QE P f (spV sp) := by
  intro args A r A1 e
  unfold spV spV' at e
  generalize reachV A args = ns at e
  split at e
  · rename_i hc
    simp only [Bool.and_eq_true] at hc
    obtain ⟨⟨c1, c2⟩, c3⟩ := hc
    obtain ⟨⟨r0, os'⟩, e0, e1⟩ := Option.map_eq_some_iff.1 e
    injection e1 with e1 e2
    subst e1; subst e2
    have hT := T.looseA (l := objsN A ns ns) (h _ _ r0 os' e0)
    have hn : (AHeap.mk (objsN A ns ns)).n = ns.length := objsN_len A ns ns
    have hv : View (atN ns) A ⟨objsN A ns ns⟩ := by
      refine ⟨fun b hb => (okN_get A ns ns c2 b (by rw [← hn]; exact hb)).1, fun b cs hb => ?_, fun b b' cs cs' h1 h2 e => ?_⟩
      · have hlt : b < ns.length := by rw [← hn]; exact AHeap.lt hb
        have hb : hget (objsN A ns ns) b = some cs := hb
        rw [objsN_get A ns ns b hlt] at hb
        obtain ⟨cs0, h1, rfl⟩ := Option.map_eq_some_iff.1 hb
        obtain ⟨k1, k2⟩ := renL_inv cs0 ((okN_get A ns ns c2 b hlt).2 cs0 h1)
        exact ⟨by rw [hn]; exact k2, by rw [k1]; exact h1⟩
      · exact at_inj c1 (by rw [← hn]; exact AHeap.lt h1) (by rw [← hn]; exact AHeap.lt h2) e
    obtain ⟨k1, k2⟩ := renL_inv args c3
    have := hT.embed hv (by rw [hn]; exact k2)
    rw [k1, hn] at this
    refine this.mono ?_
    rintro r1 A1 ⟨r', A1', ⟨rfl, rfl⟩, rfl, rfl⟩
    exact ⟨rfl, rfl⟩
  · cases e
def enO : Option (List AV) → AV
  | some cs => .agg cs
  | none => .nilp
theorem enO_inj : ∀ {os os' : List (Option (List AV))}, os.map enO = os'.map enO → os = os'
  | [], [], _ => rfl
  | [], _ :: _, h => by simp at h
  | _ :: _, [], h => by simp at h
  | o :: os, o' :: os', h => by
    simp only [List.map_cons, List.cons.injEq] at h
    rw [enO_inj h.2]
    cases o <;> cases o' <;> simp_all [enO]
def pv (sp : List AV → Option (AV × List (Option (List AV)))) : List (Option (List AV)) → List AV → Option (AV × List (Option (List AV))) := fun os args => sp (.agg (os.map enO) :: args)
theorem QV_pf {ι : Type} {f : FuncId} {p : ι → Prop} {os : ι → List (Option (List AV))} {args : ι → List AV} {res : ι → AV × List (Option (List AV))}
    (h : ∀ i, p i → T P f (args i) ⟨os i⟩ fun r' A' => r' = (res i).1 ∧ A' = ⟨(res i).2⟩) : QV P f (pv (pf p (fun i => .agg ((os i).map enO) :: args i) res)) := by
  intro os0 args0 r os' e
  obtain ⟨i, hp, h1, h2⟩ := pf_some e
  injection h1 with h1 h3
  injection h1 with h1
  have h1 := enO_inj h1
  subst h1; subst h3
  have := h i hp
  rw [h2] at this
  exact this
mutual
theorem nms_low : ∀ x : AV, x.lt 0 = true → x.nms = []
  | .ptr b o, h => by simp [AV.lt] at h
  | .ref b _ _ _ _, h => by simp [AV.lt] at h
  | .ep x _ _, h => nms_low x (by simpa [AV.lt] using h)
  | .fn _ cs, h => nmsL_low cs h
  | .agg cs, h => nmsL_low cs h
  | .tup cs, h => nmsL_low cs h
  | .bool _, _ | .int _ _, _ | .str _, _ | .sl _ _, _ | .nilp, _ | .nilf, _ | .nili, _ | .iface, _ | .mv _ _, _ | .any, _ => rfl
theorem nmsL_low : ∀ cs : List AV, ltL 0 cs = true → nmsL cs = []
  | [], _ => rfl
  | x :: r, h => by
    simp only [ltL, Bool.and_eq_true] at h
    rw [nmsL, nms_low x h.1, nmsL_low r h.2]; rfl
end
/-- One contract or the other. -/
def orE (a b : List AV → AHeap → Option (AV × AHeap)) : List AV → AHeap → Option (AV × AHeap) := fun args A => match a args A with
  | some x => some x
  | none => b args A
theorem QE.or {f : FuncId} {a b : List AV → AHeap → Option (AV × AHeap)} (h : QE P f a) (k : QE P f b) : QE P f (orE a b) := by
  intro args A r A1 e
  unfold orE at e
  split at e
  · rename_i x hx
    obtain rfl := Option.some.inj e
    exact h _ _ _ _ hx
  · exact k _ _ _ _ e
/-- One contract where the arguments reach objects, the other where they don't. -/
def refE (a b : List AV → AHeap → Option (AV × AHeap)) : List AV → AHeap → Option (AV × AHeap) := fun args A => if (nmsL args).isEmpty = true then b args A else a args A
theorem QE.ref {f : FuncId} {a b : List AV → AHeap → Option (AV × AHeap)} (h : QE P f a) (k : QE P f b) : QE P f (refE a b) := by
  intro args A r A1 e
  unfold refE at e
  split at e
  · exact k _ _ _ _ e
  · exact h _ _ _ _ e

end Go.Proofs.YtlglgcmpeabdnaaGreatDoorAi

/- Contracts of Go's library as triples. -/
namespace Go.Proofs.YtlglgcmpeabdnaaGreatDoorAi
open Go Go.RowKit
set_option linter.unusedVariables false
set_option linter.unusedSimpArgs false

variable {P : Program} {S : Spec} {N : Nat}

theorem Sim.under {B : Nat → Prop} {σ : Sg} {A : AHeap} {w w' : World} (h : Sim B σ A w) (hb : Below w.heap.size w w') : Sim B σ A w' := by
  have hlt : ∀ c o, w.heap[c]? = some o → c < w.heap.size := fun c o e => (Array.getElem?_eq_some_iff.1 e).1
  refine ⟨fun c hc => Nat.lt_of_lt_of_le (h.base c hc) hb.size, fun b o e => ?_, h.low, fun b c n e => ?_, h.tot, fun b cs e => ?_, h.inj, fun c e hc => ?_⟩
  · have := h.mem b o e
    rw [hb.block b (hlt b o this)]
    exact this
  · obtain ⟨h1, cs, ty, fr, h2, h3⟩ := h.nm b c n e
    exact ⟨h1, cs, ty, fr, by rw [hb.block c (hlt c _ h2)]; exact h2, h3⟩
  · obtain ⟨c, cur, t, k1, k2, k3, k4, k5, k6⟩ := h.own b cs e
    exact ⟨c, cur, t, k1, k2, k3, by rw [hb.block c (hlt c _ k4)]; exact k4, k5, k6⟩
  · obtain ⟨cs, fr, h2⟩ := h.ty c e hc
    exact ⟨cs, fr, by rw [hb.block c (hlt c _ h2)]; exact h2⟩
/-- A library's function of which the result is known, and that leaves memory as it is but for new blocks. -/
theorem T.lib {f : FuncId} {args : List AV} {r : AV} (he : Enters P f) (h : ∀ (σ : Sg) (w : World) (vs : List Value), RepL σ args vs → GoodW P w → Calls P f vs.toArray w fun e w' => ∃ v, e = .returned v ∧ Below w.heap.size w w' ∧ Rep σ r v) (A : AHeap) :
    T P f args A fun r' A' => r' = r ∧ A' = A := by
  refine ⟨he, fun B w0 σ w vs hG hb hs ha => (h σ w vs ha (hG w hb)).mono fun e w' ⟨v, e1, e2, e3⟩ => ?_⟩
  refine ⟨r, A, v, σ, e1, ⟨rfl, rfl⟩, ⟨fun _ _ h => h, fun _ _ h => h, rfl, fun _ _ h => h⟩, hs.under e2, e3, hb.trans ⟨e2.os, e2.tape, e2.output, e2.size, fun k hk => e2.block k (hs.base k hk)⟩⟩

end Go.Proofs.YtlglgcmpeabdnaaGreatDoorAi

/- What the simplifier is to take apart in conditions of code. -/
namespace Go.Proofs.YtlglgcmpeabdnaaGreatDoorAi
open Go Go.RowKit
section
variable (N : Nat) (P : Program) (S : Spec) (t : Nat → AV) (A : AHeap) (K : AV → AHeap → Prop) (L : St → Prop) (Q : Ex → St → Prop)

theorem putT_eq (d : Nat) (v : AV) (i : Nat) : putT t d v i = if i = d then v else t i := rfl
theorem argT_eq (args : List AV) (i : Nat) : argT args i = (args[i]?).getD (.tup []) := rfl
def putD (t : Nat → AV) (d : Option Nat) (v : AV) : Nat → AV := match d with
  | some d => putT t d v
  | none => t
theorem putD_some (d : Nat) (v : AV) : putD t (some d) v = putT t d v := rfl
theorem putD_none (v : AV) : putD t none v = t := rfl
theorem put_mk (d : Option Nat) (v : AV) : (St.mk t A).put d v = ⟨putD t d v, A⟩ := by cases d <;> rfl
theorem okIf_true : okIf true = some () := rfl
theorem okIf_false : okIf false = none := rfl

theorem wps_nil : wps P S [] ⟨t, A⟩ L = L ⟨t, A⟩ := rfl
theorem wps_plain (d : Option Nat) (op : AOp) (r : List AOper) : wps P S (⟨d, op, none⟩ :: r) ⟨t, A⟩ L = opW P S ⟨t, A⟩ op fun v A' => wps P S r ⟨putD t d v, A'⟩ L := by
  cases d <;> rfl
theorem wps_guard (d : Option Nat) (op : AOp) (g : Nat) (b : Bool) (r : List AOper) : wps P S (⟨d, op, some (g, b)⟩ :: r) ⟨t, A⟩ L =
    optW (guardOk ⟨t, A⟩ (some (g, b))) fun gb => brW gb (opW P S ⟨t, A⟩ op fun v A' => wps P S r ⟨putD t d v, A'⟩ L) (wps P S r ⟨putD t d (.tup []), A⟩ L) := by
  cases d <;> rfl

def solidA (v : AV) : Option (List AV) := if v.solid = true then some v.cells else none
theorem wpt_done : wpt P S .done ⟨t, A⟩ L = L ⟨t, A⟩ := rfl
theorem wpt_plain (d : Option Nat) (op : AOp) (r : AT) : wpt P S (.op ⟨d, op, none⟩ r) ⟨t, A⟩ L = opW P S ⟨t, A⟩ op fun v A' => wpt P S r ⟨putD t d v, A'⟩ L := by
  cases d <;> rfl
theorem wpt_guard (d : Option Nat) (op : AOp) (g : Nat) (b : Bool) (r : AT) : wpt P S (.op ⟨d, op, some (g, b)⟩ r) ⟨t, A⟩ L =
    optW (guardOk ⟨t, A⟩ (some (g, b))) fun gb => brW gb (opW P S ⟨t, A⟩ op fun v A' => wpt P S r ⟨putD t d v, A'⟩ L) (wpt P S r ⟨putD t d (.tup []), A⟩ L) := by
  cases d <;> rfl

theorem wpt_both (a b : AT) : wpt P S (.both a b) ⟨t, A⟩ L = (wpt P S a ⟨t, A⟩ L ∧ wpt P S b ⟨t, A⟩ L) := rfl
theorem opW_box (n : Nat) (x : Opd) : opW P S ⟨t, A⟩ (.box n x) K = optW (solidA (St.ev ⟨t, A⟩ x)) fun cs => K (.ptr A.n 0) (A.push cs) := by
  simp only [opW]
  unfold solidA
  split <;> rename_i h
  · rw [optW_some]; simp [h]
  · rw [optW_none]; simp [h]
theorem opW_allocb (e : Nat) : opW P S ⟨t, A⟩ (.allocb e) K = K (.ep (.ptr A.n 0) e 0) (A.push [.nilp, .sl [] true]) := rfl
theorem opW_alloc (cs : List AV) : opW P S ⟨t, A⟩ (.alloc cs) K = K (.ptr A.n 0) (A.push cs) := rfl
theorem opW_st (x : Opd) (n : Nat) (v : Opd) : opW P S ⟨t, A⟩ (.st x n v) K = optW (stG A n (St.ev ⟨t, A⟩ x) (St.ev ⟨t, A⟩ v)) fun A' => K (.tup []) A' := rfl
theorem opW_bsl (esz len : Nat) (zero : List AV) (parts : List (Nat × Opd)) : opW P S ⟨t, A⟩ (.bsl esz len zero parts) K = optW (fillA (newCells esz len zero) (parts.map fun p => (p.1 * esz, esz, St.ev ⟨t, A⟩ p.2))) fun cs =>
      brW (len == 0) (K (.sl [] true) (A.push cs)) (K (.ref A.n esz 0 len .tight) (A.push cs)) := rfl
theorem opW_mks (esz bytes : Nat) (zero : List AV) (l c : Opd) : opW P S ⟨t, A⟩ (.mks esz bytes zero l c) K = optW (intsA (St.ev ⟨t, A⟩ l) (St.ev ⟨t, A⟩ c)) fun p =>
      0 ≤ p.1 ∧ p.1 = p.2 ∧ p.1 * ((bytes : Int) + 1) ≤ (mostBytes : Int) ∧ K (.ref A.n esz 0 p.1.toNat .tight) (A.push (newCells esz p.1.toNat zero)) := rfl
theorem opW_app (esz bytes : Nat) (x y : Opd) : opW P S ⟨t, A⟩ (.app esz bytes x y) K = optW (sliceCells A esz (St.ev ⟨t, A⟩ y)) fun ys => optW (St.ev ⟨t, A⟩ y).len? fun m => appW A esz bytes (St.ev ⟨t, A⟩ x) ys m K := rfl
theorem opW_cpy (esz : Nat) (d x : Opd) : opW P S ⟨t, A⟩ (.cpy esz d x) K = optW (sliceCells A esz (St.ev ⟨t, A⟩ x)) fun ys => optW (St.ev ⟨t, A⟩ x).len? fun m => optW (cpyG A esz (St.ev ⟨t, A⟩ d) ys m) fun p => K (.int .i64 (p.1 : Nat)) p.2 := rfl
theorem opW_clr (esz : Nat) (zero : List AV) (x : Opd) : opW P S ⟨t, A⟩ (.clr esz zero x) K = optW (clrG A esz zero (St.ev ⟨t, A⟩ x)) fun A' => K (.tup []) A' := rfl
theorem opW_call (g : Opd) (args : List Opd) : opW P S ⟨t, A⟩ (.call g args) K = optW (calleeF (St.ev ⟨t, A⟩ g)) fun p => callW P p.1 (p.2.1 ++ (args.map (St.ev ⟨t, A⟩) ++ p.2.2)) A K := rfl
theorem opW_callq (g : Opd) (args : List Opd) : opW P S ⟨t, A⟩ (.callq g args) K = optW ((calleeOf (St.ev ⟨t, A⟩ g)).bind fun p => S.q p.1 (looseL (args.map (St.ev ⟨t, A⟩) ++ p.2))) fun r => K r A := rfl
theorem opW_calle (g : Opd) (args : List Opd) (cks : List (Opd × Nat × Bool)) : opW P S ⟨t, A⟩ (.calle g args cks) K = optW ((calleeOf (St.ev ⟨t, A⟩ g)).bind fun p => S.e p.1 (looseL (args.map (St.ev ⟨t, A⟩) ++ p.2)) A) fun r => cksW A r.2 (cks.map fun c => (St.ev ⟨t, A⟩ c.1, c.2)) ∧ K r.1 r.2 := rfl
theorem sliceCells_nil (A : AHeap) (e : Nat) (t : Bool) : sliceCells A e (.sl [] t) = some [] := rfl
theorem sliceCells_ref (A : AHeap) (esz b e o n : Nat) (t : Cp) : sliceCells A esz (.ref b e o n t) = if e = esz then (A b).bind fun cs => if (o + n) * esz ≤ cs.length then some ((cs.drop (o * esz)).take (n * esz)) else none else none := rfl
theorem cksW_nil (A A' : AHeap) : cksW A A' [] = True := rfl
theorem cksW_cons (A A' : AHeap) (c : AV × Nat × Bool) (r : List (AV × Nat × Bool)) : cksW A A' (c :: r) = (ckW A A' c ∧ cksW A A' r) := rfl
theorem opW_appc (esz bytes : Nat) (x y : Opd) : opW P S ⟨t, A⟩ (.appc esz bytes x y) K = optW (sliceCells A esz (St.ev ⟨t, A⟩ y)) fun ys => optW (St.ev ⟨t, A⟩ y).len? fun m => appW A esz bytes (St.ev ⟨t, A⟩ x) ys m fun r A' => leL A.l A'.l ∧ K r A' := rfl
theorem opW_eqn (neg : Bool) (x : Opd) : opW P S ⟨t, A⟩ (.eqn neg x) K = optW (nilOf (St.ev ⟨t, A⟩ x)) fun q => nilW q fun r => K (.bool (if neg = true then !r else r)) A := rfl
theorem opW_eqi (neg : Bool) (x : Opd) : opW P S ⟨t, A⟩ (.eqi neg x) K = optW (nilI (St.ev ⟨t, A⟩ x)) fun r => K (.bool (if neg = true then !r else r)) A := rfl
theorem opW_bad : opW P S ⟨t, A⟩ .bad K = False := rfl
theorem opW_mv (x : Opd) : opW P S ⟨t, A⟩ (.mv x) K = optW (pureOp ⟨t, A⟩ (.mv x)) fun v => K v A := rfl
theorem opW_eqb (neg : Bool) (x y : Opd) : opW P S ⟨t, A⟩ (.eqb neg x y) K = optW (pureOp ⟨t, A⟩ (.eqb neg x y)) fun v => K v A := rfl
theorem opW_eqs (neg : Bool) (ks : List Kd) (x y : Opd) : opW P S ⟨t, A⟩ (.eqs neg ks x y) K = optW (pureOp ⟨t, A⟩ (.eqs neg ks x y)) fun v => K v A := rfl
theorem opW_pick (c a b : Opd) : opW P S ⟨t, A⟩ (.pick c a b) K = optW (pureOp ⟨t, A⟩ (.pick c a b)) fun v => K v A := rfl
theorem opW_ext (x : Opd) (i : Nat) : opW P S ⟨t, A⟩ (.ext x i) K = optW (pureOp ⟨t, A⟩ (.ext x i)) fun v => K v A := rfl
theorem opW_bin (op : BinOp) (x y : Opd) : opW P S ⟨t, A⟩ (.bin op x y) K = optW (pureOp ⟨t, A⟩ (.bin op x y)) fun v => K v A := rfl
theorem opW_un (op : UnOp) (x : Opd) : opW P S ⟨t, A⟩ (.un op x) K = optW (pureOp ⟨t, A⟩ (.un op x)) fun v => K v A := rfl
theorem opW_conv (k : IntKind) (x : Opd) : opW P S ⟨t, A⟩ (.conv k x) K = optW (pureOp ⟨t, A⟩ (.conv k x)) fun v => K v A := rfl
theorem opW_b2s (x : Opd) : opW P S ⟨t, A⟩ (.b2s x) K = optW (pureOp ⟨t, A⟩ (.b2s x)) fun v => K v A := rfl
theorem opW_cstr (x : Opd) : opW P S ⟨t, A⟩ (.cstr x) K = optW (pureOp ⟨t, A⟩ (.cstr x)) fun v => K v A := rfl
theorem opW_fad (x : Opd) (o : Nat) : opW P S ⟨t, A⟩ (.fad x o) K = optW (pureOp ⟨t, A⟩ (.fad x o)) fun v => K v A := rfl
theorem opW_fld (x : Opd) (o n : Nat) (g : Bool) : opW P S ⟨t, A⟩ (.fld x o n g) K = optW (pureOp ⟨t, A⟩ (.fld x o n g)) fun v => K v A := rfl
theorem opW_iad (e : Nat) (x i : Opd) : opW P S ⟨t, A⟩ (.iad e x i) K = optW (pureOp ⟨t, A⟩ (.iad e x i)) fun v => K v A := rfl
theorem opW_idx (x i : Opd) : opW P S ⟨t, A⟩ (.idx x i) K = optW (pureOp ⟨t, A⟩ (.idx x i)) fun v => K v A := rfl
theorem opW_nilc (x : Opd) : opW P S ⟨t, A⟩ (.nilc x) K = optW (pureOp ⟨t, A⟩ (.nilc x)) fun v => K v A := rfl
theorem opW_mkm (f : FuncId) (caps : List Opd) : opW P S ⟨t, A⟩ (.mkm f caps) K = optW (pureOp ⟨t, A⟩ (.mkm f caps)) fun v => K v A := rfl
theorem opW_mkf (f : FuncId) (caps : List Opd) : opW P S ⟨t, A⟩ (.mkf f caps) K = optW (pureOp ⟨t, A⟩ (.mkf f caps)) fun v => K v A := rfl
theorem opW_sli (e : Nat) (x : Opd) (lo hi mx : Option Opd) : opW P S ⟨t, A⟩ (.sli e x lo hi mx) K = optW (pureOp ⟨t, A⟩ (.sli e x lo hi mx)) fun v => K v A := rfl
theorem opW_sls (x : Opd) (lo hi : Option Opd) : opW P S ⟨t, A⟩ (.sls x lo hi) K = optW (pureOp ⟨t, A⟩ (.sls x lo hi)) fun v => K v A := rfl
theorem opW_bld (z : List AV) (ps : List (Nat × Nat × Opd)) : opW P S ⟨t, A⟩ (.bld z ps) K = optW (pureOp ⟨t, A⟩ (.bld z ps)) fun v => K v A := rfl
theorem opW_len (x : Opd) : opW P S ⟨t, A⟩ (.len x) K = optW (pureOp ⟨t, A⟩ (.len x)) fun v => K v A := rfl
theorem opW_lens (x : Opd) : opW P S ⟨t, A⟩ (.lens x) K = optW (pureOp ⟨t, A⟩ (.lens x)) fun v => K v A := rfl
theorem opW_ld (x : Opd) (n : Nat) (g : Bool) : opW P S ⟨t, A⟩ (.ld x n g) K = optW (pureOp ⟨t, A⟩ (.ld x n g)) fun v => K v A := rfl
theorem opW_max (x y : Opd) : opW P S ⟨t, A⟩ (.max x y) K = optW (pureOp ⟨t, A⟩ (.max x y)) fun v => K v A := rfl
theorem opW_min (x y : Opd) : opW P S ⟨t, A⟩ (.min x y) K = optW (pureOp ⟨t, A⟩ (.min x y)) fun v => K v A := rfl

theorem endW_eq1 (rs : List ARes) (R : AV → AHeap → Prop) : endW N rs R .normal ⟨t, A⟩ = optW (resultsA ⟨t, A⟩ rs) fun r => ∃ r' A', EndS N r A r' A' ∧ R r' A' := rfl
theorem endW_eq2 (rs : List ARes) (R : AV → AHeap → Prop) : endW N rs R .ret ⟨t, A⟩ = optW (resultsA ⟨t, A⟩ rs) fun r => ∃ r' A', EndS N r A r' A' ∧ R r' A' := rfl
theorem endP_eq1 (rs : List ARes) (r : AV) : endP rs r .normal ⟨t, A⟩ = optW (resultsA ⟨t, A⟩ rs) fun v => v = r := rfl
theorem endP_eq2 (rs : List ARes) (r : AV) : endP rs r .ret ⟨t, A⟩ = optW (resultsA ⟨t, A⟩ rs) fun v => v = r := rfl

theorem ldCells_1 (p : AV) : ldCells A p 1 = (ldCell A p).map fun c => [c] := by
  have h : ∀ p c, ldCell A p = some c → p.addOff 0 = some p := by
    intro p c h
    cases p with
    | ptr b o => rfl
    | ep v i o => cases v <;> first | rfl | (cases h)
    | _ => cases h
  simp only [ldCells, Option.bind_some]
  cases hc : ldCell A p with
  | none =>
    cases hp : p.addOff 0 with
    | none => rfl
    | some q =>
      have hq : q = p := by
        cases p with
        | ptr b o => exact (Option.some.inj hp).symm
        | ep v i o => cases v <;> first | (cases hp; done) | exact (Option.some.inj hp).symm
        | _ => cases hp
      subst hq
      simp [hc]
  | some c => simp [h p c hc, hc]

end

theorem nil_mk : AHeap.nil = ⟨[]⟩ := rfl
theorem push_mk (l : List (Option (List AV))) (cs : List AV) : (AHeap.mk l).push cs = ⟨l ++ [some cs]⟩ := rfl
theorem set_mk (l : List (Option (List AV))) (b : Nat) (cs : List AV) : (AHeap.mk l).set b cs = ⟨hset l b (some cs)⟩ := rfl
theorem del_mk (l : List (Option (List AV))) (b : Nat) : (AHeap.mk l).del b = ⟨hset l b none⟩ := rfl
theorem n_mk (l : List (Option (List AV))) : (AHeap.mk l).n = l.length := rfl
theorem hget_nil (i : Nat) : hget [] i = none := rfl
theorem hget_cons (o : Option (List AV)) (r : List (Option (List AV))) (i : Nat) : hget (o :: r) i = if i = 0 then o else hget r (i - 1) := rfl
theorem hset_nil (i : Nat) (x : Option (List AV)) : hset [] i x = [] := rfl
theorem hset_cons (o : Option (List AV)) (r : List (Option (List AV))) (i : Nat) (x : Option (List AV)) : hset (o :: r) i x = if i = 0 then x :: r else o :: hset r (i - 1) x := rfl
theorem tl_nil (i : Nat) : tl [] i = .any := rfl
theorem tl_cons (k : Nat) (v : AV) (r : List (Nat × AV)) (i : Nat) : tl ((k, v) :: r) i = if i = k then v else tl r i := rfl

theorem pick_true (a b : AV) : pickA (.bool true) a b = some a := rfl
theorem pick_false (a b : AV) : pickA (.bool false) a b = some b := rfl
theorem pick_and (x y : Bool) : pickA (.bool x) (.bool y) (.bool false) = some (.bool (x && y)) := by cases x <;> rfl
theorem pick_or (x z : Bool) : pickA (.bool x) (.bool true) (.bool z) = some (.bool (x || z)) := by cases x <;> rfl
theorem tab_q (l : List (FuncId × (List AV → Option AV))) (l2 : List (FuncId × (List AV → AHeap → Option (AV × AHeap)))) : (tab l l2).q = tabQ l := rfl
theorem tab_e (l : List (FuncId × (List AV → Option AV))) (l2 : List (FuncId × (List AV → AHeap → Option (AV × AHeap)))) : (tab l l2).e = tabE l2 := rfl
theorem tabQ_nil (f : FuncId) (args : List AV) : tabQ [] f args = none := rfl
theorem tabQ_cons (g : FuncId) (sp : List AV → Option AV) (l : List (FuncId × (List AV → Option AV))) (f : FuncId) (args : List AV) : tabQ ((g, sp) :: l) f args = if f = g then sp args else tabQ l f args := rfl
theorem tabE_nil (f : FuncId) (args : List AV) (A : AHeap) : tabE [] f args A = none := rfl
theorem tabE_cons (g : FuncId) (sp : List AV → AHeap → Option (AV × AHeap)) (l : List (FuncId × (List AV → AHeap → Option (AV × AHeap)))) (f : FuncId) (args : List AV) (A : AHeap) : tabE ((g, sp) :: l) f args A = if f = g then sp args A else tabE l f args A := rfl
theorem spM_ptr (sp : List AV → List AV → Option (AV × List AV)) (b : Nat) (args : List AV) (A : AHeap) : spM sp (.ptr b 0 :: args) A = (A b).bind fun cs => (sp (looseL cs) args).map fun p => (p.1, A.set b p.2) := rfl
theorem spB_ptr (sp : List AV → List AV → Option (AV × List (Option (List AV)))) (b o : Nat) (args : List AV) (A : AHeap) : spB sp (.ptr b o :: args) A = (A b).bind fun cs => if ltL 0 args = true then (sp (looseL cs) (.ptr 0 o :: args)).map fun q => (q.1.ren (ext1 b A.n), ⟨upd1 A.l b q.2⟩) else none := rfl
theorem spB_ref (sp : List AV → List AV → Option (AV × List (Option (List AV)))) (b e o n : Nat) (t : Cp) (args : List AV) (A : AHeap) : spB sp (.ref b e o n t :: args) A = (A b).bind fun cs => if ltL 0 args = true then (sp (looseL cs) (.ref 0 e o n t :: args)).map fun q => (q.1.ren (ext1 b A.n), ⟨upd1 A.l b q.2⟩) else none := rfl
theorem spR_eq (sp : List AV → Option AV) (args : List AV) (A : AHeap) : spR sp args A = (seeL A args).bind fun a => (sp a).bind fun r => if r.flat = true then some (r, A) else none := rfl
theorem spRN_eq (sp : List AV → Option (AV × List (Option (List AV)))) (args : List AV) (A : AHeap) : spRN sp args A = (seeL A args).bind fun a => (sp a).bind fun p => if p.1.flat = true ∧ flatO p.2 = true then some (p.1.ren (shiftN A.n), addObjs A p.2) else none := rfl
theorem spV_eq (sp : List (Option (List AV)) → List AV → Option (AV × List (Option (List AV)))) (args : List AV) (A : AHeap) : spV sp args A = spV' sp args A (reachV A args) := rfl
theorem refE_eq (a b : List AV → AHeap → Option (AV × AHeap)) (args : List AV) (A : AHeap) : refE a b args A = if (nmsL args).isEmpty = true then b args A else a args A := rfl
theorem orE_eq (a b : List AV → AHeap → Option (AV × AHeap)) (args : List AV) (A : AHeap) : orE a b args A = (a args A).elim (b args A) some := by unfold orE; cases a args A <;> rfl
theorem spB_sl (sp : List AV → List AV → Option (AV × List (Option (List AV)))) (xs : List AV) (t : Bool) (args : List AV) (A : AHeap) : spB sp (.sl xs t :: args) A = none := rfl
theorem spN_eq (sp : List AV → Option (AV × List (Option (List AV)))) (args : List AV) (A : AHeap) : spN sp args A = (sp args).map fun p => (p.1.ren (shiftN A.n), addObjs A p.2) := rfl
theorem addObjs_mk (l os : List (Option (List AV))) : addObjs ⟨l⟩ os = ⟨l ++ os.map (Option.map (renL (shiftN l.length)))⟩ := rfl
theorem shiftN_eq (n b : Nat) : shiftN n b = n + b := rfl
theorem frzT_mk (t : Nat → AV) (l : List (Option (List AV))) (k b : Nat) (v : AV) : (St.mk t ⟨l⟩).frzT k b v = ⟨putT t k v, ⟨hset l b none⟩⟩ := rfl
theorem wrapI64 {n : Int} (h1 : -9223372036854775808 ≤ n) (h2 : n ≤ 9223372036854775807) : IntKind.i64.wrap n = n := by
  simp only [IntKind.wrap, IntKind.bits, IntKind.signed]
  have : (2 : Int) ^ 64 = 18446744073709551616 := by decide
  have : (2 : Int) ^ (64 - 1) = 9223372036854775808 := by decide
  simp only [*, Bool.true_and, decide_eq_true_eq]
  split <;> omega

attribute [simp ↓] wps_nil wps_plain wps_guard wpt_done wpt_plain wpt_guard wpt_both wpc opW_box opW_alloc opW_allocb opW_st opW_bsl opW_mks opW_app opW_appc opW_cpy opW_clr opW_call opW_callq opW_calle opW_eqn opW_eqi opW_bad opW_mv opW_eqb opW_eqs opW_pick opW_ext opW_bin opW_un opW_conv
  opW_b2s opW_cstr opW_fad opW_fld opW_iad opW_idx opW_nilc opW_mkf opW_mkm opW_sli opW_sls opW_bld opW_len opW_lens opW_ld opW_max opW_min endW_eq1 endW_eq2 endP_eq1 endP_eq2 endH_eq1 endH_eq2
theorem sliceA_sl (esz : Nat) (xs : List AV) (t : Bool) (lo hi : Nat) (mx : Option Nat) : sliceA esz (.sl xs t) lo hi mx = if lo ≤ hi ∧ hi ≤ xs.length ∧ maxOk hi xs.length mx = true ∧ (xs.all fun x => x.cells.length == esz) = true then some (.sl ((xs.take hi).drop lo) (maxTight hi xs.length t mx)) else none := rfl
theorem sliceA_ref (esz b e o n : Nat) (t : Cp) (lo hi : Nat) (mx : Option Nat) : sliceA esz (.ref b e o n t) lo hi mx = if e = esz ∧ lo ≤ hi ∧ hi ≤ n ∧ maxOk hi n mx = true then some (.ref b e (o + lo) (hi - lo) (maxCp hi n t mx)) else none := rfl
attribute [simp] frzT_mk brW_true brW_false optW_some optW_none okIf_true okIf_false putT_eq argT_eq putD_some putD_none solidA nil_mk push_mk set_mk del_mk n_mk hget_nil hget_cons hset_nil hset_cons tl_nil tl_cons hget_append
  pureOp guardOk St.ev initSt pick_and pick_or pick_true pick_false extA binA unA eqbA eqsA convA cstrA fldA eltA iadA idxA nilcA slsA maxA minA optMax optNat
  intBin ldVar ldCell ldCells AV.addOff elemCell AV.len? AV.strlen? AV.solid AV.one stA stG intsA cpyG clrG nilOf nilI nilW boolOf setCells calleeOf calleeF endW resultsA resA sliceCells_nil sliceCells_ref sliceA_sl sliceA_ref maxOk maxTight maxCp fillA onesOf byteOf cellsEq cellEq newCells appW
  tab_q tab_e tabQ_nil tabQ_cons cksW_nil cksW_cons ckW leL tabE_nil tabE_cons pm pb spB_ptr spB_ref upd1 ext1 spM_ptr spN_eq spR_eq spRN_eq spV_eq spV' reachV reachN addN cellN hasN nmsL AV.nms nodupN okN allN objsN idxN atN extN upd refE_eq orE_eq spB_sl pv seeV_bool seeV_int seeV_str seeV_nilp seeV_nilf seeV_sl seeV_agg seeV_ref seeL_nil seeL_cons AV.flat flatL flatO addObjs_mk shiftN_eq AV.ren renL AV.lt ltL AV.loose looseL

end Go.Proofs.YtlglgcmpeabdnaaGreatDoorAi
