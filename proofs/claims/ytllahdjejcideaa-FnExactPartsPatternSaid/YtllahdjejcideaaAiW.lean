/- Out of the triple of a law: its row. -/
import Derived.Test.YtllahdjejcideaaAiV
namespace Go.Proofs.YtllahdjejcideaaAi
open Go Go.RowKit Go.ChangeShapes Go.WideShapes
set_option linter.unusedVariables false
set_option linter.unusedSimpArgs false

variable {H : Type} {enc : TypeId × Value → H} {P : Program}

/-- Values of types. -/
def WtA : List Ty → List AV → Prop
  | [], [] => True
  | t :: ts, x :: xs => WtV t x ∧ WtA ts xs
  | _, _ => False

theorem tyOf_isSt {m : Nat} {t : TypeId} {ty : Ty} (h : tyOf P m t = some ty) (hs : ty.isSt = true) : ∃ fs, P.underlying t = some (.struct fs) := by
  cases m with
  | zero => cases h
  | succ m =>
    simp only [tyOf] at h
    split at h
    · obtain rfl := Option.some.inj h; cases hs
    · obtain rfl := Option.some.inj h; cases hs
    · obtain rfl := Option.some.inj h; cases hs
    · split at h
      · obtain ⟨_, _, rfl⟩ := Option.map_eq_some_iff.1 h; cases hs
      · cases h
    · rename_i fs hu; exact ⟨fs, hu⟩
    · cases h

theorem tyOf_notSt {m : Nat} {t : TypeId} {ty : Ty} (h : tyOf P m t = some ty) (hs : ty.isSt = false) : P.underlying t = some .bool ∨ (∃ k, P.underlying t = some (.int k)) ∨ P.underlying t = some .string ∨ ∃ e, P.underlying t = some (.slice e) := by
  cases m with
  | zero => cases h
  | succ m =>
    simp only [tyOf] at h
    split at h
    · rename_i hu; exact .inl hu
    · rename_i k hu; exact .inr (.inl ⟨k, hu⟩)
    · rename_i hu; exact .inr (.inr (.inl hu))
    · rename_i e hu; exact .inr (.inr (.inr ⟨e, hu⟩))
    · split at h
      · obtain ⟨_, _, rfl⟩ := Option.map_eq_some_iff.1 h; cases hs
      · cases h
    · cases h

theorem rd_arg {W : World} {r : Reach} {base m : Nat} {t : TypeId} {ty : Ty} {v : Value} {d : DataW H} {ps : List MemPlace} (ht : tyOf P m t = some ty) (hv : Value.okWide P W r base t v) (h : DataW.Trod enc P W 0 (fun _ => true) true t v d ps) :
    ∃ x, WtV ty x ∧ Rep (sgOf W) x v := by
  obtain ⟨fuel, h⟩ := h
  obtain ⟨avs, h1, h2, h3⟩ := rd fuel m t _ _ ty h ht
  obtain ⟨x, hx1, hx2, hx3⟩ := asV h1
  refine ⟨x, ⟨by rw [hx1]; exact h1, hx2⟩, ?_⟩
  cases hst : ty.isSt with
  | true =>
    obtain ⟨fs, hu⟩ := tyOf_isSt ht hst
    unfold Value.okWide at hv
    rw [hu] at hv
    obtain ⟨cs, rfl, _⟩ := hv
    rw [hx3 hst]
    have := Rep.agg (σ := sgOf W) avs cs.toList (by simpa [Value.cells] using h2.1) (by simpa [Value.cells] using h3) (by simpa [Value.cells] using h2.2)
    simpa using this
  | false =>
    have hone : v.cells.toList = [v] := by
      unfold Value.okWide at hv
      rcases tyOf_notSt ht hst with hu | ⟨k, hu⟩ | hu | ⟨e, hu⟩ <;> rw [hu] at hv <;> simp only [Cell.okWide, hu] at hv <;> unfold Cell.ok at hv <;> rw [hu] at hv <;> cases v <;> first | rfl | (exact hv.elim)
    rw [hone] at h2
    cases x with
    | agg cs => simp [AV.isAgg, hst] at hx2
    | _ =>
      simp only [AV.cells] at hx1
      subst hx1
      exact h2.2 0 _ _ rfl rfl

theorem rd_args {W : World} {r : Reach} {base m : Nat} : ∀ (ts : List TypeId) (tys : List Ty) (vs : List Value) (ds : List (DataW H)) (ps : List MemPlace), ts.mapM (tyOf P m) = some tys → (∀ (j : Nat) t v, ts[j]? = some t → vs[j]? = some v → Value.okWide P W r base t v) →
    DataW.TrodAll enc P W 0 (fun _ => true) true ts vs ds ps → ∃ xs, WtA tys xs ∧ RepL (sgOf W) xs vs
  | [], tys, vs, ds, ps, hm, hv, h => by
    simp at hm
    subst hm
    cases vs <;> cases ds <;> first | (exact ⟨[], trivial, RepL.nil _⟩) | (exact h.elim)
  | t :: ts, tys, vs, ds, ps, hm, hv, h => by
    cases vs with
    | nil => cases ds <;> exact h.elim
    | cons v vs =>
      cases ds with
      | nil => exact h.elim
      | cons d ds =>
        obtain ⟨p, q, h1, h2, _⟩ := h
        rw [List.mapM_cons] at hm
        cases e1 : tyOf P m t with
        | none => simp [e1] at hm
        | some ty =>
          cases e2 : ts.mapM (tyOf P m) with
          | none => simp [e1, e2] at hm
          | some tys' =>
            simp [e1, e2] at hm
            subst hm
            obtain ⟨x, hx, hr⟩ := rd_arg e1 (hv 0 t v rfl rfl) h1
            obtain ⟨xs, hxs, hrs⟩ := rd_args ts tys' vs ds q e2 (fun j t v h1 h2 => hv (j + 1) t v (by simpa using h1) (by simpa using h2)) h2
            exact ⟨x :: xs, ⟨hx, hxs⟩, RepL.cons hr hrs⟩

theorem trodAll_stays (hl : laidOutB P = true) {W W' : World} (hb : Below W.heap.size W W') {sp : Nat → Bool} : ∀ (ts : List TypeId) (vs : List Value) (ds : List (DataW H)) (ps : List MemPlace), (∀ t ∈ ts, P.readableRec t = true ∧ t < P.types.size) →
    DataW.TrodAll enc P W 0 (fun _ => true) true ts vs ds ps → (∀ p ∈ ps, p.block < W.heap.size) → (∀ p ∈ ps, sp p.block = true) → DataW.TrodAll enc P W' 0 sp true ts vs ds ps
  | [], [], [], ps, _, h, _, _ => h
  | [], [], _ :: _, ps, _, h, _, _ => h.elim
  | [], _ :: _, _, ps, _, h, _, _ => h.elim
  | _ :: _, [], _, ps, _, h, _, _ => h.elim
  | _ :: _, _ :: _, [], ps, _, h, _, _ => h.elim
  | t :: ts, v :: vs, d :: ds, ps, ht, h, hlt, hs => by
    obtain ⟨p, q, h1, h2, rfl⟩ := h
    obtain ⟨hr, hrow⟩ := ht t (List.mem_cons_self ..)
    exact ⟨p, q, WideElems.Trod_stays hl hr hrow h1 (fun x hx => hb.same (hlt x (List.mem_append.2 (.inl hx)))) (fun x hx => hs x (List.mem_append.2 (.inl hx))),
      trodAll_stays hl hb ts vs ds q (fun t h => ht t (List.mem_cons_of_mem _ h)) h2 (fun x hx => hlt x (List.mem_append.2 (.inr hx))) (fun x hx => hs x (List.mem_append.2 (.inr hx))), rfl⟩

/-- The law's call, from its triple: what the row asks of it. -/
theorem law_post (hl : laidOutB P = true) {f : Func} {s : ChangeSpec} {k : FuncId} {m : Nat} {tys : List Ty} {tb : TypeId} (hsv : s.vars = []) (hres : f.resultTypes = #[tb]) (htb : P.underlying tb = some .bool)
    (hty : f.params.toList.mapM (tyOf P m) = some tys) (hrd : ∀ t ∈ f.params.toList, P.readableRec t = true ∧ t < P.types.size)
    (hT : ∀ xs, WtA tys xs → T P k xs .nil fun r _ => r = .bool true)
    {apart fresh handsOn again : Bool} {W : World} {base : Nat} {args : Array Value} {ds gs : List (DataW H)} {before : List MemPlace}
    (hfn : (s.fn H ds).results = [.lit (.bool true)] ∧ (s.fn H ds).args = ds ∧ (s.fn H ds).vars = [])
    (hval : ∀ (j : Nat) t v, f.params[j]? = some t → args[j]? = some v → Value.okWide P W .any base t v)
    (hW : DataW.Whole enc P f.params.toList s.vars apart W args.toList ds gs before) :
    Calls P k args W fun e W' => ∃ v, e = .returned v ∧ s.post enc P f apart fresh handsOn again W args v W' := by
  have hW0 := hW
  obtain ⟨p, q, hA, hV, rfl, hfz, hnd⟩ := hW
  rw [hsv] at hV
  obtain ⟨rfl, rfl⟩ := trodVars_none hV
  obtain ⟨xs, hx, hr⟩ := rd_args f.params.toList tys args.toList ds p hty (fun j t v h1 h2 => hval j t v (by simpa using h1) (by simpa using h2)) hA
  obtain ⟨_, hT⟩ := hT xs hx
  have hcall := hT (fun c => c < W.heap.size) W (sgOf W) W args.toList (Keeps.refl _ _) (sim_start W) hr
  refine hcall.mono fun e W' ⟨r, A', v, σ', he, hR, _, _, hrep, hb0⟩ => ⟨v, he, ?_⟩
  have hb := hb0.below
  subst hR
  obtain rfl : v = .bool true := by cases hrep; rfl
  have hlt : ∀ x ∈ p ++ [], x.block < W.heap.size := fun x hx => hW0.lt x hx
  have hlt' : ∀ x ∈ p, x.block < W.heap.size := fun x hx => hlt x (by simpa using hx)
  have hds : ds ++ [] = ds := List.append_nil ds
  have hR1 : ∀ (b : Nat) (sp : Nat → Bool) (hd : Bool), DataW.TrodAll enc P W' b sp hd f.resultTypes.toList ((Value.bool true).resultList f.resultTypes.size) (s.fn H (ds ++ [])).results [] := by
    intro b sp hd
    rw [hds, hfn.1, hres]
    exact trodAll_mk1 ⟨1, by simp [DataW.trod, Value.cells, htb]⟩
  have hA1 : ∀ sp : Nat → Bool, (∀ x ∈ p, sp x.block = true) → DataW.TrodAll enc P W' 0 sp true f.params.toList args.toList (s.fn H (ds ++ [])).args p := by
    intro sp hsp
    rw [hds, hfn.2.1]
    exact trodAll_stays hl hb _ _ _ _ hrd hA hlt' hsp
  have hV1 : ∀ sp : Nat → Bool, DataW.TrodVars enc P W' sp s.vars (s.fn H (ds ++ [])).vars [] := by
    intro sp
    rw [hds, hfn.2.2, hsv]
    exact rfl
  refine ⟨ds, [], p ++ [], [], p, [], hW0, hR1 _ _ _, hA1 _ (fun x hx => by simpa using hlt' x hx), hV1 _, World.keptBut_mono (fun x hx => ⟨hx, ?_⟩) (hb.frame (· ∈ p ++ [])), fun _ => ⟨?_, _, _, ([] ++ p) ++ [], ⟨[] ++ p, [], trodAll_append (hA1 _ (fun _ _ => rfl)) (hR1 _ _ _), hV1 _, rfl, ?_, ?_⟩, ?_⟩⟩
  · exact .inr (.inl (by simpa using hx))
  · intro j t r hj hr
    rw [hres] at hj hr
    cases j with
    | succ j => simp at hj
    | zero =>
      simp [Value.resultList] at hj hr
      subst hj; subst hr
      simp [Value.okWide, htb, Cell.okWide, Cell.ok]
  · intro b off hx
    have hin : MemPlace.cell b off ∈ p := by simpa using hx
    rw [hb.frozen (hlt' _ hin)]
    exact hfz b off (by simpa using hin)
  · intro ha
    simpa using hnd ha
  · intro x hx _
    simpa using hx

end Go.Proofs.YtllahdjejcideaaAi
