/- Building values; the conversions and builtins that look at memory; all operations that do nothing to it. -/
import Derived.Test.YtllahdjejcideaaAiH
namespace Go.Proofs.YtllahdjejcideaaAi
open Go Go.RowKit
set_option linter.unusedVariables false
set_option linter.unusedSimpArgs false

variable {P : Program} {σ : Sg} {w : World}

def setV (cs : List Value) (off : Nat) : List Value → List Value
  | [] => cs
  | c :: r => setV (cs.set off c) (off + 1) r

theorem setV_length : ∀ (r cs : List Value) (off : Nat), (setV cs off r).length = cs.length
  | [], cs, off => rfl
  | c :: r, cs, off => by rw [setV, setV_length r]; simp
theorem setCells_length : ∀ (r cs : List AV) (off : Nat), (setCells cs off r).length = cs.length
  | [], cs, off => rfl
  | c :: r, cs, off => by rw [setCells, setCells_length r]; simp

theorem RepL.set {xs : List AV} {us : List Value} (h : RepL σ xs us) {x : AV} {u : Value} (hr : Rep σ x u) (i : Nat) : RepL σ (xs.set i x) (us.set i u) :=
  ⟨by simp [h.1], fun j c v hc hv => by
    by_cases hij : i = j
    · subst hij
      rw [List.getElem?_set] at hc hv
      simp only [if_true] at hc hv
      split at hc <;> simp at hc
      split at hv <;> simp at hv
      subst hc; subst hv; exact hr
    · rw [List.getElem?_set_ne hij] at hc hv; exact h.2 j c v hc hv⟩
theorem RepL.setCells : ∀ {rs : List AV} {vs : List Value} {xs : List AV} {us : List Value} (off : Nat), RepL σ rs vs → RepL σ xs us → RepL σ (setCells xs off rs) (setV us off vs)
  | [], vs, xs, us, off, hr, h => by
    have : vs = [] := List.eq_nil_of_length_eq_zero (by rw [← hr.1]; rfl)
    subst this
    exact h
  | r :: rs, vs, xs, us, off, hr, h => by
    obtain ⟨v, vs', rfl, h1, h2⟩ := hr.head
    exact RepL.setCells (off + 1) h2 (h.set h1 off)
theorem setV_one : ∀ (vs us : List Value) (off : Nat), (∀ v ∈ vs, v.oneCell' = true) → (∀ u ∈ us, u.oneCell' = true) → ∀ u ∈ setV us off vs, u.oneCell' = true
  | [], us, off, h1, h2 => h2
  | v :: vs, us, off, h1, h2 => setV_one vs (us.set off v) (off + 1) (fun x hx => h1 x (List.mem_cons_of_mem _ hx)) (fun u hu => by
      rcases List.mem_or_eq_of_mem_set hu with h | h
      · exact h2 u h
      · subst h; exact h1 _ (List.mem_cons_self ..))

theorem foldl_setV : ∀ (vs : List Value) (cells : Array Value) (off k : Nat), ((vs.zipIdx k).foldl (fun cs (p : Value × Nat) => cs.setIfInBounds (off + p.2) p.1) cells).toList = setV cells.toList (off + k) vs
  | [], cells, off, k => rfl
  | v :: vs, cells, off, k => by
    rw [List.zipIdx_cons, List.foldl_cons, foldl_setV vs _ off (k + 1), setV]
    simp [Nat.add_assoc]

theorem fill_ok (place : Nat → Option (Nat × Nat)) : ∀ (parts : List (Nat × AV)) (vals : List (Nat × Value)) (aparts : List (Nat × Nat × AV)) (as as' : List AV) (cells : Array Value),
    parts.length = vals.length → aparts.length = parts.length →
    (∀ (j : Nat) (p : Nat × AV), parts[j]? = some p → ∃ v, vals[j]? = some (p.1, v) ∧ Rep σ p.2 v ∧ ∃ off size, place p.1 = some (off, size) ∧ aparts[j]? = some (off, size, p.2)) →
    RepL σ as cells.toList → (∀ u ∈ cells.toList, u.oneCell' = true) → fillA as aparts = some as' →
    ∃ cells', Instr.fill place cells vals = some cells' ∧ RepL σ as' cells'.toList ∧ (∀ u ∈ cells'.toList, u.oneCell' = true) ∧ cells'.size = cells.size := by
  intro parts
  induction parts with
  | nil =>
    intro vals aparts as as' cells hl hl2 _ hr h1 h
    have e1 : vals = [] := List.eq_nil_of_length_eq_zero (by simpa using hl.symm)
    have e2 : aparts = [] := List.eq_nil_of_length_eq_zero (by simpa using hl2)
    subst e1; subst e2
    simp [fillA] at h
    subst h
    exact ⟨cells, rfl, hr, h1, rfl⟩
  | cons p parts ih =>
    intro vals aparts as as' cells hl hl2 hp hr h1 h
    obtain ⟨v, hv, hrv, off, size, hpl, ha⟩ := hp 0 p rfl
    cases vals with
    | nil => simp at hv
    | cons q vals =>
      cases aparts with
      | nil => simp at ha
      | cons ap aparts =>
        simp at hv ha
        subst hv; subst ha
        simp only [fillA] at h
        split at h
        · rename_i hc
          obtain ⟨hc1, hc2, hc3⟩ := hc
          have hcl := hrv.cells_length hc2
          have hlen : as.length = cells.size := by simpa using hr.1
          have hcells : RepL σ (setCells as off p.2.cells) (setV cells.toList off v.cells.toList) := RepL.setCells off (hrv.cells hc2) hr
          have hnot : ¬ (v.cells.size ≠ size ∨ off + v.cells.size > cells.size) := by omega
          have hfold : (v.cells.zipIdx.foldl (fun cs (p : Value × Nat) => cs.setIfInBounds (off + p.2) p.1) cells).toList = setV cells.toList off v.cells.toList := by
            have := foldl_setV v.cells.toList cells off 0
            rw [← Array.toList_zipIdx, Array.foldl_toList] at this
            simpa using this
          obtain ⟨cells', h2, h3, h4, h5⟩ := ih vals aparts _ as' (v.cells.zipIdx.foldl (fun cs (p : Value × Nat) => cs.setIfInBounds (off + p.2) p.1) cells) (by simpa using hl) (by simpa using hl2)
            (fun j q hq => by simpa using hp (j + 1) q (by simpa using hq)) (by rw [hfold]; exact hcells) (by rw [hfold]; exact setV_one _ _ _ (hrv.cells_one hc2) h1) h
          refine ⟨cells', ?_, h3, h4, ?_⟩
          · simp only [Instr.fill, hpl]
            rw [if_neg (by simpa using hnot)]
            exact h2
          · rw [h5, ← Array.length_toList, hfold, setV_length, Array.length_toList]
        · cases h

theorem run_mapM_list {α β : Type} (f : α → Sem β) : ∀ (l : List α) (r : List β), l.length = r.length → (∀ (i : Nat) (x : α) (y : β), l[i]? = some x → r[i]? = some y → (f x).run P w = .ok y w) → (l.mapM f).run P w = .ok r w
  | [], r, hl, _ => by
    have : r = [] := List.eq_nil_of_length_eq_zero (by simpa using hl.symm)
    subst this
    simp
  | a :: l, [], hl, _ => by simp at hl
  | a :: l, b :: r, hl, h => by
    rw [List.mapM_cons]
    have h1 := h 0 a b rfl rfl
    have h2 := run_mapM_list f l r (by simpa using hl) (fun i x y hx hy => h (i + 1) x y (by simpa using hx) (by simpa using hy))
    simp [h1, h2]

theorem zeroT_run {t : TypeId} {z : List AV} (h : zeroT P t = some z) : ∃ v : Value, (∀ w, (zeroValue t).run P w = .ok v w) ∧ RepL σ z v.cells.toList ∧ (∀ u ∈ v.cells.toList, u.oneCell' = true) := by
  unfold zeroT at h
  obtain ⟨v, hv, hz⟩ := Option.bind_eq_some_iff.1 h
  obtain ⟨i, hi, hiz⟩ := Option.bind_eq_some_iff.1 hv
  obtain ⟨h1, h2⟩ := ccVals_rep (σ := σ) hz
  exact ⟨v, fun w => by simp [zeroValue, typeInfo, hi, hiz], h1, h2⟩

/-- The places of a struct's fields. -/
def placesT (P : Program) (fs : Array Field) : Option (List (Nat × Nat)) := fs.toList.mapM fun f => (szT P f.type).map fun n => (f.offset, n)

theorem places_run {fs : Array Field} {ps : List (Nat × Nat)} (h : placesT P fs = some ps) : (fs.mapM fun f => do pure (f.offset, ← sizeOf f.type) : Sem (Array (Nat × Nat))).run P w = .ok ps.toArray w := by
  obtain ⟨hl, hr⟩ := mapM_some_length _ _ _ h
  rw [Array.mapM_eq_mapM_toList, Sem.run_map]
  have := run_mapM_list (P := P) (w := w) (fun f : Field => (do pure (f.offset, ← sizeOf f.type) : Sem (Nat × Nat))) fs.toList ps (by rw [hl]) (fun i x y hx hy => by
    obtain ⟨y', hy', hf⟩ := hr i x hx
    rw [hy] at hy'
    obtain rfl := Option.some.inj hy'
    obtain ⟨n, hn, rfl⟩ := Option.map_eq_some_iff.1 hf
    simp [run_sizeOf hn])
  rw [this]
  rfl

theorem bld_run {B : Nat → Prop} {n0 : Nat} {w0 : World} {s : St} {a : Act} (hs : SimSt B w0 n0 σ s a w) {t : TypeId} {fs : Array Field} (hu : P.underlying t = some (.struct fs)) {places : List (Nat × Nat)} (hp : placesT P fs = some places)
    {z : List AV} (hz : zeroT P t = some z) {parts : Array (Nat × Operand)} {ps : List (Nat × Nat × Opd)}
    (hps : (parts.toList.mapM fun (p : Nat × Operand) => (places[p.1]?).bind fun pl => (ccOpd p.2).map fun x => (pl.1, pl.2, x)) = some ps) {as : List AV} (h : fillA z (ps.map fun p => (p.1, p.2.1, s.ev p.2.2)) = some as) :
    ∃ q, (Instr.build t (parts.map fun (i, x) => (i, a.eval x))).run P w = .ok q w ∧ Rep σ (.agg as) q := by
  obtain ⟨v, hv, hr, h1⟩ := zeroT_run (σ := σ) hz
  obtain ⟨hl, hget⟩ := mapM_some_length _ _ _ hps
  have hw : ∀ (i : Nat) (p : Nat × Operand), parts.toList[i]? = some p → ∃ pl x, places[p.1]? = some pl ∧ ccOpd p.2 = some x ∧ ps[i]? = some (pl.1, pl.2, x) := by
    intro i p hpi
    obtain ⟨y, hy, hf⟩ := hget i p hpi
    obtain ⟨pl, hpl, hf⟩ := Option.bind_eq_some_iff.1 hf
    obtain ⟨x, hx, rfl⟩ := Option.map_eq_some_iff.1 hf
    exact ⟨pl, x, hpl, hx, hy⟩
  have hev : ∀ (i : Nat) (p : Nat × Operand), parts.toList[i]? = some p → ∃ x, ps[i]? = some x ∧ Rep σ (s.ev x.2.2) (a.eval p.2) := by
    intro i p hpi
    obtain ⟨pl, x, _, hx, hy⟩ := hw i p hpi
    exact ⟨_, hy, ev_rep hs hx⟩
  let mid : List (Nat × AV) := (parts.toList.zip ps).map fun q => (q.1.1, s.ev q.2.2.2)
  have hml : mid.length = parts.toList.length := by simp [mid, hl]
  obtain ⟨cells', hf, hr', h1', _⟩ := fill_ok (σ := σ) (fun i => places[i]?) mid ((parts.toList.map fun (i, x) => (i, a.eval x))) (ps.map fun p => (p.1, p.2.1, s.ev p.2.2)) z as v.cells (by simp [hml]) (by simp [hml, hl])
    (fun j p hj => by
      simp only [mid, List.getElem?_map, Option.map_eq_some_iff] at hj
      obtain ⟨q, hq, rfl⟩ := hj
      rw [List.getElem?_zip_eq_some] at hq
      obtain ⟨pl, x, hpl, hx, hy⟩ := hw j q.1 hq.1
      rw [hq.2] at hy
      have hqe := Option.some.inj hy
      refine ⟨a.eval q.1.2, by simp [List.getElem?_map, hq.1], by rw [hqe]; exact ev_rep hs hx, pl.1, pl.2, by simpa using hpl, ?_⟩
      simp [List.getElem?_map, hq.2, hqe]) hr h1 h
  refine ⟨.agg cells', ?_, ?_⟩
  · have hpr := places_run (P := P) (w := w) hp
    simp only [Instr.build, Sem.run_bind, hv w, Result.andThen_ok, run_underlying hu]
    rw [hpr]
    simp only [Result.andThen_ok]
    have hpa : (parts.map fun (i, x) => (i, a.eval x)).toList = parts.toList.map fun (i, x) => (i, a.eval x) := by simp
    rw [hpa]
    have hpl : (fun i : Nat => places.toArray[i]?) = (fun i : Nat => places[i]?) := by funext i; simp
    rw [hpl, hf]
    simp
  · have := Rep.agg (σ := σ) as cells'.toList hr'.1 h1' hr'.2
    simpa using this

theorem len_run {x : AV} {u : Value} {n : Nat} {t ty : TypeId} (hx : Rep σ x u) (hn : x.len? = some n) (h : (elT P t).isSome = true) : (Builtin.len_ #[t] ty #[u]).run P w = .ok (.int .i64 (n : Int)) w := by
  have hu : ∃ e, P.underlying t = some (.slice e) := by
    cases he : elT P t with
    | none => simp [he] at h
    | some e => exact ⟨e, elT_spec he⟩
  obtain ⟨e, hu⟩ := hu
  cases hx <;> simp [AV.len?] at hn
  all_goals (subst hn; simp [Builtin.len_, run_underlying hu, goInt])
theorem lens_run {x : AV} {u : Value} {n : Nat} {t ty : TypeId} (hx : Rep σ x u) (hn : x.strlen? = some n) (h : isStr P t = true) : (Builtin.len_ #[t] ty #[u]).run P w = .ok (.int .i64 (n : Int)) w := by
  have hu : P.underlying t = some .string := by unfold isStr at h; split at h <;> first | assumption | cases h
  cases hx <;> simp [AV.strlen?] at hn
  subst hn
  simp [Builtin.len_, run_underlying hu, goInt]

theorem max_run {x y r : AV} {u v : Value} {ts : Array TypeId} {ty : TypeId} (hx : Rep σ x u) (hy : Rep σ y v) (h : maxA x y = some r) : ∃ q, (Builtin.max_ ts ty #[u, v]).run P w = .ok q w ∧ Rep σ r q := by
  cases x <;> cases y <;> simp only [maxA] at h <;> first | (cases h; done) | skip
  split at h
  · rename_i hk
    subst hk
    obtain rfl := Option.some.inj h
    cases hx; cases hy
    exact ⟨_, by simp [Builtin.max_, Builtin.max2], .int _ _⟩
  · cases h
theorem min_run {x y r : AV} {u v : Value} {ts : Array TypeId} {ty : TypeId} (hx : Rep σ x u) (hy : Rep σ y v) (h : minA x y = some r) : ∃ q, (Builtin.min_ ts ty #[u, v]).run P w = .ok q w ∧ Rep σ r q := by
  cases x <;> cases y <;> simp only [minA] at h <;> first | (cases h; done) | skip
  split at h
  · rename_i hk
    subst hk
    obtain rfl := Option.some.inj h
    cases hx; cases hy
    exact ⟨_, by simp [Builtin.min_, Builtin.min2], .int _ _⟩
  · cases h

theorem byteOf_inv {x : AV} {c : UInt8} (h : byteOf x = some c) : ∃ n : Int, x = .int .u8 n ∧ c = UInt8.ofNat n.toNat := by
  unfold byteOf at h
  split at h
  · rename_i n
    split at h
    · simp at h; exact ⟨n, rfl, h.symm⟩
    · cases h
  · cases h

theorem b2s_run {B : Nat → Prop} {A : AHeap} (hs : Sim B σ A w) {x : AV} {u : Value} {vs : List AV} {l : List UInt8} {src dst e : TypeId} (hx : Rep σ x u) (hsrc : P.underlying src = some (.slice e)) (he : P.underlying e = some (.int .u8)) (hdst : P.underlying dst = some .string)
    (h1 : onesOf A x = some vs) (h2 : vs.mapM byteOf = some l) : (convert src dst u).run P w = .ok (.string ⟨l.toArray⟩) w := by
  obtain ⟨hl, hget⟩ := mapM_some_length _ _ _ h2
  have hints : ∃ xs : List Int, vs = xs.map (AV.int .u8) ∧ l = xs.map fun n => UInt8.ofNat n.toNat := by
    clear h1 hx
    induction vs generalizing l with
    | nil => simp at h2; subst h2; exact ⟨[], rfl, rfl⟩
    | cons v vs ih =>
      rw [List.mapM_cons] at h2
      cases hv : byteOf v with
      | none => simp [hv] at h2
      | some c =>
        cases hvs : vs.mapM byteOf with
        | none => simp [hv, hvs] at h2
        | some l' =>
          simp [hv, hvs] at h2
          subst h2
          obtain ⟨xs, hx1, hx2⟩ := ih hvs (mapM_some_length _ _ _ hvs).1 (mapM_some_length _ _ _ hvs).2
          obtain ⟨n, rfl, rfl⟩ := byteOf_inv hv
          exact ⟨n :: xs, by simp [hx1], by simp [hx2]⟩
  obtain ⟨xs, rfl, rfl⟩ := hints
  have hgoal : (Value.string ⟨(xs.map fun n => UInt8.ofNat n.toNat).toArray⟩) = .string (strOfNums xs) := rfl
  rw [hgoal]
  have hcell : ∀ (i : Nat) (c : AV) (q : Value), (xs.map (AV.int .u8))[i]? = some c → Rep σ c q → q = .int .u8 (xs.getD i 0) := by
    intro i c q hc hq
    simp only [List.getElem?_map, Option.map_eq_some_iff] at hc
    obtain ⟨n, hn, rfl⟩ := hc
    rw [rep_int_inv hq]
    simp [List.getD_eq_getElem?_getD, hn]
  cases hx <;> simp only [onesOf] at h1 <;> first | (cases h1; done) | skip
  · rename_i tt ad cap h3 h4 h5
    have : xs = [] := by simpa using h1.symm
    subst this
    rw [run_convert_bytes_string w src dst e _ _ _ hsrc he hdst]
    cases ad with
    | none => simp [Conv.bytesToString, strOfNums]; rfl
    | some ad => simp [Conv.bytesToString, loadCells, loadCellsFrom, strOfNums]; rfl
  · rename_i ys tt b off sz cap val h3 h4 h5 h6 h7 h8 h9 h10
    obtain rfl := Option.some.inj h1
    have hlen : (xs.map (AV.int .u8)).length = xs.length := by simp
    rw [hlen]
    refine run_convert_bytes_arg w src e hsrc he b off xs.length cap xs rfl (fun i hi => ?_) dst hdst
    have hx' : (xs.map (AV.int .u8))[i]? = some (AV.int .u8 xs[i]) := by simp [hi]
    have hsz := h6 i _ hx'
    simp at hsz
    subst hsz
    have hc := h7 i _ hx' 0 (AV.int .u8 xs[i]) rfl
    have hr := h8 i _ hx' 0 (AV.int .u8 xs[i]) rfl
    have := hs.cell hc
    rw [hcell i _ _ hx' hr] at this
    simpa using this
  · rename_i b e' o n tt ad cap c0 sz h3 h4 h5 h6 h7 h8 h9
    split at h1
    · rename_i he1
      subst he1
      obtain ⟨cs, hb, h1⟩ := Option.bind_eq_some_iff.1 h1
      split at h1
      · rename_i hfit
        have h1 := Option.some.inj h1
        have hn : xs.length = n := by
          have := congrArg List.length h1
          simp at this
          omega
        by_cases hcap : cap = 0
        · have hx0 : xs = [] := List.eq_nil_of_length_eq_zero (by omega)
          have hn0 : n = 0 := by omega
          subst hx0; subst hn0
          rw [run_convert_bytes_string w src dst e _ _ _ hsrc he hdst]
          simp [Conv.bytesToString, loadCells, loadCellsFrom, strOfNums]; rfl
        · have had := h6 hcap
          subst had
          refine run_convert_bytes_arg w src e hsrc he c0 (o * 1) n cap xs hn (fun i hi => ?_) dst hdst
          have hx' : (xs.map (AV.int .u8))[i]? = some (AV.int .u8 (xs[i]'(by omega))) := by simp [show i < xs.length by omega]
          have hcs : cs[o + i]? = some (AV.int .u8 (xs[i]'(by omega))) := by
            rw [← h1, List.getElem?_take, if_pos hi, List.getElem?_drop] at hx'
            exact hx'
          obtain ⟨q, hq1, hq2, _, _⟩ := hs.ownCell hb hcs h7
          rw [hcell i _ _ hx' hq2] at hq1
          simpa using hq1
      · cases h1
    · cases h1

end Go.Proofs.YtllahdjejcideaaAi
