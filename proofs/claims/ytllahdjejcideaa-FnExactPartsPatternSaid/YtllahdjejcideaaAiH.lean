/- Indexing, slicing, building. -/
import Derived.Test.YtllahdjejcideaaAiG
namespace Go.Proofs.YtllahdjejcideaaAi
open Go Go.RowKit
set_option linter.unusedVariables false
set_option linter.unusedSimpArgs false

variable {P : Program} {σ : Sg} {w : World}

theorem elT_spec {t e : TypeId} (h : elT P t = some e) : P.underlying t = some (.slice e) := by
  unfold elT at h
  split at h
  · rename_i e' hu; obtain rfl := Option.some.inj h; exact hu
  · cases h

theorem rep_int_inv {k : IntKind} {n : Int} {v : Value} (h : Rep σ (.int k n) v) : v = .int k n := by cases h; rfl

theorem iad_run {esz : Nat} {x i r : AV} {u v : Value} {t e : TypeId} (he : elT P t = some e) (hn : szT P e = some esz) (hx : Rep σ x u) (hi : Rep σ i v)
    (h : iadA esz x i = some r) : ∃ q, (Instr.indexAt t u v).run P w = .ok q w ∧ Rep σ r q := by
  have hu := elT_spec he
  cases i <;> simp only [iadA] at h <;> first | (cases h; done) | skip
  rename_i k n
  obtain rfl := rep_int_inv hi
  cases hx <;> simp only [eltA] at h <;> first | (cases h; done) | skip
  · split at h <;> simp at h
  · rename_i xs tt b off sz cap val h1 h2 h3 h4 h5 h6 h7 h8
    split at h
    · rename_i h0
      obtain ⟨x, hxn, h⟩ := Option.bind_eq_some_iff.1 h
      split at h
      · rename_i hc
        obtain rfl := Option.some.inj h
        have hlt : n.toNat < xs.length := (List.getElem?_eq_some_iff.1 hxn).1
        have hsz : sz = esz := by rw [← h4 _ _ hxn]; exact hc
        subst hsz
        have hb : 0 ≤ n ∧ n < (xs.length : Int) := ⟨h0, by omega⟩
        refine ⟨_, ?_, .epsl xs tt n.toNat 0 x b (off + n.toNat * sz) (val n.toNat) hxn (fun j c hj => by have := h5 _ _ hxn j c hj; simpa using this) (fun j c hj => h6 _ _ hxn j c hj) (fun j => h7 _ j) (h8 _ _ hxn)⟩
        simp only [Instr.indexAt, asIntOf, Sem.run_bind, Sem.run_pure, Result.andThen_ok, run_underlying hu, if_pos hb, run_sizeOf hn, add_plain, Nat.add_zero]
      · cases h
    · cases h
  · rename_i b e' o l tt ad cap c sz h1 h2 h3 h4 h5 h6 h6f
    split at h
    · rename_i hc
      obtain ⟨rfl, h0, hlt⟩ := hc
      obtain rfl := Option.some.inj h
      have hcap : cap ≠ 0 := by omega
      have had := h4 hcap
      subst had
      have hb : 0 ≤ n ∧ n < (l : Int) := ⟨h0, hlt⟩
      refine ⟨_, ?_, .epref b e' o l tt n.toNat 0 c sz h5⟩
      simp only [Instr.indexAt, asIntOf, Sem.run_bind, Sem.run_pure, Result.andThen_ok, run_underlying hu, if_pos hb, run_sizeOf hn, add_plain, Nat.add_zero, Nat.add_mul]
    · cases h

theorem idx_run {x i r : AV} {u v : Value} {t : TypeId} (hu : P.underlying t = some .string) (hx : Rep σ x u) (hi : Rep σ i v)
    (h : idxA x i = some r) : ∃ q, (Instr.index t u v).run P w = .ok q w ∧ Rep σ r q := by
  cases x <;> cases i <;> simp only [idxA] at h <;> first | (cases h; done) | skip
  rename_i b k n
  cases hx; cases hi
  unfold bytA at h
  split at h
  · rename_i hc
    obtain rfl := Option.some.inj h
    refine ⟨_, ?_, .int _ _⟩
    have : b[n.toNat]? = some (b[n.toNat]'hc.2) := by simp [hc.2]
    simp only [Instr.index, asIntOf, Sem.run_bind, Sem.run_pure, Result.andThen_ok, run_underlying hu, if_pos hc.1, this]
  · cases h

/-- A bound that may be left out, as the machine has it. -/
theorem optNat_run {B : Nat → Prop} {n0 : Nat} {w0 : World} {s : St} {a : Act} (hs : SimSt B w0 n0 σ s a w) {d n : Nat} {x : Option Operand} {x' : Option Opd} (hc : ccOpt x = some x') (h : optNat s d x' = some n) :
    (x = none ∧ x' = none ∧ n = d) ∨ ∃ xo k z, x = some xo ∧ x' = some z ∧ a.eval xo = .int k (n : Int) := by
  cases x with
  | none => simp [ccOpt] at hc; subst hc; simp [optNat] at h; exact .inl ⟨rfl, rfl, h.symm⟩
  | some xo =>
    simp [ccOpt] at hc
    obtain ⟨z, hz, rfl⟩ := hc
    have hr := ev_rep hs hz
    unfold optNat at h
    cases hm : s.ev z <;> simp only [hm] at h <;> first | (cases h; done) | skip
    rename_i k m
    split at h
    · rename_i h0
      obtain rfl := Option.some.inj h
      rw [hm] at hr
      refine .inr ⟨xo, k, z, rfl, rfl, ?_⟩
      rw [rep_int_inv hr]
      congr 1
      omega
    · cases h

theorem sliceBound_ok (k : IntKind) (n y : Nat) (c : BoundsCode) (h : n ≤ y) : (Instr.sliceBound (.int k (n : Int)) y c).run P w = .ok n w := by
  have : 0 ≤ (n : Int) ∧ (n : Int) ≤ (y : Int) := ⟨by omega, by omega⟩
  simp only [Instr.sliceBound, asIntOf, Sem.run_bind, Sem.run_pure, Result.andThen_ok, if_pos this, Int.toNat_natCast]

theorem sliceBounds_ok {B : Nat → Prop} {n0 : Nat} {w0 : World} {s : St} {a : Act} (hs : SimSt B w0 n0 σ s a w) (isS : Bool) (n cap : Nat) {lo hi mx : Option Operand} {lo' hi' mx' : Option Opd} {l h : Nat} {m : Option Nat}
    (h1 : ccOpt lo = some lo') (h2 : ccOpt hi = some hi') (h3 : ccOpt mx = some mx') (e1 : optNat s 0 lo' = some l) (e2 : optNat s n hi' = some h) (e3 : optMax s mx' = some m)
    (hlh : l ≤ h) (hhn : h ≤ n) (hcap : n ≤ cap) (hm : maxOk h n m = true) (hmh : mx.isSome = true → hi.isSome = true) :
    (Instr.sliceBounds isS n cap (lo.map a.eval) (hi.map a.eval) (mx.map a.eval)).run P w = .ok (l, h, m.getD cap) w := by
  have hmaxv : (mx = none ∧ m = none) ∨ ∃ mo k q, mx = some mo ∧ m = some q ∧ a.eval mo = .int k (q : Int) ∧ h ≤ q ∧ q ≤ n := by
    cases mx with
    | none => simp [ccOpt] at h3; subst h3; simp [optMax] at e3; exact .inl ⟨rfl, e3.symm⟩
    | some mo =>
      simp [ccOpt] at h3
      obtain ⟨z, hz, rfl⟩ := h3
      simp only [optMax, Option.map_eq_some_iff] at e3
      obtain ⟨q, hq, rfl⟩ := e3
      rcases optNat_run hs (x := some mo) (x' := some z) (by simp [ccOpt, hz]) hq with ⟨h', _⟩ | ⟨xo, k, z', he, _, hv⟩
      · cases h'
      · obtain rfl := Option.some.inj he
        simp [maxOk] at hm
        exact .inr ⟨mo, k, q, rfl, rfl, hv, hm.1, hm.2⟩
  rcases hmaxv with ⟨rfl, rfl⟩ | ⟨mo, k, q, rfl, rfl, hv, hq1, hq2⟩
  · rcases optNat_run hs h2 e2 with ⟨rfl, _, rfl⟩ | ⟨ho, kh, zh, rfl, _, hvh⟩ <;>
    rcases optNat_run hs h1 e1 with ⟨rfl, _, rfl⟩ | ⟨loo, kl, zl, rfl, _, hvl⟩
    · simp [Instr.sliceBounds]
    · simp [Instr.sliceBounds, hvl, sliceBound_ok kl l _ _ hlh]
    · simp [Instr.sliceBounds, hvh, sliceBound_ok kh h cap _ (by omega)]
    · simp [Instr.sliceBounds, hvh, hvl, sliceBound_ok kh h cap _ (by omega), sliceBound_ok kl l h _ hlh]
  · rcases optNat_run hs h2 e2 with ⟨rfl, _, rfl⟩ | ⟨ho, kh, zh, rfl, _, hvh⟩
    · simp at hmh
    · rcases optNat_run hs h1 e1 with ⟨rfl, _, rfl⟩ | ⟨loo, kl, zl, rfl, _, hvl⟩
      · simp [Instr.sliceBounds, hv, hvh, sliceBound_ok k q cap _ (by omega), sliceBound_ok kh h q _ (by omega)]
      · simp [Instr.sliceBounds, hv, hvh, hvl, sliceBound_ok k q cap _ (by omega), sliceBound_ok kh h q _ (by omega), sliceBound_ok kl l h _ hlh]

theorem sli_run {B : Nat → Prop} {n0 : Nat} {w0 : World} {s : St} {a : Act} (hs : SimSt B w0 n0 σ s a w) {esz n : Nat} {x r : AV} {u : Value} {t e : TypeId} (he : elT P t = some e) (hsz : szT P e = some esz) (hx : Rep σ x u)
    {lo hi mx : Option Operand} {lo' hi' mx' : Option Opd} {l h : Nat} {m : Option Nat} (hn : x.len? = some n)
    (h1 : ccOpt lo = some lo') (h2 : ccOpt hi = some hi') (h3 : ccOpt mx = some mx') (e1 : optNat s 0 lo' = some l) (e2 : optNat s n hi' = some h) (e3 : optMax s mx' = some m)
    (hmh : mx.isSome = true → hi.isSome = true) (hr : sliceA esz x l h m = some r) :
    ∃ q, (Instr.sliceAt t u (lo.map a.eval) (hi.map a.eval) (mx.map a.eval)).run P w = .ok q w ∧ Rep σ r q := by
  have hu := elT_spec he
  have key : ∀ (ad : Option Addr) (len cap : Nat), u = .slice ad len cap → len = n → len ≤ cap → l ≤ h → h ≤ n → maxOk h n m = true →
      (Instr.sliceAt t u (lo.map a.eval) (hi.map a.eval) (mx.map a.eval)).run P w = .ok (.slice (if m.getD cap = l then ad else ad.map (·.add (l * esz))) (h - l) (m.getD cap - l)) w := by
    intro ad len cap hu' hl hc hlh hhn hmo
    subst hu'
    subst hl
    have hb := sliceBounds_ok (P := P) (w := w) hs true len cap h1 h2 h3 e1 e2 e3 hlh hhn hc hmo hmh
    simp [Instr.sliceAt, Instr.slice, run_underlying hu, hb, run_sizeOf hsz]
  have hC : ∀ (cap : Nat) (tt : Bool), n ≤ cap → h ≤ n → maxOk h n m = true → (tt = true → cap = n) → h ≤ m.getD cap ∧ m.getD cap ≤ cap ∧ (maxTight h n tt m = true → m.getD cap = h) := by
    intro cap tt hc hhn hmo htt
    cases m with
    | none =>
      refine ⟨Nat.le_trans hhn hc, Nat.le_refl _, fun h' => ?_⟩
      simp [maxTight] at h'
      have := htt h'.1
      simp; omega
    | some q =>
      simp [maxOk] at hmo
      refine ⟨hmo.1, by simp; omega, fun h' => ?_⟩
      simpa [maxTight] using h'
  cases hx <;> simp only [sliceA] at hr <;> first | (cases hr; done) | skip
  · rename_i tt ad cap h4 h5 h6
    simp [AV.len?] at hn
    subst hn
    split at hr
    · rename_i hc
      obtain rfl := Option.some.inj hr
      simp only [List.length_nil] at hc
      obtain ⟨c1, c2, c3⟩ := hC cap tt (Nat.zero_le _) hc.2.1 hc.2.2.1 h4
      refine ⟨_, key ad 0 cap rfl rfl (Nat.zero_le _) hc.1 hc.2.1 hc.2.2.1, ?_⟩
      have hl0 : l = 0 := by omega
      have hh0 : h = 0 := by omega
      subst hl0; subst hh0
      simp only [List.take_nil, List.drop_nil, Nat.sub_self, Nat.sub_zero, Nat.zero_mul, List.length_nil]
      refine .slnil _ _ _ c3 (by omega) ?_
      intro hnone
      by_cases h0 : m.getD cap = 0
      · exact h0
      · rw [if_neg h0] at hnone
        cases ad with
        | none => have := h6 rfl; omega
        | some ad => simp at hnone
    · cases hr
  · rename_i xs tt b off sz cap val h4 h5 h6 h7 h8 h9 h10 h11
    simp [AV.len?] at hn
    subst hn
    split at hr
    · rename_i hc
      obtain rfl := Option.some.inj hr
      obtain ⟨c1, c2, c3⟩ := hC cap tt h4 hc.2.1 hc.2.2.1 h6
      refine ⟨_, key _ _ cap rfl rfl h4 hc.1 hc.2.1 hc.2.2.1, ?_⟩
      have hlen : ((xs.take h).drop l).length = h - l := by simp; omega
      by_cases hlh : l = h
      · have hnil : (xs.take h).drop l = [] := List.eq_nil_of_length_eq_zero (by omega)
        rw [hnil]
        subst hlh
        rw [Nat.sub_self]
        refine .slnil _ _ _ (fun h' => by rw [c3 h']; omega) (by omega) ?_
        intro hnone
        split at hnone <;> simp at hnone
      · have hpos : l < xs.length := by omega
        have hx0 : xs[l]? = some xs[l] := List.getElem?_eq_getElem hpos
        have hsz' : sz = esz := by
          have h1' := h7 _ _ hx0
          have h2' := beq_iff_eq.1 ((List.all_eq_true.1 hc.2.2.2) xs[l] (List.getElem_mem hpos))
          exact h1'.symm.trans h2'
        subst hsz'
        have hne : m.getD cap ≠ l := by omega
        rw [if_neg hne]
        simp only [Option.map_some, add_plain]
        rw [← hlen]
        have hget' : ∀ (i : Nat) (x : AV), ((xs.take h).drop l)[i]? = some x → xs[l + i]? = some x := by
          intro i x hx'
          rw [List.getElem?_drop, List.getElem?_take] at hx'
          split at hx'
          · exact hx'
          · cases hx'
        refine .sl _ _ b (off + l * sz) sz _ (fun i j => val (l + i) j) (by omega) (by omega) (fun h' => by rw [c3 h', hlen]) (fun i x hx' => h7 _ _ (hget' i x hx'))
          (fun i x hx' j c hj => ?_) (fun i x hx' j c hj => h9 _ _ (hget' i x hx') j c hj) (fun i j => h10 _ _) (fun i x hx' => h11 _ _ (hget' i x hx'))
        have := h8 _ _ (hget' i x hx') j c hj
        rw [Nat.add_mul] at this
        rw [show off + l * sz + i * sz + j = off + (l * sz + i * sz) + j from by omega]
        exact this
    · cases hr
  · rename_i b e' o nn tt ad cap c sz h4 h5 h6 h7 h8 h9 hfu
    simp [AV.len?] at hn
    subst hn
    split at hr
    · rename_i hc
      obtain ⟨rfl, hlh, hhn, hmo⟩ := hc
      obtain rfl := Option.some.inj hr
      obtain ⟨c1, c2, _⟩ := hC cap false h4 hhn hmo (by simp)
      refine ⟨_, key _ _ cap rfl rfl h4 hlh hhn hmo, ?_⟩
      have hfit : (o + l + (m.getD cap - l)) * e' ≤ sz := Nat.le_trans (Nat.mul_le_mul_right _ (by omega)) h9
      have htight : maxCp h nn tt m = .tight → m.getD cap - l = h - l := by
        intro ht
        cases m with
        | none =>
          cases tt <;> simp [maxCp] at ht
          have := h6 rfl
          simp
          omega
        | some q => simp [maxCp] at ht; simp [ht]
      have hfull : maxCp h nn tt m = .full → (o + l + (m.getD cap - l)) * e' = sz := by
        intro ht
        cases m with
        | none =>
          cases tt <;> simp [maxCp] at ht
          · split at ht <;> cases ht
          · rw [← hfu rfl]
            simp only [Option.getD_none]
            congr 1
            simp only [Option.getD_none] at c1 c2
            omega
        | some q => simp [maxCp] at ht; split at ht <;> cases ht
      by_cases hne : m.getD cap = l
      · rw [if_pos hne]
        exact .ref b e' (o + l) (h - l) _ ad _ c sz (by omega) (by omega) htight (fun h' => by omega) h8 hfit hfull
      · rw [if_neg hne]
        have := h7 (by omega)
        subst this
        simp only [Option.map_some, add_plain]
        exact .ref b e' (o + l) (h - l) _ _ _ c sz (by omega) (by omega) htight (fun _ => by rw [Nat.add_mul]) h8 hfit hfull
    · cases hr

theorem sls_run {B : Nat → Prop} {n0 : Nat} {w0 : World} {s : St} {a : Act} (hs : SimSt B w0 n0 σ s a w) {n : Nat} {x r : AV} {u : Value} {t : TypeId} (hu : P.underlying t = some .string) (hx : Rep σ x u)
    {lo hi : Option Operand} {lo' hi' : Option Opd} {l h : Nat} (hn : x.strlen? = some n)
    (h1 : ccOpt lo = some lo') (h2 : ccOpt hi = some hi') (e1 : optNat s 0 lo' = some l) (e2 : optNat s n hi' = some h) (hr : slsA x l h = some r) :
    ∃ q, (Instr.sliceAt t u (lo.map a.eval) (hi.map a.eval) none).run P w = .ok q w ∧ Rep σ r q := by
  cases x <;> simp only [slsA] at hr <;> first | (cases hr; done) | skip
  rename_i b
  cases hx
  simp [AV.strlen?] at hn
  subst hn
  split at hr
  · rename_i hc
    obtain rfl := Option.some.inj hr
    refine ⟨_, ?_, .str _⟩
    have hb := sliceBounds_ok (P := P) (w := w) hs false b.size b.size (mx := none) (mx' := none) (m := none) h1 h2 rfl e1 e2 rfl hc.1 hc.2 (Nat.le_refl _) rfl (by simp)
    simp only [Option.map_none] at hb
    simp [Instr.sliceAt, Instr.slice, run_underlying hu, hb]
  · cases hr

end Go.Proofs.YtllahdjejcideaaAi
