/- All operations that do nothing to memory, together. -/
import Derived.Test.YtllahdjejcideaaAiI
namespace Go.Proofs.YtllahdjejcideaaAi
open Go Go.RowKit
set_option linter.unusedVariables false
set_option linter.unusedSimpArgs false

variable {P : Program} {σ : Sg} {w : World}

theorem value_run {x : Sem Value} {q : Value} (h : x.run P w = .ok q w) : (do pure (Next.value (← x)) : Sem Next).run P w = .ok (.value q) w := by simp [h]

theorem aggT_of_struct {t : TypeId} {fs : Array Field} (h : P.underlying t = some (.struct fs)) : aggT P t = some true := by unfold aggT; rw [h]; rfl

set_option maxHeartbeats 1000000 in
theorem pure_sound {B : Nat → Prop} {n : Nat} {w0 : World} {s : St} {a : Act} (hs : SimSt B w0 n σ s a w) {o : Oper} {op' : AOp} (hc : ccOp P o.op = some op') {r : AV} (h : pureOp s op' = some r) :
    ∃ q, (execOp a.eval o).run P w = .ok (.value q) w ∧ Rep σ r q := by
  obtain ⟨dst, op, ty, pos, after, guard⟩ := o
  simp only at hc
  cases op with
  | move x =>
    simp only [ccOp, Option.map_eq_some_iff] at hc
    obtain ⟨y, hy, rfl⟩ := hc
    obtain rfl := Option.some.inj h
    exact ⟨_, rfl, ev_rep hs hy⟩
  | assign x =>
    simp only [ccOp, Option.map_eq_some_iff] at hc
    obtain ⟨y, hy, rfl⟩ := hc
    obtain rfl := Option.some.inj h
    exact ⟨_, rfl, ev_rep hs hy⟩
  | pick c x y =>
    simp only [ccOp, Option.bind_eq_some_iff, Option.map_eq_some_iff] at hc
    obtain ⟨c', hc', x', hx', y', hy', rfl⟩ := hc
    simp only [pureOp, pickA] at h
    have hr := ev_rep hs hc'
    cases hb : s.ev c' <;> simp only [hb] at h <;> first | (cases h; done) | skip
    rename_i b
    obtain rfl := Option.some.inj h
    rw [hb] at hr
    have hv : a.eval c = .bool b := by generalize a.eval c = v at hr; cases hr; rfl
    cases b
    · exact ⟨_, by simp [execOp, hv, asBool]; rfl, by simpa using ev_rep hs hy'⟩
    · exact ⟨_, by simp [execOp, hv, asBool]; rfl, by simpa using ev_rep hs hx'⟩
  | extract x i =>
    simp only [ccOp, Option.map_eq_some_iff] at hc
    obtain ⟨y, hy, rfl⟩ := hc
    have hr := ev_rep hs hy
    simp only [pureOp, extA] at h
    cases hb : s.ev y <;> simp only [hb] at h <;> first | (cases h; done) | skip
    rename_i vs
    rw [hb] at hr
    show ∃ q, (do pure (Next.value (← Instr.extract (a.eval x) i)) : Sem Next).run P w = _ ∧ _
    generalize a.eval x = v at *
    cases hr with
    | tup cs us hl hr =>
      have hlt : i < us.length := by rw [← hl]; exact (List.getElem?_eq_some_iff.1 h).1
      exact ⟨us[i], by simp [Instr.extract, hlt], hr i _ _ h (List.getElem?_eq_getElem hlt)⟩
  | binOp op t x y yt =>
    simp only [ccOp, Option.bind_eq_some_iff] at hc
    obtain ⟨x', hx', y', hy', eq, heq, hc⟩ := hc
    have hrx := ev_rep hs hx'
    have hry := ev_rep hs hy'
    show ∃ q, (do pure (Next.value (← (do eqGuard op t x y (a.eval x) (a.eval y); binOp op t (a.eval x) (a.eval y) : Sem Value))) : Sem Next).run P w = .ok (.value q) w ∧ Rep σ r q
    have plain : op' = .bin op x' y' → ∃ q, (do pure (Next.value (← (do eqGuard op t x y (a.eval x) (a.eval y); binOp op t (a.eval x) (a.eval y) : Sem Value))) : Sem Next).run P w = .ok (.value q) w ∧ Rep σ r q := by
      intro e
      subst e
      simp only [pureOp] at h
      obtain ⟨q, h1, h2⟩ := bin_run (P := P) (w := w) hrx hry h t x y
      exact ⟨q, value_run h1, h2⟩
    cases eq with
    | none => simp only [Option.some.injEq] at hc; exact plain hc.symm
    | some neg =>
      have hop : op = if neg = true then .neq else .eql := by
        cases op <;> simp at heq <;> subst heq <;> rfl
      simp only at hc
      split at hc
      · simp only [Option.some.injEq] at hc; exact plain hc.symm
      · simp only [Option.some.injEq] at hc; exact plain hc.symm
      · rename_i hu
        simp only [Option.some.injEq] at hc
        subst hc
        simp only [pureOp, eqbA] at h
        cases h1 : s.ev x' <;> simp only [h1] at h <;> first | (cases h; done) | skip
        cases h2 : s.ev y' <;> simp only [h2] at h <;> first | (cases h; done) | skip
        rename_i b b'
        obtain rfl := Option.some.inj h
        rw [h1] at hrx; rw [h2] at hry
        have hv : a.eval x = .bool b := by generalize a.eval x = v at hrx; cases hrx; rfl
        have hv' : a.eval y = .bool b' := by generalize a.eval y = v at hry; cases hry; rfl
        rw [hv, hv']
        exact ⟨_, value_run (eqb_run t hu x y op hop), .bool _⟩
      · rename_i fs hu
        split at hc
        · rename_i hg
          simp only [Option.map_eq_some_iff] at hc
          obtain ⟨ks, hk, rfl⟩ := hc
          simp only [pureOp, eqsA] at h
          cases h1 : s.ev x' <;> simp only [h1] at h <;> first | (cases h; done) | skip
          cases h2 : s.ev y' <;> simp only [h2] at h <;> first | (cases h; done) | skip
          rename_i b b'
          obtain ⟨e, he, rfl⟩ := Option.map_eq_some_iff.1 h
          rw [h1] at hrx; rw [h2] at hry
          generalize a.eval x = v at *
          generalize a.eval y = v' at *
          cases hrx with
          | agg cs us hl h1c hr =>
            cases hry with
            | agg cs' us' hl' h1c' hr' =>
              exact ⟨_, value_run (eqs_run t hu hk hg ⟨hl, hr⟩ ⟨hl', hr'⟩ he x y op hop), .bool _⟩
        · cases hc
      · split at hc
        · simp only [Option.some.injEq] at hc; subst hc; simp [pureOp] at h
        · cases hc
      · split at hc
        · simp only [Option.some.injEq] at hc; subst hc; simp [pureOp] at h
        · cases hc
      · cases hc
  | unOp op t x =>
    simp only [ccOp, Option.map_eq_some_iff] at hc
    obtain ⟨y, hy, rfl⟩ := hc
    obtain ⟨q, h1, h2⟩ := un_run (P := P) (w := w) (ev_rep hs hy) h
    exact ⟨q, value_run h1, h2⟩
  | convert src d x =>
    simp only [ccOp] at hc
    split at hc
    · rename_i k0 k hsr hds
      simp only [Option.map_eq_some_iff] at hc
      obtain ⟨y, hy, rfl⟩ := hc
      have hr := ev_rep hs hy
      simp only [pureOp, convA] at h
      cases hb : s.ev y <;> simp only [hb] at h <;> first | (cases h; done) | skip
      rename_i k' m
      obtain rfl := Option.some.inj h
      rw [hb] at hr
      show ∃ q, (do pure (Next.value (← convert src d (a.eval x))) : Sem Next).run P w = _ ∧ _
      rw [rep_int_inv hr]
      exact ⟨_, value_run (by simp [convert, run_underlying hsr, run_underlying hds, Conv.intToInt]), .int _ _⟩
    · rename_i hsr hds
      simp only [Option.map_eq_some_iff] at hc
      obtain ⟨y, hy, rfl⟩ := hc
      have hr := ev_rep hs hy
      simp only [pureOp, cstrA] at h
      cases hb : s.ev y <;> simp only [hb] at h <;> first | (cases h; done) | skip
      obtain rfl := Option.some.inj h
      rw [hb] at hr
      show ∃ q, (do pure (Next.value (← convert src d (a.eval x))) : Sem Next).run P w = _ ∧ _
      generalize a.eval x = v at *
      cases hr
      exact ⟨_, value_run (by simp [convert, run_underlying hsr, run_underlying hds]), .str _⟩
    · rename_i e hsr hds
      split at hc
      · rename_i he
        simp only [Option.map_eq_some_iff] at hc
        obtain ⟨y, hy, rfl⟩ := hc
        simp only [pureOp] at h
        obtain ⟨vs, h1, h⟩ := Option.bind_eq_some_iff.1 h
        obtain ⟨l, h2, rfl⟩ := Option.map_eq_some_iff.1 h
        have hue : P.underlying e = some (.int .u8) := by
          unfold isU8 at he
          split at he
          · assumption
          · cases he
        exact ⟨_, value_run (b2s_run hs.sim (ev_rep hs hy) hsr hue hds h1 h2), .str _⟩
      · cases hc
    · cases hc
  | fieldAddr t x f =>
    simp only [ccOp] at hc
    split at hc
    · rename_i fs hu
      obtain ⟨fd, hfd, hc⟩ := Option.bind_eq_some_iff.1 hc
      split at hc
      · cases hc
      · rename_i hz
        simp only [Option.map_eq_some_iff] at hc
        obtain ⟨y, hy, rfl⟩ := hc
        obtain ⟨q, h1, h2⟩ := fieldAt_run (P := P) (w := w) (ev_rep hs hy) hu hfd hz h
        exact ⟨q, value_run h1, h2⟩
    · cases hc
  | field t x f =>
    simp only [ccOp] at hc
    split at hc
    · rename_i fs hu
      simp only [Option.bind_eq_some_iff, Option.map_eq_some_iff] at hc
      obtain ⟨fd, hfd, m, hm, g, hg, y, hy, rfl⟩ := hc
      have hr := ev_rep hs hy
      simp only [pureOp, fldA] at h
      cases hb : s.ev y <;> simp only [hb] at h <;> first | (cases h; done) | skip
      rw [hb] at hr
      obtain ⟨q, h1, h2⟩ := field_run (P := P) (w := w) (x := .nilp) hr hu hfd hm hg h
      exact ⟨q, value_run h1, h2⟩
    · cases hc
  | indexAddr t x i =>
    simp only [ccOp, Option.bind_eq_some_iff, Option.map_eq_some_iff] at hc
    obtain ⟨e, he, m, hm, x', hx', i', hi', rfl⟩ := hc
    obtain ⟨q, h1, h2⟩ := iad_run (P := P) (w := w) he hm (ev_rep hs hx') (ev_rep hs hi') h
    exact ⟨q, value_run h1, h2⟩
  | index t x i =>
    simp only [ccOp] at hc
    split at hc
    · rename_i hst
      simp only [Option.bind_eq_some_iff, Option.map_eq_some_iff] at hc
      obtain ⟨x', hx', i', hi', rfl⟩ := hc
      have hu : P.underlying t = some .string := by unfold isStr at hst; split at hst <;> first | assumption | cases hst
      obtain ⟨q, h1, h2⟩ := idx_run (P := P) (w := w) hu (ev_rep hs hx') (ev_rep hs hi') h
      exact ⟨q, value_run h1, h2⟩
    · cases hc
  | nilCheck x =>
    simp only [ccOp, Option.map_eq_some_iff] at hc
    obtain ⟨y, hy, rfl⟩ := hc
    have hr := ev_rep hs hy
    simp only [pureOp, nilcA] at h
    cases hb : s.ev y <;> simp only [hb] at h <;> first | (cases h; done) | skip
    all_goals
      obtain rfl := Option.some.inj h
      rw [hb] at hr
      refine ⟨a.eval x, ?_, hr⟩
      generalize hv : a.eval x = v at hr
      simp only [execOp, hv]
      cases hr <;> rfl
  | makeFunc fn first captured =>
    cases fn with
    | func f =>
      simp only [ccOp] at hc
      split at hc
      · rename_i h0
        simp only [Option.map_eq_some_iff] at hc
        obtain ⟨cs, hcs, rfl⟩ := hc
        obtain rfl := Option.some.inj h
        have hr := evs_rep hs hcs
        have hf : first = #[] := Array.eq_empty_of_size_eq_zero h0
        subst hf
        refine ⟨.func (.func f) #[] (captured.map a.eval), by simp [execOp, Instr.makeFunc], ?_⟩
        have := Rep.fn (σ := σ) f (cs.map s.ev) (captured.toList.map a.eval) hr.1 hr.2
        rw [show captured.map a.eval = (captured.toList.map a.eval).toArray from by apply Array.ext'; simp]
        exact this
      · cases hc
    | _ => simp [ccOp] at hc
  | slice t x lo hi mx =>
    simp only [ccOp] at hc
    split at hc
    · rename_i hst
      have hu : P.underlying t = some .string := by unfold isStr at hst; split at hst <;> first | assumption | cases hst
      cases mx with
      | some m => cases hc
      | none =>
        simp only [Option.bind_eq_some_iff, Option.map_eq_some_iff] at hc
        obtain ⟨x', hx', lo', hlo, hi', hhi, rfl⟩ := hc
        simp only [pureOp] at h
        obtain ⟨m, hm, h⟩ := Option.bind_eq_some_iff.1 h
        obtain ⟨l, hl, h⟩ := Option.bind_eq_some_iff.1 h
        obtain ⟨hh, hhh, h⟩ := Option.bind_eq_some_iff.1 h
        obtain ⟨q, h1, h2⟩ := sls_run (P := P) (w := w) hs hu (ev_rep hs hx') hm hlo hhi hl hhh h
        exact ⟨q, value_run h1, h2⟩
    · split at hc
      · cases hc
      · rename_i hmh
        simp only [Option.bind_eq_some_iff, Option.map_eq_some_iff] at hc
        obtain ⟨e, he, m, hm, x', hx', lo', hlo, hi', hhi, mx', hmx, rfl⟩ := hc
        simp only [pureOp] at h
        obtain ⟨m', hm', h⟩ := Option.bind_eq_some_iff.1 h
        obtain ⟨l, hl, h⟩ := Option.bind_eq_some_iff.1 h
        obtain ⟨hh, hhh, h⟩ := Option.bind_eq_some_iff.1 h
        obtain ⟨q', hq', h⟩ := Option.bind_eq_some_iff.1 h
        obtain ⟨q, h1, h2⟩ := sli_run (P := P) (w := w) hs he hm (ev_rep hs hx') hm' hlo hhi hmx hl hhh hq' (by intro h'; cases hi <;> simp_all) h
        exact ⟨q, value_run h1, h2⟩
  | build t parts =>
    simp only [ccOp] at hc
    split at hc
    · rename_i fs hu
      simp only [Option.bind_eq_some_iff, Option.map_eq_some_iff] at hc
      obtain ⟨places, hp, z, hz, ps, hps, rfl⟩ := hc
      simp only [pureOp] at h
      obtain ⟨as, has, rfl⟩ := Option.map_eq_some_iff.1 h
      obtain ⟨q, h1, h2⟩ := bld_run (P := P) (w := w) hs hu hp hz hps has
      exact ⟨q, value_run h1, h2⟩
    · cases hc
  | load t x =>
    simp only [ccOp, Option.bind_eq_some_iff, Option.map_eq_some_iff] at hc
    obtain ⟨m, hm, g, hg, y, hy, rfl⟩ := hc
    obtain ⟨q, h1, h2, _⟩ := ldVar_run (P := P) hs.sim (ev_rep hs hy) hm hg h
    exact ⟨q, value_run h1, h2⟩
  | call c =>
    obtain ⟨callee, args, ats⟩ := c
    cases callee with
    | value f =>
      simp only [ccOp, Option.bind_eq_some_iff, Option.map_eq_some_iff] at hc
      obtain ⟨f', _, as, _, rfl⟩ := hc
      simp [pureOp] at h
    | invoke r m => simp [ccOp] at hc
    | builtin b =>
      obtain ⟨args⟩ := args
      obtain ⟨ats⟩ := ats
      simp only [ccOp] at hc
      split at hc
      · rename_i x t
        split at hc
        · rename_i hst
          simp only [Option.map_eq_some_iff] at hc
          obtain ⟨y, hy, rfl⟩ := hc
          simp only [pureOp] at h
          obtain ⟨m, hm, rfl⟩ := Option.map_eq_some_iff.1 h
          refine ⟨.int .i64 (m : Int), ?_, .int _ _⟩
          simp [execOp, resolve, invoke, builtin, lens_run (P := P) (w := w) (ty := ty) (ev_rep hs hy) hm hst]
        · split at hc
          · rename_i hsl
            simp only [Option.map_eq_some_iff] at hc
            obtain ⟨y, hy, rfl⟩ := hc
            simp only [pureOp] at h
            obtain ⟨m, hm, rfl⟩ := Option.map_eq_some_iff.1 h
            refine ⟨.int .i64 (m : Int), ?_, .int _ _⟩
            simp [execOp, resolve, invoke, builtin, len_run (P := P) (w := w) (ty := ty) (ev_rep hs hy) hm hsl]
          · cases hc
      · simp only [Option.bind_eq_some_iff] at hc
        obtain ⟨e, _, e', _, m, _, b, _, z, _, hc⟩ := hc
        split at hc
        · simp only [Option.bind_eq_some_iff, Option.map_eq_some_iff] at hc
          obtain ⟨_, _, _, _, rfl⟩ := hc
          simp [pureOp] at h
        · cases hc
      · simp only [Option.bind_eq_some_iff] at hc
        obtain ⟨_, _, _, _, _, _, hc⟩ := hc
        split at hc
        · cases hc
        · simp only [Option.bind_eq_some_iff, Option.map_eq_some_iff] at hc
          obtain ⟨_, _, _, _, rfl⟩ := hc
          simp [pureOp] at h
      · simp only [Option.bind_eq_some_iff] at hc
        obtain ⟨e, _, m, _, z, _, hc⟩ := hc
        split at hc
        · simp only [Option.map_eq_some_iff] at hc
          obtain ⟨_, _, rfl⟩ := hc
          simp [pureOp] at h
        · cases hc
      · simp only [Option.bind_eq_some_iff, Option.map_eq_some_iff] at hc
        obtain ⟨x', hx', y', hy', rfl⟩ := hc
        obtain ⟨q, h1, h2⟩ := max_run (P := P) (w := w) (ts := ats.toArray) (ty := ty) (ev_rep hs hx') (ev_rep hs hy') h
        exact ⟨q, by simp [execOp, resolve, invoke, builtin, h1], h2⟩
      · simp only [Option.bind_eq_some_iff, Option.map_eq_some_iff] at hc
        obtain ⟨x', hx', y', hy', rfl⟩ := hc
        obtain ⟨q, h1, h2⟩ := min_run (P := P) (w := w) (ts := ats.toArray) (ty := ty) (ev_rep hs hx') (ev_rep hs hy') h
        exact ⟨q, by simp [execOp, resolve, invoke, builtin, h1], h2⟩
      · cases hc
  | buildSlice t len parts =>
    simp only [ccOp, Option.bind_eq_some_iff] at hc
    obtain ⟨e, _, m, _, z, _, hc⟩ := hc
    split at hc
    · simp only [Option.map_eq_some_iff] at hc
      obtain ⟨_, _, rfl⟩ := hc
      simp [pureOp] at h
    · cases hc
  | makeSlice t l c =>
    simp only [ccOp, Option.bind_eq_some_iff] at hc
    obtain ⟨e, _, m, _, b, _, z, _, hc⟩ := hc
    split at hc
    · simp only [Option.bind_eq_some_iff, Option.map_eq_some_iff] at hc
      obtain ⟨_, _, _, _, rfl⟩ := hc
      simp [pureOp] at h
    · cases hc
  | store t x v =>
    simp only [ccOp, Option.bind_eq_some_iff, Option.map_eq_some_iff] at hc
    obtain ⟨_, _, _, _, _, _, rfl⟩ := hc
    simp [pureOp] at h
  | alloc t =>
    simp only [ccOp, Option.map_eq_some_iff] at hc
    obtain ⟨_, _, rfl⟩ := hc
    simp [pureOp] at h
  | box t x =>
    simp only [ccOp, Option.bind_eq_some_iff, Option.map_eq_some_iff] at hc
    obtain ⟨_, _, _, _, rfl⟩ := hc
    simp [pureOp] at h
  | _ => simp [ccOp] at hc

end Go.Proofs.YtllahdjejcideaaAi
