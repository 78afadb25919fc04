/- Every operation does what its condition says. -/
import Derived.Test.YtllahdjejcideaaAiO
namespace Go.Proofs.YtllahdjejcideaaAi
open Go Go.RowKit
set_option linter.unusedVariables false
set_option linter.unusedSimpArgs false

variable {P : Program} {S : Spec} {σ : Sg} {w : World}

theorem st_run {B : Nat → Prop} {w0 : World} {A : AHeap} (h : Sim B σ A w) (hb : Keeps B w0 w) {p x : AV} {pv v : Value} (hp : Rep σ p pv) (hx : Rep σ x v) (hso : x.solid = true) {A' : AHeap} (hA : stA A p x.cells = some A')
    {t : TypeId} {n : Nat} (hn : szT P t = some n) (hl : x.cells.length = n) :
    ∃ w', (Instr.storeAt t pv v).run P w = .ok () w' ∧ Sim B σ A' w' ∧ Keeps B w0 w' := by
  have hvl : v.cells.size = n := by rw [← hx.cells_length hso, hl]
  have hgo : ∀ (ad : Addr) (w' : World), (storeCells ad v.cells.toList).run P w = .ok () w' → (Instr.storeAt t (.pointer (some ad)) v).run P w = .ok () w' := by
    intro ad w' hst
    have hsz : (sizeOf t).run P w = .ok n w := run_sizeOf hn w
    simp [Instr.storeAt, Instr.sureAddr, storeVar, hsz, hvl, hst]
  cases hp <;> simp only [stA] at hA <;> first | (cases hA; done) | skip
  · rename_i b off c sz hnm
    obtain ⟨old, ho, hA⟩ := Option.bind_eq_some_iff.1 hA
    split at hA
    · rename_i hfit
      obtain rfl := Option.some.inj hA
      obtain ⟨w', h1, h2, h3⟩ := store_run (P := P) h hb ho hnm (hx.cells hso) (hx.cells_one hso) hfit
      exact ⟨w', hgo _ _ h1, h2, h3⟩
    · cases hA
  · rename_i b e o m tt i off c sz hnm
    split at hA
    · rename_i hio
      obtain ⟨old, ho, hA⟩ := Option.bind_eq_some_iff.1 hA
      split at hA
      · rename_i hfit
        obtain rfl := Option.some.inj hA
        obtain ⟨w', h1, h2, h3⟩ := store_run (P := P) h hb ho hnm (hx.cells hso) (hx.cells_one hso) hfit
        exact ⟨w', hgo _ _ h1, h2, h3⟩
      · cases hA
    · cases hA

theorem wp_value {o : Oper} {a : Act} {next : Act → World → Prop} {Q : Exit → Act → World → Prop} {q : Value} {w' : World} (h : (execOp a.eval o).run P w = .ok (.value q) w') (hn : next (a.put o.dst q) w') : o.wp P a w next Q := by
  unfold Oper.wp
  rw [h]
  exact hn

theorem wp_skipped {o : Oper} {a : Act} {next : Act → World → Prop} {Q : Exit → Act → World → Prop} {w' : World} (h : (execOp a.eval o).run P w = .ok .skip w') (hn : next (a.put o.dst undef) w') : o.wp P a w next Q := by
  unfold Oper.wp
  rw [h]
  exact hn

theorem value_run' {x : Sem Value} {q : Value} {w' : World} (h : x.run P w = .ok q w') : (do pure (Next.value (← x)) : Sem Next).run P w = .ok (.value q) w' := by simp [h]

theorem callFunc_enters {f : FuncId} (h : Enters P f) (args : Array Value) : (callFunc f args).run P w = .ok (.enter f args) w := by
  obtain ⟨fn, h1, h2, h3⟩ := h
  have h2' : ¬ fn.name = "runtime.NumGoroutine" := by simpa using h2
  have h3' : ¬ fn.body = none := fun e => by rw [e] at h3; cases h3
  simp [callFunc, h1, h2', h3']

theorem call_sound {B : Nat → Prop} {n : Nat} {w0 : World} {s : St} {a : Act} (hs : SimSt B w0 n σ s a w) {o : Oper} {g : Opd} {as : List Opd} {f : Operand} {args : Array Operand} {ats : Array TypeId}
    (ho : o.op = .call { callee := .value f, args := args, argTypes := ats }) (hf : ccOpd f = some g) (ha : ccOpds args = some as) {fid : FuncId} {caps : List AV} (hg : s.ev g = .fn fid caps) {K : AV → AHeap → Prop}
    (hT : T P fid (as.map s.ev ++ caps) s.A K) {next : Act → World → Prop} {Q : Exit → Act → World → Prop}
    (hn : ∀ r A' q w', K r A' → Step B w0 σ A' r q w' → next (a.put o.dst q) w') : o.wp P a w next Q := by
  have hr := ev_rep hs hf
  rw [hg] at hr
  have has := evs_rep hs ha
  obtain ⟨he, hT⟩ := hT
  generalize hv : a.eval f = fv at hr
  cases hr with
  | fn f' caps' vs hl hr' =>
    have hexec : (execOp a.eval o).run P w = .ok (.enter fid ((args.map a.eval) ++ vs.toArray)) w := by
      unfold execOp
      rw [ho]
      simp [resolve, hv, Deferred.ofValue, invoke, callFunc_enters he]
    unfold Oper.wp
    rw [hexec, Oper.upon_enter]
    have hcall := hT B w0 σ w (args.toList.map a.eval ++ vs) hs.below hs.sim (has.append ⟨hl, hr'⟩)
    have hargs : (args.toList.map a.eval ++ vs).toArray = args.map a.eval ++ vs.toArray := by
      apply Array.ext'; simp
    rw [hargs] at hcall
    refine hcall.mono fun e w' ⟨r, A', v, σ', he, hK, hle, hsim, hrep, hb⟩ => ?_
    subst he
    exact hn r A' v w' hK ⟨σ', hle, hsim, hrep, hb⟩

theorem builtin_run {o : Oper} {a : Act} {b : Go.Builtin} {args : Array Operand} {ats : Array TypeId} (ho : o.op = .call { callee := .builtin b, args := args, argTypes := ats }) :
    execOp a.eval o = builtin b ats o.type (args.map fun | .const _ => true | _ => false) (args.map a.eval) := by
  unfold execOp
  rw [ho]
  rfl

theorem op_sound (hS : Quiet P S) {q : FuncId → Nat} {B : Nat → Prop} {n : Nat} {w0 : World} {s : St} {a : Act} (hs : SimSt B w0 n σ s a w) {o : Oper} {op0 : AOp} (hc : ccOp P o.op = some op0) {K : AV → AHeap → Prop} (hK : opW P S s (quietOp q op0) K)
    {next : Act → World → Prop} {Q : Exit → Act → World → Prop} (hn : ∀ r A' v w', K r A' → Step B w0 σ A' r v w' → next (a.put o.dst v) w') : o.wp P a w next Q := by
  by_cases hp : isSp op0 = false
  · rw [nqSp (fun f caps args e => by rw [e] at hp; cases hp)] at hK
    obtain ⟨r, hr, hK⟩ := opW_pure hp hK
    obtain ⟨v, h1, h2⟩ := pure_sound hs hc hr
    exact wp_value h1 (hn r s.A v w hK ⟨σ, .refl σ, hs.sim, h2, hs.below⟩)
  · have hp : isSp op0 = true := by simpa using hp
    have hsp := cc_sp hc hp
    obtain ⟨dst, op, ty, pos, after, guard⟩ := o
    simp only at hc
    cases op with
    | binOp op t x y yt =>
      have he : isEq op0 = true := by
        by_cases he : isEq op0 = true
        · exact he
        · exfalso
          simp only [ccOp] at hc
          repeat' first
            | refine map_sp (p := fun o => isSp o && !isEq o) hc (fun _ => rfl) (by simp [hp, he])
            | refine bind_sp hc fun _ hc => ?_
            | (cases hc; done)
            | (simp only [Option.some.injEq] at hc; subst hc; first | (cases hp; done) | exact he rfl)
            | contradiction
            | split at hc
      rw [nqSp (fun f caps args e => by rw [e] at he; cases he)] at hK
      obtain ⟨r, v, h1, h2, h3⟩ := eqn_sound hs (o := ⟨dst, .binOp op t x y yt, ty, pos, after, guard⟩) hc he hK
      exact wp_value h1 (hn r s.A v w h3 ⟨σ, .refl σ, hs.sim, h2, hs.below⟩)
    | store t x v =>
      simp only [ccOp, Option.bind_eq_some_iff, Option.map_eq_some_iff] at hc
      obtain ⟨sz, hsz, x', hx', v', hv', rfl⟩ := hc
      simp only [quietOp, opW] at hK
      replace hK := optW_iff.1 hK
      obtain ⟨A', hA, hK⟩ := hK
      unfold stG at hA
      split at hA
      · rename_i hl
        obtain ⟨w', h1, h2, h3⟩ := st_run (P := P) hs.sim hs.below (ev_rep hs hx') (ev_rep hs hv') hl.2 hA hsz hl.1
        refine wp_skipped (w' := w') ?_ (hn _ A' undef w' hK ⟨σ, .refl σ, h2, rep_undef σ, h3⟩)
        simp [execOp, h1]
      · cases hA
    | alloc t =>
      simp only [ccOp, Option.map_eq_some_iff] at hc
      obtain ⟨z, hz, rfl⟩ := hc
      simp only [quietOp, opW] at hK
      obtain ⟨w', h1, h3⟩ := alloc_run (P := P) hs.sim hs.below hz (.tuple #[])
      refine wp_value (w' := w') ?_ (hn _ _ _ w' hK h3)
      simp [execOp, h1]
    | box t x =>
      simp only [ccOp, Option.bind_eq_some_iff, Option.map_eq_some_iff] at hc
      obtain ⟨sz, hsz, x', hx', rfl⟩ := hc
      simp only [quietOp, opW] at hK
      obtain ⟨w', h1, h3⟩ := box_run (P := P) hs.sim hs.below (t := t) (ev_rep hs hx') hK.1
      refine wp_value (w' := w') ?_ (hn _ _ _ w' hK.2 h3)
      simp [execOp, h1]
    | buildSlice t len parts =>
      simp only [ccOp, Option.bind_eq_some_iff] at hc
      obtain ⟨e, he, m, hm, z, hz, hc⟩ := hc
      split at hc
      · rename_i hl
        obtain ⟨ps, hps, rfl⟩ := Option.map_eq_some_iff.1 hc
        simp only [quietOp, opW] at hK
        replace hK := optW_iff.1 hK
        obtain ⟨cs, hcs, hK⟩ := hK
        obtain ⟨w', h1, h3⟩ := bsl_run (P := P) hs he hm hz hl.1 hl.2.1 hl.2.2 hps hcs
        have hex : (execOp a.eval ⟨dst, .buildSlice t len parts, ty, pos, after, guard⟩).run P w = .ok (.value (.slice (some ⟨w.heap.size, 0, none⟩) len len)) w' := by
          simp only [execOp]
          exact value_run' h1
        by_cases h0 : len = 0
        · subst h0
          rw [beq_self_eq_true, brW_true] at hK
          refine wp_value hex (hn _ _ _ w' hK ?_)
          obtain ⟨σ', k1, k2, k3, k4⟩ := h3
          exact ⟨σ', k1, k2, .slnil _ _ _ (fun _ => rfl) (Nat.zero_le _) (fun h => by cases h), k4⟩
        · rw [beq_eq_false_iff_ne.2 h0, brW_false] at hK
          exact wp_value hex (hn _ _ _ w' hK h3)
      · cases hc
    | makeSlice t l c =>
      simp only [ccOp, Option.bind_eq_some_iff] at hc
      obtain ⟨e, he, m, hm, by_, hby, z, hz, hc⟩ := hc
      split at hc
      · rename_i hl
        simp only [Option.bind_eq_some_iff, Option.map_eq_some_iff] at hc
        obtain ⟨l', hl', c', hc', rfl⟩ := hc
        simp only [quietOp, opW] at hK
        replace hK := optW_iff.1 hK
        obtain ⟨p, hp2, hK⟩ := hK
        unfold intsA at hp2
        split at hp2
        · rename_i k i k' i' e1 e2
          obtain rfl := Option.some.inj hp2
          simp only at hK
          obtain ⟨h0, rfl, hm1, hK⟩ := hK
          have r1 := ev_rep hs hl'
          have r2 := ev_rep hs hc'
          rw [e1] at r1
          rw [e2] at r2
          have v1 : a.eval l = .int k i := by generalize a.eval l = v at r1; cases r1; rfl
          have v2 : a.eval c = .int k' i := by generalize a.eval c = v at r2; cases r2; rfl
          obtain ⟨w', h1, h3⟩ := mks_run (P := P) (k := k) (k' := k') hs.sim hs.below he hm hby hz hl h0 hm1
          refine wp_value (w' := w') ?_ (hn _ _ _ w' hK h3)
          simp only [execOp, v1, v2]
          exact value_run' h1
        · cases hp2
      · cases hc
    | call c =>
      obtain ⟨callee, args, ats⟩ := c
      cases callee with
      | value f =>
        simp only [ccOp, Option.bind_eq_some_iff, Option.map_eq_some_iff] at hc
        obtain ⟨f', hf', as, has, rfl⟩ := hc
        have plain : opW P S s (.call f' as) K → Oper.wp P ⟨dst, .call { callee := .value f, args := args, argTypes := ats }, ty, pos, after, guard⟩ a w next Q := by
          intro hK
          simp only [opW] at hK
          replace hK := optW_iff.1 hK
          obtain ⟨p, hp2, hK⟩ := hK
          cases hg : s.ev f' <;> simp only [hg, calleeOf] at hp2 <;> first | (cases hp2; done) | skip
          obtain rfl := Option.some.inj hp2
          exact call_sound hs rfl hf' has hg hK hn
        unfold quietOp at hK
        split at hK
        · rename_i fid caps args' e
          cases e
          split at hK
          · simp only [opW] at hK
            replace hK := optW_iff.1 hK
            obtain ⟨r, hr, hK⟩ := hK
            obtain ⟨p, hp2, hr⟩ := Option.bind_eq_some_iff.1 hr
            cases hg : s.ev (.c (.fn fid caps)) <;> simp only [hg, calleeOf] at hp2 <;> first | (cases hp2; done) | skip
            obtain rfl := Option.some.inj hp2
            exact call_sound hs rfl hf' has hg ((hS.q _ _ _ hr s.A).loose.mono (R' := K) (fun r' A' ⟨e1, e2⟩ => by rw [e1, e2]; exact hK)) hn
          · split at hK
            · simp only [opW] at hK
              replace hK := optW_iff.1 hK
              obtain ⟨r, hr, hK⟩ := hK
              obtain ⟨p, hp2, hr⟩ := Option.bind_eq_some_iff.1 hr
              cases hg : s.ev (.c (.fn fid caps)) <;> simp only [hg, calleeOf] at hp2 <;> first | (cases hp2; done) | skip
              obtain rfl := Option.some.inj hp2
              exact call_sound hs rfl hf' has hg ((hS.e _ _ _ r.1 r.2 hr).loose.mono (R' := K) (fun r' A' ⟨e1, e2⟩ => by rw [e1, e2]; exact hK.2)) hn
            · exact plain hK
        · exact plain hK
      | invoke r m => simp [ccOp] at hc
      | builtin b =>
        have hrun := builtin_run (o := ⟨dst, .call { callee := .builtin b, args := args, argTypes := ats }, ty, pos, after, guard⟩) (a := a) rfl
        obtain ⟨args⟩ := args
        obtain ⟨ats⟩ := ats
        simp only [ccOp] at hc
        have ex : ∀ {v : Value} {w' : World}, (execOp a.eval ⟨dst, .call { callee := .builtin b, args := ⟨args⟩, argTypes := ⟨ats⟩ }, ty, pos, after, guard⟩).run P w = .ok (.value v) w' → ∀ r A', K r A' → Step B w0 σ A' r v w' → Oper.wp P ⟨dst, .call { callee := .builtin b, args := ⟨args⟩, argTypes := ⟨ats⟩ }, ty, pos, after, guard⟩ a w next Q :=
          fun h1 r A' hk h3 => wp_value h1 (hn r A' _ _ hk h3)
        split at hc
        · exfalso
          repeat' first
            | refine map_sp (p := isSp) hc (fun _ => rfl) hp
            | (cases hc; done)
            | split at hc
        · rename_i x1 x2 t u
          simp only [Option.bind_eq_some_iff] at hc
          obtain ⟨e, he, e', he', m, hm, by_, hby, z, hz, hc⟩ := hc
          split at hc
          · rename_i hl
            simp only [Option.bind_eq_some_iff, Option.map_eq_some_iff] at hc
            obtain ⟨y1, hy1, y2, hy2, rfl⟩ := hc
            simp only [quietOp, opW] at hK
            · replace hK := optW_iff.1 hK
              obtain ⟨ys, e1, hK⟩ := hK
              replace hK := optW_iff.1 hK
              obtain ⟨mm, e2, hK⟩ := hK
              obtain ⟨r, A', q', w', k1, k2, k3⟩ := app_run (P := P) (ty := ty) hs.sim hs.below (elT_spec he) (elT_spec he') hm (Nat.pos_of_ne_zero hl.2) hby hz hl.1 (ev_rep hs hy1) (ev_rep hs hy2) e1 e2 hK
              refine ex ?_ r A' k2 k3
              rw [hrun]
              simp [builtin, k1]
          · cases hc
        · rename_i x1 x2 t u
          simp only [Option.bind_eq_some_iff] at hc
          obtain ⟨e, he, e', he', m, hm, hc⟩ := hc
          split at hc
          · cases hc
          · rename_i hm0
            simp only [Option.bind_eq_some_iff, Option.map_eq_some_iff] at hc
            obtain ⟨y1, hy1, y2, hy2, rfl⟩ := hc
            simp only [quietOp, opW] at hK
            have hr := ev_rep hs hy1
            replace hK := optW_iff.1 hK
            obtain ⟨ys, hs1, hK⟩ := hK
            replace hK := optW_iff.1 hK
            obtain ⟨mm, hs2, hK⟩ := hK
            replace hK := optW_iff.1 hK
            obtain ⟨pp, hpp, hK⟩ := hK
            unfold cpyG at hpp
            split at hpp
            · rename_i bb e1 o1 n1 tt hv
              rw [hv] at hr
              split at hpp
              · rename_i hee
                subst hee
                obtain ⟨cs, hcs, hpp⟩ := Option.bind_eq_some_iff.1 hpp
                split at hpp
                · rename_i hfit
                  obtain rfl := Option.some.inj hpp
                  obtain ⟨w', k1, k2⟩ := cpy_run (P := P) (t := t) (u := u) (ty := ty) hs.sim hs.below (elT_spec he) hm (Nat.pos_of_ne_zero hm0) hr (ev_rep hs hy2) hs1 hs2 hcs hfit
                  refine ex ?_ _ _ hK k2
                  rw [hrun]
                  simp [builtin, k1]
                · cases hpp
              · cases hpp
            · cases hpp
        · rename_i x1 t
          simp only [Option.bind_eq_some_iff] at hc
          obtain ⟨e, he, m, hm, z, hz, hc⟩ := hc
          split at hc
          · rename_i hl
            simp only [Option.map_eq_some_iff] at hc
            obtain ⟨y1, hy1, rfl⟩ := hc
            simp only [quietOp, opW] at hK
            have hr := ev_rep hs hy1
            replace hK := optW_iff.1 hK
            obtain ⟨A', hA, hK⟩ := hK
            unfold clrG at hA
            split at hA
            · rename_i bb e1 o1 n1 tt hv
              rw [hv] at hr
              split at hA
              · rename_i hee
                subst hee
                obtain ⟨cs, hcs, hA⟩ := Option.bind_eq_some_iff.1 hA
                split at hA
                · rename_i hfit
                  obtain rfl := Option.some.inj hA
                  obtain ⟨w', k1, k2⟩ := clr_run (P := P) (ty := ty) hs.sim hs.below (elT_spec he) hm hz hl hr hcs hfit
                  refine ex ?_ _ _ hK k2
                  rw [hrun]
                  simp [builtin, k1]
                · cases hA
              · cases hA
            · rename_i tt hv
              obtain rfl := Option.some.inj hA
              rw [hv] at hr
              have hk : ∃ ad cap, a.eval x1 = .slice ad 0 cap := by
                generalize a.eval x1 = v at hr
                cases hr
                · exact ⟨_, _, rfl⟩
                · exact ⟨_, _, rfl⟩
              obtain ⟨ad, cap, hv1⟩ := hk
              refine ex (v := .tuple #[]) (w' := w) ?_ _ _ hK ⟨σ, .refl σ, hs.sim, rep_undef σ, hs.below⟩
              rw [hrun]
              cases ad <;> simp [builtin, hv1, Builtin.clear_, run_underlying (elT_spec he)]
            · cases hA
          · cases hc
        · exfalso
          repeat' first
            | refine map_sp (p := isSp) hc (fun _ => rfl) hp
            | refine bind_sp hc fun _ hc => ?_
            | (cases hc; done)
        · exfalso
          repeat' first
            | refine map_sp (p := isSp) hc (fun _ => rfl) hp
            | refine bind_sp hc fun _ hc => ?_
            | (cases hc; done)
        · cases hc
    | _ => cases hsp

end Go.Proofs.YtllahdjejcideaaAi
