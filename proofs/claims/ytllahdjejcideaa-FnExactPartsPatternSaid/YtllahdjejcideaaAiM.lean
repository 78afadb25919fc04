/- append, copy, clear. -/
import Derived.Test.YtllahdjejcideaaAiL
namespace Go.Proofs.YtllahdjejcideaaAi
open Go Go.RowKit
set_option linter.unusedVariables false
set_option linter.unusedSimpArgs false

variable {P : Program} {σ : Sg} {w : World}

theorem app_room {t u ty e e' : TypeId} (hu : P.underlying t = some (.slice e)) (hu' : P.underlying u = some (.slice e')) {esz : Nat} (hn : szT P e = some esz) {base : Option Addr} {sLen sCap m : Nat} {q : Value} {us : List Value}
    (hlen : ∀ w' : World, (Builtin.lenOf q).run P w' = .ok m w') (hf : (Builtin.firstCells esz m q).run P w = .ok us.toArray w) (hroom : sLen + m ≤ sCap) {w' : World}
    (hst : ∀ a, base = some a → (storeCells (a.add (sLen * esz)) us).run P w = .ok () w') (hnone : base = none → w' = w) :
    (Builtin.append_ #[t, u] ty #[.slice base sLen sCap, q]).run P w = .ok (.slice base (sLen + m) sCap) w' := by
  have hsz : ∀ w'', (sizeOf e).run P w'' = .ok esz w'' := fun w'' => run_sizeOf hn w''
  cases base with
  | none =>
    obtain rfl := hnone rfl
    simp [Builtin.append_, run_underlying hu, run_underlying hu', hsz, hlen, hroom, hf]
  | some a =>
    have := hst a rfl
    simp [Builtin.append_, run_underlying hu, run_underlying hu', hsz, hlen, hroom, hf, this]

theorem app_grow {t u ty e e' : TypeId} (hu : P.underlying t = some (.slice e)) (hu' : P.underlying u = some (.slice e')) {esz bytes : Nat} (hn : szT P e = some esz) (hby : byT P e = some bytes) {z : Value} (hz : ∀ w, (zeroValue e).run P w = .ok z w) (hzc : z.cells.size = esz)
    {base : Option Addr} {sLen sCap m : Nat} {q : Value} {us olds : List Value}
    (hlen : ∀ w' : World, (Builtin.lenOf q).run P w' = .ok m w') (hf : ∀ w' : World, w'.heap = w.heap → (Builtin.firstCells esz m q).run P w' = .ok us.toArray w')
    (ho : ∀ w' : World, w'.heap = w.heap → (Builtin.firstCells esz sLen (.slice base sLen sCap)).run P w' = .ok olds.toArray w')
    (hno : ¬ sLen + m ≤ sCap) (hfit : (sLen + m) * (bytes + 1) ≤ mostBytes) :
    ∃ cap : Nat, sLen + m ≤ cap ∧ cap ≤ maxLen ∧ (Builtin.append_ #[t, u] ty #[.slice base sLen sCap, q]).run P w =
      .ok (.slice (some ⟨w.heap.size, 0, none⟩) (sLen + m) cap) (w.drew.alloc (.cells (olds.toArray ++ us.toArray ++ Builtin.zeroCells z.cells (cap - (sLen + m))) e)) := by
  obtain ⟨i, hi, his⟩ := Option.map_eq_some_iff.1 hn
  obtain ⟨i', hi', hib⟩ := Option.map_eq_some_iff.1 hby
  rw [hi] at hi'
  obtain rfl := Option.some.inj hi'
  rw [Nat.mul_add, Nat.mul_one] at hfit
  have hmost : mostBytes = 140737488355328 := rfl
  have hsmall : sLen + m ≤ 140737488355328 := by omega
  have hb2 : (sLen + m) * i.bytes ≤ 140737488355328 := by rw [hib]; omega
  refine ⟨grownCap w (sLen + m) sCap e, grownCap_ge .., grownCap_le_maxLen _ _ _ _ (by simp only [maxLen]; omega), ?_⟩
  have h63' : ¬ (9223372036854775807 < ((sLen : Int) + (m : Int))) := by omega
  have h48 := growslice_fits (need := sLen + m) (old := sCap) (bytes := i.bytes) (by omega) hb2
  have h48' : ¬ (281474976710656 < Builtin.nextslicecap (sLen + m) sCap * i.bytes) := by omega
  have hf' := hf w.drew rfl
  have ho' := ho w.drew rfl
  have hsz : ∀ w'', (sizeOf e).run P w'' = .ok esz w'' := fun w'' => run_sizeOf hn w''
  have hti : ∀ w'', (typeInfo e).run P w'' = .ok i w'' := fun w'' => by simp [typeInfo, hi]
  have hmax : IntKind.i64.max = 9223372036854775807 := rfl
  simp [Builtin.append_, run_underlying hu, run_underlying hu', hsz, hlen, hno, hti, h63', h48', ho', hf', hz, newRow, Question.forced, grownCap]
  congr 2
  apply Array.ext'
  simp [List.append_assoc]

theorem zeroCells_size (z : Array Value) (n : Nat) : (Builtin.zeroCells z n).size = n * z.size := by simp [Builtin.zeroCells]

theorem grow_step {B : Nat → Prop} {w0 : World} {A : AHeap} (h : Sim B σ A w) (hb : Keeps B w0 w) {t u ty e e' : TypeId} (hu : P.underlying t = some (.slice e)) (hu' : P.underlying u = some (.slice e')) {esz bytes : Nat} (hn : szT P e = some esz) (hby : byT P e = some bytes)
    {z : List AV} (hz : zeroT P e = some z) (hzl : z.length = esz) {base : Option Addr} {sLen sCap m : Nat} {q : Value} {us olds : List Value} {os ys : List AV}
    (hos : RepL σ os olds) (hos1 : ∀ v ∈ olds, v.oneCell' = true) (hol : olds.length = sLen * esz) (hys : RepL σ ys us) (hys1 : ∀ v ∈ us, v.oneCell' = true) (hul : us.length = m * esz)
    (hlen : ∀ w' : World, (Builtin.lenOf q).run P w' = .ok m w') (hf : ∀ w' : World, w'.heap = w.heap → (Builtin.firstCells esz m q).run P w' = .ok us.toArray w')
    (ho : ∀ w' : World, w'.heap = w.heap → (Builtin.firstCells esz sLen (.slice base sLen sCap)).run P w' = .ok olds.toArray w')
    (hno : ¬ sLen + m ≤ sCap) (hfit : (sLen + m) * (bytes + 1) ≤ mostBytes) :
    ∃ q' w', (Builtin.append_ #[t, u] ty #[.slice base sLen sCap, q]).run P w = .ok q' w' ∧
      Step B w0 σ (A.push (os ++ ys)) (.ref A.n esz 0 (sLen + m) .full) q' w' := by
  obtain ⟨zv, hzv, hzr, _⟩ := zeroT_run (σ := σ) hz
  have hzc : zv.cells.size = esz := by have := hzr.1; simp at this; omega
  obtain ⟨cap, hc1, hc2, hrun⟩ := app_grow (w := w) hu hu' hn hby hzv hzc (ty := ty) (base := base) hlen hf ho hno hfit
  have hs' : Sim B σ A w.drew := h.drew
  have hb' : Keeps B w0 w.drew := hb.trans ⟨rfl, rfl, rfl, Nat.le_refl _, fun i hi => rfl⟩
  have hsz : (olds.toArray ++ us.toArray ++ Builtin.zeroCells zv.cells (cap - (sLen + m))).size = cap * esz := by
    rw [Array.size_append, zeroCells_size, hzc]
    simp [hol, hul]
    rw [← Nat.add_mul, ← Nat.add_mul]
    congr 1
    omega
  have hlist : (os ++ ys).length = (sLen + m) * esz := by
    rw [List.length_append, hos.1, hys.1, hol, hul, Nat.add_mul]
  have hle : (sLen + m) * esz ≤ cap * esz := Nat.mul_le_mul_right _ hc1
  obtain ⟨σ', k1, k2, k3, k4⟩ := new_step hs' hb' (olds.toArray ++ us.toArray ++ Builtin.zeroCells zv.cells (cap - (sLen + m))) e (os ++ ys) (by omega)
    (cells_of (hos.append hys) (fun v hv => (List.mem_append.1 hv).elim (hos1 v) (hys1 v)) _ (fun j v hv => by
      have hlt := (List.getElem?_eq_some_iff.1 hv).1
      rw [Array.getElem?_append_left (by simpa using hlt)]
      simpa using hv))
  refine ⟨_, _, hrun, σ', k1, k2, ?_, k3⟩
  exact .ref _ _ _ _ _ _ _ w.heap.size (cap * esz) hc1 hc2 (fun h => by cases h) (fun _ => by simp) (by rw [k4, hsz]; rfl) (by simp) (fun _ => by simp)

theorem add_off (b o k : Nat) : (⟨b, o, none⟩ : Addr).add k = ⟨b, o + k, none⟩ := add_plain b o k

/-- Cells are stored into an object, also behind what is known of it. -/
theorem store_past {B : Nat → Prop} {w0 : World} {A : AHeap} (h : Sim B σ A w) (hb0 : Keeps B w0 w) {b off c sz : Nat} {cs xs : List AV} {vs : List Value} (hb : A b = some cs) (hsz : σ.nm b = some (c, sz)) (hx : RepL σ xs vs) (h1 : ∀ v ∈ vs, v.oneCell' = true) (hoff : off ≤ cs.length) (hfit : off + xs.length ≤ sz) :
    ∃ w', (storeCells ⟨c, off, none⟩ vs).run P w = .ok () w' ∧ Sim B σ (A.set b (cs.take off ++ xs)) w' ∧ Keeps B w0 w' := by
  obtain ⟨c', cur, e, hn', hB, _, hh, hcl, hr⟩ := h.own b cs hb
  have hlv : xs.length = vs.length := hx.1
  have hn := hsz
  rw [hsz] at hn'
  injection hn' with hn'; injection hn' with e1 hs
  subst e1
  have hst := run_storeCells_at P c off e vs 0 cur w hh (by omega) h1
  simp only [Nat.add_zero] at hst
  refine ⟨_, hst, h.setRow hb hn _ _ (fun c e' fr hc => ?_) ?_ (fun j c hj => ?_), below_row hb0 hB _⟩
  · rw [hh] at hc
    injection hc with hc
    injection hc with hc
    subst hc
    simp; omega
  · simp; omega
  · have hget := spliceV_get cur.toList off vs (by simp; omega) j
    simp only [List.getElem?_toArray, hget]
    have htl : (cs.take off).length = off := by simp; omega
    rcases Nat.lt_or_ge j off with hlt | hge
    · rw [List.getElem?_append_left (by omega), List.getElem?_take, if_pos hlt] at hj
      rw [if_neg (by omega)]
      obtain ⟨v, h2, h3, h4⟩ := hr j c hj
      exact ⟨v, by simpa using h2, h3, h4⟩
    · rw [List.getElem?_append_right (by omega), htl] at hj
      have hlt := (List.getElem?_eq_some_iff.1 hj).1
      rw [if_pos (by omega)]
      have hlt' : j - off < vs.length := by omega
      exact ⟨vs[j - off], List.getElem?_eq_getElem hlt', hx.2 _ _ _ hj (List.getElem?_eq_getElem hlt'), h1 _ (List.getElem_mem hlt')⟩

theorem Rep.refInv {b e o n : Nat} {t : Cp} {v : Value} (h : Rep σ (.ref b e o n t) v) : ∃ (ad : Addr) (cap c sz : Nat), v = .slice (some ad) n cap ∧ n ≤ cap ∧ cap ≤ maxLen ∧ (t = .tight → cap = n) ∧
    (cap ≠ 0 → ad = ⟨c, o * e, none⟩) ∧ σ.nm b = some (c, sz) ∧ (o + cap) * e ≤ sz ∧ (t = .full → (o + cap) * e = sz) := by
  cases h with
  | ref b e o n t ad cap c sz h1 h2 h3 h4 h5 h6 h7 => exact ⟨ad, cap, c, sz, rfl, h1, h2, h3, h4, h5, h6, h7⟩

/-- An object by a new name. -/
theorem Sim.rename {B : Nat → Prop} {A : AHeap} (h : Sim B σ A w) {b c sz : Nat} {cs : List AV} (hb : A b = some cs) (hn : σ.nm b = some (c, sz)) :
    σ.Le (σ.withNm A.n c sz) ∧ Sim B (σ.withNm A.n c sz) ((A.del b).push cs) w := by
  obtain ⟨c', cur, e, hn', hB, hm, hh, hcl, hr⟩ := h.own b cs hb
  rw [hn] at hn'
  injection hn' with hn'; injection hn' with e1 hs
  subst e1
  subst hs
  have := (h.drop (A.del_le b) (A.del_n b)).name hB hm hh hcl hr (fun b' cs' n hb' e' => by
    rw [AHeap.del_at] at hb'
    split at hb'
    · cases hb'
    · rename_i hne
      exact hne (h.inj _ _ _ _ _ _ _ hb' hb e' hn))
  simpa using this

theorem app_run {B : Nat → Prop} {w0 : World} {A : AHeap} (h : Sim B σ A w) (hb : Keeps B w0 w) {t u ty e e' : TypeId} (hu : P.underlying t = some (.slice e)) (hu' : P.underlying u = some (.slice e')) {esz bytes : Nat} (hn : szT P e = some esz) (hpos : 0 < esz) (hby : byT P e = some bytes)
    {z : List AV} (hz : zeroT P e = some z) (hzl : z.length = esz) {x y : AV} {v q : Value} (hx : Rep σ x v) (hy : Rep σ y q) {ys : List AV} (hys : sliceCells A esz y = some ys) {m : Nat} (hm : y.len? = some m) {K : AV → AHeap → Prop} (hK : appW A esz bytes x ys m K) :
    ∃ r A' q' w', (Builtin.append_ #[t, u] ty #[v, q]).run P w = .ok q' w' ∧ K r A' ∧ Step B w0 σ A' r q' w' := by
  obtain ⟨us, hr, h1, hul, hyl, hlen, hf⟩ := src_run (P := P) h hpos hy hys hm
  have hfm : ∀ w' : World, w'.heap = w.heap → (Builtin.firstCells esz m q).run P w' = .ok us.toArray w' := fun w' hw' => by
    have := hf m (Nat.le_refl _) w' hw'
    rwa [← hul, List.take_length] at this
  -- nothing to append
  have hnone : m = 0 → ∀ base sLen sCap, sLen ≤ sCap → (Builtin.append_ #[t, u] ty #[.slice base sLen sCap, q]).run P w = .ok (.slice base sLen sCap) w := by
    intro hm0 base sLen sCap hle
    have hus : us = [] := List.length_eq_zero_iff.1 (by rw [hul, hm0]; simp)
    subst hm0
    subst hus
    exact app_room (ty := ty) (w' := w) hu hu' hn hlen (hfm w rfl) (by omega) (fun a _ => by simp [storeCells]) (fun _ => rfl)
  -- a new object for a slice without room
  have hgrow : ∀ (A' : AHeap), A'.le A → A'.n = A.n → ∀ (os : List AV) (base : Option Addr) (sLen sCap : Nat), sliceCells A esz x = some os → v = .slice base sLen sCap → x.len? = some sLen → sCap < sLen + m → (sLen + m) * (bytes + 1) ≤ mostBytes →
      K (.ref A'.n esz 0 (sLen + m) .full) (A'.push (os ++ ys)) →
      ∃ r A' q' w', (Builtin.append_ #[t, u] ty #[v, q]).run P w = .ok q' w' ∧ K r A' ∧ Step B w0 σ A' r q' w' := by
    intro A' hA' hAn os base sLen sCap hos hv hl hno hfit hK
    obtain ⟨olds, g1, g2, g3, g4, g5, g6⟩ := src_run (P := P) h hpos hx hos hl
    subst hv
    obtain ⟨q', w', k1, k3⟩ := grow_step (ty := ty) (h.drop hA' hAn) hb hu hu' hn hby hz hzl g1 g2 g3 hr h1 hul hlen hfm (fun w' hw' => by
      have := g6 sLen (Nat.le_refl _) w' hw'
      rwa [← g3, List.take_length] at this) (by omega) hfit
    exact ⟨_, _, q', w', k1, hK, k3⟩
  have hif : ∀ {p : Prop} [Decidable p] {x y : Prop} {h : Hold x} {k : Hold y}, brW (decide p) x y h k → (p ∧ x) ∨ (¬ p ∧ y) := by
    intro p _ x y h k hh
    by_cases hp : p
    · rw [decide_eq_true hp, brW_true] at hh; exact .inl ⟨hp, hh⟩
    · rw [decide_eq_false hp, brW_false] at hh; exact .inr ⟨hp, hh⟩
  unfold appW at hK
  split at hK
  · -- a frozen one
    rename_i xs tt
    replace hK := hif hK
    rcases hK with ⟨hm0, hK⟩ | ⟨hm0, hK⟩
    · obtain ⟨base, sLen, sCap, rfl, hle⟩ : ∃ base sLen sCap, v = .slice base sLen sCap ∧ sLen ≤ sCap := by
        cases hx
        · exact ⟨_, _, _, rfl, Nat.zero_le _⟩
        · exact ⟨_, _, _, rfl, by assumption⟩
      exact ⟨_, _, _, _, hnone hm0 _ _ _ hle, hK, σ, .refl σ, h, hx, hb⟩
    · replace hK := optW_iff.1 hK
      obtain ⟨os, hos, hK⟩ := hK
      split at hos
      · rename_i htt
        subst htt
        obtain ⟨base, sCap, rfl, hcap⟩ : ∃ base sCap, v = .slice base xs.length sCap ∧ sCap = xs.length := by
          cases hx
          · exact ⟨_, _, rfl, by simp_all⟩
          · exact ⟨_, _, rfl, by simp_all⟩
        exact hgrow A (AHeap.le.refl A) rfl os base xs.length sCap hos rfl rfl (by omega) hK.1 hK.2
      · cases hos
  · -- an owned one
    rename_i b e2 o n tt
    obtain ⟨ad, cap, c0, sz, rfl, h3, h4, h5, h6, h7, h8, h9⟩ := hx.refInv
    replace hK := hif hK
    rcases hK with ⟨hm0, hK⟩ | ⟨hm0, hK⟩
    · exact ⟨_, _, _, _, hnone hm0 _ _ _ h3, hK, σ, .refl σ, h, .ref _ _ _ _ _ _ _ _ _ h3 h4 h5 h6 h7 h8 h9, hb⟩
    · replace hK := optW_iff.1 hK
      obtain ⟨cs, hcs, hK⟩ := hK
      replace hcs := Option.bind_eq_some_iff.1 hcs
      obtain ⟨_, hee, hcs⟩ := hcs
      replace hK := optW_iff.1 hK
      obtain ⟨_, hfit0, hK⟩ := hK
      simp only [okIf] at hee hfit0
      split at hee
      · rename_i hee'
        obtain rfl := beq_iff_eq.1 hee'
        split at hfit0
        · rename_i hfit0'
          have hfit0 := of_decide_eq_true hfit0'
          have hos : sliceCells A e2 (.ref b e2 o n tt) = some ((cs.drop (o * e2)).take (n * e2)) := by
            simp [sliceCells, hcs, hfit0]
          obtain ⟨_, cur, te, hs, hB, _, hh, hcl, _⟩ := h.own b cs hcs
          rw [h7] at hs
          have hszc : sz = cur.size := by injection hs with hs; injection hs
          split at hK
          · replace hK := hif hK
            rcases hK with ⟨hin, hK⟩ | ⟨hin, hK⟩
            · have h9' := h9 rfl
              have hnm : n + m ≤ cap := by
                have : (o + n + m) * e2 ≤ (o + cap) * e2 := by omega
                have := Nat.le_of_mul_le_mul_right this hpos
                omega
              have hcap0 : cap ≠ 0 := by omega
              have had := h6 hcap0
              subst had
              obtain ⟨w', s1, s2, s3⟩ := store_run h hb (off := (o + n) * e2) hcs h7 hr h1 (by rw [hyl, ← Nat.add_mul]; exact hin)
              refine ⟨_, _, _, _, app_room (ty := ty) hu hu' hn hlen (hfm w rfl) hnm (w' := w') (fun a ha => ?_) (fun hc => by cases hc), hK, σ, .refl σ, s2, ?_, s3⟩
              · cases ha
                rw [add_off, ← Nat.add_mul]
                exact s1
              · exact .ref _ _ _ _ _ _ _ _ _ hnm h4 (fun h => by cases h) h6 h7 h8 h9
            · replace hK := optW_iff.1 hK
              obtain ⟨_, ho0, hK⟩ := hK
              simp only [okIf] at ho0
              split at ho0
              · rename_i ho0'
                obtain rfl := beq_iff_eq.1 ho0'
                have h9' := h9 rfl
                by_cases hnm : n + m ≤ cap
                · have hcap0 : cap ≠ 0 := by omega
                  have had := h6 hcap0
                  subst had
                  have hK' := hK.2
                  have hle2 : (n + m) * e2 ≤ cap * e2 := Nat.mul_le_mul_right _ hnm
                  obtain ⟨w', s1, s2, s3⟩ := store_past h hb (off := n * e2) hcs h7 hr h1 (by simpa using hfit0) (by rw [hyl, ← Nat.add_mul]; simp at h9'; omega)
                  obtain ⟨r1, r2⟩ := s2.rename (b := b) (cs := cs.take (n * e2) ++ ys) (by rw [AHeap.set_at, if_pos ⟨rfl, AHeap.lt hcs⟩]) h7
                  have hsd : (A.set b (cs.take (n * e2) ++ ys)).del b = A.del b := AHeap.ext' (by simp [AHeap.set, AHeap.del, hset_hset])
                  rw [hsd, AHeap.set_n] at r2
                  rw [AHeap.set_n] at r1
                  refine ⟨_, _, _, _, app_room (ty := ty) hu hu' hn hlen (hfm w rfl) hnm (w' := w') (fun a ha => ?_) (fun hc => by cases hc), hK', _, r1, r2, ?_, s3⟩
                  · cases ha
                    rw [add_off, ← Nat.add_mul, Nat.zero_add]
                    exact s1
                  · exact .ref _ _ _ _ _ _ _ _ _ hnm h4 (fun h => by cases h) h6 (by simp [Sg.withNm]) h8 h9
                · have hKn := hK.2
                  rw [← A.del_n b] at hKn
                  exact hgrow (A.del b) (AHeap.del_le A b) (A.del_n b) _ (some ad) n cap hos rfl rfl (by omega) hK.1 (by
                    have e0 : (cs.drop (0 * e2)).take (n * e2) = cs.take (n * e2) := by simp
                    rw [e0]
                    exact hKn)
              · cases ho0
          · have := h5 rfl
            exact hgrow A (AHeap.le.refl A) rfl _ (some ad) n cap hos rfl rfl (by omega) hK.1 hK.2
          · cases hK
        · cases hfit0
      · cases hee
  · cases hK

end Go.Proofs.YtllahdjejcideaaAi
