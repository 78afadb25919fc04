/- The framework, merged: M N O P R Q S S2 T U V W X. -/
import Derived.Test.YtlglgcmpeabdnaaGreatDoorAiL
import Derived.WalkSpells
import Derived.Orders
import Derived.ProofKit
import GoSem.ClaimChange
import Derived.KernelRfl
/- append, copy, clear. -/
namespace Go.Proofs.YtlglgcmpeabdnaaGreatDoorAi
open Go Go.RowKit
set_option linter.unusedVariables false
set_option linter.unusedSimpArgs false

variable {P : Program} {σ : Sg} {w : World}

theorem app_room {t u ty e e' : TypeId} (hu : P.underlying t = some (.slice e)) (hu' : P.underlying u = some (.slice e')) {esz : Nat} (hn : szT P e = some esz) {base : Option Addr} {sLen sCap m : Nat} {q : Value} {us : List Value}
    (hlen : ∀ w' : World, (Builtin.lenOf q).run P w' = .ok m w') (hf : (Builtin.firstCells esz m q).run P w = .ok us.toArray w) (hroom : sLen + m ≤ sCap) {w' : World}
    (hst : ∀ a, base = some a → (storeCells (a.add (sLen * esz)) us).run P w = .ok () w') (hnone : base = none → w' = w) :
    (Builtin.append_ #[t, u] ty #[.slice base sLen sCap, q]).run P w = .ok (.slice base (sLen + m) sCap) w' := by
  have hsz : ∀ w'', (sizeOf e).run P w'' = .ok esz w'' := fun w'' => run_sizeOf hn w''
  cases base with
  | none =>
    obtain rfl := hnone rfl
    simp [Builtin.append_, run_underlying hu, run_underlying hu', hsz, hlen, hroom, hf]
  | some a =>
    have := hst a rfl
    simp [Builtin.append_, run_underlying hu, run_underlying hu', hsz, hlen, hroom, hf, this]

theorem app_grow {t u ty e e' : TypeId} (hu : P.underlying t = some (.slice e)) (hu' : P.underlying u = some (.slice e')) {esz bytes : Nat} (hn : szT P e = some esz) (hby : byT P e = some bytes) {z : Value} (hz : ∀ w, (zeroValue e).run P w = .ok z w) (hzc : z.cells.size = esz)
    {base : Option Addr} {sLen sCap m : Nat} {q : Value} {us olds : List Value}
    (hlen : ∀ w' : World, (Builtin.lenOf q).run P w' = .ok m w') (hf : ∀ w' : World, w'.heap = w.heap → (Builtin.firstCells esz m q).run P w' = .ok us.toArray w')
    (ho : ∀ w' : World, w'.heap = w.heap → (Builtin.firstCells esz sLen (.slice base sLen sCap)).run P w' = .ok olds.toArray w')
    (hno : ¬ sLen + m ≤ sCap) (hfit : (sLen + m) * (bytes + 1) ≤ mostBytes) :
    ∃ cap : Nat, sLen + m ≤ cap ∧ cap ≤ maxLen ∧ (Builtin.append_ #[t, u] ty #[.slice base sLen sCap, q]).run P w =
      .ok (.slice (some ⟨w.heap.size, 0, none⟩) (sLen + m) cap) (w.drew.alloc (.cells (olds.toArray ++ us.toArray ++ Builtin.zeroCells z.cells (cap - (sLen + m))) e)) := by
  obtain ⟨i, hi, his⟩ := Option.map_eq_some_iff.1 hn
  obtain ⟨i', hi', hib⟩ := Option.map_eq_some_iff.1 hby
  rw [hi] at hi'
  obtain rfl := Option.some.inj hi'
  rw [Nat.mul_add, Nat.mul_one] at hfit
  have hmost : mostBytes = 140737488355328 := rfl
  have hsmall : sLen + m ≤ 140737488355328 := by omega
  have hb2 : (sLen + m) * i.bytes ≤ 140737488355328 := by rw [hib]; omega
  refine ⟨grownCap w (sLen + m) sCap e, grownCap_ge .., grownCap_le_maxLen _ _ _ _ (by simp only [maxLen]; omega), ?_⟩
  have h63' : ¬ (9223372036854775807 < ((sLen : Int) + (m : Int))) := by omega
  have h48 := growslice_fits (need := sLen + m) (old := sCap) (bytes := i.bytes) (by omega) hb2
  have h48' : ¬ (281474976710656 < Builtin.nextslicecap (sLen + m) sCap * i.bytes) := by omega
  have hf' := hf w.drew rfl
  have ho' := ho w.drew rfl
  have hsz : ∀ w'', (sizeOf e).run P w'' = .ok esz w'' := fun w'' => run_sizeOf hn w''
  have hti : ∀ w'', (typeInfo e).run P w'' = .ok i w'' := fun w'' => by simp [typeInfo, hi]
  have hmax : IntKind.i64.max = 9223372036854775807 := rfl
  simp [Builtin.append_, run_underlying hu, run_underlying hu', hsz, hlen, hno, hti, h63', h48', ho', hf', hz, newRow, Question.forced, grownCap]
  congr 2
  apply Array.ext'
  simp [List.append_assoc]

theorem zeroCells_size (z : Array Value) (n : Nat) : (Builtin.zeroCells z n).size = n * z.size := by simp [Builtin.zeroCells]

theorem grow_step {B : Nat → Prop} {w0 : World} {A : AHeap} (h : Sim B σ A w) (hb : Keeps B w0 w) {t u ty e e' : TypeId} (hu : P.underlying t = some (.slice e)) (hu' : P.underlying u = some (.slice e')) {esz bytes : Nat} (hn : szT P e = some esz) (hby : byT P e = some bytes)
    {z : List AV} (hz : zeroT P e = some z) (hzl : z.length = esz) {base : Option Addr} {sLen sCap m : Nat} {q : Value} {us olds : List Value} {os ys : List AV}
    (hos : RepL σ os olds) (hos1 : ∀ v ∈ olds, v.oneCell' = true) (hol : olds.length = sLen * esz) (hys : RepL σ ys us) (hys1 : ∀ v ∈ us, v.oneCell' = true) (hul : us.length = m * esz)
    (hlen : ∀ w' : World, (Builtin.lenOf q).run P w' = .ok m w') (hf : ∀ w' : World, w'.heap = w.heap → (Builtin.firstCells esz m q).run P w' = .ok us.toArray w')
    (ho : ∀ w' : World, w'.heap = w.heap → (Builtin.firstCells esz sLen (.slice base sLen sCap)).run P w' = .ok olds.toArray w')
    (hno : ¬ sLen + m ≤ sCap) (hfit : (sLen + m) * (bytes + 1) ≤ mostBytes) :
    ∃ q' w', (Builtin.append_ #[t, u] ty #[.slice base sLen sCap, q]).run P w = .ok q' w' ∧
      Step B w0 σ (A.push (os ++ ys)) (.ref A.n esz 0 (sLen + m) .full) q' w' := by
  obtain ⟨zv, hzv, hzr, _⟩ := zeroT_run (σ := σ) hz
  have hzc : zv.cells.size = esz := by have := hzr.1; simp at this; omega
  obtain ⟨cap, hc1, hc2, hrun⟩ := app_grow (w := w) hu hu' hn hby hzv hzc (ty := ty) (base := base) hlen hf ho hno hfit
  have hs' : Sim B σ A w.drew := h.drew
  have hb' : Keeps B w0 w.drew := hb.trans ⟨rfl, rfl, rfl, Nat.le_refl _, fun i hi => rfl⟩
  have hsz : (olds.toArray ++ us.toArray ++ Builtin.zeroCells zv.cells (cap - (sLen + m))).size = cap * esz := by
    rw [Array.size_append, zeroCells_size, hzc]
    simp [hol, hul]
    rw [← Nat.add_mul, ← Nat.add_mul]
    congr 1
    omega
  have hlist : (os ++ ys).length = (sLen + m) * esz := by
    rw [List.length_append, hos.1, hys.1, hol, hul, Nat.add_mul]
  have hle : (sLen + m) * esz ≤ cap * esz := Nat.mul_le_mul_right _ hc1
  obtain ⟨σ', k1, k2, k3, k4⟩ := new_step hs' hb' (olds.toArray ++ us.toArray ++ Builtin.zeroCells zv.cells (cap - (sLen + m))) e (os ++ ys) (by omega)
    (cells_of (hos.append hys) (fun v hv => (List.mem_append.1 hv).elim (hos1 v) (hys1 v)) _ (fun j v hv => by
      have hlt := (List.getElem?_eq_some_iff.1 hv).1
      rw [Array.getElem?_append_left (by simpa using hlt)]
      simpa using hv))
  refine ⟨_, _, hrun, σ', k1, k2, ?_, k3⟩
  exact .ref _ _ _ _ _ _ _ w.heap.size (cap * esz) hc1 hc2 (fun h => by cases h) (fun _ => by simp) (by rw [k4, hsz]; rfl) (by simp) (fun _ => by simp) (fun h => by cases h)

theorem add_off (b o k : Nat) : (⟨b, o, none⟩ : Addr).add k = ⟨b, o + k, none⟩ := add_plain b o k

/-- Cells are stored into an object, also behind what is known of it. -/
theorem store_past {B : Nat → Prop} {w0 : World} {A : AHeap} (h : Sim B σ A w) (hb0 : Keeps B w0 w) {b off c sz : Nat} {cs xs : List AV} {vs : List Value} (hb : A b = some cs) (hsz : σ.nm b = some (c, sz)) (hx : RepL σ xs vs) (h1 : ∀ v ∈ vs, v.oneCell' = true) (hoff : off ≤ cs.length) (hfit : off + xs.length ≤ sz) :
    ∃ w', (storeCells ⟨c, off, none⟩ vs).run P w = .ok () w' ∧ Sim B σ (A.set b (cs.take off ++ xs)) w' ∧ Keeps B w0 w' := by
  obtain ⟨c', cur, e, hn', hB, _, hh, hcl, hr⟩ := h.own b cs hb
  have hlv : xs.length = vs.length := hx.1
  have hn := hsz
  rw [hsz] at hn'
  injection hn' with hn'; injection hn' with e1 hs
  subst e1
  have hst := run_storeCells_at P c off e vs 0 cur w hh (by omega) h1
  simp only [Nat.add_zero] at hst
  refine ⟨_, hst, h.setRow hb hn _ _ (fun c e' fr hc => ?_) ?_ (fun j c hj => ?_), below_row hb0 hB _⟩
  · rw [hh] at hc
    injection hc with hc
    injection hc with hc
    subst hc
    simp; omega
  · simp; omega
  · have hget := spliceV_get cur.toList off vs (by simp; omega) j
    simp only [List.getElem?_toArray, hget]
    have htl : (cs.take off).length = off := by simp; omega
    rcases Nat.lt_or_ge j off with hlt | hge
    · rw [List.getElem?_append_left (by omega), List.getElem?_take, if_pos hlt] at hj
      rw [if_neg (by omega)]
      obtain ⟨v, h2, h3, h4⟩ := hr j c hj
      exact ⟨v, by simpa using h2, h3, h4⟩
    · rw [List.getElem?_append_right (by omega), htl] at hj
      have hlt := (List.getElem?_eq_some_iff.1 hj).1
      rw [if_pos (by omega)]
      have hlt' : j - off < vs.length := by omega
      exact ⟨vs[j - off], List.getElem?_eq_getElem hlt', hx.2 _ _ _ hj (List.getElem?_eq_getElem hlt'), h1 _ (List.getElem_mem hlt')⟩

theorem Rep.refInv {b e o n : Nat} {t : Cp} {v : Value} (h : Rep σ (.ref b e o n t) v) : ∃ (ad : Addr) (cap c sz : Nat), v = .slice (some ad) n cap ∧ n ≤ cap ∧ cap ≤ maxLen ∧ (t = .tight → cap = n) ∧
    (cap ≠ 0 → ad = ⟨c, o * e, none⟩) ∧ σ.nm b = some (c, sz) ∧ (o + cap) * e ≤ sz ∧ (t = .full → (o + cap) * e = sz) ∧ (t = .u8 → (o + cap) * e = sz ∧ σ.ty c = some u8T) := by
  cases h with
  | ref b e o n t ad cap c sz h1 h2 h3 h4 h5 h6 h7 h8 => exact ⟨ad, cap, c, sz, rfl, h1, h2, h3, h4, h5, h6, h7, h8⟩

/-- An object by a new name. -/
theorem Sim.rename {B : Nat → Prop} {A : AHeap} (h : Sim B σ A w) {b c sz : Nat} {cs : List AV} (hb : A b = some cs) (hn : σ.nm b = some (c, sz)) :
    σ.Le (σ.withNm A.n c sz) ∧ Sim B (σ.withNm A.n c sz) ((A.del b).push cs) w := by
  obtain ⟨c', cur, e, hn', hB, hm, hh, hcl, hr⟩ := h.own b cs hb
  rw [hn] at hn'
  injection hn' with hn'; injection hn' with e1 hs
  subst e1
  subst hs
  have := (h.drop (A.del_le b) (A.del_n b)).name hB hm hh hcl hr (fun b' cs' n hb' e' => by
    rw [AHeap.del_at] at hb'
    split at hb'
    · cases hb'
    · rename_i hne
      exact hne (h.inj _ _ _ _ _ _ _ hb' hb e' hn))
  simpa using this

theorem app_run {B : Nat → Prop} {w0 : World} {A : AHeap} (h : Sim B σ A w) (hb : Keeps B w0 w) {t u ty e e' : TypeId} (hu : P.underlying t = some (.slice e)) (hu' : P.underlying u = some (.slice e')) {esz bytes : Nat} (hn : szT P e = some esz) (hpos : 0 < esz) (hby : byT P e = some bytes)
    {z : List AV} (hz : zeroT P e = some z) (hzl : z.length = esz) {x y : AV} {v q : Value} (hx : Rep σ x v) (hy : Rep σ y q) {ys : List AV} (hys : sliceCells A esz y = some ys) {m : Nat} (hm : y.len? = some m) {K : AV → AHeap → Prop} (hK : appW A esz bytes x ys m K) :
    ∃ r A' q' w', (Builtin.append_ #[t, u] ty #[v, q]).run P w = .ok q' w' ∧ K r A' ∧ Step B w0 σ A' r q' w' := by
  obtain ⟨us, hr, h1, hul, hyl, hlen, hf⟩ := src_run (P := P) h hpos hy hys hm
  have hfm : ∀ w' : World, w'.heap = w.heap → (Builtin.firstCells esz m q).run P w' = .ok us.toArray w' := fun w' hw' => by
    have := hf m (Nat.le_refl _) w' hw'
    rwa [← hul, List.take_length] at this
  -- nothing to append
  have hnone : m = 0 → ∀ base sLen sCap, sLen ≤ sCap → (Builtin.append_ #[t, u] ty #[.slice base sLen sCap, q]).run P w = .ok (.slice base sLen sCap) w := by
    intro hm0 base sLen sCap hle
    have hus : us = [] := List.length_eq_zero_iff.1 (by rw [hul, hm0]; simp)
    subst hm0
    subst hus
    exact app_room (ty := ty) (w' := w) hu hu' hn hlen (hfm w rfl) (by omega) (fun a _ => by simp [storeCells]) (fun _ => rfl)
  -- a new object for a slice without room
  have hgrow : ∀ (A' : AHeap), A'.le A → A'.n = A.n → ∀ (os : List AV) (base : Option Addr) (sLen sCap : Nat), sliceCells A esz x = some os → v = .slice base sLen sCap → x.len? = some sLen → sCap < sLen + m → (sLen + m) * (bytes + 1) ≤ mostBytes →
      K (.ref A'.n esz 0 (sLen + m) .full) (A'.push (os ++ ys)) →
      ∃ r A' q' w', (Builtin.append_ #[t, u] ty #[v, q]).run P w = .ok q' w' ∧ K r A' ∧ Step B w0 σ A' r q' w' := by
    intro A' hA' hAn os base sLen sCap hos hv hl hno hfit hK
    obtain ⟨olds, g1, g2, g3, g4, g5, g6⟩ := src_run (P := P) h hpos hx hos hl
    subst hv
    obtain ⟨q', w', k1, k3⟩ := grow_step (ty := ty) (h.drop hA' hAn) hb hu hu' hn hby hz hzl g1 g2 g3 hr h1 hul hlen hfm (fun w' hw' => by
      have := g6 sLen (Nat.le_refl _) w' hw'
      rwa [← g3, List.take_length] at this) (by omega) hfit
    exact ⟨_, _, q', w', k1, hK, k3⟩
  have hif : ∀ {p : Prop} [Decidable p] {x y : Prop} {h : Hold x} {k : Hold y}, brW (decide p) x y h k → (p ∧ x) ∨ (¬ p ∧ y) := by
    intro p _ x y h k hh
    by_cases hp : p
    · rw [decide_eq_true hp, brW_true] at hh; exact .inl ⟨hp, hh⟩
    · rw [decide_eq_false hp, brW_false] at hh; exact .inr ⟨hp, hh⟩
  unfold appW at hK
  split at hK
  · -- a frozen one
    rename_i xs tt
    replace hK := hif hK
    rcases hK with ⟨hm0, hK⟩ | ⟨hm0, hK⟩
    · obtain ⟨base, sLen, sCap, rfl, hle⟩ : ∃ base sLen sCap, v = .slice base sLen sCap ∧ sLen ≤ sCap := by
        cases hx
        · exact ⟨_, _, _, rfl, Nat.zero_le _⟩
        · exact ⟨_, _, _, rfl, by assumption⟩
      exact ⟨_, _, _, _, hnone hm0 _ _ _ hle, hK, σ, .refl σ, h, hx, hb⟩
    · replace hK := optW_iff.1 hK
      obtain ⟨os, hos, hK⟩ := hK
      split at hos
      · rename_i htt
        subst htt
        obtain ⟨base, sCap, rfl, hcap⟩ : ∃ base sCap, v = .slice base xs.length sCap ∧ sCap = xs.length := by
          cases hx
          · exact ⟨_, _, rfl, by simp_all⟩
          · exact ⟨_, _, rfl, by simp_all⟩
        exact hgrow A (AHeap.le.refl A) rfl os base xs.length sCap hos rfl rfl (by omega) hK.1 hK.2
      · cases hos
  · -- an owned one
    rename_i b e2 o n tt
    obtain ⟨ad, cap, c0, sz, rfl, h3, h4, h5, h6, h7, h8, h9, h10⟩ := hx.refInv
    replace hK := hif hK
    rcases hK with ⟨hm0, hK⟩ | ⟨hm0, hK⟩
    · exact ⟨_, _, _, _, hnone hm0 _ _ _ h3, hK, σ, .refl σ, h, .ref _ _ _ _ _ _ _ _ _ h3 h4 h5 h6 h7 h8 h9 h10, hb⟩
    · replace hK := optW_iff.1 hK
      obtain ⟨cs, hcs, hK⟩ := hK
      replace hcs := Option.bind_eq_some_iff.1 hcs
      obtain ⟨_, hee, hcs⟩ := hcs
      replace hK := optW_iff.1 hK
      obtain ⟨_, hfit0, hK⟩ := hK
      simp only [okIf] at hee hfit0
      split at hee
      · rename_i hee'
        obtain rfl := beq_iff_eq.1 hee'
        split at hfit0
        · rename_i hfit0'
          have hfit0 := of_decide_eq_true hfit0'
          have hos : sliceCells A e2 (.ref b e2 o n tt) = some ((cs.drop (o * e2)).take (n * e2)) := by
            simp [sliceCells, hcs, hfit0]
          obtain ⟨_, cur, te, hs, hB, _, hh, hcl, _⟩ := h.own b cs hcs
          rw [h7] at hs
          have hszc : sz = cur.size := by injection hs with hs; injection hs
          split at hK
          · replace hK := hif hK
            rcases hK with ⟨hin, hK⟩ | ⟨hin, hK⟩
            · have h9' := h9 rfl
              have hnm : n + m ≤ cap := by
                have : (o + n + m) * e2 ≤ (o + cap) * e2 := by omega
                have := Nat.le_of_mul_le_mul_right this hpos
                omega
              have hcap0 : cap ≠ 0 := by omega
              have had := h6 hcap0
              subst had
              obtain ⟨w', s1, s2, s3⟩ := store_run h hb (off := (o + n) * e2) hcs h7 hr h1 (by rw [hyl, ← Nat.add_mul]; exact hin)
              refine ⟨_, _, _, _, app_room (ty := ty) hu hu' hn hlen (hfm w rfl) hnm (w' := w') (fun a ha => ?_) (fun hc => by cases hc), hK, σ, .refl σ, s2, ?_, s3⟩
              · cases ha
                rw [add_off, ← Nat.add_mul]
                exact s1
              · exact .ref _ _ _ _ _ _ _ _ _ hnm h4 (fun h => by cases h) h6 h7 h8 h9 (fun h => by cases h)
            · replace hK := optW_iff.1 hK
              obtain ⟨_, ho0, hK⟩ := hK
              simp only [okIf] at ho0
              split at ho0
              · rename_i ho0'
                obtain rfl := beq_iff_eq.1 ho0'
                have h9' := h9 rfl
                by_cases hnm : n + m ≤ cap
                · have hcap0 : cap ≠ 0 := by omega
                  have had := h6 hcap0
                  subst had
                  have hK' := hK.2
                  have hle2 : (n + m) * e2 ≤ cap * e2 := Nat.mul_le_mul_right _ hnm
                  obtain ⟨w', s1, s2, s3⟩ := store_past h hb (off := n * e2) hcs h7 hr h1 (by simpa using hfit0) (by rw [hyl, ← Nat.add_mul]; simp at h9'; omega)
                  obtain ⟨r1, r2⟩ := s2.rename (b := b) (cs := cs.take (n * e2) ++ ys) (by rw [AHeap.set_at, if_pos ⟨rfl, AHeap.lt hcs⟩]) h7
                  have hsd : (A.set b (cs.take (n * e2) ++ ys)).del b = A.del b := AHeap.ext' (by simp [AHeap.set, AHeap.del, hset_hset])
                  rw [hsd, AHeap.set_n] at r2
                  rw [AHeap.set_n] at r1
                  refine ⟨_, _, _, _, app_room (ty := ty) hu hu' hn hlen (hfm w rfl) hnm (w' := w') (fun a ha => ?_) (fun hc => by cases hc), hK', _, r1, r2, ?_, s3⟩
                  · cases ha
                    rw [add_off, ← Nat.add_mul, Nat.zero_add]
                    exact s1
                  · exact .ref _ _ _ _ _ _ _ _ _ hnm h4 (fun h => by cases h) h6 (by simp [Sg.withNm]) h8 h9 (fun h => by cases h)
                · have hKn := hK.2
                  rw [← A.del_n b] at hKn
                  exact hgrow (A.del b) (AHeap.del_le A b) (A.del_n b) _ (some ad) n cap hos rfl rfl (by omega) hK.1 (by
                    have e0 : (cs.drop (0 * e2)).take (n * e2) = cs.take (n * e2) := by simp
                    rw [e0]
                    exact hKn)
              · cases ho0
          · have := h5 rfl
            exact hgrow A (AHeap.le.refl A) rfl _ (some ad) n cap hos rfl rfl (by omega) hK.1 hK.2
          · cases hK
          · cases hK
        · cases hfit0
      · cases hee
  · cases hK

end Go.Proofs.YtlglgcmpeabdnaaGreatDoorAi

/- copy, clear, comparisons with nil. -/
namespace Go.Proofs.YtlglgcmpeabdnaaGreatDoorAi
open Go Go.RowKit
set_option linter.unusedVariables false
set_option linter.unusedSimpArgs false

variable {P : Program} {σ : Sg} {w : World}

theorem cpy_run {B : Nat → Prop} {w0 : World} {A : AHeap} (h : Sim B σ A w) (hb : Keeps B w0 w) {t u ty e : TypeId} (hu : P.underlying t = some (.slice e)) {esz : Nat} (hn : szT P e = some esz) (hpos : 0 < esz)
    {b o n : Nat} {tt : Cp} {y : AV} {v q : Value} (hx : Rep σ (.ref b esz o n tt) v) (hy : Rep σ y q) {ys : List AV} (hys : sliceCells A esz y = some ys) {m : Nat} (hm : y.len? = some m) {cs : List AV} (hcs : A b = some cs) (hfit : (o + min n m) * esz ≤ cs.length) :
    ∃ w', (Builtin.copy_ #[t, u] ty #[v, q]).run P w = .ok (.int .i64 (min n m : Nat)) w' ∧ Step B w0 σ (A.set b (setCells cs (o * esz) (ys.take (min n m * esz)))) (.int .i64 (min n m : Nat)) (.int .i64 (min n m : Nat)) w' := by
  obtain ⟨us, hr, h1, hul, hyl, hlen, hf⟩ := src_run (P := P) h hpos hy hys hm
  obtain ⟨ad, cap, c0, sz, rfl, h3, h4, h5, h6, h7, h8, h9, h10⟩ := hx.refInv
  have hmin : Nat.min m n = min n m := Nat.min_comm m n
  have hff := hf (min n m) (Nat.min_le_right _ _) w rfl
  have htl : (ys.take (min n m * esz)).length = min n m * esz := by
    rw [List.length_take, hyl]
    exact Nat.min_eq_left (Nat.mul_le_mul_right _ (Nat.min_le_right _ _))
  have hst : ∃ w', (storeCells ad (us.take (min n m * esz))).run P w = .ok () w' ∧ Sim B σ (A.set b (setCells cs (o * esz) (ys.take (min n m * esz)))) w' ∧ Keeps B w0 w' := by
    by_cases h0 : min n m = 0
    · rw [h0]
      simp only [Nat.zero_mul, List.take_zero, setCells]
      rw [AHeap.set_eq hcs]
      exact ⟨w, by simp [storeCells], h, hb⟩
    · have had := h6 (by omega)
      subst had
      exact store_run h hb hcs h7 (hr.take _) (fun v hv => h1 v (List.mem_of_mem_take hv)) (by rw [htl, ← Nat.add_mul]; exact hfit)
  obtain ⟨w', s1, s2, s3⟩ := hst
  refine ⟨w', ?_, σ, .refl σ, s2, .int _ _, s3⟩
  have hlen' := hlen w
  have hsz : (sizeOf e).run P w = .ok esz w := run_sizeOf hn w
  simp [Builtin.copy_, run_underlying hu, hlen', hsz, hmin, hff, s1, goInt]

theorem clr_run {B : Nat → Prop} {w0 : World} {A : AHeap} (h : Sim B σ A w) (hb : Keeps B w0 w) {t ty e : TypeId} (hu : P.underlying t = some (.slice e)) {esz : Nat} (hn : szT P e = some esz) {z : List AV} (hz : zeroT P e = some z) (hzl : z.length = esz)
    {b o n : Nat} {tt : Cp} {v : Value} (hx : Rep σ (.ref b esz o n tt) v) {cs : List AV} (hcs : A b = some cs) (hfit : (o + n) * esz ≤ cs.length) :
    ∃ w', (Builtin.clear_ #[t] ty #[v]).run P w = .ok (.tuple #[]) w' ∧ Step B w0 σ (A.set b (setCells cs (o * esz) (newCells esz n z))) (.tup []) (.tuple #[]) w' := by
  obtain ⟨ad, cap, c0, sz, rfl, h3, h4, h5, h6, h7, h8, h9, h10⟩ := hx.refInv
  obtain ⟨zv, hzv, hzr, hz1⟩ := zeroT_run (σ := σ) hz
  obtain ⟨hz2, hz3⟩ := zeros_rep (n := n) hzr hz1 hzl
  have hzc : zv.cells.size = esz := by have := hzr.1; simp at this; omega
  by_cases h0 : n = 0
  · subst h0
    have : setCells cs (o * esz) (newCells esz 0 z) = cs := by simp [newCells, setCells]
    rw [this, AHeap.set_eq hcs]
    exact ⟨w, by simp [Builtin.clear_, run_underlying hu], σ, .refl σ, h, .tup [] [] rfl (by simp), hb⟩
  · have had := h6 (by omega)
    subst had
    have hlen : (newCells esz n z).length = n * esz := by rw [newCells, flat_len, hzl]
    obtain ⟨w', s1, s2, s3⟩ := store_run (P := P) h hb (off := o * esz) hcs h7 hz2 hz3 (by rw [hlen, ← Nat.add_mul]; exact hfit)
    refine ⟨w', ?_, σ, .refl σ, s2, .tup [] [] rfl (by simp), s3⟩
    have hzz : (Builtin.zeroCells zv.cells n) = madeCells zv.cells (n * esz) := by rw [← hzc]; rfl
    obtain ⟨k, rfl⟩ := Nat.exists_eq_succ_of_ne_zero h0
    simp [Builtin.clear_, run_underlying hu, hzv, hzz, s1]

end Go.Proofs.YtlglgcmpeabdnaaGreatDoorAi

/- Every operation does what its condition says. -/
namespace Go.Proofs.YtlglgcmpeabdnaaGreatDoorAi
open Go Go.RowKit
set_option linter.unusedVariables false
set_option linter.unusedSimpArgs false

variable {P : Program} {S : Spec} {σ : Sg} {w : World}

/-- Operations that are not `pureOp`s. -/
def isSp : AOp → Bool
  | .st _ _ _ | .alloc _ | .allocb _ | .box _ _ | .bsl _ _ _ _ | .mks _ _ _ _ _ | .app _ _ _ _ | .appc _ _ _ _ | .cpy _ _ _ | .clr _ _ _ | .call _ _ | .callq _ _ | .calle _ _ _ | .bad | .eqn _ _ | .eqi _ _ => true
  | _ => false
def spOp : Op → Bool
  | .store .. | .alloc .. | .box .. | .buildSlice .. | .makeSlice .. | .call .. | .binOp .. => true
  | _ => false

theorem opW_pure {s : St} {op : AOp} {K : AV → AHeap → Prop} (hp : isSp op = false) (h : opW P S s op K) : ∃ r, pureOp s op = some r ∧ K r s.A := by
  cases op <;> first
    | (cases hp; done)
    | (simp only [opW] at h
       exact optW_iff.1 h)

theorem map_sp {p : AOp → Bool} {α : Type} {x : Option α} {f : α → AOp} {op0 : AOp} (h : x.map f = some op0) (hf : ∀ y, p (f y) = false) (hsp : p op0 = true) : False := by
  obtain ⟨y, _, rfl⟩ := Option.map_eq_some_iff.1 h
  rw [hf y] at hsp
  cases hsp
theorem bind_sp {α : Type} {x : Option α} {f : α → Option AOp} {op0 : AOp} (h : x.bind f = some op0) (hf : ∀ y, f y = some op0 → False) : False := by
  obtain ⟨y, _, h⟩ := Option.bind_eq_some_iff.1 h
  exact hf y h

theorem cc_sp {op : Op} {op0 : AOp} (hc : ccOp P op = some op0) (hsp : isSp op0 = true) : spOp op = true := by
  cases op <;> first
    | rfl
    | (exfalso
       simp only [ccOp] at hc
       repeat' first
         | refine map_sp (p := isSp) hc (fun _ => rfl) hsp
         | refine bind_sp hc fun _ hc => ?_
         | (cases hc; done)
         | contradiction
         | split at hc)

def isCalle : AOp → Bool
  | .calle _ _ _ => true
  | _ => false
theorem alloc_calle (t : Nat) (z : List AV) : isCalle (if bldZ z = true then .allocb t else .alloc z) = false := by split <;> rfl
theorem cc_calle {op : Op} {op0 : AOp} (hc : ccOp P op = some op0) (hsp : isCalle op0 = true) : False := by
  cases op <;> (
       simp only [ccOp] at hc
       repeat' first
         | refine map_sp (p := isCalle) hc (fun _ => rfl) hsp
         | refine map_sp (p := isCalle) hc (alloc_calle _) hsp
         | refine bind_sp hc fun _ hc => ?_
         | (cases hc; done)
         | contradiction
         | (simp only [Option.some.injEq] at hc; subst hc; cases hsp; done)
         | split at hc)

def isEq : AOp → Bool
  | .eqn _ _ | .eqi _ _ => true
  | _ => false
theorem alloc_eq (t : Nat) (z : List AV) : isEq (if bldZ z = true then .allocb t else .alloc z) = false := by split <;> rfl
def isBin : Op → Bool
  | .binOp .. => true
  | _ => false
theorem cc_eq {op : Op} {op0 : AOp} (hc : ccOp P op = some op0) (hsp : isEq op0 = true) : isBin op = true := by
  cases op <;> first
    | rfl
    | (exfalso
       simp only [ccOp] at hc
       repeat' first
         | refine map_sp (p := isEq) hc (fun _ => rfl) hsp
         | refine map_sp (p := isEq) hc (alloc_eq _) hsp
         | refine bind_sp hc fun _ hc => ?_
         | (cases hc; done)
         | contradiction
         | split at hc)

theorem nqSp {q : FuncId → Nat} {op : AOp} (h : ∀ f caps args, op ≠ .call (.c (.fn f caps)) args) : quietOp q op = op := by
  unfold quietOp
  split
  · exact absurd rfl (h _ _ _)
  · rfl

theorem ccOpd_const {x : Operand} {v : AV} (h : ccOpd x = some (.c v)) : (∃ f, x = .func f ∧ v = .fn f []) ∨ ∃ u, x = .const u ∧ ccVal u = some v := by
  cases x with
  | tmp t => simp [ccOpd] at h
  | const u => simp [ccOpd] at h; exact .inr ⟨u, rfl, h⟩
  | func f => simp [ccOpd] at h; exact .inl ⟨f, rfl, h.symm⟩
  | global g => simp [ccOpd] at h

theorem ccVal_nili {u : Value} (h : ccVal u = some .nili) : u = .nilIface := by
  unfold ccVal at h
  split at h
  · simp at h
  · unfold ccVal1 at h
    split at h <;> first | rfl | (simp at h)
theorem ccVal_sl {u : Value} (h : ccVal u = some (.sl [] true)) : u = .slice none 0 0 := by
  unfold ccVal at h
  split at h
  · simp at h
  · unfold ccVal1 at h
    split at h <;> first | rfl | (simp at h)

theorem eqn_slice {t e : TypeId} (hu : P.underlying t = some (.slice e)) (ad : Option Addr) (n c : Nat) (neg : Bool) (x y : Operand) :
    (do eqGuard (if neg = true then .neq else .eql) t x y (.slice ad n c) (.slice none 0 0); binOp (if neg = true then .neq else .eql) t (.slice ad n c) (.slice none 0 0) : Sem Value).run P w = .ok (.bool (if neg = true then !ad.isNone else ad.isNone)) w := by
  have h : ∀ d : Nat, (Op.equalIn (d + 1) t (.slice ad n c) (.slice none 0 0)).run P w = .ok ad.isNone w := fun d => by
    cases ad <;> simp [Op.equalIn, run_underlying hu]
  cases neg
  · simp [eqGuard, binOp, Op.equal, Op.maxDepth, h 9999]
  · simp [eqGuard, binOp, Op.equal, Op.maxDepth, h 9999]

theorem eqn_iface {t : TypeId} {ms : Array (String × TypeId)} (hu : P.underlying t = some (.interface ms)) (tp : TypeId) (v : Value) (neg : Bool) (x y : Operand) :
    (do eqGuard (if neg = true then .neq else .eql) t x y (.iface tp v) .nilIface; binOp (if neg = true then .neq else .eql) t (.iface tp v) .nilIface : Sem Value).run P w = .ok (.bool neg) w := by
  have h : ∀ d : Nat, (Op.equalIn (d + 1) t (.iface tp v) .nilIface).run P w = .ok false w := fun d => by
    simp [Op.equalIn, run_underlying hu]
  cases neg
  · simp [eqGuard, binOp, Op.equal, Op.maxDepth, h 9999]
  · simp [eqGuard, binOp, Op.equal, Op.maxDepth, h 9999]

theorem eqn_nili {t : TypeId} {ms : Array (String × TypeId)} (hu : P.underlying t = some (.interface ms)) (neg : Bool) (x : Operand) (u : Value) :
    (do eqGuard (if neg = true then .neq else .eql) t x (.const u) .nilIface .nilIface; binOp (if neg = true then .neq else .eql) t .nilIface .nilIface : Sem Value).run P w = .ok (.bool (!neg)) w := by
  have h : ∀ d : Nat, (Op.equalIn (d + 1) t .nilIface .nilIface).run P w = .ok true w := fun d => by
    simp [Op.equalIn, run_underlying hu]
  cases neg
  · simp [eqGuard, binOp, Op.equal, Op.maxDepth, h 9999]
  · simp [eqGuard, binOp, Op.equal, Op.maxDepth, h 9999]

theorem eq_cc {op : BinOp} {t : TypeId} {x y : Operand} {yt : TypeId} {op0 : AOp} (hc : ccOp P (.binOp op t x y yt) = some op0) (h : isEq op0 = true) :
    ∃ neg x1, op = (if neg = true then .neq else .eql) ∧ ccOpd x = some x1 ∧
      ((∃ e, P.underlying t = some (.slice e) ∧ op0 = .eqn neg x1 ∧ y = .const (.slice none 0 0)) ∨ (∃ ms, P.underlying t = some (.interface ms) ∧ op0 = .eqi neg x1 ∧ y = .const .nilIface)) := by
  simp only [ccOp, Option.bind_eq_some_iff] at hc
  obtain ⟨x1, hx', y', hy', eq, heq, hc⟩ := hc
  cases eq with
  | none => simp only [Option.some.injEq] at hc; subst hc; cases h
  | some neg' =>
    have hop : op = if neg' = true then .neq else .eql := by
      cases op <;> simp at heq <;> subst heq <;> rfl
    refine ⟨neg', x1, hop, hx', ?_⟩
    simp only at hc
    split at hc
    · simp only [Option.some.injEq] at hc; subst hc; cases h
    · simp only [Option.some.injEq] at hc; subst hc; cases h
    · simp only [Option.some.injEq] at hc; subst hc; cases h
    · split at hc
      · obtain ⟨_, _, rfl⟩ := Option.map_eq_some_iff.1 hc; cases h
      · cases hc
    · rename_i e hu
      split at hc
      · simp only [Option.some.injEq] at hc
        obtain ⟨f, _, hf⟩ | ⟨u, rfl, hu'⟩ := ccOpd_const hy'
        · cases hf
        exact .inl ⟨e, hu, hc.symm, by rw [ccVal_sl hu']⟩
      · cases hc
    · rename_i ms hu
      split at hc
      · simp only [Option.some.injEq] at hc
        obtain ⟨f, _, hf⟩ | ⟨u, rfl, hu'⟩ := ccOpd_const hy'
        · cases hf
        exact .inr ⟨ms, hu, hc.symm, by rw [ccVal_nili hu']⟩
      · cases hc
    · cases hc

theorem eqn_sound {B : Nat → Prop} {n : Nat} {w0 : World} {s : St} {a : Act} (hs : SimSt B w0 n σ s a w) {o : Oper} {op0 : AOp} (hc : ccOp P o.op = some op0) (he : isEq op0 = true) {K : AV → AHeap → Prop} (hK : opW P S s op0 K) :
    ∃ r q, (execOp a.eval o).run P w = .ok (.value q) w ∧ Rep σ r q ∧ K r s.A := by
  obtain ⟨dst, op, ty, pos, after, guard⟩ := o
  simp only at hc
  have hsp := cc_eq hc he
  cases op with
  | binOp op t x y yt =>
    obtain ⟨neg, x1, rfl, hx', hh⟩ := eq_cc hc he
    have hr := ev_rep hs hx'
    rcases hh with ⟨e, hu, rfl, rfl⟩ | ⟨ms, hu, rfl, rfl⟩
    · show ∃ r q, (do pure (Next.value (← (do eqGuard _ t x _ (a.eval x) (.slice none 0 0); binOp _ t (a.eval x) (.slice none 0 0) : Sem Value))) : Sem Next).run P w = .ok (.value q) w ∧ Rep σ r q ∧ K r s.A
      generalize a.eval x = v at hr
      simp only [opW] at hK
      obtain ⟨qn, hqn, hK⟩ := optW_iff.1 hK
      cases hb : s.ev x1 <;> simp only [hb, nilOf, Option.some.injEq] at hqn <;> first | (cases hqn; done) | (subst hqn)
      · rename_i xs tt
        rw [hb] at hr
        obtain ⟨ad, n, c, rfl, hn⟩ : ∃ ad n c, v = .slice ad n c ∧ (ad.isNone = true → xs = []) := by
          cases hr
          · exact ⟨_, _, _, rfl, fun _ => rfl⟩
          · exact ⟨_, _, _, rfl, fun h => by simp at h⟩
        exact ⟨_, _, value_run (eqn_slice hu ad n c neg x _), .bool _, hK _ (fun h => by simp [hn h])⟩
      · rw [hb] at hr
        obtain ⟨ad, cap, _, sz, rfl, _⟩ := hr.refInv
        exact ⟨_, _, value_run (eqn_slice hu (some ad) _ cap neg x _), .bool _, hK⟩
    · show ∃ r q, (do pure (Next.value (← (do eqGuard _ t x _ (a.eval x) .nilIface; binOp _ t (a.eval x) .nilIface : Sem Value))) : Sem Next).run P w = .ok (.value q) w ∧ Rep σ r q ∧ K r s.A
      generalize a.eval x = v at hr
      simp only [opW] at hK
      obtain ⟨qn, hqn, hK⟩ := optW_iff.1 hK
      cases hb : s.ev x1 <;> simp only [hb, nilI, Option.some.injEq] at hqn <;> first | (cases hqn; done) | (subst hqn)
      · rw [hb] at hr
        cases hr
        refine ⟨_, _, value_run (eqn_nili hu neg x _), .bool _, ?_⟩
        cases neg <;> exact hK
      · rw [hb] at hr
        cases hr
        refine ⟨_, _, value_run (eqn_iface hu _ _ neg x _), .bool _, ?_⟩
        cases neg <;> exact hK
  | _ => cases hsp

end Go.Proofs.YtlglgcmpeabdnaaGreatDoorAi

/- Every operation does what its condition says. -/
namespace Go.Proofs.YtlglgcmpeabdnaaGreatDoorAi
open Go Go.RowKit
set_option linter.unusedVariables false
set_option linter.unusedSimpArgs false

variable {P : Program} {S : Spec} {σ : Sg} {w : World}

theorem st_run {B : Nat → Prop} {w0 : World} {A : AHeap} (h : Sim B σ A w) (hb : Keeps B w0 w) {p x : AV} {pv v : Value} (hp : Rep σ p pv) (hx : Rep σ x v) (hso : x.solid = true) {A' : AHeap} (hA : stA A p x.cells = some A')
    {t : TypeId} {n : Nat} (hn : szT P t = some n) (hl : x.cells.length = n) :
    ∃ w', (Instr.storeAt t pv v).run P w = .ok () w' ∧ Sim B σ A' w' ∧ Keeps B w0 w' := by
  have hvl : v.cells.size = n := by rw [← hx.cells_length hso, hl]
  have hgo : ∀ (ad : Addr) (w' : World), (storeCells ad v.cells.toList).run P w = .ok () w' → (Instr.storeAt t (.pointer (some ad)) v).run P w = .ok () w' := by
    intro ad w' hst
    have hsz : (sizeOf t).run P w = .ok n w := run_sizeOf hn w
    simp [Instr.storeAt, Instr.sureAddr, storeVar, hsz, hvl, hst]
  cases hp <;> simp only [stA] at hA <;> first | (cases hA; done) | skip
  · rename_i b off c sz hnm
    obtain ⟨old, ho, hA⟩ := Option.bind_eq_some_iff.1 hA
    split at hA
    · rename_i hfit
      obtain rfl := Option.some.inj hA
      obtain ⟨w', h1, h2, h3⟩ := store_run (P := P) h hb ho hnm (hx.cells hso) (hx.cells_one hso) hfit
      exact ⟨w', hgo _ _ h1, h2, h3⟩
    · cases hA
  · rename_i b e o m tt i off c sz hnm
    split at hA
    · rename_i hio
      obtain ⟨old, ho, hA⟩ := Option.bind_eq_some_iff.1 hA
      split at hA
      · rename_i hfit
        obtain rfl := Option.some.inj hA
        obtain ⟨w', h1, h2, h3⟩ := store_run (P := P) h hb ho hnm (hx.cells hso) (hx.cells_one hso) hfit
        exact ⟨w', hgo _ _ h1, h2, h3⟩
      · cases hA
    · cases hA
  · rename_i b e c hnm hty
    obtain ⟨old, ho, hA⟩ := Option.bind_eq_some_iff.1 hA
    split at hA
    · rename_i hfit
      obtain rfl := Option.some.inj hA
      obtain ⟨w', h1, h2, h3⟩ := store_run (P := P) (off := 0) h hb ho hnm (hx.cells hso) (hx.cells_one hso) (by omega)
      exact ⟨w', hgo _ _ h1, h2, h3⟩
    · cases hA

theorem wp_value {o : Oper} {a : Act} {next : Act → World → Prop} {Q : Exit → Act → World → Prop} {q : Value} {w' : World} (h : (execOp a.eval o).run P w = .ok (.value q) w') (hn : next (a.put o.dst q) w') : o.wp P a w next Q := by
  unfold Oper.wp
  rw [h]
  exact hn

theorem wp_skipped {o : Oper} {a : Act} {next : Act → World → Prop} {Q : Exit → Act → World → Prop} {w' : World} (h : (execOp a.eval o).run P w = .ok .skip w') (hn : next (a.put o.dst undef) w') : o.wp P a w next Q := by
  unfold Oper.wp
  rw [h]
  exact hn

theorem value_run' {x : Sem Value} {q : Value} {w' : World} (h : x.run P w = .ok q w') : (do pure (Next.value (← x)) : Sem Next).run P w = .ok (.value q) w' := by simp [h]

theorem callFunc_enters {f : FuncId} (h : Enters P f) (args : Array Value) : (callFunc f args).run P w = .ok (.enter f args) w := by
  obtain ⟨fn, h1, h2, h3⟩ := h
  have h2' : ¬ fn.name = "runtime.NumGoroutine" := by simpa using h2
  have h3' : ¬ fn.body = none := fun e => by rw [e] at h3; cases h3
  simp [callFunc, h1, h2', h3']

theorem call_sound {B : Nat → Prop} {n : Nat} {w0 : World} (hG : GoodP P B w0) {s : St} {a : Act} (hs : SimSt B w0 n σ s a w) {o : Oper} {g : Opd} {as : List Opd} {f : Operand} {args : Array Operand} {ats : Array TypeId}
    (ho : o.op = .call { callee := .value f, args := args, argTypes := ats }) (hf : ccOpd f = some g) (ha : ccOpds args = some as) {fid : FuncId} {caps : List AV} (hg : s.ev g = .fn fid caps) {K : AV → AHeap → Prop}
    (hT : T P fid (as.map s.ev ++ caps) s.A K) {next : Act → World → Prop} {Q : Exit → Act → World → Prop}
    (hn : ∀ r A' q w', K r A' → Step B w0 σ A' r q w' → next (a.put o.dst q) w') : o.wp P a w next Q := by
  have hr := ev_rep hs hf
  rw [hg] at hr
  have has := evs_rep hs ha
  obtain ⟨he, hT⟩ := hT
  generalize hv : a.eval f = fv at hr
  cases hr with
  | fn f' caps' vs hl hr' =>
    have hexec : (execOp a.eval o).run P w = .ok (.enter fid ((args.map a.eval) ++ vs.toArray)) w := by
      unfold execOp
      rw [ho]
      simp [resolve, hv, Deferred.ofValue, invoke, callFunc_enters he]
    unfold Oper.wp
    rw [hexec, Oper.upon_enter]
    have hcall := hT B w0 σ w (args.toList.map a.eval ++ vs) hG hs.below hs.sim (has.append ⟨hl, hr'⟩)
    have hargs : (args.toList.map a.eval ++ vs).toArray = args.map a.eval ++ vs.toArray := by
      apply Array.ext'; simp
    rw [hargs] at hcall
    refine hcall.mono fun e w' ⟨r, A', v, σ', he, hK, hle, hsim, hrep, hb⟩ => ?_
    subst he
    exact hn r A' v w' hK ⟨σ', hle, hsim, hrep, hb⟩

theorem call_soundM {B : Nat → Prop} {n : Nat} {w0 : World} (hG : GoodP P B w0) {s : St} {a : Act} (hs : SimSt B w0 n σ s a w) {o : Oper} {g : Opd} {as : List Opd} {f : Operand} {args : Array Operand} {ats : Array TypeId}
    (ho : o.op = .call { callee := .value f, args := args, argTypes := ats }) (hf : ccOpd f = some g) (ha : ccOpds args = some as) {fid : FuncId} {first : List AV} (hg : s.ev g = .mv fid first) {K : AV → AHeap → Prop}
    (hT : T P fid (first ++ (as.map s.ev ++ [])) s.A K) {next : Act → World → Prop} {Q : Exit → Act → World → Prop}
    (hn : ∀ r A' q w', K r A' → Step B w0 σ A' r q w' → next (a.put o.dst q) w') : o.wp P a w next Q := by
  have hr := ev_rep hs hf
  rw [hg] at hr
  have has := evs_rep hs ha
  rw [List.append_nil] at hT
  obtain ⟨he, hT⟩ := hT
  generalize hv : a.eval f = fv at hr
  cases hr with
  | mv f' first' vs hvs =>
    have hexec : (execOp a.eval o).run P w = .ok (.enter fid (vs.toArray ++ (args.map a.eval))) w := by
      unfold execOp
      rw [ho]
      simp [resolve, hv, Deferred.ofValue, invoke, callFunc_enters he]
    unfold Oper.wp
    rw [hexec, Oper.upon_enter]
    have hcall := hT B w0 σ w (vs ++ args.toList.map a.eval) hG hs.below hs.sim ((rep_valsOf hvs).append has)
    have hargs : (vs ++ args.toList.map a.eval).toArray = vs.toArray ++ args.map a.eval := by
      apply Array.ext'; simp
    rw [hargs] at hcall
    refine hcall.mono fun e w' ⟨r, A', v, σ', he, hK, hle, hsim, hrep, hb⟩ => ?_
    subst he
    exact hn r A' v w' hK ⟨σ', hle, hsim, hrep, hb⟩

theorem builtin_run {o : Oper} {a : Act} {b : Go.Builtin} {args : Array Operand} {ats : Array TypeId} (ho : o.op = .call { callee := .builtin b, args := args, argTypes := ats }) :
    execOp a.eval o = builtin b ats o.type (args.map fun | .const _ => true | _ => false) (args.map a.eval) := by
  unfold execOp
  rw [ho]
  rfl

theorem op_sound (hS : Quiet P S) {q : FuncId → Nat} {B : Nat → Prop} {n : Nat} {w0 : World} (hG : GoodP P B w0) {s : St} {a : Act} (hs : SimSt B w0 n σ s a w) {o : Oper} {op0 : AOp} (hc : ccOp P o.op = some op0) {K : AV → AHeap → Prop} (hK : opW P S s (quietOp q op0) K)
    {next : Act → World → Prop} {Q : Exit → Act → World → Prop} (hn : ∀ r A' v w', K r A' → Step B w0 σ A' r v w' → next (a.put o.dst v) w') : o.wp P a w next Q := by
  by_cases hp : isSp op0 = false
  · rw [nqSp (fun f caps args e => by rw [e] at hp; cases hp)] at hK
    obtain ⟨r, hr, hK⟩ := opW_pure hp hK
    obtain ⟨v, h1, h2⟩ := pure_sound hs hc hr
    exact wp_value h1 (hn r s.A v w hK ⟨σ, .refl σ, hs.sim, h2, hs.below⟩)
  · have hp : isSp op0 = true := by simpa using hp
    have hsp := cc_sp hc hp
    obtain ⟨dst, op, ty, pos, after, guard⟩ := o
    simp only at hc
    cases op with
    | binOp op t x y yt =>
      have he : isEq op0 = true := by
        by_cases he : isEq op0 = true
        · exact he
        · exfalso
          simp only [ccOp] at hc
          repeat' first
            | refine map_sp (p := fun o => isSp o && !isEq o) hc (fun _ => rfl) (by simp [hp, he])
            | refine bind_sp hc fun _ hc => ?_
            | (cases hc; done)
            | (simp only [Option.some.injEq] at hc; subst hc; first | (cases hp; done) | exact he rfl)
            | contradiction
            | split at hc
      rw [nqSp (fun f caps args e => by rw [e] at he; cases he)] at hK
      obtain ⟨r, v, h1, h2, h3⟩ := eqn_sound hs (o := ⟨dst, .binOp op t x y yt, ty, pos, after, guard⟩) hc he hK
      exact wp_value h1 (hn r s.A v w h3 ⟨σ, .refl σ, hs.sim, h2, hs.below⟩)
    | store t x v =>
      simp only [ccOp, Option.bind_eq_some_iff, Option.map_eq_some_iff] at hc
      obtain ⟨sz, hsz, x', hx', v', hv', rfl⟩ := hc
      simp only [quietOp, opW] at hK
      replace hK := optW_iff.1 hK
      obtain ⟨A', hA, hK⟩ := hK
      unfold stG at hA
      split at hA
      · rename_i hl
        obtain ⟨w', h1, h2, h3⟩ := st_run (P := P) hs.sim hs.below (ev_rep hs hx') (ev_rep hs hv') hl.2 hA hsz hl.1
        refine wp_skipped (w' := w') ?_ (hn _ A' undef w' hK ⟨σ, .refl σ, h2, rep_undef σ, h3⟩)
        simp [execOp, h1]
      · cases hA
    | alloc t =>
      simp only [ccOp, Option.map_eq_some_iff] at hc
      obtain ⟨z, hz, rfl⟩ := hc
      by_cases hbz : bldZ z = true
      · rw [if_pos hbz] at hK
        simp only [quietOp, opW] at hK
        obtain ⟨w', h1, h3⟩ := allocb_run (P := P) hs.sim hs.below hz hbz
        refine wp_value (w' := w') ?_ (hn _ _ _ w' hK h3)
        simp [execOp, h1]
      rw [if_neg hbz] at hK
      simp only [quietOp, opW] at hK
      obtain ⟨w', h1, h3⟩ := alloc_run (P := P) hs.sim hs.below hz (.tuple #[])
      refine wp_value (w' := w') ?_ (hn _ _ _ w' hK h3)
      simp [execOp, h1]
    | box t x =>
      simp only [ccOp, Option.bind_eq_some_iff, Option.map_eq_some_iff] at hc
      obtain ⟨sz, hsz, x', hx', rfl⟩ := hc
      simp only [quietOp, opW] at hK
      obtain ⟨w', h1, h3⟩ := box_run (P := P) hs.sim hs.below (t := t) (ev_rep hs hx') hK.1
      refine wp_value (w' := w') ?_ (hn _ _ _ w' hK.2 h3)
      simp [execOp, h1]
    | buildSlice t len parts =>
      simp only [ccOp, Option.bind_eq_some_iff] at hc
      obtain ⟨e, he, m, hm, z, hz, hc⟩ := hc
      split at hc
      · rename_i hl
        obtain ⟨ps, hps, rfl⟩ := Option.map_eq_some_iff.1 hc
        simp only [quietOp, opW] at hK
        replace hK := optW_iff.1 hK
        obtain ⟨cs, hcs, hK⟩ := hK
        obtain ⟨w', h1, h3⟩ := bsl_run (P := P) hs he hm hz hl.1 hl.2.1 hl.2.2 hps hcs
        have hex : (execOp a.eval ⟨dst, .buildSlice t len parts, ty, pos, after, guard⟩).run P w = .ok (.value (.slice (some ⟨w.heap.size, 0, none⟩) len len)) w' := by
          simp only [execOp]
          exact value_run' h1
        by_cases h0 : len = 0
        · subst h0
          rw [beq_self_eq_true, brW_true] at hK
          refine wp_value hex (hn _ _ _ w' hK ?_)
          obtain ⟨σ', k1, k2, k3, k4⟩ := h3
          exact ⟨σ', k1, k2, .slnil _ _ _ (fun _ => rfl) (Nat.zero_le _) (fun h => by cases h), k4⟩
        · rw [beq_eq_false_iff_ne.2 h0, brW_false] at hK
          exact wp_value hex (hn _ _ _ w' hK h3)
      · cases hc
    | makeSlice t l c =>
      simp only [ccOp, Option.bind_eq_some_iff] at hc
      obtain ⟨e, he, m, hm, by_, hby, z, hz, hc⟩ := hc
      split at hc
      · rename_i hl
        simp only [Option.bind_eq_some_iff, Option.map_eq_some_iff] at hc
        obtain ⟨l', hl', c', hc', rfl⟩ := hc
        simp only [quietOp, opW] at hK
        replace hK := optW_iff.1 hK
        obtain ⟨p, hp2, hK⟩ := hK
        unfold intsA at hp2
        split at hp2
        · rename_i k i k' i' e1 e2
          obtain rfl := Option.some.inj hp2
          simp only at hK
          obtain ⟨h0, rfl, hm1, hK⟩ := hK
          have r1 := ev_rep hs hl'
          have r2 := ev_rep hs hc'
          rw [e1] at r1
          rw [e2] at r2
          have v1 : a.eval l = .int k i := by generalize a.eval l = v at r1; cases r1; rfl
          have v2 : a.eval c = .int k' i := by generalize a.eval c = v at r2; cases r2; rfl
          obtain ⟨w', h1, h3⟩ := mks_run (P := P) (k := k) (k' := k') hs.sim hs.below he hm hby hz hl h0 hm1
          refine wp_value (w' := w') ?_ (hn _ _ _ w' hK h3)
          simp only [execOp, v1, v2]
          exact value_run' h1
        · cases hp2
      · cases hc
    | call c =>
      obtain ⟨callee, args, ats⟩ := c
      cases callee with
      | value f =>
        simp only [ccOp, Option.bind_eq_some_iff, Option.map_eq_some_iff] at hc
        obtain ⟨f', hf', as, has, rfl⟩ := hc
        have plain : opW P S s (.call f' as) K → Oper.wp P ⟨dst, .call { callee := .value f, args := args, argTypes := ats }, ty, pos, after, guard⟩ a w next Q := by
          intro hK
          simp only [opW] at hK
          replace hK := optW_iff.1 hK
          obtain ⟨p, hp2, hK⟩ := hK
          cases hg : s.ev f' <;> simp only [hg, calleeF] at hp2 <;> first | (cases hp2; done) | skip
          · obtain rfl := Option.some.inj hp2
            simp only [List.nil_append] at hK
            exact call_sound hG hs rfl hf' has hg hK hn
          · obtain rfl := Option.some.inj hp2
            exact call_soundM hG hs rfl hf' has hg hK hn
        unfold quietOp at hK
        split at hK
        · rename_i fid caps args' e
          cases e
          split at hK
          · simp only [opW] at hK
            replace hK := optW_iff.1 hK
            obtain ⟨r, hr, hK⟩ := hK
            obtain ⟨p, hp2, hr⟩ := Option.bind_eq_some_iff.1 hr
            cases hg : s.ev (.c (.fn fid caps)) <;> simp only [hg, calleeOf] at hp2 <;> first | (cases hp2; done) | skip
            obtain rfl := Option.some.inj hp2
            exact call_sound hG hs rfl hf' has hg ((hS.q _ _ _ hr s.A).loose.mono (R' := K) (fun r' A' ⟨e1, e2⟩ => by rw [e1, e2]; exact hK)) hn
          · split at hK
            · simp only [opW] at hK
              replace hK := optW_iff.1 hK
              obtain ⟨r, hr, hK⟩ := hK
              obtain ⟨p, hp2, hr⟩ := Option.bind_eq_some_iff.1 hr
              cases hg : s.ev (.c (.fn fid caps)) <;> simp only [hg, calleeOf] at hp2 <;> first | (cases hp2; done) | skip
              obtain rfl := Option.some.inj hp2
              exact call_sound hG hs rfl hf' has hg ((hS.e _ _ _ r.1 r.2 hr).loose.mono (R' := K) (fun r' A' ⟨e1, e2⟩ => by rw [e1, e2]; exact hK.2)) hn
            · exact plain hK
        · exact plain hK
      | invoke r m => simp [ccOp] at hc
      | builtin b =>
        have hrun := builtin_run (o := ⟨dst, .call { callee := .builtin b, args := args, argTypes := ats }, ty, pos, after, guard⟩) (a := a) rfl
        obtain ⟨args⟩ := args
        obtain ⟨ats⟩ := ats
        simp only [ccOp] at hc
        have ex : ∀ {v : Value} {w' : World}, (execOp a.eval ⟨dst, .call { callee := .builtin b, args := ⟨args⟩, argTypes := ⟨ats⟩ }, ty, pos, after, guard⟩).run P w = .ok (.value v) w' → ∀ r A', K r A' → Step B w0 σ A' r v w' → Oper.wp P ⟨dst, .call { callee := .builtin b, args := ⟨args⟩, argTypes := ⟨ats⟩ }, ty, pos, after, guard⟩ a w next Q :=
          fun h1 r A' hk h3 => wp_value h1 (hn r A' _ _ hk h3)
        split at hc
        · exfalso
          repeat' first
            | refine map_sp (p := isSp) hc (fun _ => rfl) hp
            | (cases hc; done)
            | split at hc
        · rename_i x1 x2 t u
          simp only [Option.bind_eq_some_iff] at hc
          obtain ⟨e, he, e', he', m, hm, by_, hby, z, hz, hc⟩ := hc
          split at hc
          · rename_i hl
            simp only [Option.bind_eq_some_iff, Option.map_eq_some_iff] at hc
            obtain ⟨y1, hy1, y2, hy2, rfl⟩ := hc
            simp only [quietOp, opW] at hK
            · replace hK := optW_iff.1 hK
              obtain ⟨ys, e1, hK⟩ := hK
              replace hK := optW_iff.1 hK
              obtain ⟨mm, e2, hK⟩ := hK
              obtain ⟨r, A', q', w', k1, k2, k3⟩ := app_run (P := P) (ty := ty) hs.sim hs.below (elT_spec he) (elT_spec he') hm (Nat.pos_of_ne_zero hl.2) hby hz hl.1 (ev_rep hs hy1) (ev_rep hs hy2) e1 e2 hK
              refine ex ?_ r A' k2 k3
              rw [hrun]
              simp [builtin, k1]
          · cases hc
        · rename_i x1 x2 t u
          simp only [Option.bind_eq_some_iff] at hc
          obtain ⟨e, he, e', he', m, hm, hc⟩ := hc
          split at hc
          · cases hc
          · rename_i hm0
            simp only [Option.bind_eq_some_iff, Option.map_eq_some_iff] at hc
            obtain ⟨y1, hy1, y2, hy2, rfl⟩ := hc
            simp only [quietOp, opW] at hK
            have hr := ev_rep hs hy1
            replace hK := optW_iff.1 hK
            obtain ⟨ys, hs1, hK⟩ := hK
            replace hK := optW_iff.1 hK
            obtain ⟨mm, hs2, hK⟩ := hK
            replace hK := optW_iff.1 hK
            obtain ⟨pp, hpp, hK⟩ := hK
            unfold cpyG at hpp
            split at hpp
            · rename_i bb e1 o1 n1 tt hv
              rw [hv] at hr
              split at hpp
              · rename_i hee
                subst hee
                obtain ⟨cs, hcs, hpp⟩ := Option.bind_eq_some_iff.1 hpp
                split at hpp
                · rename_i hfit
                  obtain rfl := Option.some.inj hpp
                  obtain ⟨w', k1, k2⟩ := cpy_run (P := P) (t := t) (u := u) (ty := ty) hs.sim hs.below (elT_spec he) hm (Nat.pos_of_ne_zero hm0) hr (ev_rep hs hy2) hs1 hs2 hcs hfit
                  refine ex ?_ _ _ hK k2
                  rw [hrun]
                  simp [builtin, k1]
                · cases hpp
              · cases hpp
            · cases hpp
        · rename_i x1 t
          simp only [Option.bind_eq_some_iff] at hc
          obtain ⟨e, he, m, hm, z, hz, hc⟩ := hc
          split at hc
          · rename_i hl
            simp only [Option.map_eq_some_iff] at hc
            obtain ⟨y1, hy1, rfl⟩ := hc
            simp only [quietOp, opW] at hK
            have hr := ev_rep hs hy1
            replace hK := optW_iff.1 hK
            obtain ⟨A', hA, hK⟩ := hK
            unfold clrG at hA
            split at hA
            · rename_i bb e1 o1 n1 tt hv
              rw [hv] at hr
              split at hA
              · rename_i hee
                subst hee
                obtain ⟨cs, hcs, hA⟩ := Option.bind_eq_some_iff.1 hA
                split at hA
                · rename_i hfit
                  obtain rfl := Option.some.inj hA
                  obtain ⟨w', k1, k2⟩ := clr_run (P := P) (ty := ty) hs.sim hs.below (elT_spec he) hm hz hl hr hcs hfit
                  refine ex ?_ _ _ hK k2
                  rw [hrun]
                  simp [builtin, k1]
                · cases hA
              · cases hA
            · rename_i tt hv
              obtain rfl := Option.some.inj hA
              rw [hv] at hr
              have hk : ∃ ad cap, a.eval x1 = .slice ad 0 cap := by
                generalize a.eval x1 = v at hr
                cases hr
                · exact ⟨_, _, rfl⟩
                · exact ⟨_, _, rfl⟩
              obtain ⟨ad, cap, hv1⟩ := hk
              refine ex (v := .tuple #[]) (w' := w) ?_ _ _ hK ⟨σ, .refl σ, hs.sim, rep_undef σ, hs.below⟩
              rw [hrun]
              cases ad <;> simp [builtin, hv1, Builtin.clear_, run_underlying (elT_spec he)]
            · cases hA
          · cases hc
        · exfalso
          repeat' first
            | refine map_sp (p := isSp) hc (fun _ => rfl) hp
            | refine bind_sp hc fun _ hc => ?_
            | (cases hc; done)
        · exfalso
          repeat' first
            | refine map_sp (p := isSp) hc (fun _ => rfl) hp
            | refine bind_sp hc fun _ hc => ?_
            | (cases hc; done)
        · cases hc
    | _ => cases hsp

end Go.Proofs.YtlglgcmpeabdnaaGreatDoorAi

/- One order stands for all. -/
namespace Go.Proofs.YtlglgcmpeabdnaaGreatDoorAi
open Go Go.RowKit
set_option linter.unusedVariables false
set_option linter.unusedSimpArgs false

variable {P : Program} {S : Spec}

theorem optNat_congr {s s' : St} {x : Option Opd} (h : ∀ y ∈ optOpds x, s'.ev y = s.ev y) (d : Nat) : optNat s' d x = optNat s d x := by
  cases x with
  | none => rfl
  | some y => simp only [optNat, h y (by simp [optOpds])]
theorem optMax_congr {s s' : St} {x : Option Opd} (h : ∀ y ∈ optOpds x, s'.ev y = s.ev y) : optMax s' x = optMax s x := by
  cases x with
  | none => rfl
  | some y => simp only [optMax, optNat_congr h]
theorem map_ev_congr {s s' : St} {xs : List Opd} (h : ∀ y ∈ xs, s'.ev y = s.ev y) : xs.map s'.ev = xs.map s.ev := List.map_congr_left h

theorem optW_mono {α : Type} {x : Option α} {K K' : α → Prop} {h : Hold K} (hk : ∀ v, K v → K' v) (hx : optW x K h) : optW x K' := by
  obtain ⟨v, h1, h2⟩ := optW_iff.1 hx
  exact optW_iff.2 ⟨v, h1, hk v h2⟩
theorem brW_mono {b : Bool} {x y x' y' : Prop} {h : Hold x} {k : Hold y} (h1 : x → x') (h2 : y → y') (hh : brW b x y h k) : brW b x' y' := by
  cases b
  · rw [brW_false] at *; exact h2 hh
  · rw [brW_true] at *; exact h1 hh
theorem nilW_mono {q : Option Nat} {K K' : Bool → Prop} {h : Hold K} (hk : ∀ v, K v → K' v) (hx : nilW q K h) : nilW q K' := by
  cases q with
  | none => exact hk _ hx
  | some n => exact fun r hr => hk _ (hx r hr)

theorem opW_congr' {s s' : St} {op : AOp} (hA : s'.A = s.A) (he : ∀ x ∈ opdsOf op, s'.ev x = s.ev x) {K : AV → AHeap → Prop} (hw : opW P S s' op K) : opW P S s op K := by
  obtain ⟨t', A⟩ := s'
  obtain ⟨t, A0⟩ := s
  obtain rfl : A = A0 := hA
  cases op with
  | sli e x lo hi mx =>
    have h1 := he x (by simp [opdsOf])
    have h2 := fun d => optNat_congr (x := lo) (d := d) (fun y hy => he y (by simp [opdsOf, hy]))
    have h3 := fun d => optNat_congr (x := hi) (d := d) (fun y hy => he y (by simp [opdsOf, hy]))
    have h4 := optMax_congr (x := mx) (fun y hy => he y (by simp [opdsOf, hy]))
    simpa only [opW, pureOp, h1, h2, h3, h4] using hw
  | sls x lo hi =>
    have h1 := he x (by simp [opdsOf])
    have h2 := fun d => optNat_congr (x := lo) (d := d) (fun y hy => he y (by simp [opdsOf, hy]))
    have h3 := fun d => optNat_congr (x := hi) (d := d) (fun y hy => he y (by simp [opdsOf, hy]))
    simpa only [opW, pureOp, h1, h2, h3] using hw
  | bld z parts =>
    have h1 : (parts.map fun p => (p.1, p.2.1, (St.mk t' A).ev p.2.2)) = parts.map fun p => (p.1, p.2.1, (St.mk t A).ev p.2.2) := List.map_congr_left fun p hp => by
      rw [he p.2.2 (List.mem_map.2 ⟨p, hp, rfl⟩)]
    simpa only [opW, pureOp, h1] using hw
  | bsl e n z parts =>
    have h1 : (parts.map fun p => (p.1 * e, e, (St.mk t' A).ev p.2)) = parts.map fun p => (p.1 * e, e, (St.mk t A).ev p.2) := List.map_congr_left fun p hp => by
      rw [he p.2 (List.mem_map.2 ⟨p, hp, rfl⟩)]
    simp only [opW] at hw ⊢
    rw [h1] at hw
    exact hw
  | mkf f caps =>
    have h1 := map_ev_congr (xs := caps) (fun y hy => he y hy)
    simpa only [opW, pureOp, h1] using hw
  | mkm f caps =>
    have h1 := map_ev_congr (xs := caps) (fun y hy => he y hy)
    simpa only [opW, pureOp, h1] using hw
  | call f args =>
    have h0 := he f (by simp [opdsOf])
    have h1 := map_ev_congr (xs := args) (fun y hy => he y (by simp [opdsOf, hy]))
    simp only [opW] at hw ⊢
    rw [h0, h1] at hw
    exact hw
  | callq f args =>
    have h0 := he f (by simp [opdsOf])
    have h1 := map_ev_congr (xs := args) (fun y hy => he y (by simp [opdsOf, hy]))
    simpa only [opW, h0, h1] using hw
  | calle f args cks =>
    have h0 := he f (by simp [opdsOf])
    have h1 := map_ev_congr (xs := args) (fun y hy => he y (by simp [opdsOf, hy]))
    have h2 : (cks.map fun c => ((St.mk t' A).ev c.1, c.2)) = cks.map fun c => ((St.mk t A).ev c.1, c.2) := List.map_congr_left fun c hc => by
      rw [he c.1 (by simp only [opdsOf, List.mem_cons, List.mem_append, List.mem_map]; exact .inr (.inr ⟨c, hc, rfl⟩))]
    simp only [opW] at hw ⊢
    rw [h0, h1, h2] at hw
    exact hw
  | alloc cs => exact hw
  | allocb e => exact hw
  | bad => exact hw
  | box n x =>
    have h0 := he x (by simp [opdsOf])
    simp only [opW] at hw ⊢
    rw [h0] at hw
    exact hw
  | appc e by_ x y =>
    have h0 := he x (by simp [opdsOf])
    have h1 := he y (by simp [opdsOf])
    simp only [opW] at hw ⊢
    rw [h0, h1] at hw
    exact hw
  | app e by_ x y =>
    have h0 := he x (by simp [opdsOf])
    have h1 := he y (by simp [opdsOf])
    simp only [opW] at hw ⊢
    rw [h0, h1] at hw
    exact hw
  | cpy e x y =>
    have h0 := he x (by simp [opdsOf])
    have h1 := he y (by simp [opdsOf])
    simp only [opW] at hw ⊢
    rw [h0, h1] at hw
    exact hw
  | _ =>
    simp only [opdsOf, List.mem_cons, List.not_mem_nil, or_false, forall_eq_or_imp, forall_eq] at he
    simp only [opW, pureOp, he] at hw ⊢
    exact hw

theorem opW_congr {s s' : St} {op : AOp} (hA : s'.A = s.A) (he : ∀ x ∈ opdsOf op, s'.ev x = s.ev x) {K : AV → AHeap → Prop} : opW P S s' op K = opW P S s op K :=
  propext ⟨opW_congr' hA he, opW_congr' hA.symm (fun x hx => (he x hx).symm)⟩

theorem iteI {p : Prop} [Decidable p] {a b a' b' : Prop} (h1 : a → a') (h2 : b → b') (h : if p then a else b) : if p then a' else b' := by
  by_cases hp : p
  · rw [if_pos hp] at *; exact h1 h
  · rw [if_neg hp] at *; exact h2 h

theorem appW_mono {A : AHeap} {e by_ : Nat} {s : AV} {ys : List AV} {m : Nat} {K K' : AV → AHeap → Prop} {h' : Hold K} (h : ∀ r A', K r A' → K' r A') (hK : appW A e by_ s ys m K h') : appW A e by_ s ys m K' := by
  have ha : ∀ {A : AHeap} {f : AV} {p : Prop}, (p ∧ K f A) → (p ∧ K' f A) := fun hK => ⟨hK.1, h _ _ hK.2⟩
  cases s <;> first | (exact hK.elim) | skip
  · simp only [appW] at *
    exact brW_mono (h _ _) (optW_mono fun _ => ha) hK
  · rename_i b e' o n t
    simp only [appW] at *
    refine brW_mono (h _ _) (optW_mono fun cs => optW_mono fun _ hK => ?_) hK
    cases t with
    | tight => exact ha hK
    | full => exact brW_mono (h _ _) (optW_mono fun _ => ha) hK
    | unk => exact hK
    | u8 => exact hK

theorem opW_mono {s : St} {op : AOp} {K K' : AV → AHeap → Prop} (h : ∀ r A', K r A' → K' r A') (hK : opW P S s op K) : opW P S s op K' := by
  cases op with
  | alloc cs => exact h _ _ hK
  | allocb e => exact h _ _ hK
  | box n x => exact ⟨hK.1, h _ _ hK.2⟩
  | bad => exact hK
  | appc e by_ x y =>
    simp only [opW] at hK ⊢
    exact optW_mono (fun ys hK => optW_mono (fun m hK => appW_mono (fun r A' hk => ⟨hk.1, h _ _ hk.2⟩) hK) hK) hK
  | _ =>
    simp only [opW] at hK ⊢
    refine optW_mono ?_ hK
    first
      | exact fun v => h _ _
      | exact fun p hK => T.mono hK h
      | exact fun p hK => ⟨hK.1, h _ _ hK.2⟩
      | (intro ys hK
         refine optW_mono ?_ hK
         first
           | exact fun m => appW_mono h
           | (intro m hK
              refine optW_mono ?_ hK
              exact fun p => h _ _))
      | exact fun p hK => ⟨hK.1, hK.2.1, hK.2.2.1, h _ _ hK.2.2.2⟩
      | (intro cs hK
         refine brW_mono ?_ ?_ hK
         · exact h _ _
         · exact h _ _)
      | (intro q hK
         refine nilW_mono ?_ hK
         exact fun r => h _ _)

theorem leL_get : ∀ {l l' : List (Option (List AV))}, leL l l' → ∀ b cs, hget l b = some cs → hget l' b = some cs
  | [], _, _, b, cs, h => by cases h
  | none :: r, [], hl, b, cs, h => by
    simp only [hget] at h
    split at h
    · cases h
    · have := leL_get (l := r) hl _ _ h
      cases this
  | none :: r, _ :: r', hl, b, cs, h => by
    simp only [hget] at h ⊢
    split at h
    · cases h
    · rename_i hb
      rw [if_neg hb]
      exact leL_get (l := r) hl _ _ h
  | some _ :: _, [], hl, b, cs, h => hl.elim
  | some c :: r, o :: r', hl, b, cs, h => by
    simp only [hget] at h ⊢
    split at h
    · rename_i hb
      rw [if_pos hb, hl.1]; exact h
    · rename_i hb
      rw [if_neg hb]
      exact leL_get (l := r) hl.2 _ _ h
theorem leL_le {A A' : AHeap} (h : leL A.l A'.l) : A.le A' := fun b cs e => leL_get h b cs e
theorem opW_le {s : St} {op : AOp} (hg : grows op = true) {K : AV → AHeap → Prop} (hK : opW P S s op K) : opW P S s op fun r A' => s.A.le A' ∧ K r A' := by
  have h0 : s.A.le s.A := fun _ _ h => h
  cases op with
  | alloc cs => exact ⟨s.A.le_push _, hK⟩
  | allocb e => exact ⟨s.A.le_push _, hK⟩
  | box n x => exact ⟨hK.1, s.A.le_push _, hK.2⟩
  | appc e by_ x y =>
    simp only [opW] at hK ⊢
    exact optW_mono (fun ys hK => optW_mono (fun m hK => appW_mono (fun r A' hk => ⟨hk.1, leL_le hk.1, hk.2⟩) hK) hK) hK
  | st _ _ _ | app _ _ _ _ | cpy _ _ _ | clr _ _ _ | call _ _ | calle _ _ _ | bad => cases hg
  | _ =>
    simp only [opW] at hK ⊢
    refine optW_mono ?_ hK
    first
      | exact fun v h => ⟨h0, h⟩
      | exact fun p hK => ⟨hK.1, hK.2.1, hK.2.2.1, s.A.le_push _, hK.2.2.2⟩
      | (intro cs hK
         refine brW_mono ?_ ?_ hK
         · exact fun h => ⟨s.A.le_push _, h⟩
         · exact fun h => ⟨s.A.le_push _, h⟩)
      | (intro q hK
         refine nilW_mono ?_ hK
         exact fun r h => ⟨h0, h⟩)

/-- What an operation yields that does nothing to memory. -/
def yv (S : Spec) (s : St) : AOp → Option AV
  | .callq g args => (calleeOf (s.ev g)).bind fun p => S.q p.1 (looseL (args.map s.ev ++ p.2))
  | op => pureOp s op

theorem opW_yv {s : St} {op : AOp} (hp : (isPure op || isLd op) = true) {K : AV → AHeap → Prop} : opW P S s op K ↔ ∃ v, yv S s op = some v ∧ K v s.A := by
  cases op with
  | st _ _ _ | alloc _ | allocb _ | box _ _ | bsl _ _ _ _ | mks _ _ _ _ _ | app _ _ _ _ | appc _ _ _ _ | cpy _ _ _ | clr _ _ _ | call _ _ | calle _ _ _ | bad | eqn _ _ | eqi _ _ => cases hp
  | _ =>
    simp only [opW, yv]
    exact optW_iff

theorem ldVar_le {A A' : AHeap} (h : A.le A') {p : AV} {n : Nat} {g : Bool} {v : AV} (e : ldVar A p n g = some v) : ldVar A' p n g = some v := by
  have hc : ∀ (q v : AV), ldCell A q = some v → ldCell A' q = some v := by
    intro q v e
    cases q <;> simp only [ldCell] at e ⊢ <;> first | (cases e; done) | skip
    · obtain ⟨cs, h1, h2⟩ := Option.bind_eq_some_iff.1 e
      rw [h _ _ h1]; exact h2
    · rename_i x i off
      cases x <;> simp only [elemCell] at e ⊢ <;> first | (cases e; done) | (exact e) | skip
      split at e
      · rename_i hh
        rw [if_pos hh]
        obtain ⟨cs, h1, h2⟩ := Option.bind_eq_some_iff.1 e
        rw [h _ _ h1]; exact h2
      · cases e
  have hcs : ∀ (n : Nat) (cs : List AV), ldCells A p n = some cs → ldCells A' p n = some cs := by
    intro n
    induction n with
    | zero => exact fun cs e => e
    | succ n ih =>
      intro cs e
      simp only [ldCells] at e ⊢
      obtain ⟨c1, h1, e⟩ := Option.bind_eq_some_iff.1 e
      obtain ⟨q, h2, e⟩ := Option.bind_eq_some_iff.1 e
      obtain ⟨u, h3, e⟩ := Option.map_eq_some_iff.1 e
      rw [ih _ h1, Option.bind_some, h2, Option.bind_some, hc _ _ h3, Option.map_some, e]
  unfold ldVar at *
  split at e
  · rename_i hg
    rw [if_pos hg]
    split at e
    · cases e
    · rename_i h0
      rw [if_neg h0]
      obtain ⟨cs, h1, h2⟩ := Option.map_eq_some_iff.1 e
      rw [hcs _ _ h1, Option.map_some, h2]
  · rename_i hg
    rw [if_neg hg]
    exact hc _ _ e

theorem onesOf_le {A A' : AHeap} (h : A.le A') {x : AV} {v : List AV} (e : onesOf A x = some v) : onesOf A' x = some v := by
  cases x <;> simp only [onesOf] at e ⊢ <;> first | (cases e; done) | (exact e) | skip
  split at e
  · rename_i hh
    rw [if_pos hh]
    obtain ⟨cs, h1, h2⟩ := Option.bind_eq_some_iff.1 e
    rw [h _ _ h1]; exact h2
  · cases e

theorem yv_keep {s s' : St} {op : AOp} (hp : (isPure op || isLd op) = true) (he : ∀ x ∈ opdsOf op, s'.ev x = s.ev x) (hA : isPure op = true ∨ s.A.le s'.A) {v : AV} (h : yv S s op = some v) : yv S s' op = some v := by
  by_cases hld : isLd op = true
  · have hle : s.A.le s'.A := hA.resolve_left (by cases op <;> first | (cases hld; done) | (intro h; cases h))
    cases op <;> first | (cases hld; done) | skip
    · simp only [opdsOf, List.mem_cons, List.not_mem_nil, or_false, forall_eq] at he
      simp only [yv, pureOp, he] at h ⊢
      obtain ⟨x, h1, h2⟩ := Option.bind_eq_some_iff.1 h
      rw [onesOf_le hle h1]; exact h2
    · simp only [opdsOf, List.mem_cons, List.not_mem_nil, or_false, forall_eq] at he
      simp only [yv, pureOp, he] at h ⊢
      exact ldVar_le hle h
  · have hpp : isPure op = true := by
      cases hh : isPure op
      · rw [hh] at hp; simp at hp; exact absurd hp hld
      · rfl
    -- such an operation looks at no memory
    have hs : yv S s' op = yv S { s' with A := s.A } op := by
      cases op <;> first | rfl | (cases hpp; done) | (exact absurd rfl hld)
    rw [hs]
    have h1 := (opW_yv (P := default) (S := S) (s := s) hp (K := fun r _ => r = v)).2 ⟨v, h, rfl⟩
    rw [← opW_congr (s := s) (s' := { s' with A := s.A }) rfl he] at h1
    obtain ⟨v', h2, h3⟩ := (opW_yv hp).1 h1
    rw [h2, h3]

def yld (S : Spec) (o : AOper) (v : AV) (s : St) : Prop :=
  (guardOk s o.guard = some false ∧ v = .tup []) ∨ (guardOk s o.guard = some true ∧ yv S s o.op = some v)

theorem wpg_yld {o : AOper} (hp : (isPure o.op || isLd o.op) = true) {s : St} {K : St → Prop} : wpg P S s o K ↔ ∃ v, yld S o v s ∧ K (s.put o.dst v) := by
  unfold wpg yld
  cases hg : guardOk s o.guard with
  | none =>
    rw [optW_none]
    constructor
    · exact False.elim
    · rintro ⟨v, h1, h2⟩; rcases h1 with h1 | h1 <;> cases h1.1
  | some gb =>
  rw [optW_some]
  cases gb with
  | true =>
    rw [brW_true]
    unfold wpo
    rw [opW_yv hp]
    constructor
    · rintro ⟨v, h1, h2⟩; exact ⟨v, .inr ⟨rfl, h1⟩, h2⟩
    · rintro ⟨v, h1, h2⟩; exact ⟨v, (h1.resolve_left (fun h => by cases h.1)).2, h2⟩
  | false =>
    rw [brW_false]
    constructor
    · intro h; exact ⟨_, .inl ⟨rfl, rfl⟩, h⟩
    · rintro ⟨v, h1, h2⟩
      obtain ⟨_, rfl⟩ := h1.resolve_right (fun h => by cases h.1)
      exact h2

theorem put_t {s : St} {d : Option Nat} {v : AV} {t : Nat} (h : d ≠ some t) : (s.put d v).t t = s.t t := by
  cases d with
  | none => rfl
  | some d =>
    have : t ≠ d := fun e => h (by rw [e])
    simp [St.put, putT, this]
@[simp] theorem put_A {s : St} {d : Option Nat} {v : AV} : (s.put d v).A = s.A := by cases d <;> rfl

theorem put_put {s : St} {A' : AHeap} {d d' : Option Nat} {v r : AV} (h : ∀ i, d = some i → d' ≠ some i) : ({ s.put d v with A := A' } : St).put d' r = (({ s with A := A' } : St).put d' r).put d v := by
  cases d with
  | none => cases d' <;> rfl
  | some d =>
    cases d' with
    | none => rfl
    | some d' =>
      have hne : d' ≠ d := fun e => h d rfl (by rw [e])
      simp only [St.put]
      congr 1
      funext i
      simp only [putT]
      by_cases h1 : i = d
      · subst h1; simp [Ne.symm hne]
      · simp [h1]

theorem looks_ev {o : AOper} {s s' : St} (h : ∀ t ∈ looks o, s'.t t = s.t t) : (∀ x ∈ opdsOf o.op, s'.ev x = s.ev x) ∧ guardOk s' o.guard = guardOk s o.guard := by
  constructor
  · intro x hx
    cases x with
    | t n => exact h n (by unfold looks; exact List.mem_append.2 (.inl (List.mem_filterMap.2 ⟨.t n, hx, rfl⟩)))
    | c v => rfl
  · cases hg : o.guard with
    | none => rfl
    | some p =>
      obtain ⟨g, want⟩ := p
      simp only [guardOk]
      rw [h g (by unfold looks; rw [hg]; simp)]

theorem commutes_spec {x y : AOper} (h : commutes x y = true) : (∀ d, x.dst = some d → d ∉ looks y) ∧ (∀ d, x.dst = some d → y.dst ≠ some d) ∧ (∀ d, y.dst = some d → d ∉ looks x) ∧ (isPure x.op = true ∨ (isLd x.op = true ∧ (grows y.op = true ∨ ckd x.op y.op = true))) := by
  unfold commutes at h
  rw [Bool.and_eq_true] at h
  obtain ⟨h, h4⟩ := h
  refine ⟨fun d hd => ?_, fun d hd => ?_, fun d hd => ?_, by simpa using h4⟩ <;> simp [apartA, hd] at h
  · exact h.1.1
  · exact h.1.2
  · exact h.2

theorem cksW_get {A A' : AHeap} : ∀ {l : List (AV × Nat × Bool)}, cksW A A' l → ∀ c ∈ l, ckW A A' c
  | [], _, c, hc => by cases hc
  | d :: r, h, c, hc => by
    rcases List.mem_cons.1 hc with rfl | hc
    · exact h.1
    · exact cksW_get h.2 c hc
theorem opW_ckd {s : St} {x y : AOp} (hc : ckd x y = true) {K : AV → AHeap → Prop} (hK : opW P S s y K) : opW P S s y fun r A' => (∀ (v : AV) (s' : St), (∀ z ∈ opdsOf x, s'.ev z = s.ev z) → s'.A = A' → yv S s x = some v → yv S s' x = some v) ∧ K r A' := by
  cases x <;> first | (cases hc; done) | skip
  rename_i p n g
  cases y <;> first | (cases hc; done) | skip
  rename_i f args cks
  simp only [ckd, List.any_eq_true, Bool.and_eq_true, beq_iff_eq] at hc
  obtain ⟨c, hc, hcc⟩ := hc
  simp only [opW] at hK ⊢
  refine optW_mono (fun r hK => ⟨hK.1, fun v s' he hA hv => ?_, hK.2⟩) hK
  have := cksW_get hK.1 (s.ev c.1, c.2) (List.mem_map.2 ⟨c, hc, rfl⟩)
  simp only [opdsOf, List.mem_cons, List.not_mem_nil, or_false, forall_eq] at he
  simp only [yv, pureOp] at hv ⊢
  rw [he, hA]
  have hle : leL s.A.l r.2.l → ldVar r.2 (s.ev p) n g = some v := fun h => ldVar_le (leL_le h) hv
  simp only [Bool.or_eq_true, Bool.and_eq_true, beq_iff_eq] at hcc
  rcases hcc with h0 | ⟨h1, h2, h3⟩
  · have hn : c.1 = .c .nilf := by
      generalize c.1 = d at h0
      cases d with
      | t n => cases h0
      | c x => cases x <;> first | rfl | (cases h0)
    simp only [hn, St.ev, ckW] at this
    exact hle this
  · have hp : c.1 = p := by
      generalize c.1 = d at h1
      cases d <;> cases p <;> simp_all [opdB]
    simp only [hp, h2, h3, ckW] at this
    split at this
    · exact hle this
    · rw [this]; exact hv

theorem wpg_frame {x y : AOper} (hc : commutes x y = true) {v : AV} {s : St} (hy : yld S x v s) {K : St → Prop} (h : wpg P S (s.put x.dst v) y K) :
    wpg P S s y fun s' => K (s'.put x.dst v) ∧ yld S x v s' := by
  obtain ⟨h1, h2, h3, h4⟩ := commutes_spec hc
  have hev := looks_ev (o := y) (s := s) (s' := s.put x.dst v) (fun t ht => put_t (fun e => h1 t e ht))
  have keep : ∀ (A' : AHeap) (r : AV), (isPure x.op = true ∨ s.A.le A') → yld S x v (({ s with A := A' } : St).put y.dst r) := by
    intro A' r hA
    have hx := looks_ev (o := x) (s := s) (s' := ({ s with A := A' } : St).put y.dst r) (fun t ht => by rw [put_t (fun e => h3 t e ht)])
    unfold yld at *
    rw [hx.2]
    rcases hy with hy | hy
    · exact .inl hy
    · refine .inr ⟨hy.1, yv_keep ?_ hx.1 (by simpa using hA) hy.2⟩
      rcases h4 with h4 | h4
      · simp [h4]
      · simp [h4.1]
  unfold wpg at *
  rw [hev.2] at h
  obtain ⟨gb, hg, h⟩ := optW_iff.1 h
  refine optW_iff.2 ⟨gb, hg, ?_⟩
  cases gb with
  | true =>
    rw [brW_true] at *
    unfold wpo at *
    rw [opW_congr (s := s) (s' := s.put x.dst v) (by simp) hev.1] at h
    have hput : ∀ r A', ({ s.put x.dst v with A := A' } : St).put y.dst r = (({ s with A := A' } : St).put y.dst r).put x.dst v := fun r A' => put_put h2
    rcases h4 with h4 | h4
    · refine opW_mono (fun r A' hk => ?_) h
      rw [hput] at hk
      exact ⟨hk, keep A' r (.inl h4)⟩
    · obtain ⟨hld, h4⟩ := h4
      rcases h4 with h4 | h4
      · refine opW_mono (fun r A' hk => ?_) (opW_le h4 h)
        rw [hput] at hk
        exact ⟨hk.2, keep A' r (.inr hk.1)⟩
      · refine opW_mono (fun r A' hk => ?_) (opW_ckd (x := x.op) h4 h)
        rw [hput] at hk
        refine ⟨hk.2, ?_⟩
        have hx := looks_ev (o := x) (s := s) (s' := ({ s with A := A' } : St).put y.dst r) (fun t ht => by rw [put_t (fun e => h3 t e ht)])
        unfold yld at *
        rw [hx.2]
        rcases hy with hy | hy
        · exact .inl hy
        · exact .inr ⟨hy.1, hk.1 v _ hx.1 (by simp) hy.2⟩
  | false =>
    rw [brW_false] at *
    have := put_put (s := s) (A' := s.A) (d := x.dst) (d' := y.dst) (v := v) (r := .tup []) h2
    have e1 : ({ s.put x.dst v with A := s.A } : St) = s.put x.dst v := by cases hd : x.dst <;> rfl
    rw [e1] at this
    rw [this] at h
    exact ⟨h, keep s.A _ (.inr (fun _ _ h => h))⟩

end Go.Proofs.YtlglgcmpeabdnaaGreatDoorAi

/- Guards and regions. -/
namespace Go.Proofs.YtlglgcmpeabdnaaGreatDoorAi
open Go Go.RowKit
set_option linter.unusedVariables false
set_option linter.unusedSimpArgs false

variable {P : Program} {S : Spec} {σ : Sg} {w : World}

theorem guard_eq {B : Nat → Prop} {n : Nat} {w0 : World} {s : St} {a : Act} (hs : SimSt B w0 n σ s a w) {ops : Array Oper} {o : Oper} {ao : AOper} (hc : ccOper P ops o = some ao) :
    (∀ b, guardOk s ao.guard = some b → Region.wanted o (yielded ops a.tmps) = b) ∧ ao.dst = o.dst ∧ ao.op = (ccOp P o.op).getD .bad := by
  unfold ccOper at hc
  obtain ⟨g, hg, rfl⟩ := Option.map_eq_some_iff.1 hc
  refine ⟨fun wb hwb => ?_, rfl, rfl⟩
  unfold Region.wanted
  cases hog : o.guard with
  | none =>
    rw [hog] at hg
    obtain rfl := Option.some.inj hg
    exact Option.some.inj hwb
  | some jw =>
    obtain ⟨j, want⟩ := jw
    rw [hog] at hg
    simp only [Option.bind_eq_some_iff, Option.map_eq_some_iff] at hg
    obtain ⟨p, hp, d, hd, rfl⟩ := hg
    simp only [guardOk] at hwb
    simp only [yielded, hp, Option.bind_some, hd]
    have hr := hs.tmps d
    by_cases hlt : d < a.tmps.size
    · have h1 : a.tmps[d]? = some (a.tmps.getD d undef) := by simp [hlt]
      rw [h1]
      generalize a.tmps.getD d undef = v at hr
      generalize s.t d = x at hr hwb
      cases hr <;> simp at hwb ⊢ <;> exact hwb
    · have h1 : a.tmps[d]? = none := Array.getElem?_eq_none (Nat.le_of_not_lt hlt)
      have h2 : a.tmps.getD d undef = undef := by simp [h1]
      rw [h1]
      rw [h2] at hr
      generalize hx : s.t d = x at hr hwb
      cases x <;> first | (exact Option.some.inj hwb) | (exfalso; cases hr; done) | (cases hwb; done)

theorem wpg_sound2 (hS : Quiet P S) {q : FuncId → Nat} {B : Nat → Prop} {n : Nat} {w0 : World} (hG : GoodP P B w0) {s : St} {a : Act} (hs : SimSt B w0 n σ s a w) {ops : Array Oper} {o : Oper} {ao : AOper} (hc : ccOper P ops o = some ao) (hd : ∀ i, ao.dst = some i → i < n)
    {K : St → Prop} (hK : wpg P S s (quietOper q ao) K) {next : Act → World → Prop} {Q : Exit → Act → World → Prop} (hn : ∀ σ' s' a' w', σ.Le σ' → K s' → SimSt B w0 n σ' s' a' w' → (∃ v, a' = a.put o.dst v) → next a' w') :
    if Region.wanted o (yielded ops a.tmps) then o.wp P a w next Q ∨ (o.asks P a w ∧ LetsOut Q) else next (a.put o.dst undef) w := by
  obtain ⟨h1, h2, h3⟩ := guard_eq hs hc
  have hd' : ∀ i, o.dst = some i → i < n := by rw [← h2]; exact hd
  unfold wpg at hK
  obtain ⟨gb, hg, hK⟩ := optW_iff.1 hK
  rw [h1 gb hg]
  cases gb with
  | true =>
    rw [brW_true] at hK
    rw [if_pos rfl]
    refine .inl ?_
    unfold wpo at hK
    cases hop : ccOp P o.op with
    | none =>
      rw [hop] at h3
      simp only [quietOper, h3, Option.getD_none, quietOp, opW] at hK
    | some op0 =>
      rw [hop] at h3
      simp only [quietOper, h3, Option.getD_some, h2] at hK
      refine op_sound hS hG hs hop hK fun r A' v w' hk hstep => ?_
      obtain ⟨σ', k1, k2, k3, k4⟩ := hstep
      exact hn σ' _ _ w' k1 hk ((hs.move k1 k2 k4).put k3 o.dst hd') ⟨v, rfl⟩
  | false =>
    rw [brW_false] at hK
    simp only [quietOper, h2] at hK
    rw [if_neg (by simp)]
    exact hn σ _ _ w (.refl σ) hK (hs.put (rep_undef σ) o.dst hd') ⟨undef, rfl⟩

theorem wpg_sound (hS : Quiet P S) {q : FuncId → Nat} {B : Nat → Prop} {n : Nat} {w0 : World} (hG : GoodP P B w0) {s : St} {a : Act} (hs : SimSt B w0 n σ s a w) {ops : Array Oper} {o : Oper} {ao : AOper} (hc : ccOper P ops o = some ao) (hd : ∀ i, ao.dst = some i → i < n)
    {K : St → Prop} (hK : wpg P S s (quietOper q ao) K) {next : Act → World → Prop} {Q : Exit → Act → World → Prop} (hn : ∀ σ' s' a' w', σ.Le σ' → K s' → SimSt B w0 n σ' s' a' w' → next a' w') :
    if Region.wanted o (yielded ops a.tmps) then o.wp P a w next Q ∨ (o.asks P a w ∧ LetsOut Q) else next (a.put o.dst undef) w :=
  wpg_sound2 hS hG hs hc hd hK fun σ' s' a' w' h1 h2 h3 _ => hn σ' s' a' w' h1 h2 h3

def dOk (n : Nat) (o : AOper) : Bool := match o.dst with | some d => decide (d < n) | none => true
theorem dOk_spec {n : Nat} {o : AOper} (h : dOk n o = true) : ∀ i, o.dst = some i → i < n := by
  intro i hi
  unfold dOk at h
  rw [hi] at h
  exact of_decide_eq_true h

theorem wps_sound (hS : Quiet P S) {q : FuncId → Nat} {B : Nat → Prop} {n : Nat} {w0 : World} (hG : GoodP P B w0) {ops : Array Oper} {aops : List AOper} (hc : ops.toList.mapM (ccOper P ops) = some aops) (hd : ∀ o ∈ aops, dOk n o = true) {K : St → Prop} {Q : Exit → Act → World → Prop}
    {σ0 : Sg} (hn : ∀ σ' s' a' w', σ0.Le σ' → K s' → SimSt B w0 n σ' s' a' w' → Q .normal a' w') :
    ∀ (k i : Nat), i + k = ops.size → ∀ (σ : Sg) (s : St) (a : Act) (w : World), σ0.Le σ → SimSt B w0 n σ s a w → wps P S ((aops.map (quietOper q)).drop i) s K → wpOps P ops Q (List.range' i k) a w := by
  obtain ⟨hl, hget⟩ := mapM_some_length _ _ _ hc
  have hl : aops.length = ops.size := by simpa using hl
  intro k
  induction k with
  | zero =>
    intro i hi σ s a w hle hs h
    rw [List.drop_of_length_le (by simp; omega)] at h
    exact hn _ _ _ _ hle h hs
  | succ k ih =>
    intro i hi σ s a w hle hs h
    have hlt : i < aops.length := by omega
    have hlt' : i < ops.size := by omega
    rw [List.drop_eq_getElem_cons (by simpa using hlt)] at h
    simp only [List.getElem_map] at h
    obtain ⟨ao, hao, hcc⟩ := hget i ops[i] (by simp [hlt'])
    rw [List.getElem?_eq_getElem hlt] at hao
    obtain rfl := Option.some.inj hao
    rw [List.range'_succ]
    simp only [wpOps, Array.getElem?_eq_getElem hlt']
    have := wpg_sound (q := q) hS hG hs hcc (dOk_spec (hd _ (List.getElem_mem hlt))) h (next := wpOps P ops Q (List.range' (i + 1) k)) (Q := Q)
      (fun σ' s' a' w' hl' hk hs' => ih (i + 1) (by omega) σ' s' a' w' (hle.trans hl') hs' hk)
    simpa using this

theorem ready_eq {ops : Array Oper} {aops : List (AOper × List Nat)} (hc : ops.toList.mapM (fun o => (ccOper P ops o).map fun a => (a, depsOf o)) = some aops) {done : List Nat} {listed : Array Bool}
    (hsz : listed.size = ops.size) (hl : ∀ i, listed.getD i false = done.contains i) : Region.ready .any ops listed = readyA aops done := by
  obtain ⟨hlen, hget⟩ := mapM_some_length _ _ _ hc
  have hlen : aops.length = ops.size := by simpa using hlen
  unfold Region.ready readyA
  rw [hlen]
  apply List.filter_congr
  intro i hi
  have hi : i < ops.size := List.mem_range.1 hi
  have h1 : listed.getD i true = done.contains i := by rw [← hl i]; simp [hsz, hi]
  obtain ⟨y, hy, hf⟩ := hget i ops[i] (by simp [hi])
  obtain ⟨ao, _, rfl⟩ := Option.map_eq_some_iff.1 hf
  rw [h1, hy, Array.getElem?_eq_getElem hi]
  simp only [Option.map_some, Option.getD_some]
  congr 1
  rw [Bool.eq_iff_iff]
  simp only [Array.all_eq_true_iff_forall_mem, List.all_eq_true, depsOf, List.mem_map, List.mem_filter, Bool.or_eq_true, Bool.not_eq_true', hl]
  constructor
  · rintro h j ⟨e, ⟨he, hb⟩, rfl⟩
    exact (h e (Array.mem_toList_iff.1 he)).resolve_left (by simp [hb])
  · intro h e he
    cases hb : Region.binds .any e
    · exact .inl rfl
    · exact .inr (h _ ⟨e, ⟨Array.mem_toList_iff.2 he, hb⟩, rfl⟩)

theorem readyA_congr {aops aops' : List (AOper × List Nat)} (h : aops.map (·.2) = aops'.map (·.2)) (done : List Nat) : readyA aops done = readyA aops' done := by
  have hl : aops.length = aops'.length := by simpa using congrArg List.length h
  unfold readyA
  rw [hl]
  apply List.filter_congr
  intro i hi
  congr 1
  have : (aops[i]?).map (·.2) = (aops'[i]?).map (·.2) := by rw [← List.getElem?_map, ← List.getElem?_map, h]
  cases h1 : aops[i]? <;> cases h2 : aops'[i]? <;> simp [h1, h2] at this ⊢
  rw [this]

theorem wpg_ck {s : St} {o : AOper} {cks : List (Nat × List (Opd × Nat × Bool))} {i : Nat} {K : St → Prop} (hc : ∀ f args c, o.op = .calle f args c → c = []) (h : wpg P S s (addCk cks o i) K) : wpg P S s o K := by
  obtain ⟨d, op, g⟩ := o
  cases op with
  | calle f args c =>
    obtain rfl := hc f args c rfl
    simp only [addCk] at h
    unfold wpg wpo at *
    obtain ⟨gb, hg, h⟩ := optW_iff.1 h
    refine optW_iff.2 ⟨gb, hg, ?_⟩
    cases gb with
    | false => rw [brW_false] at *; exact h
    | true =>
      rw [brW_true] at *
      simp only [opW] at *
      obtain ⟨r, hr, h⟩ := optW_iff.1 h
      exact optW_iff.2 ⟨r, hr, trivial, h.2⟩
  | app e b x y =>
    simp only [addCk] at h
    split at h
    · unfold wpg wpo at *
      obtain ⟨gb, hg, h⟩ := optW_iff.1 h
      refine optW_iff.2 ⟨gb, hg, ?_⟩
      cases gb with
      | false => rw [brW_false] at *; exact h
      | true =>
        rw [brW_true] at *
        simp only [opW] at h ⊢
        exact optW_mono (fun ys h => optW_mono (fun m h => appW_mono (fun r A' hk => hk.2) h) h) h
    · exact h
  | _ => exact h

theorem wpall_sound (hS : Quiet P S) {q : FuncId → Nat} {cks : List (Nat × List (Opd × Nat × Bool))} {B : Nat → Prop} {n : Nat} {w0 : World} (hG : GoodP P B w0) {ops : Array Oper} {aops : List (AOper × List Nat)} (hc : ops.toList.mapM (fun o => (ccOper P ops o).map fun a => (a, depsOf o)) = some aops) (hd : ∀ o ∈ aops, dOk n o.1 = true) {K : St → Prop} {Q : Exit → Act → World → Prop}
    {σ0 : Sg} (hn : ∀ σ' s' a' w', σ0.Le σ' → K s' → SimSt B w0 n σ' s' a' w' → Q .normal a' w') :
    ∀ (k : Nat) (done : List Nat) (listed : Array Bool), listed.size = ops.size → (∀ i, listed.getD i false = done.contains i) → ∀ (σ : Sg) (s : St) (a : Act) (w : World), σ0.Le σ → SimSt B w0 n σ s a w → wpall P S (drawn q cks aops) k done s K → wpAny P .any ops Q k listed a w := by
  obtain ⟨hlen, hget⟩ := mapM_some_length _ _ _ hc
  have hlen : aops.length = ops.size := by simpa using hlen
  have hrq : ∀ done, readyA (drawn q cks aops) done = readyA aops done := fun done => readyA_congr (by
    apply List.ext_getElem?
    intro i
    simp [drawn, Function.comp_def]) done
  intro k
  induction k with
  | zero =>
    intro done listed hsz hl σ s a w hle hs h
    refine ⟨?_, hn _ _ _ _ hle h.2 hs⟩
    rw [ready_eq hc hsz hl, ← hrq]
    exact h.1
  | succ k ih =>
    intro done listed hsz hl σ s a w hle hs h
    refine ⟨fun h0 => hn _ _ _ _ hle (h.1 (by rw [hrq, ← ready_eq hc hsz hl]; exact h0)) hs, fun i hi => ?_⟩
    rw [ready_eq hc hsz hl] at hi
    have hilt : i < ops.size := by
      have := List.mem_range.1 (List.mem_filter.1 hi).1
      omega
    have hilt' : i < aops.length := by omega
    obtain ⟨y, hy, hf⟩ := hget i ops[i] (by simp [hilt])
    obtain ⟨ao, hao, rfl⟩ := Option.map_eq_some_iff.1 hf
    have h2 := h.2 i (by rw [hrq]; exact hi) (addCk cks (quietOper q ao) i, depsOf ops[i]) (by simp only [drawn, List.getElem?_mapIdx, hy]; rfl)
    replace h2 := wpg_ck (by
      intro f args c e
      simp only [quietOper] at e
      have e3 := (guard_eq hs hao).2.2
      cases hop : ccOp P ops[i].op with
      | none =>
        rw [hop] at e3
        rw [e3] at e
        cases e
      | some op0 =>
        rw [hop] at e3
        rw [e3] at e
        simp only [Option.getD_some] at e
        unfold quietOp at e
        split at e
        · split at e
          · cases e
          · split at e
            · injection e with _ _ e; exact e.symm
            · cases e
        · exact (cc_calle hop (by rw [e]; rfl)).elim) h2
    unfold wpOp
    simp only [Array.getElem?_eq_getElem hilt]
    refine wpg_sound (q := q) hS hG hs hao (dOk_spec (hd _ (List.mem_of_getElem? hy))) h2 fun σ' s' a' w' hl' hk hs' => ih (i :: done) _ (by simp [hsz]) (fun j => ?_) σ' s' a' w' (hle.trans hl') hs' hk
    by_cases hij : i = j
    · subst hij
      simp [hsz, hilt]
    · rw [getD_set_ne false hij, hl j]
      simp [List.contains_cons, Ne.symm hij]

end Go.Proofs.YtlglgcmpeabdnaaGreatDoorAi

/- One order stands for all. -/
namespace Go.Proofs.YtlglgcmpeabdnaaGreatDoorAi
open Go Go.RowKit
set_option linter.unusedVariables false
set_option linter.unusedSimpArgs false

variable {P : Program} {S : Spec}

theorem mem_readyA {ops : List (AOper × List Nat)} {done : List Nat} {i : Nat} : i ∈ readyA ops done ↔ ∃ o, ops[i]? = some o ∧ i ∉ done ∧ ∀ d ∈ o.2, d ∈ done := by
  unfold readyA
  rw [List.mem_filter, List.mem_range]
  constructor
  · rintro ⟨h1, h2⟩
    rw [List.getElem?_eq_getElem h1] at *
    refine ⟨_, rfl, ?_⟩
    simpa using h2
  · rintro ⟨o, ho, h1, h2⟩
    have hlt := (List.getElem?_eq_some_iff.1 ho).1
    refine ⟨hlt, ?_⟩
    rw [ho]
    simpa [h1] using h2

theorem readyA_cong {ops : List (AOper × List Nat)} {done done' : List Nat} (h : ∀ x, x ∈ done ↔ x ∈ done') : readyA ops done = readyA ops done' := by
  unfold readyA
  apply List.filter_congr
  intro i hi
  have hc : ∀ x, done.contains x = done'.contains x := fun x => by
    rw [Bool.eq_iff_iff]; simp [h x]
  rw [hc i]
  congr 1
  cases ops[i]? with
  | none => rfl
  | some o =>
    simp only
    congr 1
    funext x
    exact hc x

theorem wpg_mono {s : St} {o : AOper} {K K' : St → Prop} (h : ∀ s, K s → K' s) (hK : wpg P S s o K) : wpg P S s o K' := by
  unfold wpg wpo at *
  exact optW_mono (fun b hb => brW_mono (fun hK => opW_mono (fun _ _ => h _) hK) (h _) hb) hK

theorem wps_mono {K K' : St → Prop} (h : ∀ s, K s → K' s) : ∀ (ops : List AOper) (s : St), wps P S ops s K → wps P S ops s K'
  | [], s, hK => h s hK
  | o :: r, s, hK => wpg_mono (fun s' hk => wps_mono h r s' hk) hK

theorem wpall_cong {ops : List (AOper × List Nat)} {K : St → Prop} : ∀ (n : Nat) {done done' : List Nat} (s : St), (∀ x, x ∈ done ↔ x ∈ done') → wpall P S ops n done s K → wpall P S ops n done' s K
  | 0, _, _, s, h, hK => ⟨by rw [← readyA_cong h]; exact hK.1, hK.2⟩
  | n + 1, _, _, s, h, hK => by
    refine ⟨by rw [← readyA_cong h]; exact hK.1, fun i hi o ho => ?_⟩
    rw [← readyA_cong h] at hi
    exact wpg_mono (fun s' hk => wpall_cong n s' (fun x => by simp [h x]) hk) (hK.2 i hi o ho)

/-- What is behind is behind. -/
def Closed (ops : List (AOper × List Nat)) (anc : List Nat) (done : List Nat) : Prop := ∀ k ∈ done, ∀ i, i < ops.length → (anc.getD k 0).testBit i = true → i ∈ done

theorem ancOk_spec {ops : List (AOper × List Nat)} {anc : List Nat} (h : ancOk ops anc = true) {j i : Nat} {o : AOper × List Nat} (hj : ops[j]? = some o) (hi : i < ops.length) (hb : (anc.getD j 0).testBit i = true) : ∃ d ∈ o.2, d = i ∨ (anc.getD d 0).testBit i = true := by
  unfold ancOk at h
  rw [List.all_eq_true] at h
  have h1 := h j (List.mem_range.2 (List.getElem?_eq_some_iff.1 hj).1)
  rw [hj] at h1
  simp only [List.all_eq_true, List.mem_range] at h1
  have h2 := h1 i hi
  rw [hb] at h2
  simpa using h2

/-- What may come next has all that is ahead of it done. -/
theorem Closed.ready {ops : List (AOper × List Nat)} {anc : List Nat} (ha : ancOk ops anc = true) {done : List Nat} (hc : Closed ops anc done) {j : Nat} (hj : j ∈ readyA ops done) {i : Nat} (hi : i < ops.length) (hb : (anc.getD j 0).testBit i = true) : i ∈ done := by
  obtain ⟨o, ho, _, hd⟩ := mem_readyA.1 hj
  obtain ⟨d, hd', h⟩ := ancOk_spec ha ho hi hb
  rcases h with rfl | h
  · exact hd _ hd'
  · exact hc d (hd d hd') i hi h

theorem Closed.cons {ops : List (AOper × List Nat)} {anc : List Nat} (ha : ancOk ops anc = true) {done : List Nat} (hc : Closed ops anc done) {j : Nat} (hj : j ∈ readyA ops done) : Closed ops anc (j :: done) := by
  intro k hk i hi hb
  rcases List.mem_cons.1 hk with rfl | hk
  · exact List.mem_cons_of_mem _ (hc.ready ha hj hi hb)
  · exact List.mem_cons_of_mem _ (hc k hk i hi hb)

theorem ready_cons {ops : List (AOper × List Nat)} {done : List Nat} {i j : Nat} (hj : j ∈ readyA ops done) (hne : j ≠ i) : j ∈ readyA ops (i :: done) := by
  obtain ⟨o, ho, h1, h2⟩ := mem_readyA.1 hj
  exact mem_readyA.2 ⟨o, ho, by simp [hne, h1], fun d hd => List.mem_cons_of_mem _ (h2 d hd)⟩

theorem wpall_first {ops : List (AOper × List Nat)} {anc : List Nat} (ha : ancOk ops anc = true) {K : St → Prop} {i : Nat} {oi : AOper × List Nat} (hoi : ops[i]? = some oi) {v : AV} (hp : (isPure oi.1.op || isLd oi.1.op) = true) :
    ∀ (n : Nat) (done : List Nat) (s : St), (∀ j oj, ops[j]? = some oj → j ∉ done → j ≠ i → (anc.getD j 0).testBit i = true ∨ commutes oi.1 oj.1 = true) → i ∈ readyA ops done → Closed ops anc done → yld S oi.1 v s →
      wpall P S ops n (i :: done) (s.put oi.1.dst v) K → wpall P S ops (n + 1) done s K := by
  have hilt := (List.getElem?_eq_some_iff.1 hoi).1
  intro n
  induction n with
  | zero =>
    intro done s hc hr hcl hy H
    refine ⟨fun h0 => (by rw [h0] at hr; cases hr), fun j hj o ho => ?_⟩
    by_cases hji : j = i
    · subst hji
      rw [hoi] at ho
      obtain rfl := Option.some.inj ho
      exact (wpg_yld hp).2 ⟨v, hy, H⟩
    · have := ready_cons hj hji
      rw [H.1] at this
      cases this
  | succ n ih =>
    intro done s hc hr hcl hy H
    refine ⟨fun h0 => (by rw [h0] at hr; cases hr), fun j hj o ho => ?_⟩
    by_cases hji : j = i
    · subst hji
      rw [hoi] at ho
      obtain rfl := Option.some.inj ho
      exact (wpg_yld hp).2 ⟨v, hy, H⟩
    · obtain ⟨_, _, hid, _⟩ := mem_readyA.1 hr
      obtain ⟨_, _, hjd, _⟩ := mem_readyA.1 hj
      have hcm := (hc j o ho hjd hji).resolve_left fun hb => hid (hcl.ready ha hj hilt hb)
      have h1 := H.2 j (ready_cons hj hji) o ho
      refine wpg_mono (fun s' hk => ?_) (wpg_frame hcm hy h1)
      refine ih (j :: done) s' (fun k ok hk' hkd hki => hc k ok hk' (fun h => hkd (List.mem_cons_of_mem _ h)) hki) (ready_cons hr (Ne.symm hji)) (hcl.cons ha hj) hk.2 ?_
      exact wpall_cong n _ (fun x => by simp only [List.mem_cons]; constructor <;> (rintro (h | h | h) <;> simp [h])) hk.1

theorem lin_sound {ops : List (AOper × List Nat)} {anc : List Nat} (ha : ancOk ops anc = true) {K : St → Prop} :
    ∀ (order : List Nat) (n : Nat) (done : List Nat) (s : St), order.length ≤ n → Closed ops anc done → linOk ops anc done order = true → wps P S (ordered ops order) s K → wpall P S ops n done s K := by
  intro order
  induction order with
  | nil =>
    intro n done s hn hcl h hK
    have h0 : readyA ops done = [] := by
      apply List.eq_nil_iff_forall_not_mem.2
      intro i hi
      obtain ⟨o, ho, h1, _⟩ := mem_readyA.1 hi
      simp only [linOk, List.all_eq_true, List.mem_range] at h
      exact h1 (by simpa using h i (List.getElem?_eq_some_iff.1 ho).1)
    cases n with
    | zero => exact ⟨h0, hK⟩
    | succ n => exact ⟨fun _ => hK, fun i hi => by rw [h0] at hi; cases hi⟩
  | cons i r ih =>
    intro n done s hn hcl h hK
    obtain ⟨n, rfl⟩ : ∃ m, n = m + 1 := ⟨n - 1, by simp at hn; omega⟩
    simp only [linOk, Bool.and_eq_true] at h
    obtain ⟨h1, h2⟩ := h
    cases hoi : ops[i]? with
    | none => rw [hoi] at h1; cases h1
    | some oi =>
      rw [hoi] at h1
      simp only [Bool.and_eq_true, Bool.not_eq_true', List.all_eq_true, List.mem_range] at h1
      obtain ⟨⟨h3, h4⟩, h5⟩ := h1
      have hilt := (List.getElem?_eq_some_iff.1 hoi).1
      have hr : i ∈ readyA ops done := mem_readyA.2 ⟨oi, hoi, by simpa using h3, fun d hd => by simpa using h4 d hd⟩
      have hcl' := hcl.cons ha hr
      have hK' : wpg P S s oi.1 fun s' => wps P S (ordered ops r) s' K := by simpa [ordered, hoi, wps] using hK
      have hcm : ∀ j oj, ops[j]? = some oj → j ∉ done → j ≠ i → (anc.getD j 0).testBit i = true ∨ commutes oi.1 oj.1 = true := by
        intro j oj hj hjd hji
        have := h5 j (List.getElem?_eq_some_iff.1 hj).1
        rw [hj] at this
        simpa [hjd, hji] using this
      have hrest : ∀ s', wps P S (ordered ops r) s' K → wpall P S ops n (i :: done) s' K := fun s' hk => ih n (i :: done) s' (by simp at hn; omega) hcl' h2 hk
      by_cases hall : ∃ j oj, ops[j]? = some oj ∧ j ∉ done ∧ j ≠ i ∧ commutes oi.1 oj.1 = true
      · obtain ⟨_, _, _, _, _, hcom⟩ := hall
        have hp : (isPure oi.1.op || isLd oi.1.op) = true := by
          rcases (commutes_spec hcom).2.2.2 with h | h <;> simp [h]
        obtain ⟨v, hy, hk⟩ := (wpg_yld hp).1 hK'
        exact wpall_first ha hoi hp n done s hcm hr hcl hy (hrest _ hk)
      · refine ⟨fun h0 => (by rw [h0] at hr; cases hr), fun j hj o ho => ?_⟩
        by_cases hji : j = i
        · subst hji
          rw [hoi] at ho
          obtain rfl := Option.some.inj ho
          exact wpg_mono hrest hK'
        · exfalso
          obtain ⟨_, _, hid, _⟩ := mem_readyA.1 hr
          obtain ⟨_, _, hjd, _⟩ := mem_readyA.1 hj
          rcases hcm j o ho hjd hji with hb | hc
          · exact hid (hcl.ready ha hj hilt hb)
          · exact hall ⟨j, o, ho, hjd, hji, hc⟩


/-- A step that commutes with all that might come instead. -/
theorem step_sound {ops : List (AOper × List Nat)} {anc : List Nat} (ha : ancOk ops anc = true) {K X : St → Prop} {i n : Nat} {oi : AOper × List Nat} {done : List Nat} {s : St} (hoi : ops[i]? = some oi) (h3 : i ∉ done) (h4 : ∀ d ∈ oi.2, d ∈ done)
    (hcm : ∀ j oj, ops[j]? = some oj → j ∉ done → j ≠ i → (anc.getD j 0).testBit i = true ∨ commutes oi.1 oj.1 = true) (hcl : Closed ops anc done) (hrest : ∀ s', X s' → wpall P S ops n (i :: done) s' K) (hK' : wpg P S s oi.1 X) : wpall P S ops (n + 1) done s K := by
  have hilt := (List.getElem?_eq_some_iff.1 hoi).1
  have hr : i ∈ readyA ops done := mem_readyA.2 ⟨oi, hoi, h3, h4⟩
  by_cases hall : ∃ j oj, ops[j]? = some oj ∧ j ∉ done ∧ j ≠ i ∧ commutes oi.1 oj.1 = true
  · obtain ⟨_, _, _, _, _, hcom⟩ := hall
    have hp : (isPure oi.1.op || isLd oi.1.op) = true := by
      rcases (commutes_spec hcom).2.2.2 with h | h <;> simp [h]
    obtain ⟨v, hy, hk⟩ := (wpg_yld hp).1 hK'
    exact wpall_first ha hoi hp n done s hcm hr hcl hy (hrest _ hk)
  · refine ⟨fun h0 => (by rw [h0] at hr; cases hr), fun j hj o ho => ?_⟩
    by_cases hji : j = i
    · subst hji
      rw [hoi] at ho
      obtain rfl := Option.some.inj ho
      exact wpg_mono hrest hK'
    · exfalso
      obtain ⟨_, _, hid, _⟩ := mem_readyA.1 hr
      obtain ⟨_, _, hjd, _⟩ := mem_readyA.1 hj
      rcases hcm j o ho hjd hji with hb | hc
      · exact hid (hcl.ready ha hj hilt hb)
      · exact hall ⟨j, o, ho, hjd, hji, hc⟩
theorem tree_sound {ops : List (AOper × List Nat)} {anc : List Nat} (ha : ancOk ops anc = true) {K : St → Prop} :
    ∀ (t : OT) (done seen : List Nat) (s : St), Closed ops anc done → treeOk ops anc t done seen = true → wpt P S (toAT ops t) s K →
      (seen = [] → ∀ n, t.depth ≤ n → wpall P S ops n done s K) ∧ ((∃ i u r, t = .alt i u r ∨ t = .last i u) → ∀ m, t.depth ≤ m + 1 → ∀ i ∈ readyA ops done, i ∉ seen → ∀ o, ops[i]? = some o → wpg P S s o.1 fun s' => wpall P S ops m (i :: done) s' K) := by
  intro t
  induction t with
  | done =>
    intro done seen s hcl h hK
    refine ⟨fun hs n _ => ?_, fun ⟨_, _, _, h⟩ => by rcases h with h | h <;> cases h⟩
    have h0 : readyA ops done = [] := by
      apply List.eq_nil_iff_forall_not_mem.2
      intro i hi
      obtain ⟨o, ho, h1, _⟩ := mem_readyA.1 hi
      simp only [treeOk, Bool.and_eq_true, List.all_eq_true, List.mem_range] at h
      exact h1 (by simpa using h.2 i (List.getElem?_eq_some_iff.1 ho).1)
    cases n with
    | zero => exact ⟨h0, hK⟩
    | succ n => exact ⟨fun _ => hK, fun i hi => by rw [h0] at hi; cases hi⟩
  | step i t ih =>
    intro done seen s hcl h hK
    refine ⟨fun hs n hn => ?_, fun ⟨_, _, _, h⟩ => by rcases h with h | h <;> cases h⟩
    obtain ⟨n, rfl⟩ : ∃ m, n = m + 1 := ⟨n - 1, by simp [OT.depth] at hn; omega⟩
    simp only [treeOk, Bool.and_eq_true] at h
    obtain ⟨_, h1, h2⟩ := h
    cases hoi : ops[i]? with
    | none => rw [hoi] at h1; cases h1
    | some oi =>
      rw [hoi] at h1
      simp only [Bool.and_eq_true, Bool.not_eq_true', List.all_eq_true, List.mem_range] at h1
      obtain ⟨⟨h3, h4⟩, h5⟩ := h1
      have h3' : i ∉ done := by simpa using h3
      have h4' : ∀ d ∈ oi.2, d ∈ done := fun d hd => by simpa using h4 d hd
      have hr : i ∈ readyA ops done := mem_readyA.2 ⟨oi, hoi, h3', h4'⟩
      have hK' : wpg P S s oi.1 fun s' => wpt P S (toAT ops t) s' K := by simpa [toAT, hoi, wpt] using hK
      refine step_sound ha hoi h3' h4' (fun j oj hj hjd hji => ?_) hcl (fun s' hk => (ih (i :: done) [] s' (hcl.cons ha hr) h2 hk).1 rfl n (by simp [OT.depth] at hn; omega)) hK'
      have := h5 j (List.getElem?_eq_some_iff.1 hj).1
      rw [hj] at this
      simpa [hjd, hji] using this
  | last i t ih =>
    intro done seen s hcl h hK
    simp only [treeOk, Bool.and_eq_true] at h
    obtain ⟨h1, h2, h3⟩ := h
    have hr : i ∈ readyA ops done := by simpa using h1
    obtain ⟨oi, hoi, _, _⟩ := mem_readyA.1 hr
    have hK' : wpg P S s oi.1 fun s' => wpt P S (toAT ops t) s' K := by simpa [toAT, hoi, wpt] using hK
    have hB : ∀ m, t.depth + 1 ≤ m + 1 → ∀ j ∈ readyA ops done, j ∉ seen → ∀ o, ops[j]? = some o → wpg P S s o.1 fun s' => wpall P S ops m (j :: done) s' K := by
      intro m hm j hj hjs o ho
      have := List.all_eq_true.1 h2 j hj
      have hji : j = i := by simpa [hjs] using this
      subst hji
      rw [hoi] at ho
      obtain rfl := Option.some.inj ho
      exact wpg_mono (fun s' hk => (ih (j :: done) [] s' (hcl.cons ha hr) h3 hk).1 rfl m (by omega)) hK'
    refine ⟨fun hs n hn => ?_, fun _ m hm => hB m (by simpa [OT.depth] using hm)⟩
    obtain ⟨n, rfl⟩ : ∃ m, n = m + 1 := ⟨n - 1, by simp [OT.depth] at hn; omega⟩
    subst hs
    exact ⟨fun h0 => (by rw [h0] at hr; cases hr), fun j hj o ho => hB n (by simpa [OT.depth] using hn) j hj (by simp) o ho⟩
  | alt i t r iht ihr =>
    intro done seen s hcl h hK
    simp only [treeOk, Bool.and_eq_true] at h
    obtain ⟨h1, h2, h3⟩ := h
    have hr : i ∈ readyA ops done := by simpa using h1
    obtain ⟨oi, hoi, _, _⟩ := mem_readyA.1 hr
    simp only [toAT, hoi, wpt] at hK
    have hrest := ihr done (i :: seen) s hcl h3 hK.2
    have hralt : ∃ i u v, r = OT.alt i u v ∨ r = OT.last i u := by
      cases r with
      | done => simp [treeOk] at h3
      | step _ _ => simp [treeOk] at h3
      | alt a b c => exact ⟨a, b, c, .inl rfl⟩
      | last a b => exact ⟨a, b, .done, .inr rfl⟩
    have hB : ∀ m, max (t.depth + 1) r.depth ≤ m + 1 → ∀ j ∈ readyA ops done, j ∉ seen → ∀ o, ops[j]? = some o → wpg P S s o.1 fun s' => wpall P S ops m (j :: done) s' K := by
      intro m hm j hj hjs o ho
      by_cases hji : j = i
      · subst hji
        rw [hoi] at ho
        obtain rfl := Option.some.inj ho
        exact wpg_mono (fun s' hk => (iht (j :: done) [] s' (hcl.cons ha hr) h2 hk).1 rfl m (by omega)) hK.1
      · exact hrest.2 hralt m (by omega) j hj (by simp [hji, hjs]) o ho
    refine ⟨fun hs n hn => ?_, fun _ m hm => hB m (by simpa [OT.depth] using hm)⟩
    obtain ⟨n, rfl⟩ : ∃ m, n = m + 1 := ⟨n - 1, by simp [OT.depth] at hn; omega⟩
    subst hs
    exact ⟨fun h0 => (by rw [h0] at hr; cases hr), fun j hj o ho => hB n (by simpa [OT.depth] using hn) j hj (by simp) o ho⟩

end Go.Proofs.YtlglgcmpeabdnaaGreatDoorAi

/- New variables whose making may be drawn early: they are looked at as if they were made late. -/
namespace Go.Proofs.YtlglgcmpeabdnaaGreatDoorAi
open Go Go.RowKit
set_option linter.unusedVariables false
set_option linter.unusedSimpArgs false

variable {P : Program} {S : Spec}

theorem plainZ_rep {σ σ' : Sg} {x : AV} {v : Value} (hx : plainZ x = true) (h : Rep σ x v) : Rep σ' x v := by
  cases x with
  | bool b => cases h; exact .bool _
  | int k n => cases h; exact .int _ _
  | str s => cases h; exact .str _
  | nilp => cases h; exact .nilp
  | nilf => cases h; exact .nilf
  | nili => cases h; exact .nili
  | sl xs t =>
    cases xs with
    | nil =>
      cases h with
      | slnil _ _ _ h1 h2 h3 => exact .slnil _ _ _ h1 h2 h3
      | sl _ _ b off s cap val hlen hcap ht => exact .slnil _ _ _ (fun e => by have := ht e; simpa using this) hcap (fun e => by cases e)
    | cons _ _ => cases hx
  | _ => cases hx

structure Pend where
  f : Nat
  d : Nat
  c : Nat
  cs : List AV

/-- A state in which pending variables are not known. -/
def anyS (pd : List Pend) (s : St) : St := ⟨fun t => if pd.any (fun p => p.d == t) = true then .any else s.t t, s.A⟩

/-- What is known of a pending variable. -/
structure PendOk (B : Nat → Prop) (σ : Sg) (A : AHeap) (n : Nat) (a : Act) (w : World) (p : Pend) : Prop where
  val : a.tmps.getD p.d undef = .pointer (some ⟨p.c, 0, none⟩)
  heap : ∃ cur e, w.heap[p.c]? = some (.cells cur e (0, 0)) ∧ p.cs.length ≤ cur.size ∧ ∀ (j : Nat) x, p.cs[j]? = some x → ∃ v, cur[j]? = some v ∧ Rep σ x v ∧ v.oneCell' = true
  free : ¬ B p.c
  mem : σ.mem p.c = none
  nm : ∀ b cs n, A b = some cs → σ.nm b ≠ some (p.c, n)

def pwNe : List Pend → Prop
  | [] => True
  | p :: r => (∀ q ∈ r, p.f ≠ q.f ∧ p.d ≠ q.d ∧ p.c ≠ q.c) ∧ pwNe r

structure InvL (P : Program) (S : Spec) (B : Nat → Prop) (w0 : World) (n : Nat) (D : List (AOper × List Nat)) (pd : List Pend) (σ : Sg) (s : St) (a : Act) (w : World) : Prop where
  sim : SimSt B w0 n σ (anyS pd s) a w
  ok : ∀ p ∈ pd, PendOk B σ s.A n a w p
  ne : pwNe pd
  op : ∀ p ∈ pd, ∃ o, D[p.f]? = some o ∧ o.1 = ⟨some p.d, .alloc p.cs, none⟩

theorem pwNe_mid : ∀ {l1 l2 : List Pend} {p : Pend}, pwNe (l1 ++ p :: l2) → pwNe (l1 ++ l2) ∧ ∀ q ∈ l1 ++ l2, p.f ≠ q.f ∧ p.d ≠ q.d ∧ p.c ≠ q.c
  | [], l2, p, h => ⟨h.2, h.1⟩
  | x :: l1, l2, p, h => by
    obtain ⟨h1, h2⟩ := pwNe_mid h.2
    have hx := h.1
    refine ⟨⟨fun q hq => hx q (by rcases List.mem_append.1 hq with hq | hq <;> simp [hq]), h1⟩, fun q hq => ?_⟩
    rcases List.mem_cons.1 hq with rfl | hq
    · have := hx p (by simp)
      exact ⟨this.1.symm, this.2.1.symm, this.2.2.symm⟩
    · exact h2 q hq

/-- A pending variable is made. -/
theorem InvL.flush {B : Nat → Prop} {w0 : World} {n : Nat} {D : List (AOper × List Nat)} {l1 l2 : List Pend} {p : Pend} {σ : Sg} {s : St} {a : Act} {w : World} (h : InvL P S B w0 n D (l1 ++ p :: l2) σ s a w) :
    ∃ σ', σ.Le σ' ∧ InvL P S B w0 n D (l1 ++ l2) σ' (({ s with A := s.A.push p.cs } : St).put (some p.d) (.ptr s.A.n 0)) a w := by
  have hp := h.ok p (by simp)
  obtain ⟨cur, e, hh, hl, hr⟩ := hp.heap
  obtain ⟨hle, hsim⟩ := h.sim.sim.name hp.free hp.mem hh hl hr hp.nm
  obtain ⟨hne, hpn⟩ := pwNe_mid h.ne
  refine ⟨_, hle, ⟨hsim, fun t => ?_, h.sim.size, h.sim.defers, h.sim.below⟩, fun q hq => ?_, hne, fun q hq => h.op q (by simp only [List.mem_append, List.mem_cons] at hq ⊢; rcases hq with hq | hq <;> simp [hq])⟩
  · have ht := (h.sim.tmps t).mono hle
    simp only [anyS, St.put, putT] at ht ⊢
    by_cases hd : t = p.d
    · subst hd
      have hnot : ((l1 ++ l2).any fun q => q.d == p.d) = false := by
        rw [List.any_eq_false]
        intro q hq
        have := (hpn q hq).2.1
        simpa using Ne.symm this
      rw [hnot, if_neg (by simp), if_pos rfl, hp.val]
      exact .ptr _ _ _ _ (by rw [Sg.withNm_at, if_pos rfl])
    · rw [if_neg hd]
      have he : ((l1 ++ p :: l2).any fun q => q.d == t) = ((l1 ++ l2).any fun q => q.d == t) := by
        have : (p.d == t) = false := by simpa using Ne.symm hd
        simp [List.any_append, this]
      rw [he] at ht
      exact ht
  · have hq' := h.ok q (by simp only [List.mem_append, List.mem_cons] at hq ⊢; rcases hq with hq | hq <;> simp [hq])
    obtain ⟨cur', e', k1, k2, k3⟩ := hq'.heap
    refine ⟨hq'.val, ⟨cur', e', k1, k2, fun j x hx => ?_⟩, hq'.free, hq'.mem, fun b cs m hb => ?_⟩
    · obtain ⟨v, v1, v2, v3⟩ := k3 j x hx
      exact ⟨v, v1, v2.mono hle, v3⟩
    · simp only [put_A] at hb
      rw [AHeap.push_at] at hb
      rw [Sg.withNm_at]
      show (if b = s.A.n then some (p.c, cur.size) else σ.nm b) ≠ _
      split at hb
      · rename_i hbn
        rw [if_pos hbn]
        intro e2
        injection e2 with e2; injection e2 with e2 _
        exact (hpn q hq).2.2 e2
      · rename_i hbn
        rw [if_neg hbn]
        exact hq'.nm b cs m hb

theorem anyS_nil (s : St) : anyS [] s = s := by
  cases s; simp [anyS]

theorem any_split {pd : List Pend} {f : Nat} (h : ∃ p ∈ pd, p.f = f) : ∃ l1 p l2, pd = l1 ++ p :: l2 ∧ p.f = f := by
  obtain ⟨p, hp, rfl⟩ := h
  obtain ⟨l1, l2, rfl⟩ := List.append_of_mem hp
  exact ⟨l1, p, l2, rfl, rfl⟩

theorem lateD_len (L : List (Nat × List Nat)) (D : List (AOper × List Nat)) : (lateD L D).length = D.length := by simp [lateD]
theorem lateD_get {L : List (Nat × List Nat)} {D : List (AOper × List Nat)} {i : Nat} {o : AOper × List Nat} (h : D[i]? = some o) : (lateD L D)[i]? = some (o.1, o.2 ++ (L.lookup i).getD []) := by
  simp only [lateD, List.getElem?_mapIdx, h, Option.map_some]
  cases L.lookup i <;> simp

def pdF (pd : List Pend) (i : Nat) : Bool := pd.any fun p => p.f == i
theorem pdF_mid (l1 l2 : List Pend) (p : Pend) (i : Nat) : pdF (l1 ++ p :: l2) i = (pdF (l1 ++ l2) i || p.f == i) := by
  simp only [pdF, List.any_append, List.any_cons]
  cases l1.any (fun p => p.f == i) <;> cases l2.any (fun p => p.f == i) <;> cases p.f == i <;> rfl
theorem pdF_iff {pd : List Pend} {i : Nat} : pdF pd i = true ↔ ∃ p ∈ pd, p.f = i := by simp [pdF]

/-- The whole of what is known between two operations. -/
structure AllL (P : Program) (S : Spec) (B : Nat → Prop) (w0 : World) (n : Nat) (L : List (Nat × List Nat)) (D : List (AOper × List Nat)) (anc : List Nat) (K : St → Prop) (σ0 : Sg) (U : Nat → Prop) (m k : Nat) (done : List Nat) (pd : List Pend) (σ : Sg) (s : St) (a : Act) (w : World) : Prop where
  inv : InvL P S B w0 n D pd σ s a w
  wp : wpall P S (lateD L D) (k + pd.length) done s K
  le : σ0.Le σ
  cl : Closed D anc done
  set : ∀ i, U i ↔ (i ∈ done ∨ pdF pd i = true)
  off : ∀ i ∈ done, pdF pd i = false
  dL : ∀ p ∈ pd, (L.lookup p.f).isSome = true
  nd : done.Nodup
  lt : ∀ i ∈ done, i < D.length
  cnt : done.length + pd.length = m

structure LOk (L : List (Nat × List Nat)) (D : List (AOper × List Nat)) (anc anc2 : List Nat) : Prop where
  back : ∀ (j : Nat) (o : AOper × List Nat), D[j]? = some o → ∀ d ∈ o.2, d < j
  full : ∀ (j : Nat) (o : AOper × List Nat), (lateD L D)[j]? = some o → ∀ d ∈ o.2, (anc2.getD j 0).testBit d = true ∧ ∀ k, k < D.length → (anc2.getD d 0).testBit k = true → (anc2.getD j 0).testBit k = true
  late : ∀ (f : Nat) (X : List Nat), f < D.length → L.lookup f = some X → (∀ k ∈ X, k < f) ∧ ∃ d cs deps, D[f]? = some (⟨some d, .alloc cs, none⟩, deps) ∧ (∀ x ∈ cs, plainZ x = true) ∧ ∀ (j : Nat) (o : AOper × List Nat), j ≠ f → D[j]? = some o →
    ((anc.getD j 0).testBit f = true ∨ (d ∉ looks o.1 ∧ o.1.dst ≠ some d)) ∧ (f ∈ o.2 → ∀ k, k < D.length → (anc2.getD f 0).testBit k = true → (anc.getD j 0).testBit k = true)
theorem lateOk_spec {L : List (Nat × List Nat)} {D : List (AOper × List Nat)} {anc anc2 : List Nat} (h : lateOk L D anc anc2 = true) : LOk L D anc anc2 := by
  unfold lateOk at h
  simp only [Bool.and_eq_true] at h
  obtain ⟨⟨h1, h2⟩, h3⟩ := h
  rw [List.all_eq_true] at h1 h2 h3
  refine ⟨fun j o hj d hd => ?_, fun j o hj d hd => ?_, fun f X hf hX => ?_⟩
  · have := h1 j (List.mem_range.2 (List.getElem?_eq_some_iff.1 hj).1)
    rw [hj] at this
    simp only [List.all_eq_true, decide_eq_true_eq] at this
    exact this d hd
  · have hjl : j < D.length := by rw [← lateD_len L D]; exact (List.getElem?_eq_some_iff.1 hj).1
    have := h2 j (List.mem_range.2 hjl)
    rw [hj] at this
    simp only [List.all_eq_true, Bool.and_eq_true, List.mem_range] at this
    refine ⟨(this d hd).1, fun k hk hb => ?_⟩
    have := (this d hd).2 k hk
    rw [hb] at this
    simpa using this
  · have := h3 f (List.mem_range.2 hf)
    rw [hX] at this
    simp only [Bool.and_eq_true, List.all_eq_true, decide_eq_true_eq] at this
    obtain ⟨g1, g2⟩ := this
    refine ⟨g1, ?_⟩
    split at g2
    · rename_i d cs deps hD
      simp only [Bool.and_eq_true, List.all_eq_true, List.mem_range] at g2
      refine ⟨d, cs, deps, hD, g2.1, fun j o hjf hj => ?_⟩
      have g3 := g2.2 j (List.getElem?_eq_some_iff.1 hj).1
      rw [hj] at g3
      have hjf' : (j == f) = false := by simpa using hjf
      rw [hjf', Bool.false_or] at g3
      simp only [Bool.and_eq_true] at g3
      refine ⟨?_, fun hm k hk hb => ?_⟩
      · rcases Bool.or_eq_true_iff.1 g3.1 with h | h
        · exact .inl h
        · exact .inr (by simpa using h)
      · have g4 := g3.2
        have hc : o.2.contains f = true := by simpa using hm
        rw [hc] at g4
        simp only [Bool.not_true, Bool.false_or, List.all_eq_true, List.mem_range] at g4
        have := g4 k hk
        rw [hb] at this
        simpa using this
    · cases g2

theorem pd_len {l1 l2 : List Pend} {p : Pend} : (l1 ++ p :: l2).length = (l1 ++ l2).length + 1 := by simp; omega

section
variable {B : Nat → Prop} {w0 : World} {n : Nat} {L : List (Nat × List Nat)} {D : List (AOper × List Nat)} {anc anc2 : List Nat} {K : St → Prop} {σ0 : Sg} {U : Nat → Prop} {m : Nat} {a : Act} {w : World}

/-- A pending variable is made when all is done that is ahead of it. -/
theorem AllL.flush1 {k : Nat} {done : List Nat} {l1 l2 : List Pend} {p : Pend} {σ : Sg} {s : St} (hok : LOk L D anc anc2) (ha : ancOk D anc = true) (h : AllL P S B w0 n L D anc K σ0 U m k done (l1 ++ p :: l2) σ s a w)
    (hd : ∀ o, (lateD L D)[p.f]? = some o → ∀ d ∈ o.2, d ∈ done) :
    ∃ σ' s', AllL P S B w0 n L D anc K σ0 U m k (p.f :: done) (l1 ++ l2) σ' s' a w := by
  obtain ⟨o, ho, hop⟩ := h.inv.op p (by simp)
  have ho2 := lateD_get (L := L) ho
  have hnd : p.f ∉ done := fun hm => by
    have := h.off p.f hm
    rw [pdF_mid] at this
    simp at this
  have hready : p.f ∈ readyA (lateD L D) done := mem_readyA.2 ⟨_, ho2, hnd, fun d hd' => hd _ ho2 d hd'⟩
  obtain ⟨σ', hle, hinv⟩ := h.inv.flush
  have hwp := h.wp
  rw [pd_len, ← Nat.add_assoc] at hwp
  have h2 := hwp.2 p.f hready _ ho2
  simp only [hop] at h2
  unfold wpg wpo at h2
  simp only [guardOk, optW_some, brW_true, opW] at h2
  have hdn := (pwNe_mid h.inv.ne).2
  refine ⟨σ', _, hinv, h2, h.le.trans hle, ?_, fun i => ?_, fun i hi => ?_, fun q hq => h.dL q (by rcases List.mem_append.1 hq with hq | hq <;> simp [hq]), List.nodup_cons.2 ⟨hnd, h.nd⟩, fun i hi => ?_, by have := h.cnt; rw [pd_len] at this; simp only [List.length_cons]; omega⟩
  · refine h.cl.cons ha (mem_readyA.2 ⟨o, ho, hnd, fun d hd' => hd _ ho2 d (by simp [hd'])⟩)
  · rw [h.set, pdF_mid, List.mem_cons]
    simp only [Bool.or_eq_true, beq_iff_eq]
    constructor
    · rintro (h1 | h1 | h1)
      · exact .inl (.inr h1)
      · exact .inr h1
      · exact .inl (.inl h1.symm)
    · rintro ((h1 | h1) | h1)
      · exact .inr (.inr h1.symm)
      · exact .inl h1
      · exact .inr (.inl h1)
  · rcases List.mem_cons.1 hi with rfl | hi
    · rw [← Bool.not_eq_true, pdF_iff]
      rintro ⟨q, hq, e⟩
      exact (hdn q hq).1 e.symm
    · have := h.off i hi
      rw [pdF_mid] at this
      simp only [Bool.or_eq_false_iff] at this
      exact this.1
  · rcases List.mem_cons.1 hi with rfl | hi
    · exact (List.getElem?_eq_some_iff.1 ho).1
    · exact h.lt i hi

/-- A pending variable, and what is ahead of it, is made. -/
theorem AllL.flushF (hok : LOk L D anc anc2) (ha : ancOk D anc = true) : ∀ (f : Nat) {k : Nat} {done : List Nat} {pd : List Pend} {σ : Sg} {s : St}, AllL P S B w0 n L D anc K σ0 U m k done pd σ s a w → U f → f < D.length →
    (∀ i, i < D.length → (anc2.getD f 0).testBit i = true → U i) → ∃ done' pd' σ' s', AllL P S B w0 n L D anc K σ0 U m k done' pd' σ' s' a w ∧ f ∈ done' ∧ ∀ i ∈ done, i ∈ done' := by
  intro f
  induction f using Nat.strongRecOn with
  | _ f ih =>
  intro k done pd σ s h hu hf hanc
  by_cases hd : f ∈ done
  · exact ⟨done, pd, σ, s, h, hd, fun _ h => h⟩
  · have hp := ((h.set f).1 hu).resolve_left hd
    obtain ⟨o, ho⟩ : ∃ o, (lateD L D)[f]? = some o := ⟨_, List.getElem?_eq_getElem (by rw [lateD_len]; exact hf)⟩
    -- all that is ahead
    have key : ∀ (l : List Nat), (∀ d ∈ l, d ∈ o.2) → ∀ {done : List Nat} {pd : List Pend} {σ : Sg} {s : St}, AllL P S B w0 n L D anc K σ0 U m k done pd σ s a w →
        ∃ done' pd' σ' s', AllL P S B w0 n L D anc K σ0 U m k done' pd' σ' s' a w ∧ (∀ d ∈ l, d ∈ done') ∧ ∀ i ∈ done, i ∈ done' := by
      intro l
      induction l with
      | nil => intro _ done pd σ s h; exact ⟨done, pd, σ, s, h, fun _ h => (by cases h), fun _ h => h⟩
      | cons d l ihl =>
        intro hl done pd σ s h
        obtain ⟨done1, pd1, σ1, s1, h1, h2, h3⟩ := ihl (fun x hx => hl x (List.mem_cons_of_mem _ hx)) h
        have hdm := hl d (List.mem_cons_self ..)
        have hlt : d < f := by
          have hDo : D[f]? = some D[f] := List.getElem?_eq_getElem hf
          have e := lateD_get (L := L) hDo
          rw [ho] at e
          obtain rfl := Option.some.inj e
          rcases List.mem_append.1 hdm with hm | hm
          · exact hok.back f _ hDo d hm
          · cases hX : L.lookup f with
            | none => rw [hX] at hm; cases hm
            | some X => rw [hX] at hm; exact (hok.late f X hf hX).1 d hm
        obtain ⟨hb, hb2⟩ := hok.full f o ho d hdm
        obtain ⟨done2, pd2, σ2, s2, g1, g2, g3⟩ := ih d hlt h1 (hanc d (by omega) hb) (by omega) (fun i hi hbi => hanc i hi (hb2 i hi hbi))
        refine ⟨done2, pd2, σ2, s2, g1, fun x hx => ?_, fun i hi => g3 i (h3 i hi)⟩
        rcases List.mem_cons.1 hx with rfl | hx
        · exact g2
        · exact g3 x (h2 x hx)
    obtain ⟨done1, pd1, σ1, s1, h1, h2, h3⟩ := key o.2 (fun _ h => h) h
    by_cases hd1 : f ∈ done1
    · exact ⟨done1, pd1, σ1, s1, h1, hd1, h3⟩
    · have hp1 := ((h1.set f).1 hu).resolve_left hd1
      obtain ⟨l1, p, l2, rfl, rfl⟩ := any_split (pdF_iff.1 hp1)
      obtain ⟨σ2, s2, g⟩ := h1.flush1 hok ha (fun o' ho' d hd' => by rw [ho] at ho'; obtain rfl := Option.some.inj ho'; exact h2 d hd')
      exact ⟨_, _, σ2, s2, g, List.mem_cons_self .., fun i hi => List.mem_cons_of_mem _ (h3 i hi)⟩

/-- Some of them. -/
theorem AllL.flushL (hok : LOk L D anc anc2) (ha : ancOk D anc = true) {k : Nat} : ∀ (l : List Nat) {done : List Nat} {pd : List Pend} {σ : Sg} {s : St}, AllL P S B w0 n L D anc K σ0 U m k done pd σ s a w →
    (∀ f ∈ l, U f ∧ f < D.length ∧ ∀ i, i < D.length → (anc2.getD f 0).testBit i = true → U i) → ∃ done' pd' σ' s', AllL P S B w0 n L D anc K σ0 U m k done' pd' σ' s' a w ∧ (∀ f ∈ l, f ∈ done') ∧ ∀ i ∈ done, i ∈ done'
  | [], done, pd, σ, s, h, _ => ⟨done, pd, σ, s, h, fun _ h => (by cases h), fun _ h => h⟩
  | f :: l, done, pd, σ, s, h, hl => by
    obtain ⟨done1, pd1, σ1, s1, h1, h2, h3⟩ := AllL.flushL hok ha l h (fun x hx => hl x (List.mem_cons_of_mem _ hx))
    obtain ⟨e1, e2, e3⟩ := hl f (List.mem_cons_self ..)
    obtain ⟨done2, pd2, σ2, s2, g1, g2, g3⟩ := AllL.flushF hok ha f h1 e1 e2 e3
    refine ⟨done2, pd2, σ2, s2, g1, fun x hx => ?_, fun i hi => g3 i (h3 i hi)⟩
    rcases List.mem_cons.1 hx with rfl | hx
    · exact g2
    · exact g3 x (h2 x hx)
end

/-- An operation that does not look at pending variables. -/
theorem wpg_anyS {pd : List Pend} {s : St} {o : AOper} {K : St → Prop} (h1 : ∀ p ∈ pd, p.d ∉ looks o ∧ o.dst ≠ some p.d) (h : wpg P S s o K) : wpg P S (anyS pd s) o fun s' => ∃ s1, K s1 ∧ s' = anyS pd s1 := by
  have hno : ∀ t, (t ∈ looks o ∨ o.dst = some t) → pd.any (fun p => p.d == t) = false := fun t ht => by
    rw [List.any_eq_false]
    intro p hp hpt
    have hpt : p.d = t := by simpa using hpt
    rcases ht with ht | ht
    · exact (h1 p hp).1 (hpt ▸ ht)
    · exact (h1 p hp).2 (hpt ▸ ht)
  have hl := looks_ev (o := o) (s := s) (s' := anyS pd s) (fun t ht => by simp only [anyS]; rw [hno t (.inl ht)]; simp)
  have hput : ∀ (A' : AHeap) (r : AV), ({ anyS pd s with A := A' } : St).put o.dst r = anyS pd (({ s with A := A' } : St).put o.dst r) := by
    intro A' r
    cases hd : o.dst with
    | none => rfl
    | some d =>
      simp only [anyS, St.put]
      congr 1
      funext t
      simp only [putT]
      by_cases ht : t = d
      · subst ht
        rw [if_pos rfl, hno t (.inr hd), if_neg (by simp), if_pos rfl]
      · rw [if_neg ht, if_neg ht]
  unfold wpg at h ⊢
  rw [hl.2]
  refine optW_mono (fun gb hb => brW_mono (fun hb => ?_) (fun hb => ?_) hb) h
  · unfold wpo at hb ⊢
    rw [opW_congr (s := s) (s' := anyS pd s) rfl hl.1]
    exact opW_mono (fun r A' hk => ⟨_, hk, hput A' r⟩) hb
  · exact ⟨_, hb, hput s.A (.tup [])⟩


/-- What is not protected need not be: the same state with fewer blocks protected. -/
theorem Sim.unprotect {B B' : Nat → Prop} {σ σ2 : Sg} {A A' : AHeap} {w w' : World} (h : Sim B σ A w) (h' : Sim B' σ2 A' w') (hb : ∀ c, B c → B' c) (hbase : σ2.base = σ.mem) (hk : w.heap.size ≤ w'.heap.size) : Sim B { σ2 with base := σ.base } A' w' := by
  refine ⟨fun c hc => Nat.lt_of_lt_of_le (h.base c hc) hk, h'.mem, fun c o e => ?_, h'.nm, h'.tot, fun b cs e => ?_, h'.inj, h'.ty⟩
  · rcases h'.low c o e with h1 | h1
    · rw [hbase] at h1
      exact h.low c o h1
    · exact .inr fun hc => h1 (hb c hc)
  · obtain ⟨c, cur, t, k1, k2, k3, k4, k5, k6⟩ := h'.own b cs e
    exact ⟨c, cur, t, k1, fun hc => k2 (hb c hc), k3, k4, k5, fun j x hx => by
      obtain ⟨v, e1, e2, e3⟩ := k6 j x hx
      exact ⟨v, e1, Rep.mono' (σ := σ2) (σ' := { σ2 with base := σ.base }) (fun _ _ h => h) (fun _ _ h => h) (fun _ _ h => h) e2, e3⟩⟩

theorem Sim.protect0 {B B' : Nat → Prop} {σ : Sg} {A : AHeap} {w : World} (h : Sim B σ A w) (h1 : ∀ c, B' c → c < w.heap.size) (h2 : ∀ b cs c n, A b = some cs → σ.nm b = some (c, n) → ¬ B' c) : Sim B' { σ with base := σ.mem } A w := by
  refine ⟨h1, h.mem, fun c o e => .inl e, h.nm, h.tot, fun b cs e => ?_, h.inj, h.ty⟩
  obtain ⟨c, cur, t, k1, k2, k3, k4, k5, k6⟩ := h.own b cs e
  exact ⟨c, cur, t, k1, h2 b cs c _ e k1, k3, k4, k5, fun j x hx => by
    obtain ⟨v, e1, e2, e3⟩ := k6 j x hx
    exact ⟨v, e1, Rep.mono' (σ := σ) (σ' := { σ with base := σ.mem }) (fun _ _ h => h) (fun _ _ h => h) (fun _ _ h => h) e2, e3⟩⟩

theorem tmps_put {a : Act} {d : Option Nat} {v : Value} {t : Nat} (h : d ≠ some t) : (a.put d v).tmps.getD t undef = a.tmps.getD t undef := by
  cases d with
  | none => rfl
  | some d =>
    have : d ≠ t := fun e => h (by rw [e])
    simp [Act.put, Array.getElem?_setIfInBounds_ne this]

section
variable {q : FuncId → Nat} {B : Nat → Prop} {w0 : World} {n : Nat} {D : List (AOper × List Nat)}

/-- A step that does not look at pending variables. -/
theorem InvL.step (hS : Quiet P S) (hG : GoodP P B w0) {pd : List Pend} {σ : Sg} {s : St} {a : Act} {w : World} (h : InvL P S B w0 n D pd σ s a w) {ops : Array Oper} {o : Oper} {ao : AOper} (hc : ccOper P ops o = some ao) (hd : ∀ i, ao.dst = some i → i < n)
    (hno : ∀ p ∈ pd, p.d ∉ looks (quietOper q ao) ∧ (quietOper q ao).dst ≠ some p.d) {K : St → Prop} (hK : wpg P S s (quietOper q ao) K) {next : Act → World → Prop} {Q : Exit → Act → World → Prop}
    (hn : ∀ σ' s' a' w', σ.Le σ' → K s' → InvL P S B w0 n D pd σ' s' a' w' → next a' w') :
    if Region.wanted o (yielded ops a.tmps) then o.wp P a w next Q ∨ (o.asks P a w ∧ LetsOut Q) else next (a.put o.dst undef) w := by
  let B' : Nat → Prop := fun c => B c ∨ ∃ p ∈ pd, p.c = c
  have hBlt : ∀ c, B' c → c < w.heap.size := by
    rintro c (hc | ⟨p, hp, rfl⟩)
    · exact h.sim.sim.base c hc
    · obtain ⟨cur, e, k1, _⟩ := (h.ok p hp).heap
      exact (Array.getElem?_eq_some_iff.1 k1).1
  have hsim := h.sim.sim.protect0 (B' := B') hBlt (fun b cs c m h1 h2 h3 => by
    rcases h3 with h3 | ⟨p, hp, rfl⟩
    · obtain ⟨c', cur, e, k1, k2, _⟩ := h.sim.sim.own b cs h1
      rw [h2] at k1
      injection k1 with k1; injection k1 with k1 _
      subst k1
      exact k2 h3
    · exact (h.ok p hp).nm b cs m h1 h2)
  have hst : SimSt B' w n { σ with base := σ.mem } (anyS pd s) a w := ⟨hsim, fun t => Rep.mono' (σ := σ) (σ' := { σ with base := σ.mem }) (fun _ _ h => h) (fun _ _ h => h) (fun _ _ h => h) (h.sim.tmps t), h.sim.size, h.sim.defers, Keeps.refl _ _⟩
  have hG' : GoodP P B' w := fun w2 hw2 => hG w2 (h.sim.below.trans (hw2.mono fun c hc => .inl hc))
  have hdst := (guard_eq h.sim hc).2.1
  refine wpg_sound2 (q := q) hS hG' hst hc hd (wpg_anyS hno hK) fun σ2 s2 a2 w2 hle hk hs2 ha2 => ?_
  obtain ⟨s1, hk1, rfl⟩ := hk
  have hle2 : σ.Le { σ2 with base := σ.base } := ⟨fun b o e => hle.mem b o e, fun b x e => hle.nm b x e, rfl, hle.ty⟩
  obtain ⟨v, rfl⟩ := ha2
  have hsim2 := Sim.unprotect h.sim.sim hs2.sim (fun c hc => .inl hc) hle.base hs2.below.size
  refine hn _ s1 _ w2 hle2 hk1 ⟨⟨hsim2, fun t => Rep.mono' (σ := σ2) (σ' := { σ2 with base := σ.base }) (fun _ _ h => h) (fun _ _ h => h) (fun _ _ h => h) (hs2.tmps t), hs2.size, hs2.defers, h.sim.below.trans (hs2.below.mono fun c hc => .inl hc)⟩, fun p hp => ?_, h.ne, h.op⟩
  have ho := h.ok p hp
  obtain ⟨cur, e, k1, k2, k3⟩ := ho.heap
  have hpB : B' p.c := .inr ⟨p, hp, rfl⟩
  have hnd : o.dst ≠ some p.d := by rw [← hdst]; exact (hno p hp).2
  refine ⟨by rw [tmps_put hnd]; exact ho.val, ⟨cur, e, by rw [hs2.below.block _ hpB]; exact k1, k2, fun j x hx => ?_⟩, ho.free, ?_, fun b cs m hb hnm => ?_⟩
  · obtain ⟨v, v1, v2, v3⟩ := k3 j x hx
    exact ⟨v, v1, v2.mono hle2, v3⟩
  · cases hm : σ2.mem p.c with
    | none => rfl
    | some ob =>
      rcases hs2.sim.low p.c ob hm with h1 | h1
      · rw [hle.base] at h1
        have : σ.mem p.c = some ob := h1
        rw [ho.mem] at this; cases this
      · exact absurd hpB h1
  · obtain ⟨c', cur', e', j1, j2, _⟩ := hs2.sim.own b cs hb
    have hnm : σ2.nm b = some (p.c, m) := hnm
    rw [hnm] at j1
    injection j1 with j1; injection j1 with j1 _
    subst j1
    exact j2 hpB

/-- A new variable is made early: it is pending. -/
theorem InvL.early (hS : Quiet P S) (hG : GoodP P B w0) {pd : List Pend} {σ : Sg} {s : St} {a : Act} {w : World} (h : InvL P S B w0 n D pd σ s a w) {ops : Array Oper} {o : Oper} {ao : AOper} (hc : ccOper P ops o = some ao) {d : Nat} {cs : List AV} (hq : quietOper q ao = ⟨some d, .alloc cs, none⟩) (hd : d < n)
    (hz : ∀ x ∈ cs, plainZ x = true) {f : Nat} {oD : AOper × List Nat} (hD : D[f]? = some oD) (hD1 : oD.1 = ⟨some d, .alloc cs, none⟩) (hf : ∀ p ∈ pd, p.f ≠ f ∧ p.d ≠ d) {next : Act → World → Prop} {Q : Exit → Act → World → Prop}
    (hn : ∀ c σ' a' w', σ.Le σ' → InvL P S B w0 n D (⟨f, d, c, cs⟩ :: pd) σ' s a' w' → next a' w') :
    if Region.wanted o (yielded ops a.tmps) then o.wp P a w next Q ∨ (o.asks P a w ∧ LetsOut Q) else next (a.put o.dst undef) w := by
  let B' : Nat → Prop := fun c => c < w.heap.size
  let σa : Sg := ⟨fun c => w.heap[c]?, fun _ => none, fun c => w.heap[c]?, fun _ => none⟩
  have hsa : Sim B' σa .nil w := ⟨fun c hc => hc, fun b o e => e, fun c o e => .inl e, fun b c n e => (by cases e), fun b hb => (by simp [AHeap.nil, AHeap.n] at hb), fun b cs e => (by cases e), fun b b' cs cs' c n n' e => (by cases e), fun c e h => (by cases h)⟩
  have hst : SimSt B' w n σa ⟨fun _ => .any, .nil⟩ a w := ⟨hsa, fun t => .any _, h.sim.size, h.sim.defers, Keeps.refl _ _⟩
  have hG' : GoodP P B' w := fun w2 hw2 => hG w2 (h.sim.below.trans (hw2.mono fun c hc => h.sim.sim.base c hc))
  have hdst := (guard_eq h.sim hc).2.1
  have hdo : o.dst = some d := by rw [← hdst]; have := congrArg AOper.dst hq; simpa [quietOper] using this
  refine wpg_sound2 (q := q) (K := fun s' => s' = (({ t := fun _ => .any, A := AHeap.nil.push cs } : St).put (some d) (.ptr 0 0))) hS hG' hst hc (fun i hi => ?_) ?_ fun σ2 s2 a2 w2 hle hk hs2 ha2 => ?_
  · have : ao.dst = some d := by have := congrArg AOper.dst hq; simpa [quietOper] using this
    rw [this] at hi
    obtain rfl := Option.some.inj hi
    exact hd
  · rw [hq]
    unfold wpg wpo
    simp only [guardOk, optW_some, brW_true, opW]
    rfl
  · subst hk
    obtain ⟨v, rfl⟩ := ha2
    have hv : (a.put o.dst v).tmps.getD d undef = v := by
      rw [hdo]
      have : d < a.tmps.size := by rw [h.sim.size]; exact hd
      simp [Act.put, this]
    have hr := hs2.tmps d
    rw [hv] at hr
    have hr : Rep σ2 (.ptr 0 0) v := by simpa [St.put, putT] using hr
    obtain ⟨c, sz, hnm, rfl⟩ : ∃ c sz, σ2.nm 0 = some (c, sz) ∧ v = .pointer (some ⟨c, 0, none⟩) := by
      cases hr with
      | ptr _ _ c sz hn => exact ⟨c, sz, hn, rfl⟩
    obtain ⟨c', cur, e, k1, k2, k3, k4, k5, k6⟩ := hs2.sim.own 0 cs (by simp [St.put, AHeap.push, AHeap.nil, hget])
    rw [hnm] at k1
    injection k1 with k1; injection k1 with k1 k1'
    subst k1
    have hbel : Below w.heap.size w w2 := hs2.below.below
    have hkb : Keeps B w w2 := hs2.below.mono fun c hc => h.sim.sim.base c hc
    have hcl : ¬ c < w.heap.size := k2
    -- the same as before, with a block more
    have hsim : Sim B σ s.A w2 := by
      have h0 := h.sim.sim
      refine ⟨fun c hc => Nat.lt_of_lt_of_le (h0.base c hc) hkb.size, fun b o e => ?_, h0.low, fun b c n e => ?_, h0.tot, fun b cs e => ?_, h0.inj, fun c e hc => ?_⟩
      · have := h0.mem b o e
        rw [hs2.below.block b (Array.getElem?_eq_some_iff.1 this).1]; exact this
      · obtain ⟨h1, cs, e1, fr, h2, h3⟩ := h0.nm b c n e
        exact ⟨h1, cs, e1, fr, by rw [hs2.below.block c (Array.getElem?_eq_some_iff.1 h2).1]; exact h2, h3⟩
      · obtain ⟨c, cur, t, k1, k2, k3, k4, k5, k6⟩ := h0.own b cs e
        exact ⟨c, cur, t, k1, k2, k3, by rw [hs2.below.block c (Array.getElem?_eq_some_iff.1 k4).1]; exact k4, k5, k6⟩
      · obtain ⟨cs1, fr1, h2⟩ := h0.ty c e hc
        exact ⟨cs1, fr1, by rw [hs2.below.block c (Array.getElem?_eq_some_iff.1 h2).1]; exact h2⟩
    have hpc : ∀ p ∈ pd, p.c < w.heap.size := fun p hp => by
      obtain ⟨cur, e, k1, _⟩ := (h.ok p hp).heap
      exact (Array.getElem?_eq_some_iff.1 k1).1
    refine hn c σ _ w2 (.refl σ) ⟨⟨hsim, fun t => ?_, hs2.size, hs2.defers, h.sim.below.trans hkb⟩, fun p hp => ?_, ⟨fun p hp => ⟨fun e => (hf p hp).1 e.symm, fun e => (hf p hp).2 e.symm, fun e => hcl (by have := hpc p hp; rw [← e] at this; exact this)⟩, h.ne⟩, fun p hp => ?_⟩
    · by_cases ht : t = d
      · subst ht
        simp only [anyS, List.any_cons, beq_self_eq_true, Bool.true_or, if_true]
        exact .any _
      · rw [tmps_put (by rw [hdo]; exact fun e => ht (Option.some.inj e).symm)]
        have := h.sim.tmps t
        have hdt : (d == t) = false := by simpa using Ne.symm ht
        simp only [anyS, List.any_cons, hdt, Bool.false_or] at this ⊢
        exact this
    · rcases List.mem_cons.1 hp with rfl | hp
      · refine ⟨hv, ⟨cur, e, k4, k5, fun j x hx => ?_⟩, fun hc => hcl (h.sim.sim.base _ hc), ?_, fun b cs' m hb hnm' => ?_⟩
        · obtain ⟨v, v1, v2, v3⟩ := k6 j x hx
          exact ⟨v, v1, plainZ_rep (hz x (List.mem_of_getElem? hx)) v2, v3⟩
        · cases hm : σ.mem c with
          | none => rfl
          | some ob => exact absurd (Array.getElem?_eq_some_iff.1 (h.sim.sim.mem c ob hm)).1 hcl
        · obtain ⟨_, _, _, _, h2, _⟩ := h.sim.sim.nm b c m hnm'
          exact hcl (Array.getElem?_eq_some_iff.1 h2).1
      · have ho := h.ok p hp
        obtain ⟨cur', e', j1, j2, j3⟩ := ho.heap
        refine ⟨by rw [tmps_put (by rw [hdo]; exact fun e => (hf p hp).2 (Option.some.inj e).symm)]; exact ho.val, ⟨cur', e', by rw [hs2.below.block _ (hpc p hp)]; exact j1, j2, j3⟩, ho.free, ho.mem, ho.nm⟩
    · rcases List.mem_cons.1 hp with rfl | hp
      · exact ⟨oD, hD, hD1⟩
      · exact h.op p hp
end


theorem looks_ck {cks : List (Nat × List (Opd × Nat × Bool))} {o : AOper} {i : Nat} (hc : ∀ f args c, o.op = .calle f args c → c = []) : (∀ t ∈ looks o, t ∈ looks (addCk cks o i)) ∧ (addCk cks o i).dst = o.dst := by
  obtain ⟨d, op, g⟩ := o
  cases op with
  | calle f args c =>
    obtain rfl := hc f args c rfl
    refine ⟨fun t ht => ?_, rfl⟩
    simp only [looks, opdsOf, addCk] at ht ⊢
    rw [List.mem_append] at ht ⊢
    rcases ht with ht | ht
    · left
      obtain ⟨x, hx, e⟩ := List.mem_filterMap.1 ht
      refine List.mem_filterMap.2 ⟨x, ?_, e⟩
      simp only [List.map_nil, List.append_nil, List.mem_cons] at hx
      simp only [List.mem_cons, List.mem_append]
      rcases hx with hx | hx <;> simp [hx]
    · exact .inr ht
  | app e b x y =>
    simp only [addCk]
    split
    · exact ⟨fun t ht => ht, rfl⟩
    · exact ⟨fun t ht => ht, rfl⟩
  | _ => exact ⟨fun t ht => ht, rfl⟩
theorem alloc_ck {cks : List (Nat × List (Opd × Nat × Bool))} {o : AOper} {i d : Nat} {cs : List AV} (h : addCk cks o i = ⟨some d, .alloc cs, none⟩) : o = ⟨some d, .alloc cs, none⟩ := by
  obtain ⟨d', op, g⟩ := o
  cases op with
  | calle f args c => simp [addCk] at h
  | app e b x y =>
    simp only [addCk] at h
    split at h
    · simp at h
    · simp at h
  | _ => exact h

theorem wpall_late (hS : Quiet P S) {q : FuncId → Nat} {cks : List (Nat × List (Opd × Nat × Bool))} {B : Nat → Prop} {n : Nat} {w0 : World} (hG : GoodP P B w0) {ops : Array Oper} {aops : List (AOper × List Nat)} (hc : ops.toList.mapM (fun o => (ccOper P ops o).map fun a => (a, depsOf o)) = some aops) (hd : ∀ o ∈ aops, dOk n o.1 = true) {K : St → Prop} {Q : Exit → Act → World → Prop}
    {σ0 : Sg} (hn : ∀ σ' s' a' w', σ0.Le σ' → K s' → SimSt B w0 n σ' s' a' w' → Q .normal a' w') {L : List (Nat × List Nat)} {anc anc2 : List Nat} (hok : LOk L (drawn q cks aops) anc anc2) (ha : ancOk (drawn q cks aops) anc = true) :
    ∀ (k m : Nat) (done : List Nat) (pd : List Pend) (listed : Array Bool), listed.size = ops.size → ∀ (σ : Sg) (s : St) (a : Act) (w : World),
      AllL P S B w0 n L (drawn q cks aops) anc K σ0 (fun i => listed.getD i false = true) m k done pd σ s a w → k + m = ops.size →
      (∀ j, listed.getD j false = true → ∀ i, i < ops.size → (anc.getD j 0).testBit i = true → listed.getD i false = true) → wpAny P .any ops Q k listed a w := by
  obtain ⟨hlen, hget⟩ := mapM_some_length _ _ _ hc
  have hlen : aops.length = ops.size := by simpa using hlen
  have hDl : (drawn q cks aops).length = ops.size := by simp [drawn, hlen]
  -- when all is done
  have hend : ∀ (k m : Nat) (done : List Nat) (pd : List Pend) (listed : Array Bool) (σ : Sg) (s : St) (a : Act) (w : World),
      AllL P S B w0 n L (drawn q cks aops) anc K σ0 (fun i => listed.getD i false = true) m k done pd σ s a w → (∀ i, i < ops.size → listed.getD i false = true) → Q .normal a w := by
    intro k m done pd listed σ s a w h hall
    obtain ⟨done1, pd1, σ1, s1, h1, h2, _⟩ := AllL.flushL hok ha (List.range ops.size) h (fun f hf => ⟨hall f (List.mem_range.1 hf), by rw [hDl]; exact List.mem_range.1 hf, fun i hi _ => hall i (by rw [← hDl]; exact hi)⟩)
    have hpd : pd1 = [] := by
      cases pd1 with
      | nil => rfl
      | cons p r =>
        exfalso
        obtain ⟨o, ho, _⟩ := h1.inv.op p (by simp)
        have hlt : p.f < ops.size := by rw [← hDl]; exact (List.getElem?_eq_some_iff.1 ho).1
        have := h1.off p.f (h2 p.f (List.mem_range.2 hlt))
        simp [pdF] at this
    subst hpd
    have hK : K s1 := by
      have hw := h1.wp
      have h0 : readyA (lateD L (drawn q cks aops)) done1 = [] := by
        apply List.eq_nil_iff_forall_not_mem.2
        intro i hi
        obtain ⟨o, ho, hni, _⟩ := mem_readyA.1 hi
        exact hni (h2 i (List.mem_range.2 (by rw [← hDl, ← lateD_len L]; exact (List.getElem?_eq_some_iff.1 ho).1)))
      simp only [List.length_nil, Nat.add_zero] at hw
      cases k with
      | zero => exact hw.2
      | succ k => exact hw.1 h0
    have hsim := h1.inv.sim
    rw [anyS_nil] at hsim
    exact hn σ1 s1 a w h1.le hK hsim
  intro k
  induction k with
  | zero =>
    intro m done pd listed hsz σ s a w h hcnt hcl
    have hfs : ∀ (pd : List Pend), pwNe pd → (pd.map Pend.f).Nodup := by
      intro pd
      induction pd with
      | nil => intro _; simp
      | cons p r ih =>
        intro h
        rw [List.map_cons, List.nodup_cons]
        refine ⟨fun hm => ?_, ih h.2⟩
        obtain ⟨x, hx, e⟩ := List.mem_map.1 hm
        exact (h.1 x hx).1 e.symm
    have hall : ∀ i, i < ops.size → listed.getD i false = true := by
      intro i hi
      refine (h.set i).2 (Classical.byContradiction fun hno => ?_)
      have hnd2 : (i :: (done ++ pd.map Pend.f)).Nodup := by
        rw [List.nodup_cons, List.nodup_append]
        refine ⟨fun hm => hno ?_, h.nd, hfs pd h.inv.ne, fun x hx y hy e => ?_⟩
        · rcases List.mem_append.1 hm with hm | hm
          · exact .inl hm
          · obtain ⟨p, hp, e⟩ := List.mem_map.1 hm
            exact .inr (pdF_iff.2 ⟨p, hp, e⟩)
        · subst e
          obtain ⟨p, hp, e⟩ := List.mem_map.1 hy
          have := h.off x hx
          rw [pdF_iff.2 ⟨p, hp, e⟩] at this
          cases this
      have hsub : (i :: (done ++ pd.map Pend.f)) ⊆ List.range ops.size := by
        intro x hx
        rw [List.mem_range]
        rcases List.mem_cons.1 hx with rfl | hx
        · exact hi
        · rcases List.mem_append.1 hx with hx | hx
          · exact hDl ▸ h.lt x hx
          · obtain ⟨p, hp, e⟩ := List.mem_map.1 hx
            obtain ⟨o, ho, _⟩ := h.inv.op p hp
            rw [← e, ← hDl]
            exact (List.getElem?_eq_some_iff.1 ho).1
      have := hnd2.length_le_of_subset hsub
      have hc := h.cnt
      simp at this
      omega
    refine ⟨?_, hend 0 m done pd listed σ s a w h hall⟩
    rw [ready_eq (done := (List.range ops.size)) hc hsz (fun i => ?_)]
    · apply List.eq_nil_iff_forall_not_mem.2
      intro i hi
      obtain ⟨o, ho, hni, _⟩ := mem_readyA.1 hi
      exact hni (List.mem_range.2 (by rw [← hlen]; exact (List.getElem?_eq_some_iff.1 ho).1))
    · by_cases hi : i < ops.size
      · rw [hall i hi]; simp [hi]
      · have : listed.getD i false = false := by simp [hsz, hi]
        rw [this]; simp [hi]
  | succ k ih =>
    intro m done pd listed hsz σ s a w h hcnt hcl
    have hE : ∀ i, listed.getD i false = (done ++ pd.map Pend.f).contains i := by
      intro i
      rw [Bool.eq_iff_iff, h.set i, List.contains_iff_mem, List.mem_append, pdF_iff, List.mem_map]
    have hready := ready_eq hc hsz hE
    have hdrawn : ∀ i y, aops[i]? = some y → (drawn q cks aops)[i]? = some (addCk cks (quietOper q y.1) i, y.2) := fun i y hy => by
      simp only [drawn, List.getElem?_mapIdx, hy]; rfl
    refine ⟨fun h0 => hend (k + 1) m done pd listed σ s a w h fun i hi => ?_, fun i hi => ?_⟩
    · -- nothing is ready: all is done
      induction i using Nat.strongRecOn with
      | _ i ihi =>
      refine Classical.byContradiction fun hno => ?_
      have hni : i ∉ done ++ pd.map Pend.f := fun hm => hno (by rw [hE]; simpa using hm)
      have hio : aops[i]? = some aops[i] := List.getElem?_eq_getElem (by omega)
      have hm : i ∈ readyA aops (done ++ pd.map Pend.f) := mem_readyA.2 ⟨_, hio, hni, fun d hd' => by
        have hlt' := hok.back i _ (hdrawn i _ hio) d hd'
        have := ihi d hlt' (by omega)
        rw [hE] at this
        simpa using this⟩
      rw [← hready, h0] at hm
      cases hm
    · rw [hready] at hi
      obtain ⟨y, hy, hni, hdeps⟩ := mem_readyA.1 hi
      have hilt' : i < aops.length := (List.getElem?_eq_some_iff.1 hy).1
      have hilt : i < ops.size := by omega
      obtain ⟨y', hy', hf⟩ := hget i ops[i] (by simp [hilt])
      rw [hy] at hy'
      obtain rfl := Option.some.inj hy'
      obtain ⟨ao, hao, rfl⟩ := Option.map_eq_some_iff.1 hf
      have hD := hdrawn i _ hy
      simp only at hD hdeps
      have hU : ∀ d ∈ depsOf ops[i], listed.getD d false = true := fun d hd' => by rw [hE]; simpa using hdeps d hd'
      have hUi : ¬ listed.getD i false = true := fun e => hni (by rw [hE] at e; simpa using e)
      have hanc : ∀ j, j < ops.size → (anc.getD i 0).testBit j = true → listed.getD j false = true := by
        intro j hj hb
        obtain ⟨d, hdm, hdb⟩ := ancOk_spec ha hD (by rw [hDl]; exact hj) hb
        rcases hdb with rfl | hdb
        · exact hU d hdm
        · exact hcl d (hU d hdm) j hj hdb
      -- what it needs is made
      obtain ⟨done1, pd1, σ1, s1, h1, h2, h3⟩ := AllL.flushL hok ha ((depsOf ops[i]).filter fun d => pdF pd d) h (fun d hd' => by
        obtain ⟨hdm, hdp⟩ := List.mem_filter.1 hd'
        obtain ⟨p, hp, rfl⟩ := pdF_iff.1 hdp
        obtain ⟨X, hX⟩ := Option.isSome_iff_exists.1 (h.dL p hp)
        have hpl : p.f < (drawn q cks aops).length := by
          have := hok.back i _ hD p.f hdm
          omega
        obtain ⟨_, _, _, _, _, _, hj⟩ := hok.late p.f X hpl hX
        refine ⟨hU _ hdm, hpl, fun j hj' hb => ?_⟩
        have hne : i ≠ p.f := by have := hok.back i _ hD p.f hdm; omega
        exact hanc j (by omega) ((hj i _ hne hD).2 hdm j hj' hb))
      have hdone1 : ∀ d ∈ depsOf ops[i], d ∈ done1 := by
        intro d hdm
        rcases (h.set d).1 (hU d hdm) with hd' | hd'
        · exact h3 d hd'
        · exact h2 d (List.mem_filter.2 ⟨hdm, hd'⟩)
      have hni1 : i ∉ done1 := fun hm => hUi ((h1.set i).2 (.inl hm))
      have hrD : i ∈ readyA (drawn q cks aops) done1 := mem_readyA.2 ⟨_, hD, hni1, hdone1⟩
      have hcnt1 := h1.cnt
      have hfar : ∀ p ∈ pd1, (p.d ∉ looks (addCk cks (quietOper q ao) i) ∧ (addCk cks (quietOper q ao) i).dst ≠ some p.d) ∧ p.f ≠ i := by
        intro p hp
        obtain ⟨o, ho, hop⟩ := h1.inv.op p hp
        obtain ⟨X, hX⟩ := Option.isSome_iff_exists.1 (h1.dL p hp)
        have hpl : p.f < (drawn q cks aops).length := (List.getElem?_eq_some_iff.1 ho).1
        obtain ⟨_, d, cs, deps, hDf, _, hj⟩ := hok.late p.f X hpl hX
        rw [ho] at hDf
        obtain rfl := Option.some.inj hDf
        have hdd : d = p.d := by injection hop with e; exact Option.some.inj e
        subst hdd
        have hne : i ≠ p.f := fun e => hUi ((h1.set i).2 (.inr (pdF_iff.2 ⟨p, hp, e.symm⟩)))
        refine ⟨((hj i _ hne hD).1).resolve_left fun hb => ?_, hne.symm⟩
        have := h1.cl.ready ha hrD hpl hb
        have h0 := h1.off _ this
        rw [pdF_iff.2 ⟨p, hp, rfl⟩] at h0
        cases h0
      have hcq : ∀ f args c, (quietOper q ao).op = .calle f args c → c = [] := by
        intro f args c e
        simp only [quietOper] at e
        have e3 := (guard_eq h1.inv.sim hao).2.2
        cases hop : ccOp P ops[i].op with
        | none =>
          rw [hop] at e3
          rw [e3] at e
          cases e
        | some op0 =>
          rw [hop] at e3
          rw [e3] at e
          simp only [Option.getD_some] at e
          unfold quietOp at e
          split at e
          · split at e
            · cases e
            · split at e
              · injection e with _ _ e; exact e.symm
              · cases e
          · exact (cc_calle hop (by rw [e]; rfl)).elim
      have hset : ∀ j, (listed.setIfInBounds i true).getD j false = true ↔ (j = i ∨ listed.getD j false = true) := by
        intro j
        by_cases hij : i = j
        · subst hij
          simp [hsz, hilt]
        · rw [getD_set_ne false hij]
          constructor
          · exact .inr
          · rintro (e | e)
            · exact absurd e.symm hij
            · exact e
      have hcl2 : ∀ j, (listed.setIfInBounds i true).getD j false = true → ∀ m, m < ops.size → (anc.getD j 0).testBit m = true → (listed.setIfInBounds i true).getD m false = true := by
        intro j hj m hm hb
        rw [hset] at hj ⊢
        rcases hj with rfl | hj
        · exact .inr (hanc m hm hb)
        · exact .inr (hcl j hj m hm hb)
      unfold wpOp
      simp only [Array.getElem?_eq_getElem hilt]
      cases hX : L.lookup i with
      | none =>
        have hD2 := lateD_get (L := L) hD
        rw [hX] at hD2
        simp only [Option.getD_none, List.append_nil] at hD2
        have hr2 : i ∈ readyA (lateD L (drawn q cks aops)) done1 := mem_readyA.2 ⟨_, hD2, hni1, hdone1⟩
        have hw := h1.wp
        rw [show k + 1 + pd1.length = (k + pd1.length) + 1 by omega] at hw
        have hg := wpg_ck hcq (hw.2 i hr2 _ hD2)
        have hlk := looks_ck (cks := cks) (o := quietOper q ao) (i := i) hcq
        refine h1.inv.step (q := q) hS hG hao (dOk_spec (hd _ (List.mem_of_getElem? hy))) (fun p hp => ⟨fun hm => (hfar p hp).1.1 (hlk.1 _ hm), by rw [← hlk.2]; exact (hfar p hp).1.2⟩) hg fun σ2 s2 a2 w2 hle hk hinv => ?_
        refine ih (m + 1) (i :: done1) pd1 _ (by simp [hsz]) σ2 s2 a2 w2 ⟨hinv, hk, h1.le.trans hle, h1.cl.cons ha hrD, fun j => ?_, fun j hj => ?_, h1.dL, List.nodup_cons.2 ⟨hni1, h1.nd⟩, fun j hj => ?_, by simp only [List.length_cons]; omega⟩ (by omega) hcl2
        · rw [hset, h1.set j, List.mem_cons, or_assoc]
        · rcases List.mem_cons.1 hj with rfl | hj
          · rw [← Bool.not_eq_true, pdF_iff]
            rintro ⟨p, hp, e⟩
            exact (hfar p hp).2 e
          · exact h1.off j hj
        · rcases List.mem_cons.1 hj with rfl | hj
          · omega
          · exact h1.lt j hj
      | some X =>
        obtain ⟨_, d, cs, deps, hDf, hz, _⟩ := hok.late i X (by omega) hX
        rw [hD] at hDf
        have he := Option.some.inj hDf
        have hq0 : addCk cks (quietOper q ao) i = ⟨some d, .alloc cs, none⟩ := congrArg Prod.fst he
        have hq := alloc_ck hq0
        have hdn : d < n := dOk_spec (hd _ (List.mem_of_getElem? hy)) d (by have := congrArg AOper.dst hq; simpa [quietOper] using this)
        refine h1.inv.early (q := q) hS hG hao hq hdn hz hD hq0 (fun p hp => ⟨(hfar p hp).2, fun e => (hfar p hp).1.2 (by rw [hq0, e])⟩) fun c σ2 a2 w2 hle hinv => ?_
        refine ih (m + 1) done1 (⟨i, d, c, cs⟩ :: pd1) _ (by simp [hsz]) σ2 s1 a2 w2 ⟨hinv, ?_, h1.le.trans hle, h1.cl, fun j => ?_, fun j hj => ?_, fun p hp => ?_, h1.nd, h1.lt, by simp only [List.length_cons]; omega⟩ (by omega) hcl2
        · have hw := h1.wp
          rw [List.length_cons, show k + (pd1.length + 1) = k + 1 + pd1.length by omega]
          exact hw
        · rw [hset, h1.set j]
          simp only [pdF, List.any_cons, Bool.or_eq_true, beq_iff_eq]
          constructor
          · rintro (e | e | e)
            · exact .inr (.inl e.symm)
            · exact .inl e
            · exact .inr (.inr e)
          · rintro (e | e | e)
            · exact .inr (.inl e)
            · exact .inl e.symm
            · exact .inr (.inr e)
        · simp only [pdF, List.any_cons, Bool.or_eq_false_iff]
          refine ⟨?_, h1.off j hj⟩
          simp only [beq_eq_false_iff_ne]
          exact fun e => hni1 (e ▸ hj)
        · rcases List.mem_cons.1 hp with rfl | hp
          · rw [hX]; rfl
          · exact h1.dL p hp

end Go.Proofs.YtlglgcmpeabdnaaGreatDoorAi

/- Conditions of code are sound; the triple of a function. -/
namespace Go.Proofs.YtlglgcmpeabdnaaGreatDoorAi
open Go Go.RowKit
set_option linter.unusedVariables false
set_option linter.unusedSimpArgs false

variable {P : Program} {S : Spec} {N : Nat}

def exOf : Ex → Exit
  | .normal => .normal
  | .exit id => .exit id
  | .ret => .ret

def dAll (n : Nat) : AC → Bool
  | .reg ops => ops.all (dOk n)
  | .draw ops => ops.all fun o => dOk n o.1
  | .seq a b => dAll n a && dAll n b
  | .cond _ x y => dAll n x && dAll n y
  | .block _ c => dAll n c
  | .loop c => dAll n c
  | _ => true

theorem pre_sound {h : Hint} {c : AC} {s : St} {QA : Ex → St → Prop} (hw : wpc N P S (preA h c) s QA) : ∃ s', Shift N s s' ∧ wpc N P S c s' QA := by
  unfold preA at hw
  split at hw
  · simp only [wpc, shiftW] at hw
    exact hw
  · exact ⟨s, fun B w0 n σ a w hs => ⟨σ, .refl N σ, hs⟩, hw⟩

theorem SimSt.tick {B : Nat → Prop} {n : Nat} {w0 : World} {σ : Sg} {s : St} {a : Act} {w : World} (h : SimSt B w0 n σ s a w) : SimSt B w0 n σ s a { w with drawn := w.drawn + 1 } :=
  ⟨h.sim.drew, h.tmps, h.size, h.defers, h.below.trans ⟨rfl, rfl, rfl, Nat.le_refl _, fun i hi => rfl⟩⟩

theorem least_of {G : Nat → Prop} (h : ∃ m, G m) : ∃ m, G m ∧ ∀ k, G k → m ≤ k := by
  obtain ⟨m, hm⟩ := h
  induction m using Nat.strongRecOn with
  | _ m ih =>
    by_cases hlt : ∃ k, k < m ∧ G k
    · obtain ⟨k, hk, hg⟩ := hlt
      exact ih k hk hg
    · exact ⟨m, hm, fun k hk => Nat.le_of_not_lt fun h => hlt ⟨k, h, hk⟩⟩

theorem wpc_sound (hS : Quiet P S) (hm : P.follows .mixedOrders = true) {q : FuncId → Nat} {B : Nat → Prop} {n : Nat} {w0 : World} (hG : GoodP P B w0) {σ0 : Sg} : ∀ (c : Code) (ac : AC), ccCode P c = some ac → dAll n ac = true → ∀ (hs : List Hint) (QA : Ex → St → Prop) (Q : Exit → Act → World → Prop),
    (∀ σ' e s' a' w', σ0.LeN N σ' → QA e s' → SimSt B w0 n σ' s' a' w' → Q (exOf e) a' w') → ∀ (σ : Sg) (s : St) (a : Act) (w : World), σ0.LeN N σ → SimSt B w0 n σ s a w → wpc N P S (lin q ac hs).1 s QA → c.wp P Q a w := by
  intro c
  induction c with
  | skip =>
    intro ac hc hd hs QA Q hQ σ s a w hle hsim hw
    obtain rfl := Option.some.inj hc
    simp only [lin, wpc] at hw
    exact wp_skip (hQ _ .normal _ _ _ hle hw hsim)
  | exit id =>
    intro ac hc hd hs QA Q hQ σ s a w hle hsim hw
    obtain rfl := Option.some.inj hc
    simp only [lin, wpc] at hw
    exact wp_exit (hQ _ (.exit id) _ _ _ hle hw hsim)
  | ret =>
    intro ac hc hd hs QA Q hQ σ s a w hle hsim hw
    obtain rfl := Option.some.inj hc
    simp only [lin] at hw
    obtain ⟨s', hsh, hw⟩ := pre_sound hw
    obtain ⟨σ', hle', hsim'⟩ := hsh _ _ _ _ _ _ hsim
    simp only [wpc] at hw
    exact wp_ret (hQ _ .ret _ _ _ (hle.trans hle') hw hsim')
  | region id ops draw =>
    intro ac hc hd hs QA Q hQ σ s a w hle hsim hw
    cases draw with
    | false =>
      simp only [ccCode, Option.map_eq_some_iff] at hc
      obtain ⟨aops, hc, rfl⟩ := hc
      simp only [lin] at hw
      obtain ⟨s', hsh, hw⟩ := pre_sound hw
      obtain ⟨σ', hle', hsim'⟩ := hsh _ _ _ _ _ _ hsim
      simp only [wpc] at hw
      refine wp_region ?_
      rw [List.range_eq_range']
      exact wps_sound (q := q) hS hG hc (List.all_eq_true.1 hd) (σ0 := σ') (fun σ2 s' a' w' hl hk hs' => hQ σ2 .normal s' a' w' ((hle.trans hle').trans (hl.toN N)) hk hs') ops.size 0 (by simp) σ' s' a w (.refl σ') hsim' (by simpa using hw)
    | true =>
      simp only [ccCode, Option.map_eq_some_iff] at hc
      obtain ⟨aops, hc, rfl⟩ := hc
      simp only [lin] at hw
      obtain ⟨s', hsh, hw⟩ := pre_sound hw
      obtain ⟨σ', hle', hsim'⟩ := hsh _ _ _ _ _ _ hsim
      have hlen : aops.length = ops.size := by simpa using (mapM_some_length _ _ _ hc).1
      refine wp_region_any hm ?_
      have hdl : (drawn q (popH hs).1.cks aops).length = aops.length := by simp [drawn]
      split at hw
      · split at hw
        · rename_i tr _ hok
          simp only [Bool.and_eq_true, decide_eq_true_eq] at hok
          simp only [wpc] at hw
          have hall := (tree_sound hok.1.2.1 tr [] [] s' (fun k hk => by cases hk) hok.1.1 hw).1 rfl ops.size (by rw [← hlen]; exact hok.1.2.2)
          have hL := lateOk_spec hok.2.1
          refine wpall_late (q := q) (cks := (popH hs).1.cks) hS hG hc (List.all_eq_true.1 hd) (σ0 := σ') (K := QA .normal) (fun σ2 s' a' w' hl hk hs' => hQ σ2 .normal s' a' w' ((hle.trans hle').trans (hl.toN N)) hk hs') hL hok.2.2 ops.size 0 [] [] _ (by simp) σ' s' a _ ⟨⟨by rw [anyS_nil]; exact hsim'.tick, fun p hp => (by cases hp), trivial, fun p hp => (by cases hp)⟩, hall, .refl σ', fun k hk => (by cases hk), fun i => ?_, fun i hi => (by cases hi), fun p hp => (by cases hp), List.nodup_nil, fun i hi => (by cases hi), rfl⟩ (by simp) (fun j hj => ?_)
          · constructor
            · intro e
              by_cases hi : i < ops.size <;> simp [hi] at e
            · rintro (e | e) <;> cases e
          · by_cases hi : j < ops.size <;> simp [hi] at hj
        · simp only [wpc] at hw
      · split at hw
        · split at hw
          · rename_i order _ hok
            simp only [Bool.and_eq_true, beq_iff_eq] at hok
            simp only [wpc] at hw
            have hall := lin_sound hok.1.2.1 order ops.size [] s' (by rw [hok.1.2.2, hlen]; exact Nat.le_refl _) (fun k hk => by cases hk) hok.1.1 hw
            have hL := lateOk_spec hok.2.1
            refine wpall_late (q := q) (cks := (popH hs).1.cks) hS hG hc (List.all_eq_true.1 hd) (σ0 := σ') (K := QA .normal) (fun σ2 s' a' w' hl hk hs' => hQ σ2 .normal s' a' w' ((hle.trans hle').trans (hl.toN N)) hk hs') hL hok.2.2 ops.size 0 [] [] _ (by simp) σ' s' a _ ⟨⟨by rw [anyS_nil]; exact hsim'.tick, fun p hp => (by cases hp), trivial, fun p hp => (by cases hp)⟩, hall, .refl σ', fun k hk => (by cases hk), fun i => ?_, fun i hi => (by cases hi), fun p hp => (by cases hp), List.nodup_nil, fun i hi => (by cases hi), rfl⟩ (by simp) (fun j hj => ?_)
            · constructor
              · intro e
                by_cases hi : i < ops.size <;> simp [hi] at e
              · rintro (e | e) <;> cases e
            · by_cases hi : j < ops.size <;> simp [hi] at hj
          · simp only [wpc] at hw
        · refine wpall_sound (q := q) (cks := (popH hs).1.cks) hS hG hc (List.all_eq_true.1 hd) (σ0 := σ') (K := QA .normal) (fun σ2 s' a' w' hl hk hs' => hQ σ2 .normal s' a' w' ((hle.trans hle').trans (hl.toN N)) hk hs') ops.size [] _ (by simp) (fun i => ?_) σ' s' a _ (.refl σ') hsim'.tick ?_
          · simp
            by_cases hi : i < ops.size <;> simp [hi]
          · simp only [wpc, hdl, hlen] at hw
            exact hw
  | seq x y ihx ihy =>
    intro ac hc hd hs QA Q hQ σ s a w hle hsim hw
    simp only [ccCode, Option.bind_eq_some_iff, Option.map_eq_some_iff] at hc
    obtain ⟨ax, hx, ay, hy, rfl⟩ := hc
    simp only [dAll, Bool.and_eq_true] at hd
    simp only [lin, wpc] at hw
    refine wp_seq (ihx ax hx hd.1 hs _ _ ?_ σ s a w hle hsim hw)
    intro σ' e s' a' w' hl hk hs'
    cases e with
    | normal => exact ihy ay hy hd.2 _ QA Q hQ σ' s' a' w' hl hs' hk
    | exit id => exact hQ σ' (.exit id) s' a' w' hl hk hs'
    | ret => exact hQ σ' .ret s' a' w' hl hk hs'
  | cond b x y ihx ihy =>
    intro ac hc hd hs QA Q hQ σ s a w hle hsim hw
    simp only [ccCode, Option.bind_eq_some_iff, Option.map_eq_some_iff] at hc
    obtain ⟨b', hb, ax, hx, ay, hy, rfl⟩ := hc
    simp only [dAll, Bool.and_eq_true] at hd
    simp only [lin, wpc] at hw
    have hr := ev_rep hsim hb
    replace hw := optW_iff.1 hw
    obtain ⟨t, ht0, hw⟩ := hw
    cases hv : s.ev b' <;> simp only [hv, boolOf] at ht0 <;> first | (cases ht0; done) | skip
    obtain rfl := Option.some.inj ht0
    rename_i t
    rw [hv] at hr
    have hev : a.eval b = .bool t := by generalize a.eval b = v at hr; cases hr; rfl
    refine wp_cond_split hev (fun ht => ?_) (fun ht => ?_)
    · subst ht
      exact ihx ax hx hd.1 hs QA Q hQ σ s a w hle hsim (by rw [brW_true] at hw; exact hw)
    · subst ht
      exact ihy ay hy hd.2 _ QA Q hQ σ s a w hle hsim (by rw [brW_false] at hw; exact hw)
  | block id x ih =>
    intro ac hc hd hs QA Q hQ σ s a w hle hsim hw
    simp only [ccCode, Option.map_eq_some_iff] at hc
    obtain ⟨ax, hx, rfl⟩ := hc
    simp only [lin, wpc] at hw
    refine wp_block (ih ax hx hd hs _ _ ?_ σ s a w hle hsim hw)
    intro σ' e s' a' w' hl hk hs'
    cases e with
    | normal => exact hQ σ' .normal s' a' w' hl hk hs'
    | ret => exact hQ σ' .ret s' a' w' hl hk hs'
    | exit i =>
      simp only [exOf, Exit.inBlock]
      by_cases hi : i = id
      · rw [if_pos hi]
        have hk : QA .normal s' := by simpa [hi] using hk
        exact hQ σ' .normal s' a' w' hl hk hs'
      · rw [if_neg hi]
        have hk : QA (.exit i) s' := by simpa [hi] using hk
        exact hQ σ' (.exit i) s' a' w' hl hk hs'
  | loop x ih =>
    intro ac hc hd hs QA Q hQ σ s a w hle hsim hw
    simp only [ccCode, Option.map_eq_some_iff] at hc
    obtain ⟨ax, hx, rfl⟩ := hc
    simp only [lin] at hw
    obtain ⟨s', hsh, hw⟩ := pre_sound hw
    obtain ⟨σ', hle', hsim'⟩ := hsh _ _ _ _ _ _ hsim
    simp only [wpc, wpLoop] at hw
    obtain ⟨I, μ, ⟨s0, hsh0, h0⟩, hround⟩ := hw
    obtain ⟨σ1', hle1', hsim1'⟩ := hsh0 _ _ _ _ _ _ hsim'
    classical
    let G : Act → World → Nat → Prop := fun a w m => ∃ σ' s', σ0.LeN N σ' ∧ SimSt B w0 n σ' s' a w ∧ I s' ∧ μ s' = m
    let J : Act → World → Prop := fun a w => ∃ m, G a w m
    let least : Act → World → Nat := fun a w => if h : ∃ m, G a w m then Classical.choose (least_of h) else 0
    refine wp_loop J least ⟨_, σ1', s0, (hle.trans hle').trans hle1', hsim1', h0, rfl⟩ fun a w hJ => ?_
    have hl : least a w = Classical.choose (least_of hJ) := by simp only [least]; rw [dif_pos hJ]
    obtain ⟨⟨σ1, s1, hle1, hs1, hI1, hμ1⟩, _⟩ := Classical.choose_spec (least_of hJ)
    refine ih ax hx hd _ _ _ ?_ σ1 s1 a w hle1 hs1 (hround s1 hI1)
    intro σ' e s' a' w' hl' hk hs'
    cases e with
    | normal =>
      obtain ⟨s2, hsh2, hI2, hμ2⟩ := hk
      obtain ⟨σ2, hle2, hsim2⟩ := hsh2 _ _ _ _ _ _ hs'
      have hJ' : ∃ m, G a' w' m := ⟨_, σ2, s2, hl'.trans hle2, hsim2, hI2, rfl⟩
      refine ⟨hJ', ?_⟩
      have h2 : least a' w' = Classical.choose (least_of hJ') := by simp only [least]; rw [dif_pos hJ']
      rw [h2, hl]
      have h3 := (Classical.choose_spec (least_of hJ')).2 (μ s2) ⟨σ2, s2, hl'.trans hle2, hsim2, hI2, rfl⟩
      omega
    | exit id => exact hQ σ' (.exit id) s' a' w' hl' hk hs'
    | ret => exact hQ σ' .ret s' a' w' hl' hk hs'
  | _ =>
    intro ac hc hd hs QA Q hQ σ s a w hle hsim hw
    simp only [ccCode, Option.some.injEq] at hc
    subst hc
    simp only [lin, wpc] at hw

end Go.Proofs.YtlglgcmpeabdnaaGreatDoorAi

/- The triple of a function. -/
namespace Go.Proofs.YtlglgcmpeabdnaaGreatDoorAi
open Go Go.RowKit
set_option linter.unusedVariables false
set_option linter.unusedSimpArgs false

variable {P : Program} {S : Spec}

def resSem (tmps : Array Value) : ResultVar → Sem Value
  | .tmp t => pure (tmps.getD t undef)
  | .cell a t => do loadVar t (← asAddr (tmps.getD a undef))

theorem results_eq (fn : Func) (tmps : Array Value) : results fn tmps = (do
    let vs ← fn.results.mapM (resSem tmps)
    pure (if h : vs.size = 1 then vs[0] else .tuple vs)) := by
  unfold results
  congr 1

theorem res_run {B : Nat → Prop} {n : Nat} {w0 w : World} {σ : Sg} {s : St} {a : Act} (hs : SimSt B w0 n σ s a w) {r : ResultVar} {r' : ARes} (hc : ccRes P r = some r') {v : AV} (h : resA s r' = some v) :
    ∃ u, (resSem a.tmps r).run P w = .ok u w ∧ Rep σ v u := by
  cases r with
  | tmp t =>
    simp only [ccRes, Option.some.injEq] at hc
    subst hc
    simp only [resA, Option.some.injEq] at h
    subst h
    exact ⟨_, rfl, hs.tmps t⟩
  | cell x t =>
    simp only [ccRes, Option.bind_eq_some_iff, Option.map_eq_some_iff] at hc
    obtain ⟨m, hm, g, hg, rfl⟩ := hc
    simp only [resA] at h
    obtain ⟨u, h1, h2, _⟩ := ldVar_run hs.sim (hs.tmps x) hm hg h
    refine ⟨u, ?_, h2⟩
    simp only [resSem]
    generalize a.tmps.getD x undef = p at h1 ⊢
    cases p <;> first | (rename_i ad; cases ad) | skip
    all_goals first
      | (simp [Instr.loadAt, Instr.sureAddr, stuck, Sem.run] at h1; done)
      | (simpa [Instr.loadAt, Instr.sureAddr, asAddr] using h1)

theorem joined_rep {σ : Sg} {vs : List AV} {us : List Value} {v : AV} (hv : (match vs with | [v] => v | vs => AV.tup vs) = v) (hrep : RepL σ vs us) :
    Rep σ v (if h : us.toArray.size = 1 then us.toArray[0] else .tuple us.toArray) := by
  obtain ⟨hl, hr⟩ := hrep
  cases vs with
  | nil =>
    obtain rfl : us = [] := List.length_eq_zero_iff.1 (by simpa using hl.symm)
    simp at hv
    subst hv
    exact .tup [] [] rfl (by simp)
  | cons v1 vs =>
    cases us with
    | nil => simp at hl
    | cons u1 us =>
      cases vs with
      | nil =>
        obtain rfl : us = [] := List.length_eq_zero_iff.1 (by simpa using hl.symm)
        simp at hv
        subst hv
        exact hr 0 _ _ rfl rfl
      | cons v2 vs =>
        simp at hv
        subst hv
        cases us with
        | nil => simp at hl
        | cons u2 us =>
          have : ¬ ((u1 :: u2 :: us).toArray.size = 1) := by simp
          rw [dif_neg this]
          exact .tup _ _ hl hr

theorem results_run {B : Nat → Prop} {n : Nat} {w0 w : World} {σ : Sg} {s : St} {a : Act} (hs : SimSt B w0 n σ s a w) {fn : Func} {rs : List ARes} (hc : fn.results.toList.mapM (ccRes P) = some rs) {v : AV} (h : resultsA s rs = some v) :
    ∃ u, (results fn a.tmps).run P w = .ok u w ∧ Rep σ v u := by
  unfold resultsA at h
  obtain ⟨vs, hvs, hv⟩ := Option.map_eq_some_iff.1 h
  obtain ⟨hl1, hg1⟩ := mapM_some_length _ _ _ hc
  obtain ⟨hl2, hg2⟩ := mapM_some_length _ _ _ hvs
  have hex : ∀ i : Nat, i < fn.results.toList.length → ∃ u, ∀ r v, fn.results.toList[i]? = some r → vs[i]? = some v → (resSem a.tmps r).run P w = .ok u w ∧ Rep σ v u := by
    intro i hi
    obtain ⟨r', hr', hcr⟩ := hg1 i _ (List.getElem?_eq_getElem hi)
    obtain ⟨v', hv', hrr⟩ := hg2 i r' hr'
    obtain ⟨u, h1, h2⟩ := res_run hs hcr hrr
    refine ⟨u, fun r v hr hv => ?_⟩
    rw [List.getElem?_eq_getElem hi] at hr
    obtain rfl := Option.some.inj hr
    rw [hv'] at hv
    obtain rfl := Option.some.inj hv
    exact ⟨h1, h2⟩
  classical
  let us : List Value := (List.range fn.results.toList.length).map fun i => if h : i < fn.results.toList.length then Classical.choose (hex i h) else undef
  have husl : us.length = fn.results.toList.length := by simp [us]
  have hus : ∀ (i : Nat) (r : ResultVar) (v : AV) (u : Value), fn.results.toList[i]? = some r → vs[i]? = some v → us[i]? = some u → (resSem a.tmps r).run P w = .ok u w ∧ Rep σ v u := by
    intro i r v u hr hv hu
    have hi := (List.getElem?_eq_some_iff.1 hr).1
    have := Classical.choose_spec (hex i hi) r v hr hv
    have hue : u = Classical.choose (hex i hi) := by
      simp only [us, List.getElem?_map, List.getElem?_range hi, Option.map_some, Option.some.injEq] at hu
      rw [dif_pos hi] at hu
      exact hu.symm
    rw [hue]
    exact this
  have hvl : vs.length = fn.results.toList.length := by omega
  have hrun : (fn.results.toList.mapM (resSem a.tmps)).run P w = .ok us w := by
    refine run_mapM_list _ _ _ husl.symm fun i r u hr hu => ?_
    have hi := (List.getElem?_eq_some_iff.1 hr).1
    exact (hus i r (vs[i]'(by omega)) u hr (List.getElem?_eq_getElem (by omega)) hu).1
  have hrep : RepL σ vs us := ⟨by omega, fun i c u hc hu => by
    have hi := (List.getElem?_eq_some_iff.1 hc).1
    exact (hus i (fn.results.toList[i]'(by omega)) c u (List.getElem?_eq_getElem (by omega)) hc hu).2⟩
  have hrunA : (results fn a.tmps).run P w = .ok (if h : us.toArray.size = 1 then us.toArray[0] else .tuple us.toArray) w := by
    rw [results_eq, Array.mapM_eq_mapM_toList]
    simp only [Sem.run_bind, Sem.run_map, hrun]
    rfl
  exact ⟨_, hrunA, joined_rep hv hrep⟩

/-- What is given of a function: read off by the kernel. -/
structure HasAC (P : Program) (f : FuncId) (nargs : Nat) (ac : AC) (rs : List ARes) : Prop where
  ok : ∃ fn body, P.funcs[f]? = some fn ∧ (fn.name == "runtime.NumGoroutine") = false ∧ fn.body = some body ∧ ccCode P body = some ac ∧ dAll fn.ntmps ac = true ∧ fn.results.toList.mapM (ccRes P) = some rs ∧ nargs ≤ fn.ntmps

theorem T_of (hS : Quiet P S) (hm : P.follows .mixedOrders = true) {f : FuncId} {nargs : Nat} {ac : AC} {rs : List ARes} (h : HasAC P f nargs ac rs) (q : FuncId → Nat) (hints : List Hint) {args : List AV} (ha : args.length = nargs) {A : AHeap} {R : AV → AHeap → Prop}
    (vc : wpc A.n P S (lin q ac hints).1 (initSt args A) (endW A.n rs R)) : T P f args A R := by
  obtain ⟨fn, body, hf, hname, hbody, hcc, hd, hrs, hle⟩ := h.ok
  refine ⟨⟨fn, hf, hname, by rw [hbody]; rfl⟩, fun B w0 σ w vs hG hb hs hr => ?_⟩
  have hvs : vs.length = nargs := by rw [← hr.1, ha]
  refine calls_of_wp hf hbody ?_
  have hsize : (vs.toArray ++ Array.replicate (fn.ntmps - vs.toArray.size) undef).size = fn.ntmps := by simp; omega
  refine wpc_sound (q := q) hS hm hG (σ0 := σ) (B := B) (n := fn.ntmps) (w0 := w0) body ac hcc hd hints (endW A.n rs R) _ ?_ σ (initSt args A) _ w (.refl A.n σ) ⟨hs, fun t => ?_, hsize, rfl, hb⟩ vc
  · intro σ' e s' a' w' hl he hs'
    have fin : (optW (resultsA s' rs) fun r => ∃ r' A', EndS A.n r s'.A r' A' ∧ R r' A') → a'.defers = [] ∧ ∃ v, (results fn a'.tmps).run P w' = .ok v w' ∧ ∃ r A' v' σ', Ending.returned v = .returned v' ∧ R r A' ∧ σ.Le σ' ∧ Sim B σ' A' w' ∧ Rep σ' r v' ∧ Keeps B w0 w' := by
      intro h
      refine ⟨hs'.defers, ?_⟩
      obtain ⟨r, hr, r1, A', hA, hR⟩ := optW_iff.1 h
      obtain ⟨u, h1, h2⟩ := results_run hs' hrs hr
      obtain ⟨σ2, k1, k2, k3⟩ := hA _ _ _ _ hs'.sim h2
      have hl2 := hl.trans k1
      exact ⟨u, h1, r1, A', u, σ2, rfl, hR, ⟨hl2.mem, fun b x e => hl2.nm b x ((hs.nm b x.1 x.2 e).1) e, hl2.base, hl2.ty⟩, k2, k3, hs'.below⟩
    cases e with
    | normal => exact fin he
    | ret => exact fin he
    | exit id => exact he.elim
  · simp only [initSt, argT]
    rcases Nat.lt_or_ge t args.length with ht | ht
    · have ht' : t < vs.length := by omega
      rw [List.getElem?_eq_getElem ht]
      have : (vs.toArray ++ Array.replicate (fn.ntmps - vs.toArray.size) undef).getD t undef = vs[t] := by
        rw [Array.getD_eq_getD_getElem?, Array.getElem?_append_left (by simpa using ht')]
        simp [ht']
      rw [this]
      exact hr.2 t _ _ (List.getElem?_eq_getElem ht) (List.getElem?_eq_getElem ht')
    · rw [List.getElem?_eq_none ht]
      have : (vs.toArray ++ Array.replicate (fn.ntmps - vs.toArray.size) undef).getD t undef = undef := by
        rw [Array.getD_eq_getD_getElem?, Array.getElem?_append_right (by simp; omega)]
        simp only [Array.getElem?_replicate]
        split <;> rfl
      rw [this]
      exact rep_undef σ

end Go.Proofs.YtlglgcmpeabdnaaGreatDoorAi

/- Data that reads becomes abstract values. -/
namespace Go.Proofs.YtlglgcmpeabdnaaGreatDoorAi
open Go Go.RowKit
set_option linter.unusedVariables false
set_option linter.unusedSimpArgs false

inductive Ty where
  | bool
  | int (k : IntKind)
  | str
  | sl (e : Ty)
  | st (fs : List Ty)

def Ty.isSt : Ty → Bool
  | .st _ => true
  | _ => false
def AV.isAgg : AV → Bool
  | .agg _ => true
  | _ => false

mutual
/-- Cells that are a value of a type. -/
def Wt : Ty → List AV → Prop
  | .bool, cs => ∃ b, cs = [.bool b]
  | .int k, cs => ∃ n, cs = [.int k n] ∧ k.min ≤ n ∧ n ≤ k.max
  | .str, cs => ∃ s, cs = [.str s] ∧ s.size ≤ maxLen
  | .sl e, cs => ∃ xs, cs = [.sl xs false] ∧ xs.length ≤ maxLen ∧ ∀ x ∈ xs, Wt e x.cells ∧ x.isAgg = e.isSt
  | .st fs, cs => WtL fs cs
def WtL : List Ty → List AV → Prop
  | [], cs => cs = []
  | f :: fs, cs => ∃ a b, cs = a ++ b ∧ Wt f a ∧ WtL fs b
end
def WtV (t : Ty) (x : AV) : Prop := Wt t x.cells ∧ x.isAgg = t.isSt

def layOk (P : Program) : Nat → List Field → Bool
  | _, [] => true
  | off, f :: fs => (f.offset == off) && layOk P (off + P.cellsOf f.type) fs
def totOf (P : Program) : List Field → Nat
  | [] => 0
  | f :: fs => P.cellsOf f.type + totOf P fs

def tyOf (P : Program) : Nat → TypeId → Option Ty
  | 0, _ => none
  | n + 1, t => match P.underlying t with
    | some .bool => some .bool
    | some (.int k) => some (.int k)
    | some .string => some .str
    | some (.slice e) => if 0 < P.cellsOf e then (tyOf P n e).map .sl else none
    | some (.struct fs) => if layOk P 0 fs.toList = true ∧ totOf P fs.toList = P.cellsOf t then (fs.toList.mapM fun f => tyOf P n f.type).map .st else none
    | _ => none

def sgOf (w : World) : Sg := { mem := fun b => w.heap[b]?, nm := fun _ => none, base := fun b => w.heap[b]?, ty := fun _ => none }

theorem ltL_append {n : Nat} : ∀ {a b : List AV}, ltL n (a ++ b) = (ltL n a && ltL n b)
  | [], b => by simp [ltL]
  | x :: a, b => by simp [ltL, ltL_append (a := a), Bool.and_assoc]
mutual
theorem wt_lt (n : Nat) : ∀ (t : Ty) (cs : List AV), Wt t cs → ltL n cs = true
  | .bool, cs, h => by obtain ⟨b, rfl⟩ := h; rfl
  | .int k, cs, h => by obtain ⟨b, rfl, _⟩ := h; rfl
  | .str, cs, h => by obtain ⟨b, rfl, _⟩ := h; rfl
  | .sl e, cs, h => by obtain ⟨b, rfl, _⟩ := h; rfl
  | .st fs, cs, h => wtL_lt n fs cs h
theorem wtL_lt (n : Nat) : ∀ (ts : List Ty) (cs : List AV), WtL ts cs → ltL n cs = true
  | [], cs, h => by obtain rfl := h; rfl
  | t :: ts, cs, h => by
    obtain ⟨a, b, rfl, h1, h2⟩ := h
    rw [ltL_append, wt_lt n t a h1, wtL_lt n ts b h2]
    rfl
end

theorem sgOf_cell {w : World} {a : Addr} {v : Value} (h : w.cell? a = some v) : a.spot = none ∧ (sgOf w).cell a.block a.off = some v := by
  unfold World.cell? at h
  unfold Sg.cell sgOf
  cases hb : w.heap[a.block]? with
  | none => rw [hb] at h; cases h
  | some o =>
    rw [hb] at h
    cases o <;> simp at h
    rename_i c t fr
    obtain ⟨h1, h2⟩ := h
    refine ⟨by cases hs : a.spot <;> simp_all, ?_⟩
    simp only [hb]
    exact h2

theorem sim_start (w : World) : Sim (fun c => c < w.heap.size) (sgOf w) .nil w :=
  ⟨fun c h => h, fun b o h => h, fun c o h => .inl h, fun b c n h => (by cases h), fun b h => (by simp [AHeap.nil, AHeap.n] at h), fun b cs h => (by cases h), fun b b' cs cs' c n n' h => (by cases h), fun c e h => (by cases h)⟩

variable {H : Type} {enc : TypeId × Value → H} {P : Program} {w : World}

theorem asV {ty : Ty} {avs : List AV} (h : Wt ty avs) : ∃ x : AV, x.cells = avs ∧ x.isAgg = ty.isSt ∧ (ty.isSt = true → x = .agg avs) := by
  cases ty with
  | bool => obtain ⟨b, rfl⟩ := h; exact ⟨.bool b, rfl, rfl, fun h => (by cases h)⟩
  | int k => obtain ⟨n, rfl, _⟩ := h; exact ⟨.int k n, rfl, rfl, fun h => (by cases h)⟩
  | str => obtain ⟨s, rfl, _⟩ := h; exact ⟨.str s, rfl, rfl, fun h => (by cases h)⟩
  | sl e => obtain ⟨xs, rfl, _⟩ := h; exact ⟨.sl xs false, rfl, rfl, fun h => (by cases h)⟩
  | st fs => exact ⟨.agg avs, rfl, rfl, fun _ => rfl⟩

theorem cells?_get {base : Nat} {a : Addr} {n : Nat} {cs : List Value} (h : w.cells? base a n = some cs) : cs.length = n ∧ ∀ (j : Nat) (v : Value), cs[j]? = some v → w.cell? (a.add j) = some v := by
  unfold World.cells? at h
  split at h
  · obtain ⟨hl, hg⟩ := mapM_some_length _ _ _ h
    refine ⟨by simpa using hl, fun j v hj => ?_⟩
    have hlt : j < n := by have := (List.getElem?_eq_some_iff.1 hj).1; simp at hl; omega
    obtain ⟨y, hy, hf⟩ := hg j j (by simp [hlt])
    rw [hj] at hy
    rw [Option.some.inj hy]
    exact hf
  · cases h

theorem rd_fields {n : Nat} {sub : Nat → TypeId → Option Ty} (ih : ∀ (t : TypeId) (cs : List Value) (d : DataW H × List MemPlace) (ty : Ty), DataW.trod enc P w 0 (fun _ => true) true n t cs = some d → sub 0 t = some ty → ∃ avs, Wt ty avs ∧ RepL (sgOf w) avs cs ∧ ∀ v ∈ cs, v.oneCell' = true) :
    ∀ (fs : List Field) (off : Nat) (cs : List Value) (tys : List Ty), layOk P off fs = true → cs.length = off + totOf P fs → (fs.mapM fun f => sub 0 f.type) = some tys →
      (∀ f ∈ fs, ∃ d, DataW.trod enc P w 0 (fun _ => true) true n f.type ((cs.drop f.offset).take (P.cellsOf f.type)) = some d) →
      ∃ avs, WtL tys avs ∧ RepL (sgOf w) avs (cs.drop off) ∧ ∀ v ∈ cs.drop off, v.oneCell' = true
  | [], off, cs, tys, _, hl, hm, _ => by
    simp at hm
    subst hm
    have : cs.drop off = [] := List.drop_eq_nil_of_le (by simp [totOf] at hl; omega)
    rw [this]
    exact ⟨[], rfl, RepL.nil _, by simp⟩
  | f :: fs, off, cs, tys, hlay, hl, hm, hr => by
    simp only [layOk, Bool.and_eq_true, beq_iff_eq] at hlay
    obtain ⟨rfl, hlay⟩ := hlay
    rw [List.mapM_cons] at hm
    simp only [totOf] at hl
    cases h1 : sub 0 f.type with
    | none => simp [h1] at hm
    | some ty =>
      cases h2 : (fs.mapM fun f => sub 0 f.type) with
      | none => simp [h1, h2] at hm
      | some tys' =>
        simp [h1, h2] at hm
        subst hm
        obtain ⟨d, hd⟩ := hr f (List.mem_cons_self ..)
        obtain ⟨a1, w1, r1, o1⟩ := ih _ _ _ _ hd h1
        obtain ⟨a2, w2, r2, o2⟩ := rd_fields ih fs (f.offset + P.cellsOf f.type) cs tys' hlay (by omega) h2 (fun g hg => hr g (List.mem_cons_of_mem _ hg))
        have hsplit : cs.drop f.offset = (cs.drop f.offset).take (P.cellsOf f.type) ++ cs.drop (f.offset + P.cellsOf f.type) := by
          rw [← List.drop_drop, List.take_append_drop]
        rw [hsplit]
        exact ⟨a1 ++ a2, ⟨a1, a2, rfl, w1, w2⟩, r1.append r2, fun v hv => (List.mem_append.1 hv).elim (o1 v) (o2 v)⟩

theorem rd : ∀ (fuel : Nat) (m : Nat) (t : TypeId) (cs : List Value) (d : DataW H × List MemPlace) (ty : Ty), DataW.trod enc P w 0 (fun _ => true) true fuel t cs = some d → tyOf P m t = some ty →
    ∃ avs, Wt ty avs ∧ RepL (sgOf w) avs cs ∧ ∀ v ∈ cs, v.oneCell' = true := by
  intro fuel
  induction fuel with
  | zero => intro m t cs d ty h; simp [DataW.trod] at h
  | succ fuel ih =>
    intro m t cs d ty h ht
    cases m with
    | zero => cases ht
    | succ m =>
      simp only [tyOf] at ht
      split at ht
      · rename_i hu
        obtain rfl := Option.some.inj ht
        obtain ⟨b, rfl, _⟩ := DataW.trod_bool hu h
        exact ⟨[.bool b], ⟨b, rfl⟩, RepL.cons (.bool b) (RepL.nil _), by simp [Value.oneCell']⟩
      · rename_i k hu
        obtain rfl := Option.some.inj ht
        obtain ⟨n, rfl, _, hw⟩ := DataW.trod_int hu h
        simp [Lit.wf] at hw
        exact ⟨[.int k n], ⟨n, rfl, hw.1, hw.2⟩, RepL.cons (.int k n) (RepL.nil _), by simp [Value.oneCell']⟩
      · rename_i hu
        obtain rfl := Option.some.inj ht
        obtain ⟨s, rfl, _, hw⟩ := DataW.trod_string hu h
        exact ⟨[.str s], ⟨s, rfl, hw⟩, RepL.cons (.str s) (RepL.nil _), by simp [Value.oneCell']⟩
      · rename_i e hu
        split at ht
        · rename_i hpos
          obtain ⟨te, hte, rfl⟩ := Option.map_eq_some_iff.1 ht
          rcases DataW.trod_slice hu h with ⟨rfl, _⟩ | ⟨a, len, cap, elems, rest, n, hn, rfl, _, _, hlc, hcm, hel, hget, _⟩
          · exact ⟨[.sl [] false], ⟨[], rfl, Nat.zero_le _, by simp⟩, RepL.cons (.slnil false none 0 (fun h => by cases h) (Nat.zero_le _) (fun _ => rfl)) (RepL.nil _), by simp [Value.oneCell']⟩
          · obtain rfl : fuel = n := by omega
            have hex : ∀ i, i < len → ∃ (x : AV) (cells : List Value), (Wt te x.cells ∧ x.isAgg = te.isSt) ∧ RepL (sgOf w) x.cells cells ∧ (∀ v ∈ cells, v.oneCell' = true) ∧ cells.length = P.cellsOf e ∧ ∀ (j : Nat) (v : Value), cells[j]? = some v → w.cell? ((a.add (i * P.cellsOf e)).add j) = some v := by
              intro i hi
              have h1 := hget i hi
              rw [List.getElem?_eq_getElem (by omega)] at h1
              obtain ⟨cells, hc, hd⟩ := Option.bind_eq_some_iff.1 h1
              obtain ⟨avs, hw1, hr1, ho1⟩ := ih _ _ _ _ _ hd hte
              obtain ⟨x, hx1, hx2, _⟩ := asV hw1
              obtain ⟨hl, hg⟩ := cells?_get hc
              exact ⟨x, cells, ⟨by rw [hx1]; exact hw1, hx2⟩, by rw [hx1]; exact hr1, ho1, hl, hg⟩
            classical
            let fx : Nat → AV := fun i => if h : i < len then Classical.choose (hex i h) else .tup []
            let fc : Nat → List Value := fun i => if h : i < len then Classical.choose (Classical.choose_spec (hex i h)) else []
            have hf : ∀ i, i < len → (Wt te (fx i).cells ∧ (fx i).isAgg = te.isSt) ∧ RepL (sgOf w) (fx i).cells (fc i) ∧ (∀ v ∈ fc i, v.oneCell' = true) ∧ (fc i).length = P.cellsOf e ∧ ∀ (j : Nat) (v : Value), (fc i)[j]? = some v → w.cell? ((a.add (i * P.cellsOf e)).add j) = some v := by
              intro i hi
              have := Classical.choose_spec (Classical.choose_spec (hex i hi))
              simp only [fx, fc, dif_pos hi]
              exact this
            let xs : List AV := (List.range len).map fx
            have hxl : xs.length = len := by simp [xs]
            have hxg : ∀ (i : Nat) (x : AV), xs[i]? = some x → i < len ∧ x = fx i := by
              intro i x hx
              have hi : i < len := by have := (List.getElem?_eq_some_iff.1 hx).1; omega
              simp only [xs, List.getElem?_map, List.getElem?_range hi, Option.map_some, Option.some.injEq] at hx
              exact ⟨hi, hx.symm⟩
            have hwt : Wt (.sl te) [.sl xs false] := ⟨xs, rfl, by omega, fun x hx => by
              obtain ⟨i, hi⟩ := List.getElem?_of_mem hx
              obtain ⟨hlt, rfl⟩ := hxg i x hi
              exact (hf i hlt).1⟩
            refine ⟨[.sl xs false], hwt, RepL.cons ?_ (RepL.nil _), by simp [Value.oneCell']⟩
            by_cases h0 : len = 0
            · have hx0 : xs = [] := List.length_eq_zero_iff.1 (by omega)
              rw [hx0, h0]
              exact .slnil _ _ _ (fun h => by cases h) hcm (fun h => by cases h)
            · have hspot : a.spot = none := by
                obtain ⟨_, _, _, hl, hg⟩ := hf 0 (by omega)
                have h1 : (fc 0)[0]? = some ((fc 0)[0]'(by omega)) := List.getElem?_eq_getElem _
                have h2 := hg 0 _ h1
                simp [Addr.add] at h2
                exact (sgOf_cell h2).1
              obtain ⟨b, off, sp⟩ := a
              simp only at hspot
              subst hspot
              rw [← hxl]
              refine .sl xs false b off (P.cellsOf e) cap (fun i j => ((fc i)[j]?).getD (.bool false)) (by omega) hcm (fun h => by cases h) ?_ ?_ ?_ ?_ (fun i x hx => by
                obtain ⟨hlt, rfl⟩ := hxg i x hx
                exact wt_lt 0 te _ (hf i hlt).1.1)
              · intro i x hx
                obtain ⟨hlt, rfl⟩ := hxg i x hx
                obtain ⟨_, hr1, _, hl, _⟩ := hf i hlt
                rw [hr1.1, hl]
              · intro i x hx j c hc
                obtain ⟨hlt, rfl⟩ := hxg i x hx
                obtain ⟨_, hr1, _, hl, hg⟩ := hf i hlt
                have hj : j < (fc i).length := by rw [← hr1.1]; exact (List.getElem?_eq_some_iff.1 hc).1
                have h1 : (fc i)[j]? = some ((fc i)[j]) := List.getElem?_eq_getElem hj
                have h2 := (sgOf_cell (hg j _ h1)).2
                rw [add_plain, add_plain] at h2
                simp only [h1, Option.getD_some]
                exact h2
              · intro i x hx j c hc
                obtain ⟨hlt, rfl⟩ := hxg i x hx
                obtain ⟨_, hr1, _, hl, hg⟩ := hf i hlt
                have hj : j < (fc i).length := by rw [← hr1.1]; exact (List.getElem?_eq_some_iff.1 hc).1
                have h1 : (fc i)[j]? = some ((fc i)[j]) := List.getElem?_eq_getElem hj
                simp only [h1, Option.getD_some]
                exact hr1.2 j c _ hc h1
              · intro i j
                by_cases hi : i < len
                · cases h1 : (fc i)[j]? with
                  | none => rfl
                  | some v => exact (hf i hi).2.2.1 v (List.mem_of_getElem? h1)
                · have : fc i = [] := by simp only [fc, dif_neg hi]
                  rw [this]
                  rfl
        · cases ht
      · rename_i fs hu
        split at ht
        · rename_i hlay
          obtain ⟨tys, htys, rfl⟩ := Option.map_eq_some_iff.1 ht
          obtain ⟨xs, n, hn, _, hcl, hxl, hg⟩ := DataW.trod_struct hu h
          obtain rfl : fuel = n := by omega
          obtain ⟨avs, h1, h2, h3⟩ := rd_fields (enc := enc) (P := P) (w := w) (n := fuel) (sub := fun _ t => tyOf P m t) (fun t cs d ty => ih m t cs d ty) fs.toList 0 cs tys hlay.1 (by rw [hcl, hlay.2]; simp) htys (fun f hf => by
            obtain ⟨i, hi⟩ := List.getElem?_of_mem hf
            have hi' : fs[i]? = some f := by simpa using hi
            have hlt : i < xs.length := by rw [hxl]; exact (Array.getElem?_eq_some_iff.1 hi').1
            exact ⟨xs[i], by rw [hg i f hi', List.getElem?_eq_getElem hlt]⟩)
          exact ⟨avs, h1, by simpa using h2, by simpa using h3⟩
        · cases ht
      · cases ht

end Go.Proofs.YtlglgcmpeabdnaaGreatDoorAi

/- Out of the triple of a law: its row. -/
namespace Go.Proofs.YtlglgcmpeabdnaaGreatDoorAi
open Go Go.RowKit Go.ChangeShapes Go.WideShapes
set_option linter.unusedVariables false
set_option linter.unusedSimpArgs false

variable {H : Type} {enc : TypeId × Value → H} {P : Program}

/-- Values of types. -/
def WtA : List Ty → List AV → Prop
  | [], [] => True
  | t :: ts, x :: xs => WtV t x ∧ WtA ts xs
  | _, _ => False

theorem tyOf_isSt {m : Nat} {t : TypeId} {ty : Ty} (h : tyOf P m t = some ty) (hs : ty.isSt = true) : ∃ fs, P.underlying t = some (.struct fs) := by
  cases m with
  | zero => cases h
  | succ m =>
    simp only [tyOf] at h
    split at h
    · obtain rfl := Option.some.inj h; cases hs
    · obtain rfl := Option.some.inj h; cases hs
    · obtain rfl := Option.some.inj h; cases hs
    · split at h
      · obtain ⟨_, _, rfl⟩ := Option.map_eq_some_iff.1 h; cases hs
      · cases h
    · rename_i fs hu; exact ⟨fs, hu⟩
    · cases h

theorem tyOf_notSt {m : Nat} {t : TypeId} {ty : Ty} (h : tyOf P m t = some ty) (hs : ty.isSt = false) : P.underlying t = some .bool ∨ (∃ k, P.underlying t = some (.int k)) ∨ P.underlying t = some .string ∨ ∃ e, P.underlying t = some (.slice e) := by
  cases m with
  | zero => cases h
  | succ m =>
    simp only [tyOf] at h
    split at h
    · rename_i hu; exact .inl hu
    · rename_i k hu; exact .inr (.inl ⟨k, hu⟩)
    · rename_i hu; exact .inr (.inr (.inl hu))
    · rename_i e hu; exact .inr (.inr (.inr ⟨e, hu⟩))
    · split at h
      · obtain ⟨_, _, rfl⟩ := Option.map_eq_some_iff.1 h; cases hs
      · cases h
    · cases h

theorem rd_arg {W : World} {r : Reach} {base m : Nat} {t : TypeId} {ty : Ty} {v : Value} {d : DataW H} {ps : List MemPlace} (ht : tyOf P m t = some ty) (hv : Value.okWide P W r base t v) (h : DataW.Trod enc P W 0 (fun _ => true) true t v d ps) :
    ∃ x, WtV ty x ∧ Rep (sgOf W) x v := by
  obtain ⟨fuel, h⟩ := h
  obtain ⟨avs, h1, h2, h3⟩ := rd fuel m t _ _ ty h ht
  obtain ⟨x, hx1, hx2, hx3⟩ := asV h1
  refine ⟨x, ⟨by rw [hx1]; exact h1, hx2⟩, ?_⟩
  cases hst : ty.isSt with
  | true =>
    obtain ⟨fs, hu⟩ := tyOf_isSt ht hst
    unfold Value.okWide at hv
    rw [hu] at hv
    obtain ⟨cs, rfl, _⟩ := hv
    rw [hx3 hst]
    have := Rep.agg (σ := sgOf W) avs cs.toList (by simpa [Value.cells] using h2.1) (by simpa [Value.cells] using h3) (by simpa [Value.cells] using h2.2)
    simpa using this
  | false =>
    have hone : v.cells.toList = [v] := by
      unfold Value.okWide at hv
      rcases tyOf_notSt ht hst with hu | ⟨k, hu⟩ | hu | ⟨e, hu⟩ <;> rw [hu] at hv <;> simp only [Cell.okWide, hu] at hv <;> unfold Cell.ok at hv <;> rw [hu] at hv <;> cases v <;> first | rfl | (exact hv.elim)
    rw [hone] at h2
    cases x with
    | agg cs => simp [AV.isAgg, hst] at hx2
    | _ =>
      simp only [AV.cells] at hx1
      subst hx1
      exact h2.2 0 _ _ rfl rfl

theorem rd_args {W : World} {r : Reach} {base m : Nat} : ∀ (ts : List TypeId) (tys : List Ty) (vs : List Value) (ds : List (DataW H)) (ps : List MemPlace), ts.mapM (tyOf P m) = some tys → (∀ (j : Nat) t v, ts[j]? = some t → vs[j]? = some v → Value.okWide P W r base t v) →
    DataW.TrodAll enc P W 0 (fun _ => true) true ts vs ds ps → ∃ xs, WtA tys xs ∧ RepL (sgOf W) xs vs
  | [], tys, vs, ds, ps, hm, hv, h => by
    simp at hm
    subst hm
    cases vs <;> cases ds <;> first | (exact ⟨[], trivial, RepL.nil _⟩) | (exact h.elim)
  | t :: ts, tys, vs, ds, ps, hm, hv, h => by
    cases vs with
    | nil => cases ds <;> exact h.elim
    | cons v vs =>
      cases ds with
      | nil => exact h.elim
      | cons d ds =>
        obtain ⟨p, q, h1, h2, _⟩ := h
        rw [List.mapM_cons] at hm
        cases e1 : tyOf P m t with
        | none => simp [e1] at hm
        | some ty =>
          cases e2 : ts.mapM (tyOf P m) with
          | none => simp [e1, e2] at hm
          | some tys' =>
            simp [e1, e2] at hm
            subst hm
            obtain ⟨x, hx, hr⟩ := rd_arg e1 (hv 0 t v rfl rfl) h1
            obtain ⟨xs, hxs, hrs⟩ := rd_args ts tys' vs ds q e2 (fun j t v h1 h2 => hv (j + 1) t v (by simpa using h1) (by simpa using h2)) h2
            exact ⟨x :: xs, ⟨hx, hxs⟩, RepL.cons hr hrs⟩

theorem trodAll_stays (hl : laidOutB P = true) {W W' : World} (hb : Below W.heap.size W W') {sp : Nat → Bool} : ∀ (ts : List TypeId) (vs : List Value) (ds : List (DataW H)) (ps : List MemPlace), (∀ t ∈ ts, P.readableRec t = true ∧ t < P.types.size) →
    DataW.TrodAll enc P W 0 (fun _ => true) true ts vs ds ps → (∀ p ∈ ps, p.block < W.heap.size) → (∀ p ∈ ps, sp p.block = true) → DataW.TrodAll enc P W' 0 sp true ts vs ds ps
  | [], [], [], ps, _, h, _, _ => h
  | [], [], _ :: _, ps, _, h, _, _ => h.elim
  | [], _ :: _, _, ps, _, h, _, _ => h.elim
  | _ :: _, [], _, ps, _, h, _, _ => h.elim
  | _ :: _, _ :: _, [], ps, _, h, _, _ => h.elim
  | t :: ts, v :: vs, d :: ds, ps, ht, h, hlt, hs => by
    obtain ⟨p, q, h1, h2, rfl⟩ := h
    obtain ⟨hr, hrow⟩ := ht t (List.mem_cons_self ..)
    exact ⟨p, q, WideElems.Trod_stays hl hr hrow h1 (fun x hx => hb.same (hlt x (List.mem_append.2 (.inl hx)))) (fun x hx => hs x (List.mem_append.2 (.inl hx))),
      trodAll_stays hl hb ts vs ds q (fun t h => ht t (List.mem_cons_of_mem _ h)) h2 (fun x hx => hlt x (List.mem_append.2 (.inr hx))) (fun x hx => hs x (List.mem_append.2 (.inr hx))), rfl⟩

theorem var_keep {W w : World} {name : String} {cs : Array Value} (hk : Keeps (fun c => c < W.heap.size) W w) (h0 : W.var? P name = some cs) : w.var? P name = some cs := by
  unfold World.var? at h0 ⊢
  obtain ⟨g, hg, h1⟩ := Option.bind_eq_some_iff.1 h0
  have hlt : g < W.heap.size := by
    rcases Nat.lt_or_ge g W.heap.size with hlt | hge
    · exact hlt
    · rw [Array.getElem?_eq_none hge] at h1; cases h1
  rw [hg, Option.bind_some, hk.block g hlt]
  exact h1
theorem good_start {W : World} (h : GoodW P W) : GoodP P (fun c => c < W.heap.size) W := by
  intro w hk
  refine ⟨fun hs => var_keep hk (h.tab hs), fun he hs => ?_, fun he hs => ?_, fun hs => ?_⟩
  · obtain ⟨t, v, e⟩ := h.syn he hs; exact ⟨t, v, var_keep hk e⟩
  · obtain ⟨t, v, e⟩ := h.rng he hs; exact ⟨t, v, var_keep hk e⟩
  · obtain ⟨m, e⟩ := h.max hs; exact ⟨m, var_keep hk e⟩
theorem good_none {W : World} (h : (P.globalNamed "internal/strconv.uint64pow10").isSome = false) (h1 : (P.globalNamed "strconv.ErrSyntax").isSome = false := by kernel_rfl) (h2 : (P.globalNamed "strconv.ErrRange").isSome = false := by kernel_rfl) (h3 : (P.globalNamed "internal/bytealg.MaxLen").isSome = false := by kernel_rfl) : GoodW P W :=
  ⟨fun hs => (by rw [h] at hs; cases hs), fun _ hs => (by rw [h1] at hs; cases hs), fun _ hs => (by rw [h2] at hs; cases hs), fun hs => (by rw [h3] at hs; cases hs)⟩

/-- The law's call, from its triple: what the row asks of it. -/
theorem law_post (hl : laidOutB P = true) {f : Func} {s : ChangeSpec} {k : FuncId} {m : Nat} {tys : List Ty} {tb : TypeId} (hsv : s.vars = []) (hres : f.resultTypes = #[tb]) (htb : P.underlying tb = some .bool)
    (hty : f.params.toList.mapM (tyOf P m) = some tys) (hrd : ∀ t ∈ f.params.toList, P.readableRec t = true ∧ t < P.types.size)
    (hT : ∀ xs, WtA tys xs → T P k xs .nil fun r _ => r = .bool true)
    {apart fresh handsOn again : Bool} {W : World} {base : Nat} {args : Array Value} {ds gs : List (DataW H)} {before : List MemPlace}
    (hfn : (s.fn H ds).results = [.lit (.bool true)] ∧ (s.fn H ds).args = ds ∧ (s.fn H ds).vars = [])
    (hG : GoodW P W) (hval : ∀ (j : Nat) t v, f.params[j]? = some t → args[j]? = some v → Value.okWide P W .any base t v)
    (hW : DataW.Whole enc P f.params.toList s.vars apart W args.toList ds gs before) :
    Calls P k args W fun e W' => ∃ v, e = .returned v ∧ s.post enc P f apart fresh handsOn again W args v W' := by
  have hW0 := hW
  obtain ⟨p, q, hA, hV, rfl, hfz, hnd⟩ := hW
  rw [hsv] at hV
  obtain ⟨rfl, rfl⟩ := trodVars_none hV
  obtain ⟨xs, hx, hr⟩ := rd_args f.params.toList tys args.toList ds p hty (fun j t v h1 h2 => hval j t v (by simpa using h1) (by simpa using h2)) hA
  obtain ⟨_, hT⟩ := hT xs hx
  have hcall := hT (fun c => c < W.heap.size) W (sgOf W) W args.toList (good_start hG) (Keeps.refl _ _) (sim_start W) hr
  refine hcall.mono fun e W' ⟨r, A', v, σ', he, hR, _, _, hrep, hb0⟩ => ⟨v, he, ?_⟩
  have hb := hb0.below
  subst hR
  obtain rfl : v = .bool true := by cases hrep; rfl
  have hlt : ∀ x ∈ p ++ [], x.block < W.heap.size := fun x hx => hW0.lt x hx
  have hlt' : ∀ x ∈ p, x.block < W.heap.size := fun x hx => hlt x (by simpa using hx)
  have hds : ds ++ [] = ds := List.append_nil ds
  have hR1 : ∀ (b : Nat) (sp : Nat → Bool) (hd : Bool), DataW.TrodAll enc P W' b sp hd f.resultTypes.toList ((Value.bool true).resultList f.resultTypes.size) (s.fn H (ds ++ [])).results [] := by
    intro b sp hd
    rw [hds, hfn.1, hres]
    exact trodAll_mk1 ⟨1, by simp [DataW.trod, Value.cells, htb]⟩
  have hA1 : ∀ sp : Nat → Bool, (∀ x ∈ p, sp x.block = true) → DataW.TrodAll enc P W' 0 sp true f.params.toList args.toList (s.fn H (ds ++ [])).args p := by
    intro sp hsp
    rw [hds, hfn.2.1]
    exact trodAll_stays hl hb _ _ _ _ hrd hA hlt' hsp
  have hV1 : ∀ sp : Nat → Bool, DataW.TrodVars enc P W' sp s.vars (s.fn H (ds ++ [])).vars [] := by
    intro sp
    rw [hds, hfn.2.2, hsv]
    exact rfl
  refine ⟨ds, [], p ++ [], [], p, [], hW0, hR1 _ _ _, hA1 _ (fun x hx => by simpa using hlt' x hx), hV1 _, World.keptBut_mono (fun x hx => ⟨hx, ?_⟩) (hb.frame (· ∈ p ++ [])), fun _ => ⟨?_, _, _, ([] ++ p) ++ [], ⟨[] ++ p, [], trodAll_append (hA1 _ (fun _ _ => rfl)) (hR1 _ _ _), hV1 _, rfl, ?_, ?_⟩, ?_⟩⟩
  · exact .inr (.inl (by simpa using hx))
  · intro j t r hj hr
    rw [hres] at hj hr
    cases j with
    | succ j => simp at hj
    | zero =>
      simp [Value.resultList] at hj hr
      subst hj; subst hr
      simp [Value.okWide, htb, Cell.okWide, Cell.ok]
  · intro b off hx
    have hin : MemPlace.cell b off ∈ p := by simpa using hx
    rw [hb.frozen (hlt' _ hin)]
    exact hfz b off (by simpa using hin)
  · intro ha
    simpa using hnd ha
  · intro x hx _
    simpa using hx

end Go.Proofs.YtlglgcmpeabdnaaGreatDoorAi

/- Tools for contracts. -/
namespace Go.Proofs.YtlglgcmpeabdnaaGreatDoorAi
open Go Go.RowKit
set_option linter.unusedVariables false
set_option linter.unusedSimpArgs false

variable {P : Program} {S : Spec} {N : Nat}

def inQ (l l2 : List FuncId) : FuncId → Nat := fun f => if l.contains f then 1 else if l2.contains f then 2 else 0

def acLin (P : Program) (f : FuncId) (nargs : Nat) (q : FuncId → Nat) (hints : List Hint) : Option (AC × List ARes) :=
  (P.funcs[f]?).bind fun fn => fn.body.bind fun body => (ccCode P body).bind fun ac => (fn.results.toList.mapM (ccRes P)).bind fun rs =>
    if ((!(fn.name == "runtime.NumGoroutine")) && (dAll fn.ntmps ac && decide (nargs ≤ fn.ntmps))) = true then some ((lin q ac hints).1, rs) else none

theorem T_code (hS : Quiet P S) (hm : P.follows .mixedOrders = true) {f : FuncId} {nargs : Nat} {q : FuncId → Nat} {hints : List Hint} {c : AC} {rs : List ARes} (h : acLin P f nargs q hints = some (c, rs))
    {args : List AV} (ha : args.length = nargs) {A : AHeap} {R : AV → AHeap → Prop} (vc : wpc A.n P S c (initSt args A) (endW A.n rs R)) : T P f args A R := by
  unfold acLin at h
  obtain ⟨fn, hf, h⟩ := Option.bind_eq_some_iff.1 h
  obtain ⟨body, hb, h⟩ := Option.bind_eq_some_iff.1 h
  obtain ⟨ac, hc, h⟩ := Option.bind_eq_some_iff.1 h
  obtain ⟨rs', hr, h⟩ := Option.bind_eq_some_iff.1 h
  split at h
  · rename_i hh
    simp only [Bool.and_eq_true, Bool.not_eq_true', decide_eq_true_eq] at hh
    simp only [Option.some.injEq, Prod.mk.injEq] at h
    obtain ⟨rfl, rfl⟩ := h
    exact T_of hS hm (nargs := nargs) ⟨fn, body, hf, hh.1, hb, hc, hh.2.1, hr, hh.2.2⟩ q hints ha vc
  · cases h

theorem endW_mono {rs : List ARes} {R R' : AV → AHeap → Prop} (h : ∀ r A, R r A → R' r A) {e : Ex} {s : St} (k : endW N rs R e s) : endW N rs R' e s := by
  unfold endW at *
  cases e with
  | exit id => exact k
  | _ =>
    refine optW_mono ?_ k
    rintro r ⟨r', A', h1, h2⟩
    exact ⟨r', A', h1, h _ _ h2⟩

theorem wpall_mono {K K' : St → Prop} (h : ∀ s, K s → K' s) {ops : List (AOper × List Nat)} : ∀ (n : Nat) (done : List Nat) (s : St), wpall P S ops n done s K → wpall P S ops n done s K'
  | 0, _, s, hK => ⟨hK.1, h s hK.2⟩
  | n + 1, done, s, hK => ⟨fun h0 => h s (hK.1 h0), fun i hi o ho => wpg_mono (fun s' hk => wpall_mono h n _ s' hk) (hK.2 i hi o ho)⟩

theorem wpt_mono {K K' : St → Prop} (h : ∀ s, K s → K' s) : ∀ (t : AT) (s : St), wpt P S t s K → wpt P S t s K'
  | .done, s, hK => h s hK
  | .op o r, s, hK => wpg_mono (fun s' hk => wpt_mono h r s' hk) hK
  | .both a b, s, hK => ⟨wpt_mono h a s hK.1, wpt_mono h b s hK.2⟩
theorem wpc_mono : ∀ (c : AC) {Q Q' : Ex → St → Prop}, (∀ e s, Q e s → Q' e s) → ∀ s, wpc N P S c s Q → wpc N P S c s Q'
  | .skip, Q, Q', h, s, hw => h _ _ hw
  | .reg ops, Q, Q', h, s, hw => wps_mono (h .normal) ops s hw
  | .draw ops, Q, Q', h, s, hw => wpall_mono (h .normal) _ _ _ hw
  | .tree t, Q, Q', h, s, hw => wpt_mono (h .normal) t s hw
  | .seq a b, Q, Q', h, s, hw => wpc_mono a (fun e s' hk => by
    cases e with
    | normal => exact wpc_mono b h s' hk
    | exit id => exact h _ _ hk
    | ret => exact h _ _ hk) s hw
  | .cond c x y, Q, Q', h, s, hw => by
    simp only [wpc] at *
    refine optW_mono ?_ hw
    intro b hw
    exact brW_mono (wpc_mono x h s) (wpc_mono y h s) hw
  | .block id c, Q, Q', h, s, hw => wpc_mono c (fun e s' hk => by
    cases e with
    | normal => exact h _ _ hk
    | exit i =>
      simp only at hk ⊢
      by_cases hi : i = id
      · rw [if_pos hi] at hk ⊢; exact h _ _ hk
      · rw [if_neg hi] at hk ⊢; exact h _ _ hk
    | ret => exact h _ _ hk) s hw
  | .loop c, Q, Q', h, s, hw => by
    obtain ⟨I, μ, h0, hr⟩ := hw
    refine ⟨I, μ, h0, fun s1 hI => wpc_mono c (fun e s' hk => ?_) s1 (hr s1 hI)⟩
    cases e with
    | normal => exact hk
    | exit id => exact h _ _ hk
    | ret => exact h _ _ hk
  | .exit id, Q, Q', h, s, hw => h _ _ hw
  | .ret, Q, Q', h, s, hw => h _ _ hw
  | .shift, Q, Q', h, s, hw => let ⟨s', h1, h2⟩ := hw; ⟨s', h1, h _ _ h2⟩
  | .bad, Q, Q', h, s, hw => hw

theorem WtA_nil (xs : List AV) : WtA [] xs ↔ xs = [] := by cases xs <;> simp [WtA]
theorem WtA_cons (t : Ty) (ts : List Ty) (xs : List AV) : WtA (t :: ts) xs ↔ ∃ x ys, xs = x :: ys ∧ WtV t x ∧ WtA ts ys := by
  constructor
  · intro h
    cases xs with
    | nil => exact h.elim
    | cons x ys => exact ⟨x, ys, rfl, h.1, h.2⟩
  · rintro ⟨x, ys, rfl, h1, h2⟩; exact ⟨h1, h2⟩
theorem WtV_st (fs : List Ty) (x : AV) : WtV (.st fs) x ↔ ∃ cs, x = .agg cs ∧ WtL fs cs := by
  constructor
  · rintro ⟨h1, h2⟩
    cases x <;> first | (simp [AV.isAgg, Ty.isSt] at h2; done) | skip
    exact ⟨_, rfl, h1⟩
  · rintro ⟨cs, rfl, h⟩; exact ⟨h, rfl⟩
theorem one_of_cells {x c : AV} (h : x.cells = [c]) (ha : x.isAgg = false) : x = c := by
  cases x <;> first | (simp [AV.isAgg] at ha; done) | (simp [AV.cells] at h; exact h)
theorem WtV_int (k : IntKind) (x : AV) : WtV (.int k) x ↔ ∃ n, x = .int k n ∧ k.min ≤ n ∧ n ≤ k.max := by
  constructor
  · rintro ⟨⟨n, h1, h3⟩, h2⟩; exact ⟨n, one_of_cells h1 h2, h3⟩
  · rintro ⟨n, rfl, h⟩; exact ⟨⟨n, rfl, h⟩, rfl⟩
theorem WtV_bool (x : AV) : WtV .bool x ↔ ∃ b, x = .bool b := by
  constructor
  · rintro ⟨⟨n, h1⟩, h2⟩; exact ⟨n, one_of_cells h1 h2⟩
  · rintro ⟨n, rfl⟩; exact ⟨⟨n, rfl⟩, rfl⟩
theorem WtV_str (x : AV) : WtV .str x ↔ ∃ s, x = .str s ∧ s.size ≤ maxLen := by
  constructor
  · rintro ⟨⟨n, h1, h3⟩, h2⟩; exact ⟨n, one_of_cells h1 h2, h3⟩
  · rintro ⟨n, rfl, h⟩; exact ⟨⟨n, rfl, h⟩, rfl⟩
theorem WtV_sl (e : Ty) (x : AV) : WtV (.sl e) x ↔ ∃ xs, x = .sl xs false ∧ xs.length ≤ maxLen ∧ ∀ y ∈ xs, WtV e y := by
  constructor
  · rintro ⟨⟨n, h1, h3⟩, h2⟩; exact ⟨n, one_of_cells h1 h2, h3⟩
  · rintro ⟨n, rfl, h⟩; exact ⟨⟨n, rfl, h⟩, rfl⟩
theorem WtL_nil (cs : List AV) : WtL [] cs ↔ cs = [] := Iff.rfl
theorem WtL_int (k : IntKind) (fs : List Ty) (cs : List AV) : WtL (.int k :: fs) cs ↔ ∃ n r, cs = .int k n :: r ∧ (k.min ≤ n ∧ n ≤ k.max) ∧ WtL fs r := by
  constructor
  · rintro ⟨a, b, rfl, ⟨n, rfl, h⟩, h2⟩; exact ⟨n, b, rfl, h, h2⟩
  · rintro ⟨n, r, rfl, h, h2⟩; exact ⟨[.int k n], r, rfl, ⟨n, rfl, h⟩, h2⟩
theorem WtL_bool (fs : List Ty) (cs : List AV) : WtL (.bool :: fs) cs ↔ ∃ n r, cs = .bool n :: r ∧ WtL fs r := by
  constructor
  · rintro ⟨a, b, rfl, ⟨n, rfl⟩, h2⟩; exact ⟨n, b, rfl, h2⟩
  · rintro ⟨n, r, rfl, h2⟩; exact ⟨[.bool n], r, rfl, ⟨n, rfl⟩, h2⟩
theorem WtL_str (fs : List Ty) (cs : List AV) : WtL (.str :: fs) cs ↔ ∃ n r, cs = .str n :: r ∧ n.size ≤ maxLen ∧ WtL fs r := by
  constructor
  · rintro ⟨a, b, rfl, ⟨n, rfl, h⟩, h2⟩; exact ⟨n, b, rfl, h, h2⟩
  · rintro ⟨n, r, rfl, h, h2⟩; exact ⟨[.str n], r, rfl, ⟨n, rfl, h⟩, h2⟩
theorem WtL_sl (e : Ty) (fs : List Ty) (cs : List AV) : WtL (.sl e :: fs) cs ↔ ∃ xs r, cs = .sl xs false :: r ∧ (xs.length ≤ maxLen ∧ ∀ y ∈ xs, WtV e y) ∧ WtL fs r := by
  constructor
  · rintro ⟨a, b, rfl, ⟨n, rfl, h⟩, h2⟩; exact ⟨n, b, rfl, h, h2⟩
  · rintro ⟨n, r, rfl, h, h2⟩; exact ⟨[.sl n false], r, rfl, ⟨n, rfl, h⟩, h2⟩
theorem WtL_st (gs fs : List Ty) (cs : List AV) : WtL (.st gs :: fs) cs ↔ ∃ a b, cs = a ++ b ∧ WtL gs a ∧ WtL fs b := Iff.rfl


/-! ### other names -/
theorem rep_sl {σ σ' : Sg} (hm : ∀ b o, σ.mem b = some o → σ'.mem b = some o) {xs : List AV} {t : Bool} {v : Value} (h : Rep σ (.sl xs t) v) : Rep σ' (.sl xs t) v :=
  h.low' (n := 0) hm (fun b x h => absurd h (Nat.not_lt_zero b)) (fun c e h => absurd h (Nat.not_lt_zero 0)) rfl
theorem rep_epsl {σ σ' : Sg} (hm : ∀ b o, σ.mem b = some o → σ'.mem b = some o) {xs : List AV} {t : Bool} {i o : Nat} {v : Value} (h : Rep σ (.ep (.sl xs t) i o) v) : Rep σ' (.ep (.sl xs t) i o) v :=
  h.low' (n := 0) hm (fun b x h => absurd h (Nat.not_lt_zero b)) (fun c e h => absurd h (Nat.not_lt_zero 0)) rfl
mutual
theorem rep_ren {n : Nat} {f : Nat → Nat} {σ σ' : Sg} (hn : ∀ b x, b < n → σ.nm b = some x → σ'.nm (f b) = some x) (hm : ∀ b o, σ.mem b = some o → σ'.mem b = some o) (hty : ∀ c e, 0 < n → σ.ty c = some e → σ'.ty c = some e) : ∀ (x : AV) (v : Value), x.lt n = true → Rep σ x v → Rep σ' (x.ren f) v
  | .bool _, v, _, h => by cases h; exact .bool _
  | .int _ _, v, _, h => by cases h; exact .int _ _
  | .str _, v, _, h => by cases h; exact .str _
  | .any, v, _, _ => .any v
  | .nilp, v, _, h => by cases h; exact .nilp
  | .nilf, v, _, h => by cases h; exact .nilf
  | .nili, v, _, h => by cases h; exact .nili
  | .iface, v, _, h => by cases h; exact .iface _ _
  | .mv _ _, v, _, h => by cases h with | mv _ _ vs h => exact .mv _ _ vs h
  | .ptr b o, v, hl, h => by
    cases h with
    | ptr _ _ c sz h1 => exact .ptr _ _ c sz (hn b _ (of_decide_eq_true hl) h1)
  | .ref b e o m t, v, hl, h => by
    cases h with
    | ref _ _ _ _ _ ad cap c sz h1 h2 h3 h4 h5 h6 h7 h8 => exact .ref _ _ _ _ _ ad cap c sz h1 h2 h3 h4 (hn b _ (of_decide_eq_true hl) h5) h6 h7 fun ht => ⟨(h8 ht).1, hty c _ (Nat.lt_of_le_of_lt (Nat.zero_le b) (of_decide_eq_true hl)) (h8 ht).2⟩
  | .sl xs t, v, _, h => rep_sl hm h
  | .ep x i o, v, hl, h => by
    cases h with
    | epsl xs t _ _ y b o' val h1 h2 h3 h4 h5 => exact rep_epsl hm (.epsl xs t i o y b o' val h1 h2 h3 h4 h5)
    | epref b e o' m t _ _ c sz h1 => exact .epref _ _ _ _ _ _ _ c sz (hn b _ (of_decide_eq_true (by simpa [AV.lt] using hl)) h1)
    | eptr b _ c h1 h2 =>
      have hb : b < n := of_decide_eq_true (by simpa [AV.lt] using hl)
      exact .eptr _ _ c (hn b _ hb h1) (hty c _ (by omega) h2)
  | .fn g cs, v, hl, h => by
    cases h with
    | fn _ _ vs h1 h2 => exact .fn g _ vs (by rw [renL_map]; simpa using h1) (repL_ren hn hm hty cs vs hl h2)
  | .agg cs, v, hl, h => by
    cases h with
    | agg _ vs h1 h2 h3 => exact .agg _ vs (by rw [renL_map]; simpa using h1) h2 (repL_ren hn hm hty cs vs hl h3)
  | .tup cs, v, hl, h => by
    cases h with
    | tup _ vs h1 h3 => exact .tup _ vs (by rw [renL_map]; simpa using h1) (repL_ren hn hm hty cs vs hl h3)
theorem repL_ren {n : Nat} {f : Nat → Nat} {σ σ' : Sg} (hn : ∀ b x, b < n → σ.nm b = some x → σ'.nm (f b) = some x) (hm : ∀ b o, σ.mem b = some o → σ'.mem b = some o) (hty : ∀ c e, 0 < n → σ.ty c = some e → σ'.ty c = some e) : ∀ (cs : List AV) (vs : List Value), ltL n cs = true →
    (∀ (i : Nat) (c : AV) (v : Value), cs[i]? = some c → vs[i]? = some v → Rep σ c v) → ∀ (i : Nat) (c : AV) (v : Value), (renL f cs)[i]? = some c → vs[i]? = some v → Rep σ' c v
  | [], vs, _, _, i, c, v, hc, _ => by simp [renL] at hc
  | x :: cs, vs, hl, h, i, c, v, hc, hv => by
    simp only [ltL, Bool.and_eq_true] at hl
    cases vs with
    | nil => simp at hv
    | cons u us =>
      cases i with
      | zero =>
        simp [renL] at hc hv
        subst hc; subst hv
        exact rep_ren hn hm hty x u hl.1 (h 0 x u rfl rfl)
      | succ i => exact repL_ren hn hm hty cs us hl.2 (fun i c v h1 h2 => h (i + 1) c v (by simpa using h1) (by simpa using h2)) i c v (by simpa [renL] using hc) (by simpa using hv)
end

mutual
theorem rep_unren {n : Nat} {f : Nat → Nat} {σ σ' : Sg} (hn : ∀ b x, b < n → σ.nm (f b) = some x → σ'.nm b = some x) (hm : ∀ b o, σ.mem b = some o → σ'.mem b = some o) (hty : ∀ c e, 0 < n → σ.ty c = some e → σ'.ty c = some e) : ∀ (x : AV) (v : Value), x.lt n = true → Rep σ (x.ren f) v → Rep σ' x v
  | .bool _, v, _, h => by cases h; exact .bool _
  | .int _ _, v, _, h => by cases h; exact .int _ _
  | .str _, v, _, h => by cases h; exact .str _
  | .any, v, _, _ => .any v
  | .nilp, v, _, h => by cases h; exact .nilp
  | .nilf, v, _, h => by cases h; exact .nilf
  | .nili, v, _, h => by cases h; exact .nili
  | .mv _ _, v, _, h => by cases h with | mv _ _ vs h => exact .mv _ _ vs h
  | .iface, v, _, h => by cases h; exact .iface _ _
  | .ptr b o, v, hl, h => by
    cases h with
    | ptr _ _ c sz h1 => exact .ptr _ _ c sz (hn b _ (of_decide_eq_true hl) h1)
  | .ref b e o m t, v, hl, h => by
    cases h with
    | ref _ _ _ _ _ ad cap c sz h1 h2 h3 h4 h5 h6 h7 h8 => exact .ref _ _ _ _ _ ad cap c sz h1 h2 h3 h4 (hn b _ (of_decide_eq_true hl) h5) h6 h7 fun ht => ⟨(h8 ht).1, hty c _ (Nat.lt_of_le_of_lt (Nat.zero_le b) (of_decide_eq_true hl)) (h8 ht).2⟩
  | .sl xs t, v, _, h => rep_sl hm h
  | .ep x i o, v, hl, h => by
    cases x with
    | sl xs t => exact rep_epsl hm h
    | ref b e o' m t =>
      cases h with
      | epref _ _ _ _ _ _ _ c sz h1 => exact .epref _ _ _ _ _ _ _ c sz (hn b _ (of_decide_eq_true (by simpa [AV.lt] using hl)) h1)
    | ptr b o' =>
      simp only [AV.ren] at h
      have hb : b < n := of_decide_eq_true (by simpa [AV.lt] using hl)
      cases h with
      | eptr _ _ c h1 h2 => exact .eptr _ _ c (hn b _ hb h1) (hty c _ (by omega) h2)
    | _ => simp only [AV.ren] at h; cases h
  | .fn g cs, v, hl, h => by
    simp only [AV.ren] at h
    cases h with
    | fn _ _ vs h1 h2 => exact .fn g _ vs (by rw [renL_map] at h1; simpa using h1) (repL_unren hn hm hty cs vs hl h2)
  | .agg cs, v, hl, h => by
    simp only [AV.ren] at h
    cases h with
    | agg _ vs h1 h2 h3 => exact .agg _ vs (by rw [renL_map] at h1; simpa using h1) h2 (repL_unren hn hm hty cs vs hl h3)
  | .tup cs, v, hl, h => by
    simp only [AV.ren] at h
    cases h with
    | tup _ vs h1 h3 => exact .tup _ vs (by rw [renL_map] at h1; simpa using h1) (repL_unren hn hm hty cs vs hl h3)
theorem repL_unren {n : Nat} {f : Nat → Nat} {σ σ' : Sg} (hn : ∀ b x, b < n → σ.nm (f b) = some x → σ'.nm b = some x) (hm : ∀ b o, σ.mem b = some o → σ'.mem b = some o) (hty : ∀ c e, 0 < n → σ.ty c = some e → σ'.ty c = some e) : ∀ (cs : List AV) (vs : List Value), ltL n cs = true →
    (∀ (i : Nat) (c : AV) (v : Value), (renL f cs)[i]? = some c → vs[i]? = some v → Rep σ c v) → ∀ (i : Nat) (c : AV) (v : Value), cs[i]? = some c → vs[i]? = some v → Rep σ' c v
  | [], vs, _, _, i, c, v, hc, _ => by simp at hc
  | x :: cs, vs, hl, h, i, c, v, hc, hv => by
    simp only [ltL, Bool.and_eq_true] at hl
    cases vs with
    | nil => simp at hv
    | cons u us =>
      cases i with
      | zero =>
        simp at hc hv
        subst hc; subst hv
        exact rep_unren hn hm hty x u hl.1 (h 0 _ u (by simp [renL]) rfl)
      | succ i => exact repL_unren hn hm hty cs us hl.2 (fun i c v h1 h2 => h (i + 1) c v (by simpa [renL] using h1) (by simpa using h2)) i c v (by simpa using hc) (by simpa using hv)
end

/-- A heap as a part of another one is seen. -/
structure View (f : Nat → Nat) (A A' : AHeap) : Prop where
  into : ∀ b, b < A'.n → f b < A.n
  own : ∀ b cs, A' b = some cs → ltL A'.n cs = true ∧ A (f b) = some (renL f cs)
  inj : ∀ b b' cs cs', A' b = some cs → A' b' = some cs' → f b = f b' → b = b'

def Sg.see (σ : Sg) (f : Nat → Nat) (n : Nat) : Sg := { σ with nm := fun b => if b < n then σ.nm (f b) else none }
theorem Sg.see_at {σ : Sg} {f : Nat → Nat} {n b : Nat} (h : b < n) : (σ.see f n).nm b = σ.nm (f b) := if_pos h
theorem Sg.see_rep {σ : Sg} {f : Nat → Nat} {n : Nat} {x : AV} {v : Value} (hl : x.lt n = true) (h : Rep σ (x.ren f) v) : Rep (σ.see f n) x v :=
  rep_unren (σ := σ) (σ' := σ.see f n) (fun b y hb e => by rw [Sg.see_at hb]; exact e) (fun _ _ h => h) (fun _ _ _ h => h) x v hl h

theorem Sim.view {B : Nat → Prop} {σ : Sg} {A A' : AHeap} {w : World} (h : Sim B σ A w) {f : Nat → Nat} (hv : View f A A') : Sim B (σ.see f A'.n) A' w := by
  refine ⟨h.base, h.mem, h.low, fun b c n e => ?_, fun b hb => ?_, fun b cs hb => ?_, fun b b' cs cs' c n n' e1 e2 e3 e4 => ?_, h.ty⟩
  · simp only [Sg.see] at e
    split at e
    · rename_i hb; exact ⟨hb, (h.nm _ _ _ e).2⟩
    · cases e
  · rw [Sg.see_at hb]; exact h.tot _ (hv.into b hb)
  · obtain ⟨hl, hA⟩ := hv.own b cs hb
    obtain ⟨c, cur, e, h1, h2, h3, h4, h5, h6⟩ := h.own _ _ hA
    refine ⟨c, cur, e, by rw [Sg.see_at (AHeap.lt hb)]; exact h1, h2, h3, h4, by rw [renL_map] at h5; simpa using h5, fun j x hx => ?_⟩
    obtain ⟨v, k1, k2, k3⟩ := h6 j (x.ren f) (by rw [renL_map, List.getElem?_map, hx]; rfl)
    exact ⟨v, k1, Sg.see_rep (ltL_get hl j x hx) k2, k3⟩
  · rw [Sg.see_at (AHeap.lt e1)] at e3
    rw [Sg.see_at (AHeap.lt e2)] at e4
    exact hv.inj _ _ _ _ e1 e2 (h.inj _ _ _ _ _ _ _ (hv.own _ _ e1).2 (hv.own _ _ e2).2 e3 e4)

theorem Sg.see_le {σ : Sg} {f : Nat → Nat} {n N : Nat} (hN : N ≤ n) (hf : ∀ b, b < N → f b = b) : σ.LeN N (σ.see f n) :=
  ⟨fun _ _ h => h, fun b x hb e => by rw [Sg.see_at (by omega), hf b hb]; exact e, rfl, fun _ _ h => h⟩

theorem Shift.view {s s' : St} (f : Nat → Nat) (hN : N ≤ s'.A.n) (hf : ∀ b, b < N → f b = b) (hv : View f s.A s'.A) (ht : ∀ k, s'.t k = .any ∨ ((s'.t k).lt s'.A.n = true ∧ s.t k = (s'.t k).ren f)) : Shift N s s' := fun B w0 n σ a w hs => by
  refine ⟨_, Sg.see_le hN hf, hs.sim.view hv, fun k => ?_, hs.size, hs.defers, hs.below⟩
  rcases ht k with h | ⟨h1, h2⟩
  · rw [h]; exact .any _
  · have := hs.tmps k
    rw [h2] at this
    exact Sg.see_rep h1 this

theorem EndS.view {r r' : AV} {A A' : AHeap} (f : Nat → Nat) (hN : N ≤ A'.n) (hf : ∀ b, b < N → f b = b) (hv : View f A A') (hr : r'.lt A'.n = true ∧ r = r'.ren f) : EndS N r A r' A' := fun B σ w v hs h => by
  refine ⟨_, Sg.see_le hN hf, hs.view hv, ?_⟩
  rw [hr.2] at h
  exact Sg.see_rep hr.1 h

theorem EndS.refl (r : AV) (A : AHeap) : EndS N r A r A := fun B σ w v hs h => ⟨σ, .refl N σ, hs, h⟩

mutual
theorem ren_low (f : Nat → Nat) : ∀ x : AV, x.lt 0 = true → x.ren f = x
  | .ptr b _, h => by simp [AV.lt] at h
  | .ref b _ _ _ _, h => by simp [AV.lt] at h
  | .ep v _ _, h => by simp only [AV.lt] at h; simp only [AV.ren, ren_low f v h]
  | .fn _ cs, h => by simp only [AV.lt] at h; simp only [AV.ren, renL_low f cs h]
  | .agg cs, h => by simp only [AV.lt] at h; simp only [AV.ren, renL_low f cs h]
  | .tup cs, h => by simp only [AV.lt] at h; simp only [AV.ren, renL_low f cs h]
  | .bool _, _ | .int _ _, _ | .str _, _ | .sl _ _, _ | .nilp, _ | .nilf, _ | .nili, _ | .iface, _ | .mv _ _, _ | .any, _ => rfl
theorem renL_low (f : Nat → Nat) : ∀ cs : List AV, ltL 0 cs = true → renL f cs = cs
  | [], _ => rfl
  | x :: r, h => by
    simp only [ltL, Bool.and_eq_true] at h
    simp only [renL, ren_low f x h.1, renL_low f r h.2]
end
mutual
theorem ren_id : ∀ x : AV, x.ren (fun b => b) = x
  | .ptr b _ => rfl
  | .ref b _ _ _ _ => rfl
  | .ep v _ _ => by simp only [AV.ren, ren_id v]
  | .fn _ cs => by simp only [AV.ren, renL_id cs]
  | .agg cs => by simp only [AV.ren, renL_id cs]
  | .tup cs => by simp only [AV.ren, renL_id cs]
  | .bool _ | .int _ _ | .str _ | .sl _ _ | .nilp | .nilf | .nili | .iface | .mv _ _ | .any => rfl
theorem renL_id : ∀ cs : List AV, renL (fun b => b) cs = cs
  | [] => rfl
  | x :: r => by simp only [renL, ren_id x, renL_id r]
end

theorem EndS.pure {r : AV} {A : AHeap} (h : r.lt 0 = true) : EndS 0 r A r .nil :=
  .view (fun b => b) (Nat.le_refl _) (fun b h => rfl) ⟨fun b h => (by simp [AHeap.nil, AHeap.n] at h), fun b cs h => (by cases h), fun b b' cs cs' h => (by cases h)⟩ ⟨h, (ren_id r).symm⟩

end Go.Proofs.YtlglgcmpeabdnaaGreatDoorAi
