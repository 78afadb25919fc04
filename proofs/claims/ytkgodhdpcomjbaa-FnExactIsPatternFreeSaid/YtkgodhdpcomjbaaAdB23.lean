/- Contracts: all maps of vertices to parts, in order. -/
import Derived.Test.YtkgodhdpcomjbaaAdDfs
import Derived.Test.YtkgodhdpcomjbaaAdB20
import Derived.Test.YtkgodhdpcomjbaaAcI
import Derived.Test.YtkgodhdpcomjbaaAcJ
namespace Go.Proofs.YtkgodhdpcomjbaaAi
open Go Go.RowKit
set_option linter.unusedVariables false
set_option linter.unusedSimpArgs false
set_option maxRecDepth 20000
variable {P : Program}

/-- A call to which an object is handed that will not change again. -/
theorem T.freeze {f : FuncId} {args args' : List AV} {A : AHeap} {R : AV → AHeap → Prop} {b : Nat} {cs : List AV} (hb : A b = some cs) (hl : args'.length = args.length) (ha : ∀ (i : Nat) x x', args[i]? = some x → args'[i]? = some x' → Fz b cs x x') (h : T P f args' (A.del b) R) : T P f args A R := by
  refine ⟨h.1, fun B w0 σ w vs hG hB hs hr => ?_⟩
  have hsh := Shift.freeze (N := A.n) (s := ⟨fun i => (args[i]?).getD .any, A⟩) (s' := ⟨fun i => (args'[i]?).getD .any, A.del b⟩) hb (fun i => ?_) (AHeap.del_n ..) (fun i l' e => ?_)
  · have htm : ∀ t, Rep σ ((args[t]?).getD .any) ((vs.toArray).getD t undef) := by
      intro t
      cases ht : args[t]? with
      | none => exact .any _
      | some x =>
        have hlt : t < vs.length := by rw [← hr.1]; exact (List.getElem?_eq_some_iff.1 ht).1
        have := hr.2 t x vs[t] ht (List.getElem?_eq_getElem hlt)
        simpa [ht, hlt] using this
    obtain ⟨σ1, hle, hs1⟩ := hsh B w0 vs.length σ ⟨vs.toArray, []⟩ w ⟨hs, htm, by simp, rfl, hB⟩
    have hle' : σ.Le σ1 := ⟨hle.mem, fun b x e => hle.nm b x (hs.nm b x.1 x.2 e).1 e, hle.base⟩
    refine (h.2 B w0 σ1 w vs hG hB hs1.sim ⟨by rw [hl]; exact hr.1, fun i c v hc hv => ?_⟩).mono fun e w' ⟨r, A', v, σ', e1, e2, e3, e4⟩ => ⟨r, A', v, σ', e1, e2, hle'.trans e3, e4⟩
    have hlt : i < vs.length := (List.getElem?_eq_some_iff.1 hv).1
    have := hs1.tmps i
    simp only [hc, Option.getD_some] at this
    have hv' : vs.toArray.getD i undef = v := by simp [hv]
    rw [hv'] at this
    exact this
  · cases ht : args'[i]? with
    | none => exact .inl (by simp [ht])
    | some x' =>
      have hlt : i < args.length := by rw [← hl]; exact (List.getElem?_eq_some_iff.1 ht).1
      have := ha i args[i] x' (List.getElem?_eq_getElem hlt) ht
      exact .inr (by simpa [ht, hlt] using this)
  · simp only at e
    rw [AHeap.del_at] at e
    split at e
    · cases e
    · rename_i hne
      exact ⟨hne, l', e, rfl, fun j x x' h1 h2 => .inl (by rw [h1] at h2; exact (Option.some.inj h2).symm)⟩

theorem upd_to (g : Nat → Nat) (os os' r : List (Option (List AV))) (hl : os'.length = os.length) (ho : ClosedH os') (hg : ∀ b, b < os.length → g b = b) (hall : ∀ b, b < os.length → (hget os b).isSome = true) : upd (fun b => b) g 0 os os' (os ++ r) = os' ++ r := by
  have key : ∀ (a b b' : List (Option (List AV))), b'.length = b.length → (∀ i, i < b.length → (hget b i).isSome = true) → (∀ i cs, hget b' i = some cs → renL g cs = cs) → upd (fun b => b) g a.length b b' (a ++ b ++ r) = a ++ b' ++ r := by
    intro a b
    induction b generalizing a with
    | nil =>
      intro b' hl _ _
      cases b' with
      | nil => simp [upd]
      | cons _ _ => simp at hl
    | cons o b ih =>
      intro b' hl h h'
      cases b' with
      | nil => simp at hl
      | cons o' b' =>
        rw [upd]
        have ho := h 0 (by simp)
        simp only [hget, if_true] at ho
        rw [if_pos ho]
        have h0 : hset (a ++ o :: b ++ r) a.length (o'.map (renL g)) = (a ++ [o']) ++ b ++ r := by
          rw [List.append_assoc, hset_pre0, List.cons_append, hset, if_pos rfl]
          cases o' with
          | none => simp
          | some c => rw [Option.map_some, h' 0 c (by simp [hget])]; simp
        rw [h0]
        have := ih (a ++ [o']) b' (by simpa using hl) (fun i hi => by have := h (i + 1) (by simp; omega); simpa [hget] using this) (fun i cs hi => h' (i + 1) cs (by simpa [hget] using hi))
        simp only [List.length_append, List.length_cons, List.length_nil] at this
        rw [this]
        simp
  have := key [] os os' hl hall (fun i cs hi => renL_same (n := os.length) hg cs (by rw [← hl]; exact ho i cs hi))
  simpa using this
/-- A call that sees some objects and changes them. -/
theorem T.seesE {f : FuncId} {args : List AV} {os os' : List (Option (List AV))} {v : AV} (h : T P f args ⟨os⟩ fun r A' => r = v ∧ A' = ⟨os'⟩) (ho : ClosedH os) (hl : os'.length = os.length) (ho' : ClosedH os') (hall : ∀ b, b < os.length → (hget os b).isSome = true) (ha : ltL os.length args = true) (hv : v.lt 0 = true) (r : List (Option (List AV))) :
    T P f args ⟨os ++ r⟩ fun x A' => x = v ∧ A' = ⟨os' ++ r⟩ := by
  have := h.embed (A := ⟨os ++ r⟩) (View.pre ho) ha
  rw [renL_id] at this
  refine this.mono ?_
  rintro x A1 ⟨r', A1', ⟨rfl, rfl⟩, rfl, rfl⟩
  refine ⟨ren_low _ _ hv, AHeap.ext' ?_⟩
  exact upd_to _ os os' r hl ho' (fun b hb => by simp [extN, AHeap.n, hb]) hall

/-- Two parts of a pattern that lies somewhere. -/
theorem T_joined {os : List (Option (List AV))} {pb : Nat} {n e l : Int} {ps : List Fr} {i j : Int} (ho : ClosedH os) (hp : hget os pb = some [.int .i64 n, .int .u32 e, .int .u32 l, .sl (frsA ps) false]) (h : ((0 ≤ e ∧ e ≤ 4294967295) ∧ (0 ≤ l ∧ l ≤ 4294967295)) ∧ (0 ≤ i ∧ i < 5) ∧ (0 ≤ j ∧ j < 5)) :
    T PP 82 [.ptr pb 0, .int .i64 i, .int .i64 j] ⟨os⟩ fun r A' => r = .bool (joinB e l i j) ∧ A' = ⟨os⟩ := by
  have h0 := v_impl_Pattern_joined _ _ _ _ (sp_joinP_eq n e l ps i j h)
  have hv : View (fun _ => pb) (⟨os⟩ : AHeap) ⟨[some [.int .i64 n, .int .u32 e, .int .u32 l, .sl (frsA ps) false]]⟩ := by
    refine ⟨fun b hb => hget_lt hp, fun b cs hb => ?_, fun b b' cs cs' e1 e2 e => ?_⟩
    · have hb0 : b = 0 := by
        have := hget_lt hb
        simpa using this
      subst hb0
      simp [hget] at hb
      subst hb
      exact ⟨by simp [AHeap.n, ltL, AV.lt], by simpa [renL, AV.ren] using hp⟩
    · have h1 := hget_lt e1
      have h2 := hget_lt e2
      simp at h1 h2
      omega
  refine (h0.embed hv (by simp [AHeap.n])).mono ?_
  rintro r A1 ⟨r', A1', ⟨rfl, rfl⟩, rfl, rfl⟩
  refine ⟨rfl, AHeap.ext' ?_⟩
  have hs : ∀ (os : List (Option (List AV))) (b : Nat) (c : List AV), hget os b = some c → hset os b (some c) = os := by
    intro os
    induction os with
    | nil => intro b c h; cases h
    | cons o r ih =>
      intro b c h
      simp only [hget] at h
      simp only [hset]
      split at h
      · rename_i hb; rw [if_pos hb, h]
      · rename_i hb; rw [if_neg hb, ih _ _ h]
  have := hs os pb _ hp
  simpa [upd, renL, AV.ren] using this

theorem Sub.preN {N : Nat} {os : List (Option (List AV))} {t : Nat → AV} {l : List (Nat × AV)} (hN : os.length = N) (ho : ClosedH os) (ht : ∀ p ∈ l, p.2.lt N = true ∧ t p.1 = p.2) : Sub N ⟨t, ⟨os⟩⟩ ⟨tl l, ⟨os⟩⟩ := by
  subst hN; exact Sub.pre0 ho ht
theorem Sub.preR {N : Nat} {os r : List (Option (List AV))} {t : Nat → AV} {l : List (Nat × AV)} (hN : os.length = N) (ho : ClosedH os) (ht : ∀ p ∈ l, p.2.lt N = true ∧ t p.1 = p.2) : Sub N ⟨t, ⟨os ++ r⟩⟩ ⟨tl l, ⟨os⟩⟩ := by
  subst hN
  have := Sub.pre (os := os) (r := r) (r' := []) (t := t) (l := l) ho trivial (by simpa using ht)
  simpa using this
noncomputable def sp_clipI : List AV → Option (AV) := pf (ι := (List Int)) (α := AV) (fun k => True) (fun k => [.sl (insA k) false]) (fun k => .sl (insA k) true)
theorem sp_clipI_eq (k : List Int) : sp_clipI [.sl (insA k) false] = some (.sl (insA k) true) := by
  unfold sp_clipI
  exact pf_eq (ι := (List Int)) (α := AV) k trivial (by rintro k' _ e; simp_all [Int.natCast_inj])
attribute [simp] sp_clipI_eq
theorem q_slices_Clip_Sint64_int64 : QP PP 159 sp_clipI := by
  refine QP_pf (fun k h => ?_) fun k h => ?_
  · exact ⟨by first | rfl | simp, by first | rfl | simp⟩
  replace h : True := h
  refine P_code Quiet.nil hmix k_slices_Clip_Sint64_int64 rfl ?_ ?_
  · first | rfl | simp
  show wpc 0 PP _ c_slices_Clip_Sint64_int64 (initSt [.sl (insA k) false] .nil) (endP r_slices_Clip_Sint64_int64 (.sl (insA k) true))
  simp -dsimp -implicitDefEqProofs [c_slices_Clip_Sint64_int64, r_slices_Clip_Sint64_int64]

def fitI (fitB : Int → Int → Bool → Bool) (e l : Int) (now : List Int) (x : Int) : Nat → Bool
  | 0 => true
  | i + 1 => fitI fitB e l now x i && fitB i now.length (joinB e l (atI now i) x)
def fitM (fitB : Int → Int → Bool → Bool) (e l : Int) (now : List Int) (x : Int) : Bool := fitI fitB e l now x now.length

theorem ins_cells (k : List Int) : ∀ x ∈ insA k, x.cells.length = 1 ∧ ltL 0 x.cells = true := by
  intro x hx
  obtain ⟨a, _, rfl⟩ := List.mem_map.1 hx
  exact ⟨rfl, rfl⟩
/-- A list that lies in a new object is handed on. -/
theorem T_ref {f : FuncId} {os os' : List (Option (List AV))} {a1 a2 : List AV} {k : List Int} {c0 : List AV} {v : AV} (h : T PP f (a1 ++ .sl (insA k) false :: a2) ⟨os⟩ fun r A' => r = v ∧ A' = ⟨os'⟩) (ho : ClosedH os) (hl : os'.length = os.length) (ho' : ClosedH os') (hall : ∀ b, b < os.length → (hget os b).isSome = true) (h1 : ltL os.length a1 = true) (h2 : ltL os.length a2 = true) (hv : v.lt 0 = true) (t : Cp) :
    T PP f (a1 ++ .ref (os.length + 1) 1 0 k.length t :: a2) ⟨os ++ [some c0, some (flatA (insA k))]⟩ fun r A' => r = v ∧ A' = ⟨os' ++ [some c0, none]⟩ := by
  have hget1 : (⟨os ++ [some c0, some (flatA (insA k))]⟩ : AHeap) (os.length + 1) = some (flatA (insA k)) := by
    show hget _ _ = _
    rw [hget_pre]; rfl
  refine T.freeze (args' := a1 ++ .sl (insA k) false :: a2) hget1 (by simp) (fun i x x' hx hx' => ?_) ?_
  · by_cases hi : i < a1.length
    · rw [List.getElem?_append_left hi] at hx hx'
      rw [hx] at hx'
      obtain rfl := Option.some.inj hx'
      exact Fz.refl _ _ _
    · rw [List.getElem?_append_right (by omega)] at hx hx'
      cases hj : i - a1.length with
      | zero =>
        rw [hj] at hx hx'
        simp at hx hx'
        subst hx; subst hx'
        refine .inl (.inr (.inr ⟨1, 0, k.length, t, insA k, false, rfl, rfl, fun h => (by cases h), by simp, by simp, ins_cells k, .inl ?_⟩))
        show flatA (insA k) = _
        rw [List.take_of_length_le (by simp)]
        simp
      | succ j =>
        rw [hj] at hx hx'
        simp only [List.getElem?_cons_succ] at hx hx'
        rw [hx] at hx'
        obtain rfl := Option.some.inj hx'
        exact Fz.refl _ _ _
  · have := h.seesE ho hl ho' hall (by simp only [ltL_append, ltL, h1, h2, AV.lt, Bool.and_true, Bool.and_self]) hv [some c0, none]
    have e : (⟨os ++ [some c0, some (flatA (insA k))]⟩ : AHeap).del (os.length + 1) = ⟨os ++ [some c0, none]⟩ := by
      show AHeap.mk (hset _ _ _) = _
      rw [hset_pre]
      rfl
    rw [e]
    exact this
theorem T_maps {ι : Type} {H : ι → List (Option (List AV))} {N pb : Nat} {n e l : Int} {ps : List Fr} {g1 g2 : FuncId} {caps1 caps2 : List AV} {fitB : Int → Int → Bool → Bool} {en : List Int → ι → Bool × ι}
    (hN : ∀ s, (H s).length = N) (hpN : pb < N) (hall : ∀ s b, b < N → (hget (H s) b).isSome = true) (ho : ∀ s, ClosedH (H s)) (hpb : ∀ s, hget (H s) pb = some [.int .i64 n, .int .u32 e, .int .u32 l, .sl (frsA ps) false])
    (hc1 : ltL N caps1 = true) (hc2 : ltL N caps2 = true) {m : Nat} (hm : m ≤ 5) (hn : 1 ≤ n ∧ n ≤ 4) (he : (0 ≤ e ∧ e ≤ 4294967295) ∧ (0 ≤ l ∧ l ≤ 4294967295))
    (hf : ∀ s (i j : Nat) b, i < j → j < m → T PP g1 ([.int .i64 i, .int .i64 j, .bool b] ++ caps1) ⟨H s⟩ fun r A' => r = .bool (fitB i j b) ∧ A' = ⟨H s⟩)
    (hen : ∀ s (k : List Int), k.length = m → (∀ x ∈ k, 0 ≤ x ∧ x < n) → T PP g2 ([.sl (insA k) false] ++ caps2) ⟨H s⟩ fun r A' => r = .bool (en k s).1 ∧ A' = ⟨H (en k s).2⟩) :
    ∀ (d : Nat) (now : List Int) (s : ι), now.length + d = m → (∀ x ∈ now, 0 ≤ x ∧ x < n) →
      T PP 139 [.ptr pb 0, .int .i64 m, .sl (insA now) false, .fn g1 caps1, .fn g2 caps2] ⟨H s⟩ fun r A' => r = .bool (goL en (dfsL (fitM fitB e l) n.toNat d now) s).1 ∧ A' = ⟨H (goL en (dfsL (fitM fitB e l) n.toNat d now) s).2⟩ := by
  intro d
  induction d with
  | zero =>
    intro now s hd hr
    refine H_code (Quiet.q1 q_slices_Clip_Sint64_int64 Quiet.nil) hmix k_impl_Pattern_maps rfl (fun b => b) (by simp [AHeap.n, hN]) (fun _ _ => rfl) (injB_id _) (by rfl) ?_
    show wpc (H s).length PP _ c_impl_Pattern_maps (initSt [.ptr pb 0, .int .i64 m, .sl (insA now) false, .fn g1 caps1, .fn g2 caps2] ⟨H s⟩) _
    have hb : ((now.length : Int) == (m : Int)) = true := by simp; omega
    simp -dsimp -implicitDefEqProofs [c_impl_Pattern_maps, r_impl_Pattern_maps, hb]
    refine (hen s now (by omega) hr).mono ?_
    rintro r A' ⟨rfl, rfl⟩
    simp -dsimp -implicitDefEqProofs [dfsL, goL_one, hsub_all (ho _)]
  | succ d ih =>
    intro now s hd hr
    refine H_code (Quiet.q1 q_slices_Clip_Sint64_int64 Quiet.nil) hmix k_impl_Pattern_maps rfl (fun b => b) (by simp [AHeap.n, hN]) (fun _ _ => rfl) (injB_id _) (by rfl) ?_
    show wpc (H s).length PP _ c_impl_Pattern_maps (initSt [.ptr pb 0, .int .i64 m, .sl (insA now) false, .fn g1 caps1, .fn g2 caps2] ⟨H s⟩) _
    rw [hN s]
    have hb : ((now.length : Int) == (m : Int)) = false := by simp; omega
    simp -dsimp -implicitDefEqProofs [c_impl_Pattern_maps, r_impl_Pattern_maps, hb, hpb]
    obtain ⟨k, rfl⟩ := Int.eq_ofNat_of_zero_le (show 0 ≤ n by omega)
    refine wpLoop_st (fun (q : ι × Nat) => ⟨tl [(0, .ptr pb 0), (1, .int .i64 m), (2, .sl (insA now) false), (3, .fn g1 caps1), (4, .fn g2 caps2), (11, .int .i64 now.length), (27, .int .i64 k), (28, .int .i64 q.2)], ⟨H q.1⟩⟩) (fun q => q.2 ≤ k ∧ goL en (restL (fitM fitB e l) k d now q.2) q.1 = goL en (dfsL (fitM fitB e l) k (d + 1) now) s) (fun q => k - q.2) (s, 0) ⟨Nat.zero_le _, by rw [restL_zero]⟩ (Sub.preN (hN _) (ho _) (by simp [hc1, hc2, hpN])) ?_
    rintro ⟨s1, x⟩ ⟨hx, hg⟩
    simp only at hx hg
    simp -dsimp -implicitDefEqProofs
    refine brW_of (fun h => ?_) (fun h => ?_) <;> simp only [decide_eq_true_eq, decide_eq_false_iff_not] at h
    · have hx' : x < k := by omega
      have hwx := wrapNat (i := x) (by omega)
      simp -dsimp -implicitDefEqProofs
      refine wpLoop_st (fun (i : Nat) => ⟨tl [(0, .ptr pb 0), (1, .int .i64 m), (2, .sl (insA now) false), (3, .fn g1 caps1), (4, .fn g2 caps2), (11, .int .i64 now.length), (12, .int .i64 x), (13, .bool (fitI fitB e l now x i)), (27, .int .i64 k), (28, .int .i64 x), (31, .int .i64 now.length), (32, .int .i64 i)], ⟨H s1⟩⟩) (fun i => i ≤ now.length) (fun i => now.length - i) 0 (by omega) (Sub.preN (hN _) (ho _) (by simp [hc1, hc2, hpN, fitI])) ?_
      intro i hi
      simp -dsimp -implicitDefEqProofs
      refine brW_of (fun h => ?_) (fun h => ?_) <;> simp only [decide_eq_true_eq, decide_eq_false_iff_not] at h
      · have hi' : i < now.length := by omega
        have hwi := wrapNat (i := i) (by omega)
        cases hv : fitI fitB e l now x i with
        | false =>
          simp -dsimp -implicitDefEqProofs [hwi]
          exact .mk (i + 1) (by omega) (by omega) (Sub.preN (hN _) (ho _) (by simp [hc1, hc2, hpN, fitI, hv, hwi]))
        | true =>
          simp -dsimp -implicitDefEqProofs [hwi, hi', atI_get hi']
          have hat : 0 ≤ atI now i ∧ atI now i < 5 := by
            rw [← atI_get hi']
            have := hr _ (List.getElem_mem hi')
            omega
          refine (T_joined (ho s1) (hpb s1) ⟨he, hat, by omega⟩).mono ?_
          rintro r A' ⟨rfl, rfl⟩
          simp -dsimp -implicitDefEqProofs [hwi, hi', atI_get hi']
          refine (hf s1 i now.length (joinB e l (atI now i) x) hi' (by omega)).mono ?_
          rintro r A' ⟨rfl, rfl⟩
          simp -dsimp -implicitDefEqProofs [hwi, hi', atI_get hi']
          exact .mk (i + 1) (by omega) (by omega) (Sub.preN (hN _) (ho _) (by simp [hc1, hc2, hpN, fitI, hv, hwi]))
      · have : i = now.length := by omega
        subst this
        rw [restL_step _ _ _ _ _ hx'] at hg
        cases hv : fitI fitB e l now x now.length with
        | false =>
          have hv' : fitM fitB e l now x = false := hv
          rw [hv'] at hg
          simp only [Bool.false_eq_true, if_false, List.nil_append] at hg
          simp -dsimp -implicitDefEqProofs [hwx]
          exact .mk (s1, x + 1) ⟨by simp only; omega, hg⟩ (by simp only; omega) (Sub.preN (hN _) (ho _) (by simp [hc1, hc2, hpN, hwx]))
        | true =>
          have hv' : fitM fitB e l now x = true := hv
          rw [hv', if_pos rfl, goL_append] at hg
          have hmb : (now.length + 1) * 9 ≤ mostBytes := by simp only [mostBytes]; omega
          have hcat : flatA (insA now) ++ [.int .i64 (x : Int)] = flatA (insA (now ++ [(x : Int)])) := by rw [flatA_append, flatA_one]; rfl
          simp -dsimp -implicitDefEqProofs [hwx, hmb, hcat, hN]
          have hrec := ih (now ++ [(x : Int)]) s1 (by simp; omega) (fun y hy => by
            rw [List.mem_append, List.mem_singleton] at hy
            rcases hy with hy | rfl
            · exact hr y hy
            · omega)
          have hT := T_ref (c0 := [.int .i64 (x : Int)]) (t := .full) (a1 := [.ptr pb 0, .int .i64 m]) (a2 := [.fn g1 caps1, .fn g2 caps2]) hrec (ho s1) (by rw [hN, hN]) (ho _) (fun b hb => hall _ b (by rw [← hN s1]; exact hb)) (by simp [hN, hpN]) (by simp [hN, hc1, hc2]) rfl
          simp only [hN, List.length_append, List.length_cons, List.length_nil, Nat.zero_add, List.cons_append, List.nil_append, Int.toNat_natCast] at hT
          refine hT.mono ?_
          rintro r A' ⟨rfl, rfl⟩
          cases hgo : (goL en (dfsL (fitM fitB e l) k d (now ++ [(x : Int)])) s1).1 with
          | true =>
            rw [hgo, if_pos rfl] at hg
            have hg1 := congrArg Prod.fst hg
            have hg2 := congrArg Prod.snd hg
            simp only [hgo] at hg1
            simp -dsimp -implicitDefEqProofs [hgo, ← hg2, ← hg1, hsub_all (ho _)]
            exact hsub_pre (ho _) (Nat.le_refl _)
          | false =>
            rw [hgo] at hg
            simp only [Bool.false_eq_true, if_false] at hg
            simp -dsimp -implicitDefEqProofs [hgo, hwx]
            exact .mk (_, x + 1) ⟨by simp only; omega, hg⟩ (by simp only; omega) (Sub.preR (hN _) (ho _) (by simp [hc1, hc2, hpN, hwx]))
    · have : x = k := by omega
      subst this
      rw [restL_end] at hg
      simp -dsimp -implicitDefEqProofs [← hg, goL, hsub_all (ho _)]
end Go.Proofs.YtkgodhdpcomjbaaAi
