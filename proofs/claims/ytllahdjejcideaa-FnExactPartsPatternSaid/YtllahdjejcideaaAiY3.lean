/- A call that sees the objects that its arguments reach. -/
import Derived.Test.YtllahdjejcideaaAiY2
namespace Go.Proofs.YtllahdjejcideaaAi
open Go Go.RowKit
set_option linter.unusedVariables false
set_option linter.unusedSimpArgs false

variable {P : Program} {S : Spec} {N : Nat}

mutual
/-- The names in a value. -/
def AV.nms : AV → List Nat
  | .ptr b _ => [b]
  | .ref b _ _ _ _ => [b]
  | .ep x _ _ => x.nms
  | .fn _ cs => nmsL cs
  | .agg cs => nmsL cs
  | .tup cs => nmsL cs
  | _ => []
def nmsL : List AV → List Nat
  | [] => []
  | x :: r => x.nms ++ nmsL r
end
def hasN : List Nat → Nat → Bool
  | [], _ => false
  | c :: r, b => b == c || hasN r b
def addN : List Nat → List Nat → List Nat
  | a, [] => a
  | a, b :: r => addN (if hasN a b = true then a else a ++ [b]) r
def cellN (A : AHeap) : List Nat → List Nat
  | [] => []
  | b :: r => ((A b).elim [] nmsL) ++ cellN A r
def reachN (A : AHeap) : Nat → List Nat → List Nat
  | 0, ns => ns
  | k + 1, ns => reachN A k (addN ns (cellN A ns))
def idxN : List Nat → Nat → Nat
  | [], _ => 0
  | c :: r, b => if b = c then 0 else idxN r b + 1
def atN : List Nat → Nat → Nat
  | [], _ => 0
  | c :: r, i => if i = 0 then c else atN r (i - 1)
def nodupN : List Nat → Bool
  | [] => true
  | b :: r => !hasN r b && nodupN r
def allN (ns : List Nat) : List Nat → Bool
  | [] => true
  | b :: r => hasN ns b && allN ns r
/-- The objects of names, as the call names them. -/
def objsN (A : AHeap) (ns : List Nat) : List Nat → List (Option (List AV))
  | [] => []
  | b :: r => (A b).map (renL (idxN ns)) :: objsN A ns r
def okN (A : AHeap) (ns : List Nat) : List Nat → Bool
  | [] => true
  | b :: r => (decide (b < A.n) && (A b).elim true fun cs => allN ns (nmsL cs)) && okN A ns r

theorem idx_lt : ∀ {ns : List Nat} {b : Nat}, hasN ns b = true → idxN ns b < ns.length
  | [], b, h => by cases h
  | c :: r, b, h => by
    simp only [idxN]
    split
    · simp
    · rename_i hne
      have : hasN r b = true := by simpa [hasN, hne] using h
      have := idx_lt this
      simp; omega
theorem at_idx : ∀ {ns : List Nat} {b : Nat}, hasN ns b = true → atN ns (idxN ns b) = b
  | [], b, h => by cases h
  | c :: r, b, h => by
    simp only [idxN]
    split
    · rename_i e; simp [atN, e]
    · rename_i hne
      have h' : hasN r b = true := by simpa [hasN, hne] using h
      rw [atN, if_neg (by omega)]
      simpa using at_idx h'
theorem has_at : ∀ {ns : List Nat} {i : Nat}, i < ns.length → hasN ns (atN ns i) = true
  | [], i, h => by simp at h
  | c :: r, i, h => by
    rw [atN]
    split
    · simp [hasN]
    · have := has_at (ns := r) (i := i - 1) (by simp at h; omega)
      simp [hasN, this]
theorem at_inj : ∀ {ns : List Nat}, nodupN ns = true → ∀ {i j : Nat}, i < ns.length → j < ns.length → atN ns i = atN ns j → i = j
  | [], _, i, j, h, _, _ => by simp at h
  | c :: r, hn, i, j, hi, hj, e => by
    simp only [nodupN, Bool.and_eq_true, Bool.not_eq_true'] at hn
    simp only [List.length_cons] at hi hj
    by_cases i0 : i = 0 <;> by_cases j0 : j = 0
    · omega
    · subst i0
      simp only [atN, if_true, if_neg j0] at e
      have := has_at (ns := r) (i := j - 1) (by omega)
      rw [← e] at this
      rw [this] at hn
      exact absurd hn.1 (by decide)
    · subst j0
      simp only [atN, if_true, if_neg i0] at e
      have := has_at (ns := r) (i := i - 1) (by omega)
      rw [e] at this
      rw [this] at hn
      exact absurd hn.1 (by decide)
    · simp only [atN, if_neg i0, if_neg j0] at e
      have := at_inj hn.2 (i := i - 1) (j := j - 1) (by omega) (by omega) e
      omega
theorem allN_append {ns : List Nat} : ∀ {l k : List Nat}, allN ns (l ++ k) = (allN ns l && allN ns k)
  | [], k => rfl
  | b :: r, k => by simp [allN, allN_append, Bool.and_assoc]
mutual
theorem ren_inv {ns : List Nat} : ∀ x : AV, allN ns x.nms = true → (x.ren (idxN ns)).ren (atN ns) = x ∧ (x.ren (idxN ns)).lt ns.length = true
  | .ptr b o, h => by
    have h : hasN ns b = true := by simpa [AV.nms, allN] using h
    exact ⟨by simp [AV.ren, at_idx h], decide_eq_true (idx_lt h)⟩
  | .ref b e o m t, h => by
    have h : hasN ns b = true := by simpa [AV.nms, allN] using h
    exact ⟨by simp [AV.ren, at_idx h], decide_eq_true (idx_lt h)⟩
  | .ep x i o, h => by
    obtain ⟨h1, h2⟩ := ren_inv x (by simpa [AV.nms] using h)
    exact ⟨by simp [AV.ren, h1], by simpa [AV.ren, AV.lt] using h2⟩
  | .fn f cs, h => by
    obtain ⟨h1, h2⟩ := renL_inv cs (by simpa [AV.nms] using h)
    exact ⟨by simp [AV.ren, h1], by simpa [AV.ren, AV.lt] using h2⟩
  | .agg cs, h => by
    obtain ⟨h1, h2⟩ := renL_inv cs (by simpa [AV.nms] using h)
    exact ⟨by simp [AV.ren, h1], by simpa [AV.ren, AV.lt] using h2⟩
  | .tup cs, h => by
    obtain ⟨h1, h2⟩ := renL_inv cs (by simpa [AV.nms] using h)
    exact ⟨by simp [AV.ren, h1], by simpa [AV.ren, AV.lt] using h2⟩
  | .bool _, _ | .int _ _, _ | .str _, _ | .sl _ _, _ | .nilp, _ | .nilf, _ | .nili, _ | .iface, _ | .any, _ => ⟨rfl, rfl⟩
theorem renL_inv {ns : List Nat} : ∀ cs : List AV, allN ns (nmsL cs) = true → renL (atN ns) (renL (idxN ns) cs) = cs ∧ ltL ns.length (renL (idxN ns) cs) = true
  | [], _ => ⟨rfl, rfl⟩
  | x :: r, h => by
    rw [nmsL, allN_append, Bool.and_eq_true] at h
    obtain ⟨h1, h2⟩ := ren_inv x h.1
    obtain ⟨h3, h4⟩ := renL_inv r h.2
    exact ⟨by simp [renL, h1, h3], by simp [renL, ltL, h2, h4]⟩
end
theorem objsN_len (A : AHeap) (ns : List Nat) : ∀ l : List Nat, (objsN A ns l).length = l.length
  | [] => rfl
  | b :: r => by simp [objsN, objsN_len A ns r]
theorem objsN_get (A : AHeap) (ns : List Nat) : ∀ (l : List Nat) (i : Nat), i < l.length → hget (objsN A ns l) i = (A (atN l i)).map (renL (idxN ns))
  | [], i, h => by simp at h
  | b :: r, i, h => by
    simp only [objsN, hget, atN]
    split
    · rfl
    · exact objsN_get A ns r (i - 1) (by simp at h; omega)
theorem okN_get (A : AHeap) (ns : List Nat) : ∀ (l : List Nat), okN A ns l = true → ∀ i, i < l.length → atN l i < A.n ∧ ∀ cs, A (atN l i) = some cs → allN ns (nmsL cs) = true
  | [], _, i, h => by simp at h
  | b :: r, h, i, hi => by
    simp only [okN, Bool.and_eq_true, decide_eq_true_eq] at h
    simp only [atN]
    split
    · refine ⟨h.1.1, fun cs e => ?_⟩
      have := h.1.2
      rw [show hget A.l b = some cs from e] at this
      exact this
    · exact okN_get A ns r h.2 (i - 1) (by simp at hi; omega)

/-- A function that sees what its arguments reach. -/
def QV (P : Program) (f : FuncId) (sp : List (Option (List AV)) → List AV → Option (AV × List (Option (List AV)))) : Prop := ∀ os args r os', sp os args = some (r, os') → T P f args ⟨os⟩ fun r' A' => r' = r ∧ A' = ⟨os'⟩
def reachV (A : AHeap) (args : List AV) : List Nat := reachN A 2 (addN [] (nmsL args))
def spV' (sp : List (Option (List AV)) → List AV → Option (AV × List (Option (List AV)))) (args : List AV) (A : AHeap) (ns : List Nat) : Option (AV × AHeap) :=
  if ((nodupN ns && okN A ns ns) && allN ns (nmsL args)) = true then
    (sp ((objsN A ns ns).map (Option.map looseL)) (renL (idxN ns) args)).map fun q => (q.1.ren (extN ns.length A.n (atN ns)), ⟨upd (atN ns) (extN ns.length A.n (atN ns)) 0 (objsN A ns ns) q.2 A.l⟩)
  else none
def spV (sp : List (Option (List AV)) → List AV → Option (AV × List (Option (List AV)))) : List AV → AHeap → Option (AV × AHeap) := fun args A => spV' sp args A (reachV A args)
theorem QV.toE {f : FuncId} {sp : List (Option (List AV)) → List AV → Option (AV × List (Option (List AV)))} (h : QV P f sp) : QE P f (spV sp) := by
  intro args A r A1 e
  unfold spV spV' at e
  generalize reachV A args = ns at e
  split at e
  · rename_i hc
    simp only [Bool.and_eq_true] at hc
    obtain ⟨⟨c1, c2⟩, c3⟩ := hc
    obtain ⟨⟨r0, os'⟩, e0, e1⟩ := Option.map_eq_some_iff.1 e
    injection e1 with e1 e2
    subst e1; subst e2
    have hT := T.looseA (l := objsN A ns ns) (h _ _ r0 os' e0)
    have hn : (AHeap.mk (objsN A ns ns)).n = ns.length := objsN_len A ns ns
    have hv : View (atN ns) A ⟨objsN A ns ns⟩ := by
      refine ⟨fun b hb => (okN_get A ns ns c2 b (by rw [← hn]; exact hb)).1, fun b cs hb => ?_, fun b b' cs cs' h1 h2 e => ?_⟩
      · have hlt : b < ns.length := by rw [← hn]; exact AHeap.lt hb
        have hb : hget (objsN A ns ns) b = some cs := hb
        rw [objsN_get A ns ns b hlt] at hb
        obtain ⟨cs0, h1, rfl⟩ := Option.map_eq_some_iff.1 hb
        obtain ⟨k1, k2⟩ := renL_inv cs0 ((okN_get A ns ns c2 b hlt).2 cs0 h1)
        exact ⟨by rw [hn]; exact k2, by rw [k1]; exact h1⟩
      · exact at_inj c1 (by rw [← hn]; exact AHeap.lt h1) (by rw [← hn]; exact AHeap.lt h2) e
    obtain ⟨k1, k2⟩ := renL_inv args c3
    have := hT.embed hv (by rw [hn]; exact k2)
    rw [k1, hn] at this
    refine this.mono ?_
    rintro r1 A1 ⟨r', A1', ⟨rfl, rfl⟩, rfl, rfl⟩
    exact ⟨rfl, rfl⟩
  · cases e
def enO : Option (List AV) → AV
  | some cs => .agg cs
  | none => .nilp
theorem enO_inj : ∀ {os os' : List (Option (List AV))}, os.map enO = os'.map enO → os = os'
  | [], [], _ => rfl
  | [], _ :: _, h => by simp at h
  | _ :: _, [], h => by simp at h
  | o :: os, o' :: os', h => by
    simp only [List.map_cons, List.cons.injEq] at h
    rw [enO_inj h.2]
    cases o <;> cases o' <;> simp_all [enO]
def pv (sp : List AV → Option (AV × List (Option (List AV)))) : List (Option (List AV)) → List AV → Option (AV × List (Option (List AV))) := fun os args => sp (.agg (os.map enO) :: args)
theorem QV_pf {ι : Type} {f : FuncId} {p : ι → Prop} {os : ι → List (Option (List AV))} {args : ι → List AV} {res : ι → AV × List (Option (List AV))}
    (h : ∀ i, p i → T P f (args i) ⟨os i⟩ fun r' A' => r' = (res i).1 ∧ A' = ⟨(res i).2⟩) : QV P f (pv (pf p (fun i => .agg ((os i).map enO) :: args i) res)) := by
  intro os0 args0 r os' e
  obtain ⟨i, hp, h1, h2⟩ := pf_some e
  injection h1 with h1 h3
  injection h1 with h1
  have h1 := enO_inj h1
  subst h1; subst h3
  have := h i hp
  rw [h2] at this
  exact this
mutual
theorem nms_low : ∀ x : AV, x.lt 0 = true → x.nms = []
  | .ptr b o, h => by simp [AV.lt] at h
  | .ref b _ _ _ _, h => by simp [AV.lt] at h
  | .ep x _ _, h => nms_low x (by simpa [AV.lt] using h)
  | .fn _ cs, h => nmsL_low cs h
  | .agg cs, h => nmsL_low cs h
  | .tup cs, h => nmsL_low cs h
  | .bool _, _ | .int _ _, _ | .str _, _ | .sl _ _, _ | .nilp, _ | .nilf, _ | .nili, _ | .iface, _ | .any, _ => rfl
theorem nmsL_low : ∀ cs : List AV, ltL 0 cs = true → nmsL cs = []
  | [], _ => rfl
  | x :: r, h => by
    simp only [ltL, Bool.and_eq_true] at h
    rw [nmsL, nms_low x h.1, nmsL_low r h.2]; rfl
end
/-- One contract or the other. -/
def orE (a b : List AV → AHeap → Option (AV × AHeap)) : List AV → AHeap → Option (AV × AHeap) := fun args A => match a args A with
  | some x => some x
  | none => b args A
theorem QE.or {f : FuncId} {a b : List AV → AHeap → Option (AV × AHeap)} (h : QE P f a) (k : QE P f b) : QE P f (orE a b) := by
  intro args A r A1 e
  unfold orE at e
  split at e
  · rename_i x hx
    obtain rfl := Option.some.inj e
    exact h _ _ _ _ hx
  · exact k _ _ _ _ e
/-- One contract where the arguments reach objects, the other where they don't. -/
def refE (a b : List AV → AHeap → Option (AV × AHeap)) : List AV → AHeap → Option (AV × AHeap) := fun args A => if (nmsL args).isEmpty = true then b args A else a args A
theorem QE.ref {f : FuncId} {a b : List AV → AHeap → Option (AV × AHeap)} (h : QE P f a) (k : QE P f b) : QE P f (refE a b) := by
  intro args A r A1 e
  unfold refE at e
  split at e
  · exact k _ _ _ _ e
  · exact h _ _ _ _ e

end Go.Proofs.YtllahdjejcideaaAi
