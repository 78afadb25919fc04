/- Contracts: products of lists, sums of lists. -/
import Derived.Test.YtkgodhdpcomjbaaAdA4
namespace Go.Proofs.YtkgodhdpcomjbaaAi
open Go Go.RowKit
set_option linter.unusedVariables false
set_option linter.unusedSimpArgs false

def allIn (l : List Fr) : Prop := ∀ x ∈ l, frIn x.p x.q
theorem allIn.get {l : List Fr} (h : allIn l) {i : Nat} (hi : i < l.length) : frIn l[i].p l[i].q := h _ (List.getElem_mem hi)
theorem drop_cons {α : Type} {l : List α} {i : Nat} (h : i < l.length) : l.drop i = l[i] :: l.drop (i + 1) := by simp
theorem drop_end {α : Type} {l : List α} {i : Nat} (h : ¬ i < l.length) : l.drop i = [] := List.drop_eq_nil_of_le (by omega)
def add2 (x y : Fr) : Option Fr := addO x.p x.q y.p y.q
def mul2 (x y : Fr) : Option Fr := mulO x.p x.q y.p y.q
theorem add2_in {x y : Fr} (h1 : frIn x.p x.q) (h2 : frIn y.p y.q) : frIn (valO (add2 x y)).p (valO (add2 x y)).q := valO_in (add_pre h1 h2).2.2.1
theorem mul2_in {x y : Fr} (h1 : frIn x.p x.q) (h2 : frIn y.p y.q) : frIn (valO (mul2 x y)).p (valO (mul2 x y)).q := valO_in (mul_pre h1 h2).2.2.1
theorem add2_some {x y z : Fr} (h1 : frIn x.p x.q) (h2 : frIn y.p y.q) (e : add2 x y = some z) : frIn z.p z.q := lowO_in (add_pre h1 h2).2.2.1 e
theorem mul2_some {x y z : Fr} (h1 : frIn x.p x.q) (h2 : frIn y.p y.q) (e : mul2 x y = some z) : frIn z.p z.q := lowO_in (mul_pre h1 h2).2.2.1 e
theorem zero_in : frIn 0 1 := by unfold frIn; decide

/-- The sum of products; whether one was too large. -/
def dotG : Fr → Bool → List Fr → List Fr → Fr × Bool
  | a, g, x :: xs, y :: ys => dotG (valO (add2 a (valO (mul2 x y)))) ((g || (mul2 x y).isNone) || (add2 a (valO (mul2 x y))).isNone) xs ys
  | a, g, [], _ => (a, g)
  | a, g, _ :: _, [] => (a, g)
theorem dotG_in : ∀ (xs ys : List Fr) (a : Fr) (g : Bool), frIn a.p a.q → allIn xs → allIn ys → frIn (dotG a g xs ys).1.p (dotG a g xs ys).1.q
  | [], ys, a, g, h, _, _ => by simpa [dotG] using h
  | x :: xs, [], a, g, h, _, _ => by simpa [dotG] using h
  | x :: xs, y :: ys, a, g, h, h1, h2 => by
    rw [dotG]
    exact dotG_in xs ys _ _ (add2_in h (mul2_in (h1 x (List.mem_cons_self ..)) (h2 y (List.mem_cons_self ..)))) (fun z hz => h1 z (List.mem_cons_of_mem _ hz)) (fun z hz => h2 z (List.mem_cons_of_mem _ hz))

noncomputable def sp_dot : List AV → List AV → Option (AV × List AV) := pm (pf (ι := (Bool) × (List Fr) × (List Fr)) (α := AV × List AV) (fun ⟨g, xs, ys⟩ => (allIn xs ∧ allIn ys) ∧ xs.length ≤ ys.length ∧ xs.length ≤ 1000000) (fun i => .agg ((fun ⟨g, xs, ys⟩ => [.bool g] : (Bool) × (List Fr) × (List Fr) → List AV) i) :: (fun ⟨g, xs, ys⟩ => [.sl (frsA xs) false, .sl (frsA ys) false] : (Bool) × (List Fr) × (List Fr) → List AV) i) (fun ⟨g, xs, ys⟩ => (frA (dotG ⟨0, 1⟩ g xs ys).1, [.bool (dotG ⟨0, 1⟩ g xs ys).2])))
theorem sp_dot_eq (g : Bool) (xs ys : List Fr) (h : (allIn xs ∧ allIn ys) ∧ xs.length ≤ ys.length ∧ xs.length ≤ 1000000) : sp_dot [.bool g] [.sl (frsA xs) false, .sl (frsA ys) false] = some (frA (dotG ⟨0, 1⟩ g xs ys).1, [.bool (dotG ⟨0, 1⟩ g xs ys).2]) := by
  unfold sp_dot pm
  exact pf_eq (ι := (Bool) × (List Fr) × (List Fr)) (α := AV × List AV) (g, xs, ys) h (by rintro ⟨g', xs', ys'⟩ _ e; simp_all [Int.natCast_inj])
/-- The sum of products, if none was too large. -/
def dotO : Fr → List Fr → List Fr → Option Fr
  | a, x :: xs, y :: ys => (mul2 x y).bind fun m => (add2 a m).bind fun s => dotO s xs ys
  | a, [], _ => some a
  | a, _ :: _, [] => some a
theorem dotO_G : ∀ (xs ys : List Fr) (a : Fr) (g : Bool), (∀ v, dotO a xs ys = some v → dotG a g xs ys = (v, g)) ∧ (dotO a xs ys = none → (dotG a g xs ys).2 = true)
  | [], ys, a, g => by simp [dotO, dotG]
  | x :: xs, [], a, g => by simp [dotO, dotG]
  | x :: xs, y :: ys, a, g => by
    have hg : ∀ (xs ys : List Fr) (a : Fr), (dotG a true xs ys).2 = true := by
      intro xs
      induction xs with
      | nil => intro ys a; rfl
      | cons x xs ih =>
        intro ys a
        cases ys with
        | nil => rfl
        | cons y ys => rw [dotG]; simpa using ih ys _
    rw [dotO, dotG]
    cases hm : mul2 x y with
    | none => simp [hg]
    | some m =>
      cases ha : add2 a m with
      | none => simp [valO, ha, hg]
      | some s => simpa [valO, ha] using dotO_G xs ys s g

noncomputable def sp_l02Dot : List AV → Option (AV) := pf (ι := (List Fr) × (List Fr)) (α := AV) (fun ⟨xs, ys⟩ => (allIn xs ∧ allIn ys) ∧ xs.length ≤ ys.length ∧ xs.length ≤ 1000000) (fun ⟨xs, ys⟩ => [.sl (frsA xs) false, .sl (frsA ys) false]) (fun ⟨xs, ys⟩ => frO (dotO ⟨0, 1⟩ xs ys))
theorem sp_l02Dot_eq (xs ys : List Fr) (h : (allIn xs ∧ allIn ys) ∧ xs.length ≤ ys.length ∧ xs.length ≤ 1000000) : sp_l02Dot [.sl (frsA xs) false, .sl (frsA ys) false] = some (frO (dotO ⟨0, 1⟩ xs ys)) := by
  unfold sp_l02Dot
  exact pf_eq (ι := (List Fr) × (List Fr)) (α := AV) (xs, ys) h (by rintro ⟨xs', ys'⟩ _ e; simp_all [Int.natCast_inj])
def allOk (l : List Fr) : Bool := l.all fun x => frOk x.p x.q
theorem frOk_in {p q : Int} (h : frOk p q = true) : frIn p q := by
  have := of_decide_eq_true h
  unfold frIn
  exact ⟨this.1, this.2.1⟩
theorem allOk_in {l : List Fr} (h : allOk l = true) : allIn l := fun x hx => frOk_in (List.all_eq_true.1 h x hx)
theorem allOk_false {l : List Fr} {i : Nat} (h : i < l.length) (hf : frOk l[i].p l[i].q = false) : allOk l = false := by
  unfold allOk
  rw [List.all_eq_false]
  exact ⟨l[i], List.getElem_mem h, by simp [hf]⟩
theorem allOk_step {l : List Fr} {i : Nat} (h : i < l.length) (h1 : allOk (l.take i) = true) (h2 : frOk l[i].p l[i].q = true) : allOk (l.take (i + 1)) = true := by
  rw [take_snoc l i h]
  unfold allOk at *
  rw [List.all_append, h1]
  simp [h2]

end Go.Proofs.YtkgodhdpcomjbaaAi
