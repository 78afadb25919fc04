/- Contracts: lists of fractions are taken over and compared. -/
import Derived.Test.YtllahdjejcideaaAdBase
import Derived.Test.YtllahdjejcideaaAcB
namespace Go.Proofs.YtllahdjejcideaaAi
open Go Go.RowKit
set_option linter.unusedVariables false
set_option linter.unusedSimpArgs false

def frA (p : Int × Int) : AV := .agg [.int .i64 p.1, .int .i64 p.2]
def frsA (ps : List (Int × Int)) : List AV := ps.map frA
def deFr : AV → Option (Int × Int)
  | .agg [.int .i64 p, .int .i64 q] => some (p, q)
  | _ => none
def deFrs : List AV → Option (List (Int × Int))
  | [] => some []
  | x :: xs => (deFr x).bind fun p => (deFrs xs).map fun ps => p :: ps
@[simp] theorem deFrs_frsA : ∀ ps : List (Int × Int), deFrs (frsA ps) = some ps
  | [] => rfl
  | p :: ps => by simp [frsA, deFrs, frA, deFr]; exact deFrs_frsA ps
theorem deFr_some {x : AV} {p : Int × Int} (h : deFr x = some p) : x = frA p := by
  unfold deFr at h
  split at h
  · obtain rfl := Option.some.inj h; rfl
  · cases h
theorem deFrs_some : ∀ {xs : List AV} {ps : List (Int × Int)}, deFrs xs = some ps → xs = frsA ps
  | [], ps, h => by cases h; rfl
  | x :: xs, ps, h => by
    simp only [deFrs, Option.bind_eq_some_iff, Option.map_eq_some_iff] at h
    obtain ⟨p, h1, qs, h2, rfl⟩ := h
    rw [deFr_some h1, deFrs_some h2]
    rfl
@[simp] theorem frsA_length (ps : List (Int × Int)) : (frsA ps).length = ps.length := by simp [frsA]

@[simp] theorem frsA_getElem (ps : List (Int × Int)) (i : Nat) (h : i < (frsA ps).length) : (frsA ps)[i] = .agg [.int .i64 (ps[i]'(by simpa using h)).1, .int .i64 (ps[i]'(by simpa using h)).2] := by simp [frsA, frA]

theorem frsA_cells (ps : List (Int × Int)) : ∀ x ∈ frsA ps, x.cells.length = 2 := by
  intro x hx
  obtain ⟨p, _, rfl⟩ := List.mem_map.1 hx
  rfl

def sp_szFractionS : List AV → Option AV
  | [.sl xs t, .int .i64 n] => if 0 ≤ n ∧ n ≤ 1048576 ∧ xs.length ≤ maxLen then some (.int .i64 (if (xs.length : Int) ≤ n then n - xs.length else -1)) else none
  | _ => none

theorem q_szFractionS : QF PP 28 sp_szFractionS := by
  intro args r h A
  unfold sp_szFractionS at h
  split at h
  · rename_i xs t n
    split at h
    · rename_i hn
      obtain ⟨h0, h1, hl⟩ := hn
      obtain rfl := Option.some.inj h
      clear h
      have hw : IntKind.i64.wrap (n - xs.length) = n - xs.length := wrapI64 (by simp only [maxLen] at hl; omega) (by omega)
      refine Q_code Quiet.nil hmix k_laws_szFractionS rfl ?_
      simp -dsimp -implicitDefEqProofs [c_laws_szFractionS, r_laws_szFractionS, hw]
      by_cases hlt : (xs.length : Int) ≤ n
      · have h2 : ¬ (n - (xs.length : Int) < 0) := by omega
        simp -dsimp -implicitDefEqProofs [hlt, h2]
      · have h2 : n - (xs.length : Int) < 0 := by omega
        simp -dsimp -implicitDefEqProofs [hlt, h2]
    · cases h
  · cases h

end Go.Proofs.YtllahdjejcideaaAi
