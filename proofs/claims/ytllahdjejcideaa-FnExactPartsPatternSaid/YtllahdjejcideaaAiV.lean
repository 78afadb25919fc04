/- Data that reads becomes abstract values. -/
import Derived.Test.YtllahdjejcideaaAiU
import Derived.ProofKit
import GoSem.ClaimChange
namespace Go.Proofs.YtllahdjejcideaaAi
open Go Go.RowKit
set_option linter.unusedVariables false
set_option linter.unusedSimpArgs false

inductive Ty where
  | bool
  | int (k : IntKind)
  | str
  | sl (e : Ty)
  | st (fs : List Ty)

def Ty.isSt : Ty → Bool
  | .st _ => true
  | _ => false
def AV.isAgg : AV → Bool
  | .agg _ => true
  | _ => false

mutual
/-- Cells that are a value of a type. -/
def Wt : Ty → List AV → Prop
  | .bool, cs => ∃ b, cs = [.bool b]
  | .int k, cs => ∃ n, cs = [.int k n] ∧ k.min ≤ n ∧ n ≤ k.max
  | .str, cs => ∃ s, cs = [.str s] ∧ s.size ≤ maxLen
  | .sl e, cs => ∃ xs, cs = [.sl xs false] ∧ xs.length ≤ maxLen ∧ ∀ x ∈ xs, Wt e x.cells ∧ x.isAgg = e.isSt
  | .st fs, cs => WtL fs cs
def WtL : List Ty → List AV → Prop
  | [], cs => cs = []
  | f :: fs, cs => ∃ a b, cs = a ++ b ∧ Wt f a ∧ WtL fs b
end
def WtV (t : Ty) (x : AV) : Prop := Wt t x.cells ∧ x.isAgg = t.isSt

def layOk (P : Program) : Nat → List Field → Bool
  | _, [] => true
  | off, f :: fs => (f.offset == off) && layOk P (off + P.cellsOf f.type) fs
def totOf (P : Program) : List Field → Nat
  | [] => 0
  | f :: fs => P.cellsOf f.type + totOf P fs

def tyOf (P : Program) : Nat → TypeId → Option Ty
  | 0, _ => none
  | n + 1, t => match P.underlying t with
    | some .bool => some .bool
    | some (.int k) => some (.int k)
    | some .string => some .str
    | some (.slice e) => if 0 < P.cellsOf e then (tyOf P n e).map .sl else none
    | some (.struct fs) => if layOk P 0 fs.toList = true ∧ totOf P fs.toList = P.cellsOf t then (fs.toList.mapM fun f => tyOf P n f.type).map .st else none
    | _ => none

def sgOf (w : World) : Sg := { mem := fun b => w.heap[b]?, nm := fun _ => none, base := fun b => w.heap[b]? }

theorem ltL_append {n : Nat} : ∀ {a b : List AV}, ltL n (a ++ b) = (ltL n a && ltL n b)
  | [], b => by simp [ltL]
  | x :: a, b => by simp [ltL, ltL_append (a := a), Bool.and_assoc]
mutual
theorem wt_lt (n : Nat) : ∀ (t : Ty) (cs : List AV), Wt t cs → ltL n cs = true
  | .bool, cs, h => by obtain ⟨b, rfl⟩ := h; rfl
  | .int k, cs, h => by obtain ⟨b, rfl, _⟩ := h; rfl
  | .str, cs, h => by obtain ⟨b, rfl, _⟩ := h; rfl
  | .sl e, cs, h => by obtain ⟨b, rfl, _⟩ := h; rfl
  | .st fs, cs, h => wtL_lt n fs cs h
theorem wtL_lt (n : Nat) : ∀ (ts : List Ty) (cs : List AV), WtL ts cs → ltL n cs = true
  | [], cs, h => by obtain rfl := h; rfl
  | t :: ts, cs, h => by
    obtain ⟨a, b, rfl, h1, h2⟩ := h
    rw [ltL_append, wt_lt n t a h1, wtL_lt n ts b h2]
    rfl
end

theorem sgOf_cell {w : World} {a : Addr} {v : Value} (h : w.cell? a = some v) : a.spot = none ∧ (sgOf w).cell a.block a.off = some v := by
  unfold World.cell? at h
  unfold Sg.cell sgOf
  cases hb : w.heap[a.block]? with
  | none => rw [hb] at h; cases h
  | some o =>
    rw [hb] at h
    cases o <;> simp at h
    rename_i c t fr
    obtain ⟨h1, h2⟩ := h
    refine ⟨by cases hs : a.spot <;> simp_all, ?_⟩
    simp only [hb]
    exact h2

theorem sim_start (w : World) : Sim (fun c => c < w.heap.size) (sgOf w) .nil w :=
  ⟨fun c h => h, fun b o h => h, fun c o h => .inl h, fun b c n h => (by cases h), fun b h => (by simp [AHeap.nil, AHeap.n] at h), fun b cs h => (by cases h), fun b b' cs cs' c n n' h => (by cases h)⟩

variable {H : Type} {enc : TypeId × Value → H} {P : Program} {w : World}

theorem asV {ty : Ty} {avs : List AV} (h : Wt ty avs) : ∃ x : AV, x.cells = avs ∧ x.isAgg = ty.isSt ∧ (ty.isSt = true → x = .agg avs) := by
  cases ty with
  | bool => obtain ⟨b, rfl⟩ := h; exact ⟨.bool b, rfl, rfl, fun h => (by cases h)⟩
  | int k => obtain ⟨n, rfl, _⟩ := h; exact ⟨.int k n, rfl, rfl, fun h => (by cases h)⟩
  | str => obtain ⟨s, rfl, _⟩ := h; exact ⟨.str s, rfl, rfl, fun h => (by cases h)⟩
  | sl e => obtain ⟨xs, rfl, _⟩ := h; exact ⟨.sl xs false, rfl, rfl, fun h => (by cases h)⟩
  | st fs => exact ⟨.agg avs, rfl, rfl, fun _ => rfl⟩

theorem cells?_get {base : Nat} {a : Addr} {n : Nat} {cs : List Value} (h : w.cells? base a n = some cs) : cs.length = n ∧ ∀ (j : Nat) (v : Value), cs[j]? = some v → w.cell? (a.add j) = some v := by
  unfold World.cells? at h
  split at h
  · obtain ⟨hl, hg⟩ := mapM_some_length _ _ _ h
    refine ⟨by simpa using hl, fun j v hj => ?_⟩
    have hlt : j < n := by have := (List.getElem?_eq_some_iff.1 hj).1; simp at hl; omega
    obtain ⟨y, hy, hf⟩ := hg j j (by simp [hlt])
    rw [hj] at hy
    rw [Option.some.inj hy]
    exact hf
  · cases h

theorem rd_fields {n : Nat} {sub : Nat → TypeId → Option Ty} (ih : ∀ (t : TypeId) (cs : List Value) (d : DataW H × List MemPlace) (ty : Ty), DataW.trod enc P w 0 (fun _ => true) true n t cs = some d → sub 0 t = some ty → ∃ avs, Wt ty avs ∧ RepL (sgOf w) avs cs ∧ ∀ v ∈ cs, v.oneCell' = true) :
    ∀ (fs : List Field) (off : Nat) (cs : List Value) (tys : List Ty), layOk P off fs = true → cs.length = off + totOf P fs → (fs.mapM fun f => sub 0 f.type) = some tys →
      (∀ f ∈ fs, ∃ d, DataW.trod enc P w 0 (fun _ => true) true n f.type ((cs.drop f.offset).take (P.cellsOf f.type)) = some d) →
      ∃ avs, WtL tys avs ∧ RepL (sgOf w) avs (cs.drop off) ∧ ∀ v ∈ cs.drop off, v.oneCell' = true
  | [], off, cs, tys, _, hl, hm, _ => by
    simp at hm
    subst hm
    have : cs.drop off = [] := List.drop_eq_nil_of_le (by simp [totOf] at hl; omega)
    rw [this]
    exact ⟨[], rfl, RepL.nil _, by simp⟩
  | f :: fs, off, cs, tys, hlay, hl, hm, hr => by
    simp only [layOk, Bool.and_eq_true, beq_iff_eq] at hlay
    obtain ⟨rfl, hlay⟩ := hlay
    rw [List.mapM_cons] at hm
    simp only [totOf] at hl
    cases h1 : sub 0 f.type with
    | none => simp [h1] at hm
    | some ty =>
      cases h2 : (fs.mapM fun f => sub 0 f.type) with
      | none => simp [h1, h2] at hm
      | some tys' =>
        simp [h1, h2] at hm
        subst hm
        obtain ⟨d, hd⟩ := hr f (List.mem_cons_self ..)
        obtain ⟨a1, w1, r1, o1⟩ := ih _ _ _ _ hd h1
        obtain ⟨a2, w2, r2, o2⟩ := rd_fields ih fs (f.offset + P.cellsOf f.type) cs tys' hlay (by omega) h2 (fun g hg => hr g (List.mem_cons_of_mem _ hg))
        have hsplit : cs.drop f.offset = (cs.drop f.offset).take (P.cellsOf f.type) ++ cs.drop (f.offset + P.cellsOf f.type) := by
          rw [← List.drop_drop, List.take_append_drop]
        rw [hsplit]
        exact ⟨a1 ++ a2, ⟨a1, a2, rfl, w1, w2⟩, r1.append r2, fun v hv => (List.mem_append.1 hv).elim (o1 v) (o2 v)⟩

theorem rd : ∀ (fuel : Nat) (m : Nat) (t : TypeId) (cs : List Value) (d : DataW H × List MemPlace) (ty : Ty), DataW.trod enc P w 0 (fun _ => true) true fuel t cs = some d → tyOf P m t = some ty →
    ∃ avs, Wt ty avs ∧ RepL (sgOf w) avs cs ∧ ∀ v ∈ cs, v.oneCell' = true := by
  intro fuel
  induction fuel with
  | zero => intro m t cs d ty h; simp [DataW.trod] at h
  | succ fuel ih =>
    intro m t cs d ty h ht
    cases m with
    | zero => cases ht
    | succ m =>
      simp only [tyOf] at ht
      split at ht
      · rename_i hu
        obtain rfl := Option.some.inj ht
        obtain ⟨b, rfl, _⟩ := DataW.trod_bool hu h
        exact ⟨[.bool b], ⟨b, rfl⟩, RepL.cons (.bool b) (RepL.nil _), by simp [Value.oneCell']⟩
      · rename_i k hu
        obtain rfl := Option.some.inj ht
        obtain ⟨n, rfl, _, hw⟩ := DataW.trod_int hu h
        simp [Lit.wf] at hw
        exact ⟨[.int k n], ⟨n, rfl, hw.1, hw.2⟩, RepL.cons (.int k n) (RepL.nil _), by simp [Value.oneCell']⟩
      · rename_i hu
        obtain rfl := Option.some.inj ht
        obtain ⟨s, rfl, _, hw⟩ := DataW.trod_string hu h
        exact ⟨[.str s], ⟨s, rfl, hw⟩, RepL.cons (.str s) (RepL.nil _), by simp [Value.oneCell']⟩
      · rename_i e hu
        split at ht
        · rename_i hpos
          obtain ⟨te, hte, rfl⟩ := Option.map_eq_some_iff.1 ht
          rcases DataW.trod_slice hu h with ⟨rfl, _⟩ | ⟨a, len, cap, elems, rest, n, hn, rfl, _, _, hlc, hcm, hel, hget, _⟩
          · exact ⟨[.sl [] false], ⟨[], rfl, Nat.zero_le _, by simp⟩, RepL.cons (.slnil false none 0 (fun h => by cases h) (Nat.zero_le _) (fun _ => rfl)) (RepL.nil _), by simp [Value.oneCell']⟩
          · obtain rfl : fuel = n := by omega
            have hex : ∀ i, i < len → ∃ (x : AV) (cells : List Value), (Wt te x.cells ∧ x.isAgg = te.isSt) ∧ RepL (sgOf w) x.cells cells ∧ (∀ v ∈ cells, v.oneCell' = true) ∧ cells.length = P.cellsOf e ∧ ∀ (j : Nat) (v : Value), cells[j]? = some v → w.cell? ((a.add (i * P.cellsOf e)).add j) = some v := by
              intro i hi
              have h1 := hget i hi
              rw [List.getElem?_eq_getElem (by omega)] at h1
              obtain ⟨cells, hc, hd⟩ := Option.bind_eq_some_iff.1 h1
              obtain ⟨avs, hw1, hr1, ho1⟩ := ih _ _ _ _ _ hd hte
              obtain ⟨x, hx1, hx2, _⟩ := asV hw1
              obtain ⟨hl, hg⟩ := cells?_get hc
              exact ⟨x, cells, ⟨by rw [hx1]; exact hw1, hx2⟩, by rw [hx1]; exact hr1, ho1, hl, hg⟩
            classical
            let fx : Nat → AV := fun i => if h : i < len then Classical.choose (hex i h) else .tup []
            let fc : Nat → List Value := fun i => if h : i < len then Classical.choose (Classical.choose_spec (hex i h)) else []
            have hf : ∀ i, i < len → (Wt te (fx i).cells ∧ (fx i).isAgg = te.isSt) ∧ RepL (sgOf w) (fx i).cells (fc i) ∧ (∀ v ∈ fc i, v.oneCell' = true) ∧ (fc i).length = P.cellsOf e ∧ ∀ (j : Nat) (v : Value), (fc i)[j]? = some v → w.cell? ((a.add (i * P.cellsOf e)).add j) = some v := by
              intro i hi
              have := Classical.choose_spec (Classical.choose_spec (hex i hi))
              simp only [fx, fc, dif_pos hi]
              exact this
            let xs : List AV := (List.range len).map fx
            have hxl : xs.length = len := by simp [xs]
            have hxg : ∀ (i : Nat) (x : AV), xs[i]? = some x → i < len ∧ x = fx i := by
              intro i x hx
              have hi : i < len := by have := (List.getElem?_eq_some_iff.1 hx).1; omega
              simp only [xs, List.getElem?_map, List.getElem?_range hi, Option.map_some, Option.some.injEq] at hx
              exact ⟨hi, hx.symm⟩
            have hwt : Wt (.sl te) [.sl xs false] := ⟨xs, rfl, by omega, fun x hx => by
              obtain ⟨i, hi⟩ := List.getElem?_of_mem hx
              obtain ⟨hlt, rfl⟩ := hxg i x hi
              exact (hf i hlt).1⟩
            refine ⟨[.sl xs false], hwt, RepL.cons ?_ (RepL.nil _), by simp [Value.oneCell']⟩
            by_cases h0 : len = 0
            · have hx0 : xs = [] := List.length_eq_zero_iff.1 (by omega)
              rw [hx0, h0]
              exact .slnil _ _ _ (fun h => by cases h) hcm (fun h => by cases h)
            · have hspot : a.spot = none := by
                obtain ⟨_, _, _, hl, hg⟩ := hf 0 (by omega)
                have h1 : (fc 0)[0]? = some ((fc 0)[0]'(by omega)) := List.getElem?_eq_getElem _
                have h2 := hg 0 _ h1
                simp [Addr.add] at h2
                exact (sgOf_cell h2).1
              obtain ⟨b, off, sp⟩ := a
              simp only at hspot
              subst hspot
              rw [← hxl]
              refine .sl xs false b off (P.cellsOf e) cap (fun i j => ((fc i)[j]?).getD (.bool false)) (by omega) hcm (fun h => by cases h) ?_ ?_ ?_ ?_ (fun i x hx => by
                obtain ⟨hlt, rfl⟩ := hxg i x hx
                exact wt_lt 0 te _ (hf i hlt).1.1)
              · intro i x hx
                obtain ⟨hlt, rfl⟩ := hxg i x hx
                obtain ⟨_, hr1, _, hl, _⟩ := hf i hlt
                rw [hr1.1, hl]
              · intro i x hx j c hc
                obtain ⟨hlt, rfl⟩ := hxg i x hx
                obtain ⟨_, hr1, _, hl, hg⟩ := hf i hlt
                have hj : j < (fc i).length := by rw [← hr1.1]; exact (List.getElem?_eq_some_iff.1 hc).1
                have h1 : (fc i)[j]? = some ((fc i)[j]) := List.getElem?_eq_getElem hj
                have h2 := (sgOf_cell (hg j _ h1)).2
                rw [add_plain, add_plain] at h2
                simp only [h1, Option.getD_some]
                exact h2
              · intro i x hx j c hc
                obtain ⟨hlt, rfl⟩ := hxg i x hx
                obtain ⟨_, hr1, _, hl, hg⟩ := hf i hlt
                have hj : j < (fc i).length := by rw [← hr1.1]; exact (List.getElem?_eq_some_iff.1 hc).1
                have h1 : (fc i)[j]? = some ((fc i)[j]) := List.getElem?_eq_getElem hj
                simp only [h1, Option.getD_some]
                exact hr1.2 j c _ hc h1
              · intro i j
                by_cases hi : i < len
                · cases h1 : (fc i)[j]? with
                  | none => rfl
                  | some v => exact (hf i hi).2.2.1 v (List.mem_of_getElem? h1)
                · have : fc i = [] := by simp only [fc, dif_neg hi]
                  rw [this]
                  rfl
        · cases ht
      · rename_i fs hu
        split at ht
        · rename_i hlay
          obtain ⟨tys, htys, rfl⟩ := Option.map_eq_some_iff.1 ht
          obtain ⟨xs, n, hn, _, hcl, hxl, hg⟩ := DataW.trod_struct hu h
          obtain rfl : fuel = n := by omega
          obtain ⟨avs, h1, h2, h3⟩ := rd_fields (enc := enc) (P := P) (w := w) (n := fuel) (sub := fun _ t => tyOf P m t) (fun t cs d ty => ih m t cs d ty) fs.toList 0 cs tys hlay.1 (by rw [hcl, hlay.2]; simp) htys (fun f hf => by
            obtain ⟨i, hi⟩ := List.getElem?_of_mem hf
            have hi' : fs[i]? = some f := by simpa using hi
            have hlt : i < xs.length := by rw [hxl]; exact (Array.getElem?_eq_some_iff.1 hi').1
            exact ⟨xs[i], by rw [hg i f hi', List.getElem?_eq_getElem hlt]⟩)
          exact ⟨avs, h1, by simpa using h2, by simpa using h3⟩
        · cases ht
      · cases ht

end Go.Proofs.YtllahdjejcideaaAi
