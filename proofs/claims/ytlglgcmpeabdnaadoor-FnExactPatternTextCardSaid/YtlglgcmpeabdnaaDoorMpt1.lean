/- Contracts, joined. -/
import Derived.Test.YtlglgcmpeabdnaaDoorAiZ
import Derived.Test.YtlglgcmpeabdnaaDoorProg
import Derived.Test.YtlglgcmpeabdnaaDoorShelfB
import Derived.Test.YtlglgcmpeabdnaaDoorAiX
section
/- The program, for contracts. -/
namespace Go.Proofs.YtlglgcmpeabdnaaDoorAi
open Go Go.RowKit
noncomputable abbrev PP : Program := Go.Proofs.Tryd.prog
theorem hmix : PP.follows .mixedOrders = true := by kernel_rfl
end Go.Proofs.YtlglgcmpeabdnaaDoorAi
end

section
/- Contracts: strings.Builder: WriteString and String, with all that they change. -/
namespace Go.Proofs.YtlglgcmpeabdnaaDoorAi
open Go Go.RowKit Go.Shelf
set_option linter.unusedVariables false
set_option linter.unusedSimpArgs false
variable {P : Program} {ρ : Go.Shelf.Ren}

/-- Only one block, and one row, may have changed. -/
structure Chg (w w' : World) (b : Nat) (g : Option Nat) : Prop where
  os : w'.os = w.os
  tape : w'.tape = w.tape
  output : w'.output = w.output
  size : w.heap.size ≤ w'.heap.size
  block : ∀ k, k < w.heap.size → k ≠ b → some k ≠ g → w'.heap[k]? = w.heap[k]?
/-- append of a string's bytes: as in the library's law, and the row is the old one or new. -/
theorem bApp (w : World) (t u ty e : TypeId) (i : TypeInfo) (ht : P.underlying t = some (.slice e)) (hu : P.underlying u = some .string) (hi : P.info? e = some i) (hz : i.zero = some (.int .u8 0))
    (hsize : i.size = 1) (hby : i.bytes = 1) (v : Value) (n : Nat) (xs : List Value) (hown : w.ownsRow 0 e 1 v n xs) (s : ByteArray)
    (h63 : n + s.size ≤ maxLen) (hbytes : n + s.size ≤ 140737488355328) :
    ∃ v' w', (Builtin.append_ #[t, u] ty #[v, .string s]).run P w = .ok v' w' ∧ w'.ownsRow 0 e 1 v' (n + s.size) (xs ++ Lib.strCells s) ∧ w.grownBy w' v.ownBlock ∧ (v'.ownBlock = v.ownBlock ∨ v'.ownBlock = some w.heap.size) ∧ (∀ g cs, v.ownBlock = some g → w.heap[g]? = some (.cells cs e (0, 0)) → ∃ cs', w'.heap[g]? = some (.cells cs' e (0, 0)) ∧ cs'.size = cs.size) := by
  obtain ⟨v', w', hr, h2, h3, h4⟩ := Lib.run_append_own_string (P := P) w 0 t u ty e i ht hu hi hz hsize hby v n xs hown s h63 hbytes (Nat.zero_le _)
  refine ⟨v', w', hr, h2, h3, ?_⟩
  have hsmall : n + s.size ≤ 9223372036854775807 := by simp only [maxLen] at h63; omega
  have hxl : xs.length = n := by simpa using hown.1
  rcases hown.2 with ⟨rfl, rfl⟩ | ⟨g, cap, cur, rfl, hbg, hg, hnc, hcm, hcs, htake⟩
  · by_cases hm : s.size = 0
    · rw [h4.2 ⟨rfl, hm⟩]; exact ⟨.inl rfl, fun g cs hg => (by cases hg)⟩
    · have hr2 := Go.run_append_nil_string (P := P) w t u ty e i (.int .u8 0) ht hu hi hz s (by omega) (by omega) (by rw [hby]; omega)
      rw [hr] at hr2
      injection hr2 with e1 e2
      rw [e1]; exact ⟨.inr rfl, fun g cs hg => (by cases hg)⟩
  · by_cases hroom : n + s.size ≤ cap
    · have hcs' : cur.size = cap := by simpa using hcs
      have hr2 := Lib.run_append_room_string (P := P) w t u ty e i ht hu hi hsize g n cap cur hg s hroom (by omega)
      rw [hr] at hr2
      injection hr2 with e1 e2
      rw [e1]
      refine ⟨.inl rfl, fun g' cs hg1 hg2 => ?_⟩
      cases hg1
      rw [hg] at hg2
      injection hg2 with hg2; injection hg2 with hg2 _ _
      subst hg2
      rw [e2]
      refine ⟨_, setRow_heap w g cur _ e _ hg, ?_⟩
      simp only [List.size_toArray, List.length_append, List.length_take, List.length_drop, Array.length_toList, Lib.strCells_length]
      omega
    · have holds : ∀ j u, xs[j]? = some u → w.cell? ((⟨g, 0, none⟩ : Addr).add j) = some u := hown.cells (g := g) rfl
      have hr2 := Lib.run_append_grow_string (P := P) w t u ty e i (.int .u8 0) ht hu hi hz ⟨g, 0, none⟩ n cap xs (by rw [hsize]; simpa using hxl) holds s (by omega) (by omega) (by rw [hby]; exact Go.growslice_fits (by omega) (by omega))
      rw [hr] at hr2
      injection hr2 with e1 e2
      rw [e1]
      refine ⟨.inr rfl, fun g' cs hg1 hg2 => ?_⟩
      rw [e2]
      exact ⟨cs, (heap_alloc_old w.drew _ (Array.getElem?_eq_some_iff.1 hg2).1).trans hg2, rfl⟩
/-- .. behind an empty slice of no room. -/
theorem bApp0 (w : World) (t u ty e : TypeId) (i : TypeInfo) (ht : P.underlying t = some (.slice e)) (hu : P.underlying u = some .string) (hi : P.info? e = some i) (hz : i.zero = some (.int .u8 0))
    (hsize : i.size = 1) (hby : i.bytes = 1) (a : Option Addr) (s : ByteArray) (hm : s.size ≠ 0) (h63 : s.size ≤ maxLen) (hbytes : s.size ≤ 140737488355328) :
    ∃ v' w', (Builtin.append_ #[t, u] ty #[.slice a 0 0, .string s]).run P w = .ok v' w' ∧ w'.ownsRow 0 e 1 v' s.size (Lib.strCells s) ∧ w.grownBy w' none ∧ v'.ownBlock = some w.heap.size := by
  have hsmall : s.size ≤ 9223372036854775807 := by simp only [maxLen] at h63; omega
  cases a with
  | none =>
    obtain ⟨v', w', hr, h2, h3, h4, _⟩ := bApp (P := P) w t u ty e i ht hu hi hz hsize hby (.slice none 0 0) 0 [] (World.ownsRow_nil w 0 e 1) s (by omega) (by omega)
    rw [Nat.zero_add, List.nil_append] at h2
    refine ⟨v', w', hr, h2, h3, ?_⟩
    rcases h4 with h4 | h4
    · rcases h2.2 with ⟨_, hz0⟩ | ⟨g, cap, cur, rfl, _⟩
      · exact absurd hz0 hm
      · cases h4
    · exact h4
  | some ad =>
    have hr := Lib.run_append_grow_string (P := P) w t u ty e i (.int .u8 0) ht hu hi hz ad 0 0 [] (by simp) (by simp) s (by omega) (by omega) (by rw [hby]; exact Go.growslice_fits (by omega) (by omega))
    rw [Nat.zero_add] at hr
    have hge := grownCap_ge w s.size 0 e
    have hcm : grownCap w s.size 0 e ≤ maxLen := grownCap_le_maxLen w s.size 0 e h63
    refine ⟨_, _, hr, ⟨by rw [Lib.strCells_length, Nat.mul_one], .inr ⟨w.heap.size, _, _, rfl, Nat.zero_le _, heap_alloc_new w.drew _, hge, hcm, ?_, ?_⟩⟩, ⟨rfl, rfl, rfl, by simp, fun k hk _ => heap_alloc_old w.drew _ hk⟩, rfl⟩
    · have hz1 : (Value.int IntKind.u8 0).cells.size = 1 := rfl
      simp only [Array.size_append, List.size_toArray, size_zeroCells, hz1, Lib.strCells_length, List.length_nil]
      omega
    · simp only [Array.toList_append, List.nil_append]
      rw [show s.size * 1 = (Lib.strCells s).length by rw [Lib.strCells_length, Nat.mul_one]]
      exact List.take_left
theorem wpB_run {w w' : World} {ops : Array Oper} {rest : List Oper} {o : Oper} {a : Act} {Q : Exit → Act → World → Prop} (hgd : o.guard = none) (sl x : Operand) (t u : TypeId)
    (ho : o.op = .call { callee := .builtin .append, args := #[sl, x], argTypes := #[t, u] }) (v v' : Value) (hs : a.eval sl = v) (s : ByteArray) (hx : a.eval x = .string s)
    (hr : (Builtin.append_ #[t, u] 0 #[v, .string s]).run P w = .ok v' w') (h : wpList P ops Q rest (a.put o.dst v') w') : wpList P ops Q (o :: rest) a w := by
  refine wpList_plain hgd fun K hK => ?_
  have hr : (Builtin.append_ #[t, u] o.type #[v, .string s]).run P w = .ok v' w' := hr
  unfold Oper.wp execOp
  simp only [ho, resolve, invoke, builtin, Sem.run_bind, Sem.run_pure, Result.andThen_ok, List.map_toArray, List.map_cons, List.map_nil, hs, hx, hr]
  exact hK _ _ h
theorem bCheck (L : Lays.n240 P ρ) (X : Builder.X72 P ρ) (b : Nat) (p v : Value) (w : World) (hp : p = .pointer none ∨ p = .pointer (some ⟨b, 0, none⟩)) (hbk : w.heap[b]? = some (.cells #[p, v] (ρ.t 72) (0, 0))) :
    Calls P (ρ.f 240) #[.pointer (some ⟨b, 0, none⟩)] w fun e w' => e = .returned (.tuple #[]) ∧ w'.heap[b]? = some (.cells #[.pointer (some ⟨b, 0, none⟩), v] (ρ.t 72) (0, 0)) ∧ w'.heap.size = w.heap.size ∧ Chg w w' b none := by
  have c0 : w.cell? ⟨b, 0, none⟩ = some p := by rw [Lib.cell_of_heap hbk]; rfl
  rcases hp with rfl | rfl
  · refine (Any.Builder_copyCheck_fresh L X b w c0 (by simp [World.shape?, hbk]) (by simp [World.frozen?, hbk])).mono ?_
    rintro e w' ⟨rfl, rfl⟩
    exact ⟨rfl, by simp [World.setCell, Array.getElem?_modify, hbk], by simp [World.setCell], ⟨rfl, rfl, rfl, by simp [World.setCell], fun k _ hk _ => Below.heap_setCell _ _ _ _ hk⟩⟩
  · refine (Any.Builder_copyCheck_used L X b w c0).mono ?_
    rintro e w' ⟨rfl, rfl⟩
    exact ⟨rfl, hbk, rfl, ⟨rfl, rfl, rfl, Nat.le_refl _, fun _ _ _ _ => rfl⟩⟩
set_option maxHeartbeats 2000000 in
set_option maxRecDepth 100000 in
theorem bWrite (L : Lays.n166 P ρ) (X : Builder.Extra P ρ) (b : Nat) (p v : Value) (s : ByteArray) (w : World) (g : Option Nat) (m : Nat) (xs : List Value) (hp : p = .pointer none ∨ p = .pointer (some ⟨b, 0, none⟩)) (hbk : w.heap[b]? = some (.cells #[p, v] (ρ.t 72) (0, 0)))
    (hgb : g ≠ some b) (happ : ∀ w1, Chg w w1 b none → w1.heap.size = w.heap.size → ∃ v' w', (Builtin.append_ #[(ρ.t 37), (ρ.t 9)] 0 #[v, .string s]).run P w1 = .ok v' w' ∧ w'.ownsRow 0 (ρ.t 5) 1 v' m xs ∧ w1.grownBy w' g ∧ (v'.ownBlock = g ∨ v'.ownBlock = some w1.heap.size) ∧
      (∀ (g' : Nat) (cs : Array Value), g = some g' → w1.heap[g']? = some (.cells cs (ρ.t 5) (0, 0)) → ∃ (cs' : Array Value), w'.heap[g']? = some (.cells cs' (ρ.t 5) (0, 0)) ∧ cs'.size = cs.size)) :
    Calls P (ρ.f 166) #[.pointer (some ⟨b, 0, none⟩), .string s] w fun e w' => e = .returned (.tuple #[.int .i64 s.size, .nilIface]) ∧ Chg w w' b g ∧
      ∃ v', w'.heap[b]? = some (.cells #[.pointer (some ⟨b, 0, none⟩), v'] (ρ.t 72) (0, 0)) ∧ w'.ownsRow 0 (ρ.t 5) 1 v' m xs ∧ (v'.ownBlock = g ∨ ∃ k, v'.ownBlock = some k ∧ w.heap.size ≤ k) ∧
      (∀ (g' : Nat) (cs : Array Value), g = some g' → w.heap[g']? = some (.cells cs (ρ.t 5) (0, 0)) → ∃ (cs' : Array Value), w'.heap[g']? = some (.cells cs' (ρ.t 5) (0, 0)) ∧ cs'.size = cs.size) := by
  obtain ⟨i0, hi, hz0, hz1, hz2⟩ := info_parts X.infoByte
  have mixed := L.mixed
  have t72 := L.t72; have a72 := L.a72; have z72 := L.z72; have v72 := L.v72; have u72 := run_underlying L.t72
  have t70 := L.t70; have a70 := L.a70; have z70 := L.z70; have v70 := L.v70; have u70 := run_underlying L.t70
  have t37 := L.t37; have a37 := L.a37; have z37 := L.z37; have v37 := L.v37; have u37 := run_underlying L.t37
  have t3 := L.t3; have a3 := L.a3; have z3 := L.z3; have v3 := L.v3; have u3 := run_underlying L.t3
  have t9 := L.t9; have a9 := L.a9; have z9 := L.z9; have v9 := L.v9; have u9 := run_underlying L.t9
  have t4 := L.t4; have a4 := L.a4; have z4 := L.z4; have v4 := L.v4; have u4 := run_underlying L.t4
  have t164 := L.t164; have a164 := L.a164; have z164 := L.z164; have v164 := L.v164; have u164 := run_underlying L.t164
  have t5 := X.t5; have a5 := X.a5; have z5 := X.z5; have v5 := X.v5; have u5 := run_underlying X.t5
  have e240 : ∀ args w, (callFunc (ρ.f 240) args).run P w = .ok (.enter (ρ.f 240) args) w := enters_of L.f240 (by kernel_rfl) rfl
  go_enter L.f166, Body.n166_ntmps ρ
  go_wp2_with (go_at_fn (ρ.f 240); refine (bCheck { L with } X.toX72 b p v _ hp hbk).mono ?_)
  rintro e w1 ⟨rfl, hbk1, hsz1, hch⟩
  obtain ⟨v', w2, hr, hown', hgrow, hfr, hrow⟩ := happ w1 hch hsz1
  obtain ⟨ao, n', cap, rfl⟩ : ∃ ao n' cap, v' = .slice ao n' cap := by
    rcases hown'.2 with ⟨hv, _⟩ | ⟨g, cap, cur, hv, _⟩
    · exact ⟨_, _, _, hv⟩
    · exact ⟨_, _, _, hv⟩
  have c0 : w1.cell? ⟨b, 0, none⟩ = some (.pointer (some ⟨b, 0, none⟩)) := by rw [Lib.cell_of_heap hbk1]; rfl
  have c1 : w1.cell? ⟨b, 1, none⟩ = some v := by rw [Lib.cell_of_heap hbk1]; rfl
  have hlt : b < w1.heap.size := (Array.getElem?_eq_some_iff.1 hbk1).1
  have hb2 : w2.heap[b]? = some (.cells #[.pointer (some ⟨b, 0, none⟩), v] (ρ.t 72) (0, 0)) := by
    rw [hgrow.block b hlt (fun e => hgb e.symm)]
    exact hbk1
  have d0 : w2.cell? ⟨b, 0, none⟩ = some (.pointer (some ⟨b, 0, none⟩)) := by rw [Lib.cell_of_heap hb2]; rfl
  have d1 : w2.cell? ⟨b, 1, none⟩ = some v := by rw [Lib.cell_of_heap hb2]; rfl
  have f1 : w2.frozen? ⟨b, 1, none⟩ = false := Lib.frozen_of_heap hb2 1
  have hml : m = xs.length := by have := hown'.1; omega
  have hown'' : w2.ownsRow 0 (ρ.t 5) 1 (.slice ao n' cap) xs.length xs := by rw [← hml]; exact hown'
  have hne' : (Value.slice ao n' cap).ownBlock ≠ some b := Lib.ownBlock_ne hown'' hb2 X.neB5
  clear happ hml hown''
  go_wp2_with (at_builtin; refine wpB_run rfl _ _ (ρ.t 37) (ρ.t 9) rfl _ (.slice ao n' cap) rfl s rfl hr ?_)
  go_ret2
  refine ⟨rfl, ⟨hgrow.os.trans hch.os, hgrow.tape.trans hch.tape, hgrow.output.trans hch.output, ?_, fun k hk hkb hkg => ?_⟩, _, by simp [World.setCell, Array.getElem?_modify, hb2]; rfl, ?_, ?_, fun g' cs hg1 hg2 => ?_⟩
  · have := hgrow.size
    simp [World.setCell]; omega
  · rw [Below.heap_setCell _ _ _ _ hkb, hgrow.block k (by omega) hkg]
    exact hch.block k hk hkb (by simp)
  · exact hown'.kept (row := some b) ⟨rfl, rfl, rfl, by simp [World.setCell], fun k _ hk => Below.heap_setCell _ _ _ _ (fun e => hk (by simp [e]))⟩ (Or.inr hne')
  · rcases hfr with hfr | hfr
    · exact .inl hfr
    · exact .inr ⟨_, hfr, by omega⟩
  · have hgb : g' ≠ b := fun e => hgb (by rw [hg1, e])
    obtain ⟨cs', k1, k2⟩ := hrow g' cs hg1 (by rw [hch.block g' (Array.getElem?_eq_some_iff.1 hg2).1 hgb (by simp)]; exact hg2)
    exact ⟨cs', by rw [Below.heap_setCell _ _ _ _ hgb]; exact k1, k2⟩
set_option maxHeartbeats 1000000 in
set_option maxRecDepth 100000 in
theorem bString (L : Lays.n169 P ρ) (X : Builder.Extra P ρ) (b g cap : Nat) (p : Value) (cur : Array Value) (l : List UInt8) (w : World) (hbk : w.heap[b]? = some (.cells #[p, .slice (some ⟨g, 0, none⟩) l.length cap] (ρ.t 72) (0, 0))) (h0 : l ≠ [])
    (hg : w.heap[g]? = some (.cells cur (ρ.t 5) (0, 0))) (hnc : l.length ≤ cap) (hcm : cap ≤ maxLen) (hcs : cur.size = cap) (htake : cur.toList.take l.length = Lib.byteCells l) :
    Calls P (ρ.f 169) #[.pointer (some ⟨b, 0, none⟩)] w fun e w' => e = .returned (.string ⟨l.toArray⟩) ∧ Chg w w' g none ∧ ∃ fr, w'.heap[g]? = some (.cells cur (ρ.t 5) fr) := by
  have hl0 : l.length ≠ 0 := by simpa using h0
  have hown : w.ownsRow 0 (ρ.t 5) 1 (.slice (some ⟨g, 0, none⟩) l.length cap) l.length (Lib.byteCells l) := ⟨by rw [Lib.byteCells_length, Nat.mul_one], .inr ⟨g, cap, cur, rfl, Nat.zero_le _, hg, hnc, hcm, by omega, by rw [Nat.mul_one]; exact htake⟩⟩
  have c1 : w.drew.cell? ⟨b, 1, none⟩ = some (.slice (some ⟨g, 0, none⟩) l.length cap) := by
    have : w.drew.heap[b]? = some (.cells #[p, .slice (some ⟨g, 0, none⟩) l.length cap] (ρ.t 72) (0, 0)) := hbk
    rw [Lib.cell_of_heap this]; rfl
  have hSD : (Builtin.unsafeSliceData_ #[(ρ.t 37)] (ρ.t 127) #[.slice (some ⟨g, 0, none⟩) l.length cap]).run P w.drew = .ok (.pointer (some ⟨g, 0, none⟩)) w.drew :=
    Lib.run_unsafeSliceData_row _ _ _ _ _ _ (by omega)
  have hUS : (Builtin.unsafeString_ #[(ρ.t 127), (ρ.t 3)] (ρ.t 9) #[.pointer (some ⟨g, 0, none⟩), .int .i64 l.length]).run P w.drew = .ok (.string ⟨l.toArray⟩) (w.drew.freeze ⟨g, 0, none⟩ l.length) := by
    refine Lib.run_unsafeString_row w.drew (ρ.t 127) (ρ.t 3) (ρ.t 9) (ρ.t 5) L.t127 X.cellsByte g cur.size (by have hg' : w.drew.heap[g]? = some (.cells cur (ρ.t 5) (0, 0)) := hg; simp [World.shape?, hg']) l h0 (by omega) (by unfold maxLen at hcm; omega) ?_
    intro j x hx
    have := hown.cells (g := g) rfl j (.int .u8 x.toNat) (by simp [Lib.byteCells, hx])
    exact this
  have hfin : Chg w (w.drew.freeze ⟨g, 0, none⟩ l.length) g none ∧ ∃ fr, (w.drew.freeze ⟨g, 0, none⟩ l.length).heap[g]? = some (.cells cur (ρ.t 5) fr) := by
    have hg' : w.drew.heap[g]? = some (.cells cur (ρ.t 5) (0, 0)) := hg
    unfold World.freeze
    rw [if_neg hl0]
    refine ⟨⟨rfl, rfl, rfl, by simp, fun k hk hkb _ => ?_⟩, ?_⟩
    · simp only [Array.getElem?_modify]
      rw [if_neg (by omega)]
      rfl
    · simp only [Array.getElem?_modify, if_true, hg', Option.map_some]
      exact ⟨_, rfl⟩
  have mixed := L.mixed
  have t72 := L.t72; have a72 := L.a72; have z72 := L.z72; have v72 := L.v72; have u72 := run_underlying L.t72
  have t70 := L.t70; have a70 := L.a70; have z70 := L.z70; have v70 := L.v70; have u70 := run_underlying L.t70
  have t37 := L.t37; have a37 := L.a37; have z37 := L.z37; have v37 := L.v37; have u37 := run_underlying L.t37
  have t127 := L.t127; have a127 := L.a127; have z127 := L.z127; have v127 := L.v127; have u127 := run_underlying L.t127
  have t3 := L.t3; have a3 := L.a3; have z3 := L.z3; have v3 := L.v3; have u3 := run_underlying L.t3
  have t9 := L.t9; have a9 := L.a9; have z9 := L.z9; have v9 := L.v9; have u9 := run_underlying L.t9
  have t5 := X.t5; have a5 := X.a5; have z5 := X.z5; have v5 := X.v5; have u5 := run_underlying X.t5
  go_enter L.f169, Body.n169_ntmps ρ
  go_wp2
  go_region_o
  all_goals (go_wp2; go_ret; exact ⟨rfl, hfin⟩)
end Go.Proofs.YtlglgcmpeabdnaaDoorAi
end

section
/- Contracts: strings.Builder as an owned object: triples of WriteString and String. -/
namespace Go.Proofs.YtlglgcmpeabdnaaDoorAi
open Go Go.RowKit Go.Shelf
set_option linter.unusedVariables false
set_option linter.unusedSimpArgs false
set_option maxRecDepth 20000

def bytesA (s : ByteArray) : List AV := s.data.toList.map fun x => .int .u8 x.toNat
@[simp] theorem bytesA_len (s : ByteArray) : (bytesA s).length = s.size := by simp [bytesA]
theorem bytesA_app (a b : ByteArray) : bytesA (a ++ b) = bytesA a ++ bytesA b := by
  unfold bytesA
  rw [ByteArray.data_append, Array.toList_append, List.map_append]
def unB : List AV → Option (List UInt8)
  | [] => some []
  | .int .u8 n :: r => if 0 ≤ n ∧ n < 256 then (unB r).map (UInt8.ofNat n.toNat :: ·) else none
  | _ => none
theorem unB_map : ∀ l : List UInt8, unB (l.map fun x => AV.int .u8 x.toNat) = some l
  | [] => rfl
  | x :: r => by
    have h := x.toNat_lt
    rw [List.map_cons, unB, if_pos ⟨by omega, by omega⟩, unB_map r]
    simp
theorem unB_bytes (s : ByteArray) : unB (bytesA s) = some s.data.toList := unB_map _
theorem unB_vals {σ : Sg} : ∀ (cs : List AV) (l : List UInt8) (vs : List Value), unB cs = some l → RepL σ cs vs → vs = Lib.byteCells l
  | [], l, vs, h, hr => by
    obtain rfl : [] = l := Option.some.inj h
    have := hr.1
    cases vs with
    | nil => rfl
    | cons _ _ => simp at this
  | c :: r, l, vs, h, hr => by
    obtain ⟨v, us, rfl, h1, h2⟩ := hr.head
    unfold unB at h
    split at h
    · rename_i heq; cases heq
    · rename_i n r' heq
      injection heq with e1 e2
      subst e1; subst e2
      split at h
      · rename_i hn
        obtain ⟨l', hl', rfl⟩ := Option.map_eq_some_iff.1 h
        have ih := unB_vals r l' us hl' h2
        subst ih
        cases h1
        simp only [Lib.byteCells, List.map_cons, List.cons.injEq, and_true, Value.int.injEq, true_and]
        have : (UInt8.ofNat n.toNat).toNat = n.toNat := by simp; omega
        omega
      · cases h
    · cases h
/-! ### memory that changes in one block and one row -/
theorem Sim.chg {B : Nat → Prop} {σ : Sg} {A : AHeap} {w w' : World} (h : Sim B σ A w) {c : Nat} {g : Option Nat} (hc : Chg w w' c g) (hBc : ¬ B c) (hBg : ∀ k, g = some k → ¬ B k) (hmc : σ.mem c = none) (hmg : ∀ k, g = some k → σ.mem k = none)
    (hlive : ∀ b cs c' n, A b = some cs → σ.nm b = some (c', n) → c' ≠ c ∧ some c' ≠ g) (hsame : ∀ (k : Nat), (k = c ∨ some k = g) → ∀ (cs : Array Value) (e : TypeId) (fr : Nat × Nat), w.heap[k]? = some (.cells cs e fr) → ∃ (cs' : Array Value) (fr' : Nat × Nat), w'.heap[k]? = some (.cells cs' e fr') ∧ cs'.size = cs.size) : Sim B σ A w' := by
  have hlt : ∀ (k : Nat) (o : Obj), w.heap[k]? = some o → k < w.heap.size := fun k o e => (Array.getElem?_eq_some_iff.1 e).1
  have hblk : ∀ (k : Nat) (cs : Array Value) (e : TypeId) (fr : Nat × Nat), w.heap[k]? = some (.cells cs e fr) → ∃ (cs' : Array Value) (fr' : Nat × Nat), w'.heap[k]? = some (.cells cs' e fr') ∧ cs'.size = cs.size := fun k cs e fr hk => by
    by_cases hx : k = c ∨ some k = g
    · exact hsame k hx cs e fr hk
    · exact ⟨cs, fr, by rw [hc.block k (hlt k _ hk) (fun e => hx (.inl e)) (fun e => hx (.inr e))]; exact hk, rfl⟩
  refine ⟨fun k hk => Nat.lt_of_lt_of_le (h.base k hk) hc.size, fun b o e => ?_, h.low, fun b k n e => ?_, h.tot, fun b cs e => (h.own b cs e).same fun k n hn => ?_, h.inj, fun k e he => ?_⟩
  · have h1 := h.mem b o e
    rw [hc.block b (hlt b _ h1) (fun hb => by rw [hb, hmc] at e; cases e) (fun hb => by rw [hmg b hb.symm] at e; cases e)]
    exact h1
  · obtain ⟨h1, cs, t, fr, h2, h3⟩ := h.nm b k n e
    obtain ⟨cs', fr', h4, h5⟩ := hblk k cs t fr h2
    exact ⟨h1, cs', t, fr', h4, by rw [h5, h3]⟩
  · obtain ⟨h1, h2⟩ := hlive b cs k n e hn
    exact hc.block k (h.nmLt hn) h1 h2
  · obtain ⟨cs, fr, h2⟩ := h.ty k e he
    obtain ⟨cs', fr', h4, _⟩ := hblk k cs e fr h2
    exact ⟨cs', fr', h4⟩
theorem Chg.keeps {B : Nat → Prop} {w0 w w' : World} {c : Nat} {g : Option Nat} (hc : Chg w w' c g) (hb : Keeps B w0 w) (hlt : ∀ k, B k → k < w.heap.size) (hBc : ¬ B c) (hBg : ∀ k, g = some k → ¬ B k) : Keeps B w0 w' :=
  hb.trans ⟨hc.os, hc.tape, hc.output, hc.size, fun k hk => hc.block k (hlt k hk) (fun e => hBc (e ▸ hk)) (fun e => hBg k e.symm hk)⟩
/-- An object is owned again. -/
theorem Sim.revive {B : Nat → Prop} {σ : Sg} {A : AHeap} {w : World} (h : Sim B σ A w) {b c : Nat} {cur : Array Value} {e : TypeId} (hn : σ.nm b = some (c, cur.size)) (hB : ¬ B c) (hm : σ.mem c = none) (hh : w.heap[c]? = some (.cells cur e (0, 0)))
    (cs : List AV) (hl : cs.length ≤ cur.size) (hr : ∀ (j : Nat) x, cs[j]? = some x → ∃ v, cur[j]? = some v ∧ Rep σ x v ∧ v.oneCell' = true) (ho : ∀ b' cs' n, A b' = some cs' → σ.nm b' ≠ some (c, n)) : Sim B σ (A.set b cs) w := by
  refine ⟨h.base, h.mem, h.low, fun i c n e => by rw [AHeap.set_n]; exact h.nm i c n e, fun i hi => h.tot i (by simpa using hi), fun i ob hi => ?_, fun i i' o o' c1 n n' e1 e2 e3 e4 => ?_, h.ty⟩
  · rw [AHeap.set_at] at hi
    split at hi
    · rename_i hib
      obtain rfl := Option.some.inj hi
      rw [hib.1]
      exact ⟨c, cur, e, hn, hB, hm, hh, hl, hr⟩
    · exact h.own i ob hi
  · rw [AHeap.set_at] at e1 e2
    split at e1
    · rename_i h1
      split at e2
      · rename_i h2
        exact h1.1.trans h2.1.symm
      · rename_i h2
        rw [h1.1, hn] at e3
        injection e3 with e3; injection e3 with e3 _
        subst e3
        exact absurd e4 (ho i' o' n' e2)
    · rename_i h1
      split at e2
      · rename_i h2
        rw [h2.1, hn] at e4
        injection e4 with e4; injection e4 with e4 _
        subst e4
        exact absurd e3 (ho i o n e1)
      · exact h.inj i i' _ _ c1 n n' e1 e2 e3 e4
/-! ### WriteString -/
/-- The number of the type strings.Builder. -/
def bT : TypeId := Tryd.lays156_ren.t 72
def wsR (n : Nat) : AV := .tup [.int .i64 n, .nili]
/-- The heap behind a write: `b`'s object shows a new row. -/
def wsH (A A0 : AHeap) (b n : Nat) (cs : List AV) : AHeap := (A0.push cs).set b [.ptr b 0, .ref A.n 1 0 n .u8]
def spWS : List AV → AHeap → Option (AV × AHeap)
  | [.ep (.ptr b 0) e 0, .str s], A => if e = bT then (A b).bind fun o => match o with
      | [.nilp, .sl [] true] => if s.size ≠ 0 ∧ s.size ≤ 140737488355328 then some (wsR s.size, wsH A (A.del b) b s.size (bytesA s)) else none
      | [.ptr b' 0, .ref k 1 0 n .u8] => if b' = b ∧ k ≠ b ∧ n ≠ 0 ∧ n + s.size ≤ 140737488355328 then (A k).bind fun cs => if cs.length = n then some (wsR s.size, wsH A ((A.del b).del k) b (n + s.size) (cs ++ bytesA s)) else none else none
      | _ => none else none
  | _, _ => none
theorem bytes_rep (σ : Sg) (s : ByteArray) : RepL σ (bytesA s) (Lib.strCells s) := by
  refine ⟨by simp [Lib.strCells_length], fun i c v hc hv => ?_⟩
  simp only [bytesA, List.getElem?_map, Option.map_eq_some_iff] at hc
  obtain ⟨x, hx, rfl⟩ := hc
  simp only [Lib.strCells, List.getElem?_map, hx, Option.map_some, Option.some.injEq] at hv
  subst hv
  exact .int _ _
theorem strCells_one {s : ByteArray} : ∀ v ∈ Lib.strCells s, v.oneCell' = true := by
  intro v hv
  simp only [Lib.strCells, List.mem_map] at hv
  obtain ⟨x, _, rfl⟩ := hv
  rfl
/-- What a write leaves, in triples' words. -/
theorem ws_end {B : Nat → Prop} {w0 w w' : World} {σ : Sg} {A A0 : AHeap} (hs : Sim B σ A w) (hb : Keeps B w0 w) {b c : Nat} {g : Option Nat} {s : ByteArray} {v' : Value} {cs : List AV} {xs : List Value} (hnc : σ.nm b = some (c, 2)) (hBc : ¬ B c) (hmc : σ.mem c = none) (hBg : ∀ k, g = some k → ¬ B k) (hmg : ∀ k, g = some k → σ.mem k = none)
    (hA0 : A0.le A) (hAn : A0.n = A.n) (hbA : b < A.n) (hlive : ∀ b' cs c' n, A0 b' = some cs → σ.nm b' = some (c', n) → c' ≠ c ∧ some c' ≠ g) (hc : Chg w w' c g)
    (hsame : ∀ (k : Nat), (k = c ∨ some k = g) → ∀ (cs : Array Value) (e : TypeId) (fr : Nat × Nat), w.heap[k]? = some (.cells cs e fr) → ∃ (cs' : Array Value) (fr' : Nat × Nat), w'.heap[k]? = some (.cells cs' e fr') ∧ cs'.size = cs.size)
    {te : TypeId} (hbk : w'.heap[c]? = some (.cells #[.pointer (some ⟨c, 0, none⟩), v'] te (0, 0))) (hte : te ≠ u8T) {n : Nat} (hn : n ≠ 0) (hown : w'.ownsRow 0 u8T 1 v' n xs) (hcs : RepL σ cs xs) (hone : ∀ v ∈ xs, v.oneCell' = true)
    (hfr : v'.ownBlock = g ∨ ∃ k, v'.ownBlock = some k ∧ w.heap.size ≤ k) :
    ∃ σ', σ.Le σ' ∧ Sim B σ' (wsH A A0 b n cs) w' ∧ Keeps B w0 w' := by
  obtain ⟨g', cap, cur, rfl, _, hg', hnc', hcm, hcs', htake⟩ : ∃ g' cap cur, v' = .slice (some ⟨g', 0, none⟩) n cap ∧ 0 ≤ g' ∧ w'.heap[g']? = some (.cells cur u8T (0, 0)) ∧ n ≤ cap ∧ cap ≤ maxLen ∧ cur.size = cap * 1 ∧ cur.toList.take (n * 1) = xs := by
    rcases hown.2 with ⟨_, hz⟩ | ⟨g', cap, cur, hv, r⟩
    · exact absurd hz hn
    · exact ⟨g', cap, cur, hv, r⟩
  rw [Nat.mul_one] at hcs' htake
  have hk : Keeps B w0 w' := hc.keeps hb hs.base hBc hBg
  have h0 : Sim B σ A0 w' := (hs.drop hA0 hAn).chg hc hBc hBg hmc hmg hlive hsame
  have hfresh : ∀ k, w.heap.size ≤ k → ¬ B k ∧ σ.mem k = none ∧ ∀ b n, σ.nm b ≠ some (k, n) := fun k hk => ⟨fun hB => by have := hs.base k hB; omega, by
    cases e : σ.mem k with
    | none => rfl
    | some o => have := (Array.getElem?_eq_some_iff.1 (hs.mem _ _ e)).1; omega, fun b n e => by have := hs.nmLt e; omega⟩
  have hgg : ¬ B g' ∧ σ.mem g' = none ∧ ∀ b' cs n, A0 b' = some cs → σ.nm b' ≠ some (g', n) := by
    rcases hfr with hfr | ⟨k, hfr, hle⟩
    · have hfr : some g' = g := hfr
      exact ⟨hBg g' hfr.symm, hmg g' hfr.symm, fun b' cs n h1 h2 => (hlive b' cs g' n h1 h2).2 hfr⟩
    · have hfr : some g' = some k := hfr
      obtain rfl := Option.some.inj hfr
      obtain ⟨k1, k2, k3⟩ := hfresh g' hle
      exact ⟨k1, k2, fun b' cs n h1 h2 => k3 b' n h2⟩
  have hgc : g' ≠ c := fun e => by
    rw [e, hbk] at hg'
    injection hg' with hg'; injection hg' with _ h2 _
    exact hte h2
  have hlen : cs.length = n := by have := hcs.1; have h2 := hown.1; omega
  obtain ⟨l1, s1⟩ := h0.name (c := g') (cur := cur) (e := u8T) (cs := cs) hgg.1 hgg.2.1 hg' (by omega) (fun j x hx => by
    have hlt : j < xs.length := by rw [← hcs.1]; exact (List.getElem?_eq_some_iff.1 hx).1
    obtain ⟨u, hv⟩ : ∃ u, xs[j]? = some u := ⟨_, List.getElem?_eq_getElem hlt⟩
    refine ⟨u, ?_, hcs.2 j x _ hx hv, hone _ (List.mem_of_getElem? hv)⟩
    have h3 := hv
    rw [← htake, List.getElem?_take] at h3
    split at h3
    · rw [Array.getElem?_toList] at h3; rw [h3]
    · cases h3) hgg.2.2
  rw [hAn] at l1 s1
  obtain ⟨l2, s2⟩ := s1.withTy (c := g') (e := u8T) ⟨_, _, hg'⟩
  have hnm2 : ((σ.withNm A.n g' cur.size).withTy g' u8T).nm b = some (c, 2) := (l1.trans l2).nm b _ hnc
  have hnmN : ((σ.withNm A.n g' cur.size).withTy g' u8T).nm A.n = some (g', cur.size) := by simp [Sg.withTy, Sg.withNm]
  have s3 := s2.revive (b := b) (c := c) (cur := #[.pointer (some ⟨c, 0, none⟩), .slice (some ⟨g', 0, none⟩) n cap]) (e := te) hnm2 hBc hmc hbk [.ptr b 0, .ref A.n 1 0 n .u8] (by simp) (fun j x hx => by
    match j, hx with
    | 0, hx =>
      obtain rfl := Option.some.inj hx
      exact ⟨_, rfl, .ptr b 0 c 2 hnm2, rfl⟩
    | 1, hx =>
      obtain rfl := Option.some.inj hx
      exact ⟨_, rfl, .ref A.n 1 0 n .u8 ⟨g', 0, none⟩ cap g' cur.size hnc' hcm (fun h => by cases h) (fun _ => rfl) hnmN (by omega) (fun h => by cases h) (fun _ => ⟨by omega, by simp [Sg.withTy]⟩), rfl⟩
    | j + 2, hx => cases hx) (fun b' cs' m h1 h2 => by
    have h2 : (if b' = A.n then some (g', cur.size) else σ.nm b') = some (c, m) := h2
    split at h2
    · injection h2 with h2; injection h2 with h2 _
      exact hgc h2
    · rename_i hne
      rw [AHeap.push_at, hAn, if_neg hne] at h1
      exact (hlive b' cs' c m h1 h2).1 rfl)
  exact ⟨_, l1.trans l2, s3, hk⟩
theorem lays166 : Lays.n166 Tryd.prog Tryd.lays156_ren := { Tryd.lays156 with }
theorem lays169 : Lays.n169 Tryd.prog Tryd.lays156_ren := { Tryd.lays156 with }
theorem bT_ne : bT ≠ u8T := Tryd.Builder_Extra_156.neB5
/-- A builder's object, of which the type is known. -/
theorem bObj {B : Nat → Prop} {σ : Sg} {A : AHeap} {w : World} (hs : Sim B σ A w) {b c : Nat} {x y : AV} (hb : A b = some [x, y]) (hn : σ.nm b = some (c, 2)) (hty : σ.ty c = some bT) :
    ¬ B c ∧ σ.mem c = none ∧ ∃ p v, w.heap[c]? = some (.cells #[p, v] bT (0, 0)) ∧ Rep σ x p ∧ Rep σ y v := by
  obtain ⟨c', cur, te, k1, k2, k3, k4, k5, k6⟩ := hs.own b _ hb
  rw [hn] at k1
  injection k1 with k1; injection k1 with e1 e2
  subst e1
  obtain ⟨cs1, fr1, h4⟩ := hs.ty c _ hty
  rw [k4] at h4
  injection h4 with h4; injection h4 with _ h5 _
  subst h5
  obtain ⟨p, p1, p2, _⟩ := k6 0 x rfl
  obtain ⟨v, v1, v2, _⟩ := k6 1 y rfl
  have hc : cur = #[p, v] := by
    apply Array.ext
    · exact e2.symm
    · intro i h1 h2
      match i, h1, h2 with
      | 0, h1, h2 => rw [Array.getElem?_eq_getElem h1] at p1; simpa using Option.some.inj p1
      | 1, h1, h2 => rw [Array.getElem?_eq_getElem h1] at v1; simpa using Option.some.inj v1
      | i + 2, h1, h2 => simp at h2; omega
  subst hc
  exact ⟨k2, k3, p, v, k4, p2, v2⟩
/-- The row of a builder. -/
theorem bRow {B : Nat → Prop} {σ : Sg} {A : AHeap} {w : World} (hs : Sim B σ A w) {k n : Nat} {cs : List AV} (hk : A k = some cs) (hl : cs.length = n) (hn : n ≠ 0) {v : Value} (hr : Rep σ (.ref k 1 0 n .u8) v) :
    ∃ g cap cur sz, σ.nm k = some (g, sz) ∧ v = .slice (some ⟨g, 0, none⟩) n cap ∧ ¬ B g ∧ σ.mem g = none ∧ w.heap[g]? = some (.cells cur u8T (0, 0)) ∧ n ≤ cap ∧ cap ≤ maxLen ∧ cur.size = cap ∧ RepL σ cs (cur.toList.take n) ∧ ∀ v ∈ cur.toList.take n, v.oneCell' = true := by
  obtain ⟨ad, cap, g, sz, rfl, h1, h2, h3, h4, h5, h6, h7, h8⟩ := hr.refInv
  obtain ⟨h9, h10⟩ := h8 rfl
  obtain ⟨g', cur, te, k1, k2, k3, k4, k5, k6⟩ := hs.own k _ hk
  have k0 := h5
  rw [h5] at k1
  injection k1 with k1; injection k1 with e1 e2
  subst e1
  obtain ⟨cs1, fr1, h11⟩ := hs.ty g _ h10
  rw [k4] at h11
  injection h11 with h11; injection h11 with _ h12 _
  subst h12
  have had := h4 (by omega)
  subst had
  have hll : (cur.toList.take n).length = n := by rw [List.length_take, Array.length_toList]; omega
  have hget : ∀ (j : Nat) (u : Value), (cur.toList.take n)[j]? = some u → cur[j]? = some u := fun j u hu => by
    rw [List.getElem?_take] at hu
    split at hu
    · simpa using hu
    · cases hu
  refine ⟨g, cap, cur, sz, k0, by simp, k2, k3, k4, h1, h2, by omega, ⟨by omega, fun i c u hc hu => ?_⟩, fun u hu => ?_⟩
  · obtain ⟨u', u1, u2, _⟩ := k6 i c hc
    rw [hget i u hu] at u1
    obtain rfl := Option.some.inj u1
    exact u2
  · obtain ⟨i, hi⟩ := List.mem_iff_getElem?.1 hu
    have hlt : i < cs.length := by have := (List.getElem?_eq_some_iff.1 hi).1; omega
    obtain ⟨u', u1, _, u3⟩ := k6 i cs[i] (List.getElem?_eq_getElem hlt)
    rw [hget i u hi] at u1
    obtain rfl := Option.some.inj u1
    exact u3
theorem e_strings_Builder_WriteString : QE PP 36 spWS := by
  intro args A r A1 e
  refine ⟨⟨_, Tryd.func36, by kernel_rfl, by kernel_rfl⟩, fun B w0 σ w vs hG hb hs ha => ?_⟩
  have X := Tryd.Builder_Extra_156
  obtain ⟨i0, hi, hz0, hz1, hz2⟩ := info_parts X.infoByte
  have t37 := lays166.t37
  have t9 := lays166.t9
  unfold spWS at e
  split at e
  · rename_i b t s
    split at e
    · rename_i hbt
      replace e := Option.bind_eq_some_iff.1 e
      obtain ⟨o, ho, e⟩ := e
      obtain ⟨pv, us, rfl, r1, r2⟩ := ha.head
      obtain ⟨sv, us2, rfl, r3, r4⟩ := r2.head
      obtain rfl : us2 = [] := List.eq_nil_of_length_eq_zero r4.1.symm
      cases r3
      cases r1 with
      | eptr _ _ c hn hty =>
      rw [hbt] at hty
      have hbA : b < A.n := AHeap.lt ho
      split at e
      · split at e
        · rename_i hsz
          obtain ⟨rfl, rfl⟩ := Prod.mk.inj (Option.some.inj e)
          obtain ⟨hBc, hmc, p, v, hh, hp, hv⟩ := bObj hs ho hn hty
          cases hp
          have hv' : ∃ a, v = .slice a 0 0 := by
            cases hv with
            | slnil _ a cap h1 h2 h3 => exact ⟨a, by rw [h1 rfl]⟩
            | sl _ _ b' off s' cap val h1 h2 h3 => exact ⟨_, by rw [h3 rfl]; rfl⟩
          obtain ⟨a, rfl⟩ := hv'
          refine (bWrite lays166 X c _ _ s w none s.size (Lib.strCells s) (.inl rfl) hh (by simp) (fun w1 hc1 hsz1 => ?_)).mono ?_
          · obtain ⟨v', w', hr, h2, h3, h4⟩ := bApp0 (P := Tryd.prog) w1 _ _ 0 _ i0 t37 t9 hi hz0 hz1 hz2 a s hsz.1 (by unfold maxLen; omega) hsz.2
            exact ⟨v', w', hr, h2, h3, .inr h4, fun g' cs hg => (by cases hg)⟩
          · rintro e w' ⟨rfl, hc, v', hbk, hown, hfr, hrow⟩
            obtain ⟨σ', s1, s2, s3⟩ := ws_end (A0 := A.del b) (s := s) (te := bT) (n := s.size) (cs := bytesA s) hs hb hn hBc hmc (fun k h => (by cases h)) (fun k h => (by cases h)) (AHeap.del_le A b) (AHeap.del_n A b) hbA (fun b' cs c' m h1 h2 => ⟨fun hcc => by
              rw [AHeap.del_at] at h1
              split at h1
              · cases h1
              · rename_i hne
                subst hcc
                exact hne (hs.inj _ _ _ _ _ _ _ h1 ho h2 hn), by simp⟩) hc (fun k hk cs e fr he => by
              rcases hk with rfl | hk
              · rw [hh] at he
                injection he with he; injection he with e1 e2 e3
                subst e1; subst e2
                exact ⟨_, _, hbk, rfl⟩
              · cases hk) hbk bT_ne hsz.1 hown (bytes_rep _ _) strCells_one hfr
            exact ⟨_, _, _, σ', rfl, ⟨rfl, rfl⟩, s1, s2, .tup [.int .i64 s.size, .nili] [.int .i64 s.size, .nilIface] rfl (fun i c v h1 h2 => by
              match i, h1, h2 with
              | 0, h1, h2 => obtain rfl := Option.some.inj h1; obtain rfl := Option.some.inj h2; exact .int _ _
              | 1, h1, h2 => obtain rfl := Option.some.inj h1; obtain rfl := Option.some.inj h2; exact .nili
              | i + 2, h1, h2 => cases h1), s3⟩
        · cases e
      · rename_i b' k n
        split at e
        · rename_i hcond
          obtain ⟨hbb, hkb, hn0, hle⟩ := hcond
          obtain rfl : b = b' := hbb.symm
          replace e := Option.bind_eq_some_iff.1 e
          obtain ⟨cs, hk, e⟩ := e
          split at e
          · rename_i hlen
            obtain ⟨rfl, rfl⟩ := Prod.mk.inj (Option.some.inj e)
            obtain ⟨hBc, hmc, p, v, hh, hp, hv⟩ := bObj hs ho hn hty
            have hp' : p = .pointer (some ⟨c, 0, none⟩) := by
              cases hp with
              | ptr _ _ c2 sz h1 => rw [hn] at h1; injection h1 with h1; injection h1 with h1 _; rw [h1]
            subst hp'
            obtain ⟨g, cap, cur, sz, hnk, rfl, hBg, hmg, hg, h1, h2, h3, h4, h5⟩ := bRow hs hk hlen hn0 hv
            have hgc : g ≠ c := fun e => hkb (hs.inj _ _ _ _ _ _ _ hk ho (by rw [hnk, e]) hn)
            refine (bWrite lays166 X c _ _ s w (some g) (n + s.size) (cur.toList.take n ++ Lib.strCells s) (.inr rfl) hh (fun e => hgc (Option.some.inj e)) (fun w1 hc1 hsz1 => ?_)).mono ?_
            · have hg1 : w1.heap[g]? = some (.cells cur u8T (0, 0)) := by
                rw [hc1.block g (Array.getElem?_eq_some_iff.1 hg).1 hgc (by simp)]; exact hg
              obtain ⟨v', w', hr, h6, h7, h8, h9⟩ := bApp (P := Tryd.prog) w1 _ _ 0 _ i0 t37 t9 hi hz0 hz1 hz2 (.slice (some ⟨g, 0, none⟩) n cap) n (cur.toList.take n) ⟨by rw [List.length_take, Array.length_toList]; omega, .inr ⟨g, cap, cur, rfl, Nat.zero_le _, hg1, h1, h2, by omega, by rw [Nat.mul_one]⟩⟩ s (by unfold maxLen; omega) hle
              exact ⟨v', w', hr, h6, h7, h8, h9⟩
            · rintro e w' ⟨rfl, hc, v', hbk, hown, hfr, hrow⟩
              obtain ⟨σ', s1, s2, s3⟩ := ws_end (A0 := (A.del b).del k) (s := s) (te := bT) (n := n + s.size) (cs := cs ++ bytesA s) hs hb hn hBc hmc (fun k' h => by obtain rfl := Option.some.inj h; exact hBg) (fun k' h => by obtain rfl := Option.some.inj h; exact hmg) ((AHeap.del_le _ k).trans (AHeap.del_le A b)) (by rw [AHeap.del_n, AHeap.del_n]) hbA (fun b' cs c' m h1 h2 => by
                rw [AHeap.del_at, AHeap.del_at] at h1
                split at h1
                · cases h1
                · rename_i hne1
                  split at h1
                  · cases h1
                  · rename_i hne2
                    refine ⟨fun hcc => ?_, fun hcc => ?_⟩
                    · subst hcc
                      exact hne2 (hs.inj _ _ _ _ _ _ _ h1 ho h2 hn)
                    · obtain rfl := Option.some.inj hcc
                      exact hne1 (hs.inj _ _ _ _ _ _ _ h1 hk h2 hnk)) hc (fun k' hk' cs e fr he => by
                rcases hk' with rfl | hk'
                · rw [hh] at he
                  injection he with he; injection he with e1 e2 e3
                  subst e1; subst e2
                  exact ⟨_, _, hbk, rfl⟩
                · obtain rfl := Option.some.inj hk'
                  rw [hg] at he
                  injection he with he; injection he with e1 e2 e3
                  subst e1; subst e2
                  obtain ⟨cs', q1, q2⟩ := hrow _ _ rfl hg
                  exact ⟨cs', _, q1, q2⟩) hbk bT_ne (by omega) hown (h4.append (bytes_rep _ _)) (fun v hv => by
                rcases List.mem_append.1 hv with hv | hv
                · exact h5 v hv
                · exact strCells_one v hv) hfr
              exact ⟨_, _, _, σ', rfl, ⟨rfl, rfl⟩, s1, s2, .tup [.int .i64 s.size, .nili] [.int .i64 s.size, .nilIface] rfl (fun i c v h1 h2 => by
                match i, h1, h2 with
                | 0, h1, h2 => obtain rfl := Option.some.inj h1; obtain rfl := Option.some.inj h2; exact .int _ _
                | 1, h1, h2 => obtain rfl := Option.some.inj h1; obtain rfl := Option.some.inj h2; exact .nili
                | i + 2, h1, h2 => cases h1), s3⟩
          · cases e
        · cases e
      · cases e
    · cases e
  · cases e
/-! ### String -/
def spBS : List AV → AHeap → Option (AV × AHeap)
  | [.ep (.ptr b 0) e 0], A => if e = bT then (A b).bind fun o => match o with
      | [.ptr b' 0, .ref k 1 0 n .u8] => if b' = b ∧ k ≠ b ∧ n ≠ 0 then (A k).bind fun cs => if cs.length = n then (unB cs).map fun l => (.str ⟨l.toArray⟩, A.del k) else none else none
      | _ => none else none
  | _, _ => none
theorem e_strings_Builder_String : QE PP 41 spBS := by
  intro args A r A1 e
  refine ⟨⟨_, Tryd.func41, by kernel_rfl, by kernel_rfl⟩, fun B w0 σ w vs hG hb hs ha => ?_⟩
  have X := Tryd.Builder_Extra_156
  unfold spBS at e
  split at e
  · rename_i b t
    split at e
    · rename_i hbt
      replace e := Option.bind_eq_some_iff.1 e
      obtain ⟨o, ho, e⟩ := e
      obtain ⟨pv, us, rfl, r1, r4⟩ := ha.head
      obtain rfl : us = [] := List.eq_nil_of_length_eq_zero r4.1.symm
      cases r1 with
      | eptr _ _ c hn hty =>
      rw [hbt] at hty
      split at e
      · rename_i b' k n
        split at e
        · rename_i hcond
          obtain ⟨hbb, hkb, hn0⟩ := hcond
          obtain rfl : b = b' := hbb.symm
          replace e := Option.bind_eq_some_iff.1 e
          obtain ⟨cs, hk, e⟩ := e
          split at e
          · rename_i hlen
            replace e := Option.map_eq_some_iff.1 e
            obtain ⟨l, hl, e⟩ := e
            obtain ⟨rfl, rfl⟩ := Prod.mk.inj e
            obtain ⟨hBc, hmc, p, v, hh, hp, hv⟩ := bObj hs ho hn hty
            obtain ⟨g, cap, cur, sz, hnk, rfl, hBg, hmg, hg, h1, h2, h3, h4, h5⟩ := bRow hs hk hlen hn0 hv
            have hbl := unB_vals cs l _ hl h4
            have hll : l.length = n := by
              have := congrArg List.length hbl
              rw [Lib.byteCells_length, List.length_take, Array.length_toList] at this
              omega
            subst hll
            refine (bString lays169 X c g cap p cur l w hh (fun e => hn0 (by rw [e]; rfl)) hg h1 h2 h3 hbl).mono ?_
            rintro e w' ⟨rfl, hc, fr, hg'⟩
            refine ⟨_, _, _, σ, rfl, ⟨rfl, rfl⟩, .refl σ, (hs.drop (AHeap.del_le A k) (AHeap.del_n A k)).chg hc hBg (fun k' h => (by cases h)) hmg (fun k' h => (by cases h)) (fun b' cs c' m h1 h2 => ⟨fun hcc => ?_, by simp⟩) (fun k' hk' cs e fr' he => ?_), .str _, hc.keeps hb hs.base hBg (fun k' h => (by cases h))⟩
            · rw [AHeap.del_at] at h1
              split at h1
              · cases h1
              · rename_i hne
                subst hcc
                exact hne (hs.inj _ _ _ _ _ _ _ h1 hk h2 hnk)
            · rcases hk' with rfl | hk'
              · rw [hg] at he
                injection he with he; injection he with e1 e2 e3
                subst e1; subst e2
                exact ⟨_, _, hg', rfl⟩
              · cases hk'
          · cases e
        · cases e
      · cases e
    · cases e
  · cases e
end Go.Proofs.YtlglgcmpeabdnaaDoorAi
end

section
/- Data of the program, and how they lie. -/
namespace Go.Proofs.YtlglgcmpeabdnaaDoorAi
open Go Go.RowKit
set_option linter.unusedVariables false
set_option linter.unusedSimpArgs false

structure Fr where
  p : Int
  q : Int
  deriving DecidableEq
structure Gr where
  n : Int
  e : Int
  deriving DecidableEq
structure Fl where
  l : Int
  g : Gr
  deriving DecidableEq

abbrev frA (x : Fr) : AV := .agg [.int .i64 x.p, .int .i64 x.q]
abbrev grA (x : Gr) : AV := .agg [.int .i64 x.n, .int .u32 x.e]
abbrev flA (x : Fl) : AV := .agg [.int .i64 x.l, .int .i64 x.g.n, .int .u32 x.g.e]
abbrev inA (n : Int) : AV := .int .i64 n

/-- A list of encoded data. -/
def mapA {α : Type} (f : α → AV) (l : List α) : List AV := l.map f
@[simp] theorem mapA_length {α : Type} (f : α → AV) (l : List α) : (mapA f l).length = l.length := by simp [mapA]
@[simp] theorem mapA_get {α : Type} (f : α → AV) (l : List α) (i : Nat) : (mapA f l)[i]? = (l[i]?).map f := by simp [mapA]
@[simp] theorem mapA_getElem {α : Type} (f : α → AV) (l : List α) (i : Nat) (h : i < (mapA f l).length) : (mapA f l)[i] = f (l[i]'(by simpa using h)) := by simp [mapA]
theorem mapA_inj {α : Type} {f : α → AV} (hf : ∀ x y, f x = f y → x = y) : ∀ {l k : List α}, mapA f l = mapA f k → l = k
  | [], [], _ => rfl
  | [], _ :: _, h => by simp [mapA] at h
  | _ :: _, [], h => by simp [mapA] at h
  | x :: l, y :: k, h => by
    simp only [mapA, List.map_cons, List.cons.injEq] at h
    rw [hf _ _ h.1, mapA_inj hf (show mapA f l = mapA f k from h.2)]
theorem frA_inj (x y : Fr) (h : frA x = frA y) : x = y := by cases x; cases y; simp_all
theorem grA_inj (x y : Gr) (h : grA x = grA y) : x = y := by cases x; cases y; simp_all
theorem flA_inj (x y : Fl) (h : flA x = flA y) : x = y := by rcases x with ⟨_, _, _⟩; rcases y with ⟨_, _, _⟩; simp_all
theorem inA_inj (x y : Int) (h : inA x = inA y) : x = y := by simpa using h
abbrev frsA (l : List Fr) : List AV := mapA frA l
@[simp] theorem frsA_inj {l k : List Fr} : mapA frA l = mapA frA k ↔ l = k := ⟨mapA_inj frA_inj, fun h => by rw [h]⟩
@[simp] theorem grsA_inj {l k : List Gr} : mapA grA l = mapA grA k ↔ l = k := ⟨mapA_inj grA_inj, fun h => by rw [h]⟩
@[simp] theorem flsA_inj {l k : List Fl} : mapA flA l = mapA flA k ↔ l = k := ⟨mapA_inj flA_inj, fun h => by rw [h]⟩
@[simp] theorem insA_inj {l k : List Int} : mapA inA l = mapA inA k ↔ l = k := ⟨mapA_inj inA_inj, fun h => by rw [h]⟩

theorem take_snoc {α : Type} (ps : List α) (i : Nat) (h : i < ps.length) : ps.take (i + 1) = ps.take i ++ [ps[i]] := by
  rw [List.take_add_one, List.getElem?_eq_getElem h]; rfl
theorem wrapNat {i : Nat} (h : i < 9223372036854775807) : IntKind.i64.wrap ((i : Int) + 1) = (i : Int) + 1 := wrapI64 (by omega) (by omega)

/-- Nothing is forgotten but temporaries: the first objects are the same. -/
theorem Sub.keep {N : Nat} {s : St} {l : List (Nat × AV)} {os : List (Option (List AV))} (hN : N ≤ os.length) (hs : hsub (fun b => b) os.length s.A 0 os) (ht : ∀ p ∈ l, p.2.lt os.length = true ∧ s.t p.1 = p.2) : Sub N s ⟨tl l, ⟨os⟩⟩ := by
  obtain ⟨h1, h2⟩ := hsub_get hs
  refine ⟨fun b => b, hN, fun _ _ => rfl, ⟨fun b hb => by simpa using h1 b hb, fun b cs hb => by simpa using h2 b cs hb, fun b b' cs cs' e1 e2 e => e⟩, tl_sub fun p hp => ⟨(ht p hp).1, by rw [ren_id]; exact (ht p hp).2⟩⟩

end Go.Proofs.YtlglgcmpeabdnaaDoorAi
end

section
/- MADE BY PROGRAM (wip/tools/gen.py): the abstract code of functions. -/
namespace Go.Proofs.YtlglgcmpeabdnaaDoorAi
open Go AC AOp Opd
set_option linter.unusedVariables false
set_option maxRecDepth 100000
def c_impl_in : AC := seq (reg [⟨(some 6), mv (c (.bool false)), none⟩]) (seq (reg [⟨(some 7), mv (t 0), none⟩, ⟨(some 8), mv (t 1), none⟩, ⟨(some 9), bin .geq (t 7) (t 8), none⟩, ⟨(some 10), mv (t 9), none⟩, ⟨(some 11), mv (t 0), some (10, true)⟩, ⟨(some 12), mv (t 2), some (10, true)⟩, ⟨(some 13), bin .leq (t 11) (t 12), some (10, true)⟩, ⟨(some 14), pick (t 10) (t 13) (c (.bool false)), none⟩, ⟨(some 6), mv (t 14), none⟩]) (ret))
def r_impl_in : List ARes := [.tmp 6]
theorem k_impl_in : acLin Go.Proofs.Tryd.prog 50 3 (inQ [] []) [] = some (c_impl_in, r_impl_in) := by kernel_rfl
def c_spec_l00In : AC := seq (reg [⟨(some 6), mv (c (.bool false)), none⟩]) (seq (reg [⟨(some 7), mv (t 0), none⟩, ⟨(some 8), mv (t 1), none⟩, ⟨(some 9), bin .geq (t 7) (t 8), none⟩, ⟨(some 10), mv (t 9), none⟩, ⟨(some 11), mv (t 0), some (10, true)⟩, ⟨(some 12), mv (t 2), some (10, true)⟩, ⟨(some 13), bin .leq (t 11) (t 12), some (10, true)⟩, ⟨(some 14), pick (t 10) (t 13) (c (.bool false)), none⟩, ⟨(some 6), mv (t 14), none⟩]) (ret))
def r_spec_l00In : List ARes := [.tmp 6]
theorem k_spec_l00In : acLin Go.Proofs.Tryd.prog 43 3 (inQ [] []) [] = some (c_spec_l00In, r_spec_l00In) := by kernel_rfl
def c_impl_pairs : AC := seq (reg [⟨(some 2), mv (c (.int .i64 0)), none⟩]) (seq (reg [⟨(some 3), mv (t 0), none⟩, ⟨(some 4), mv (t 0), none⟩, ⟨(some 5), bin .sub (t 4) (c (.int .i64 1)), none⟩, ⟨(some 6), bin .mul (t 3) (t 5), none⟩, ⟨(some 7), bin .quo (t 6) (c (.int .i64 2)), none⟩, ⟨(some 2), mv (t 7), none⟩]) (ret))
def r_impl_pairs : List ARes := [.tmp 2]
theorem k_impl_pairs : acLin Go.Proofs.Tryd.prog 60 1 (inQ [] []) [] = some (c_impl_pairs, r_impl_pairs) := by kernel_rfl
def c_spec_l01Bits : AC := seq (reg [⟨(some 2), mv (c (.int .i64 0)), none⟩]) (seq (reg [⟨(some 3), mv (t 0), none⟩, ⟨(some 4), mv (t 0), none⟩, ⟨(some 5), bin .sub (t 4) (c (.int .i64 1)), none⟩, ⟨(some 6), bin .mul (t 3) (t 5), none⟩, ⟨(some 7), bin .quo (t 6) (c (.int .i64 2)), none⟩, ⟨(some 2), mv (t 7), none⟩]) (ret))
def r_spec_l01Bits : List ARes := [.tmp 2]
theorem k_spec_l01Bits : acLin Go.Proofs.Tryd.prog 44 1 (inQ [] []) [] = some (c_spec_l01Bits, r_spec_l01Bits) := by kernel_rfl
def c_impl_ValidGraph : AC := seq (reg [⟨(some 1), box 2 (t 0), none⟩, ⟨(some 2), mv (c (.bool false)), none⟩]) (seq (reg [⟨(some 3), fad (t 1) 0, none⟩, ⟨(some 4), ld (t 3) 1 false, none⟩, ⟨(some 5), callq (c (.fn 50 [])) [t 4, c (.int .i64 0), c (.int .i64 5)], none⟩, ⟨(some 6), mv (t 5), none⟩, ⟨(some 7), fad (t 1) 1, some (6, true)⟩, ⟨(some 8), ld (t 7) 1 false, some (6, true)⟩, ⟨(some 9), fad (t 1) 0, some (6, true)⟩, ⟨(some 10), ld (t 9) 1 false, some (6, true)⟩, ⟨(some 11), callq (c (.fn 60 [])) [t 10], some (6, true)⟩, ⟨(some 12), bin .shr (t 8) (t 11), some (6, true)⟩, ⟨(some 13), bin .eql (t 12) (c (.int .u32 0)), some (6, true)⟩, ⟨(some 14), pick (t 6) (t 13) (c (.bool false)), none⟩, ⟨(some 2), mv (t 14), none⟩]) (ret))
def r_impl_ValidGraph : List ARes := [.tmp 2]
theorem k_impl_ValidGraph : acLin Go.Proofs.Tryd.prog 49 1 (inQ [50, 60] []) [⟨false, none, [], [], none⟩, ⟨false, some [0, 1, 2, 3, 4, 5, 6, 7, 8, 9, 10, 11, 12], [], [], none⟩] = some (c_impl_ValidGraph, r_impl_ValidGraph) := by kernel_rfl
def c_spec_l01Ok : AC := seq (reg [⟨(some 1), box 2 (t 0), none⟩, ⟨(some 2), mv (c (.bool false)), none⟩]) (seq (reg [⟨(some 3), fad (t 1) 0, none⟩, ⟨(some 4), ld (t 3) 1 false, none⟩, ⟨(some 5), callq (c (.fn 43 [])) [t 4, c (.int .i64 0), c (.int .i64 5)], none⟩, ⟨(some 6), mv (t 5), none⟩, ⟨(some 7), fad (t 1) 1, some (6, true)⟩, ⟨(some 8), ld (t 7) 1 false, some (6, true)⟩, ⟨(some 9), conv .i64 (t 8), some (6, true)⟩, ⟨(some 10), fad (t 1) 0, some (6, true)⟩, ⟨(some 11), ld (t 10) 1 false, some (6, true)⟩, ⟨(some 12), callq (c (.fn 44 [])) [t 11], some (6, true)⟩, ⟨(some 13), conv .u64 (t 12), some (6, true)⟩, ⟨(some 14), bin .shl (c (.int .i64 1)) (t 13), some (6, true)⟩, ⟨(some 15), bin .lss (t 9) (t 14), some (6, true)⟩, ⟨(some 16), pick (t 6) (t 15) (c (.bool false)), none⟩, ⟨(some 2), mv (t 16), none⟩]) (ret))
def r_spec_l01Ok : List ARes := [.tmp 2]
theorem k_spec_l01Ok : acLin Go.Proofs.Tryd.prog 21 1 (inQ [43, 44] []) [⟨false, none, [], [], none⟩, ⟨false, some [0, 1, 2, 3, 4, 5, 6, 7, 8, 9, 10, 11, 12, 13, 14], [], [], none⟩] = some (c_spec_l01Ok, r_spec_l01Ok) := by kernel_rfl
def c_impl_size : AC := seq (reg [⟨(some 2), mv (c (.int .i64 0)), none⟩]) (seq (reg [⟨(some 3), mv (t 0), none⟩, ⟨(some 4), mv (t 0), none⟩, ⟨(some 5), un .neg (t 4), none⟩, ⟨(some 6), max (t 3) (t 5), none⟩, ⟨(some 2), mv (t 6), none⟩]) (ret))
def r_impl_size : List ARes := [.tmp 2]
theorem k_impl_size : acLin Go.Proofs.Tryd.prog 67 1 (inQ [] []) [] = some (c_impl_size, r_impl_size) := by kernel_rfl
def c_impl_gcd : AC := seq (reg [⟨(some 4), mv (c (.int .i64 0)), none⟩]) (seq (block 0 (loop (seq (seq (reg [⟨(some 5), mv (t 1), none⟩, ⟨(some 6), bin .neq (t 5) (c (.int .i64 0)), none⟩]) (cond (t 6) (skip) (exit 0))) (block 1 (reg [⟨(some 7), mv (t 1), none⟩, ⟨(some 8), mv (t 0), none⟩, ⟨(some 9), mv (t 1), none⟩, ⟨(some 10), bin .rem (t 8) (t 9), none⟩, ⟨(some 0), mv (t 7), none⟩, ⟨(some 1), mv (t 10), none⟩]))))) (seq (reg [⟨(some 11), mv (t 0), none⟩, ⟨(some 12), callq (c (.fn 67 [])) [t 11], none⟩, ⟨(some 4), mv (t 12), none⟩]) (ret)))
def r_impl_gcd : List ARes := [.tmp 4]
theorem k_impl_gcd : acLin Go.Proofs.Tryd.prog 61 2 (inQ [67] []) [⟨false, none, [], [], none⟩, ⟨false, none, [], [], none⟩, ⟨false, none, [], [], none⟩, ⟨false, some [0, 1, 2, 3, 4, 5], [], [], none⟩] = some (c_impl_gcd, r_impl_gcd) := by kernel_rfl
def c_spec_l02Abs : AC := seq (reg [⟨(some 2), mv (c (.int .i64 0)), none⟩]) (seq (seq (reg [⟨(some 3), mv (t 0), none⟩, ⟨(some 4), bin .lss (t 3) (c (.int .i64 0)), none⟩]) (cond (t 4) (seq (reg [⟨(some 5), mv (t 0), none⟩, ⟨(some 6), un .neg (t 5), none⟩, ⟨(some 2), mv (t 6), none⟩]) (ret)) (skip))) (seq (reg [⟨(some 7), mv (t 0), none⟩, ⟨(some 2), mv (t 7), none⟩]) (ret)))
def r_spec_l02Abs : List ARes := [.tmp 2]
theorem k_spec_l02Abs : acLin Go.Proofs.Tryd.prog 29 1 (inQ [] []) [] = some (c_spec_l02Abs, r_spec_l02Abs) := by kernel_rfl
def c_spec_l02Common : AC := seq (reg [⟨(some 4), mv (c (.int .i64 0)), none⟩]) (seq (block 0 (loop (seq (seq (reg [⟨(some 6), mv (t 1), none⟩, ⟨(some 7), bin .neq (t 6) (c (.int .i64 0)), none⟩]) (cond (t 7) (skip) (exit 0))) (block 1 (seq (reg [⟨(some 8), mv (t 0), none⟩, ⟨(some 9), mv (t 1), none⟩, ⟨(some 10), bin .rem (t 8) (t 9), none⟩, ⟨(some 5), mv (t 10), none⟩]) (seq (reg [⟨(some 11), mv (t 1), none⟩, ⟨(some 0), mv (t 11), none⟩]) (reg [⟨(some 12), mv (t 5), none⟩, ⟨(some 1), mv (t 12), none⟩]))))))) (seq (reg [⟨(some 13), mv (t 0), none⟩, ⟨(some 4), mv (t 13), none⟩]) (ret)))
def r_spec_l02Common : List ARes := [.tmp 4]
theorem k_spec_l02Common : acLin Go.Proofs.Tryd.prog 48 2 (inQ [] []) [] = some (c_spec_l02Common, r_spec_l02Common) := by kernel_rfl
def c_impl_ValidFraction : AC := seq (reg [⟨(some 1), box 2 (t 0), none⟩, ⟨(some 2), mv (c (.bool false)), none⟩]) (seq (reg [⟨(some 3), fad (t 1) 1, none⟩, ⟨(some 4), ld (t 3) 1 false, none⟩, ⟨(some 5), bin .gtr (t 4) (c (.int .i64 0)), none⟩, ⟨(some 6), mv (t 5), none⟩, ⟨(some 7), fad (t 1) 0, some (6, true)⟩, ⟨(some 8), ld (t 7) 1 false, some (6, true)⟩, ⟨(some 9), bin .geq (t 8) (c (.int .i64 (-1000000000))), some (6, true)⟩, ⟨(some 10), pick (t 6) (t 9) (c (.bool false)), none⟩, ⟨(some 11), mv (t 10), none⟩, ⟨(some 12), fad (t 1) 0, some (11, true)⟩, ⟨(some 13), ld (t 12) 1 false, some (11, true)⟩, ⟨(some 14), bin .leq (t 13) (c (.int .i64 1000000000)), some (11, true)⟩, ⟨(some 15), pick (t 11) (t 14) (c (.bool false)), none⟩, ⟨(some 16), mv (t 15), none⟩, ⟨(some 17), fad (t 1) 1, some (16, true)⟩, ⟨(some 18), ld (t 17) 1 false, some (16, true)⟩, ⟨(some 19), bin .leq (t 18) (c (.int .i64 1000000000)), some (16, true)⟩, ⟨(some 20), pick (t 16) (t 19) (c (.bool false)), none⟩, ⟨(some 21), mv (t 20), none⟩, ⟨(some 22), fad (t 1) 0, some (21, true)⟩, ⟨(some 23), ld (t 22) 1 false, some (21, true)⟩, ⟨(some 24), fad (t 1) 1, some (21, true)⟩, ⟨(some 25), ld (t 24) 1 false, some (21, true)⟩, ⟨(some 26), callq (c (.fn 61 [])) [t 23, t 25], some (21, true)⟩, ⟨(some 27), bin .eql (t 26) (c (.int .i64 1)), some (21, true)⟩, ⟨(some 28), pick (t 21) (t 27) (c (.bool false)), none⟩, ⟨(some 2), mv (t 28), none⟩]) (ret))
def r_impl_ValidFraction : List ARes := [.tmp 2]
theorem k_impl_ValidFraction : acLin Go.Proofs.Tryd.prog 51 1 (inQ [61] []) [] = some (c_impl_ValidFraction, r_impl_ValidFraction) := by kernel_rfl
def c_spec_l02Ok : AC := seq (reg [⟨(some 1), box 2 (t 0), none⟩, ⟨(some 2), mv (c (.bool false)), none⟩]) (seq (reg [⟨(some 3), fad (t 1) 0, none⟩, ⟨(some 4), ld (t 3) 1 false, none⟩, ⟨(some 5), callq (c (.fn 43 [])) [t 4, c (.int .i64 (-1000000000)), c (.int .i64 1000000000)], none⟩, ⟨(some 6), mv (t 5), none⟩, ⟨(some 7), fad (t 1) 1, some (6, true)⟩, ⟨(some 8), ld (t 7) 1 false, some (6, true)⟩, ⟨(some 9), callq (c (.fn 43 [])) [t 8, c (.int .i64 1), c (.int .i64 1000000000)], some (6, true)⟩, ⟨(some 10), pick (t 6) (t 9) (c (.bool false)), none⟩, ⟨(some 11), mv (t 10), none⟩, ⟨(some 12), fad (t 1) 0, some (11, true)⟩, ⟨(some 13), ld (t 12) 1 false, some (11, true)⟩, ⟨(some 14), callq (c (.fn 29 [])) [t 13], some (11, true)⟩, ⟨(some 15), fad (t 1) 1, some (11, true)⟩, ⟨(some 16), ld (t 15) 1 false, some (11, true)⟩, ⟨(some 17), callq (c (.fn 48 [])) [t 14, t 16], some (11, true)⟩, ⟨(some 18), bin .eql (t 17) (c (.int .i64 1)), some (11, true)⟩, ⟨(some 19), pick (t 11) (t 18) (c (.bool false)), none⟩, ⟨(some 2), mv (t 19), none⟩]) (ret))
def r_spec_l02Ok : List ARes := [.tmp 2]
theorem k_spec_l02Ok : acLin Go.Proofs.Tryd.prog 28 1 (inQ [29, 43, 48] []) [⟨false, none, [], [], none⟩, ⟨false, some [0, 1, 2, 3, 4, 5, 6, 7, 8, 9, 10, 11, 12, 13, 14, 15, 16, 17], [], [], none⟩] = some (c_spec_l02Ok, r_spec_l02Ok) := by kernel_rfl
def c_impl_badFraction : AC := seq (reg [⟨(some 1), box 2 (t 0), none⟩, ⟨(some 2), mv (c (.bool false)), none⟩]) (seq (reg [⟨(some 3), ld (t 1) 2 true, none⟩, ⟨(some 4), callq (c (.fn 51 [])) [t 3], none⟩, ⟨(some 5), un .not (t 4), none⟩, ⟨(some 2), mv (t 5), none⟩]) (ret))
def r_impl_badFraction : List ARes := [.tmp 2]
theorem k_impl_badFraction : acLin Go.Proofs.Tryd.prog 33 1 (inQ [51] []) [] = some (c_impl_badFraction, r_impl_badFraction) := by kernel_rfl
def c_impl_zero : AC := seq (reg [⟨(some 0), alloc [.int .i64 0, .int .i64 0], none⟩]) (seq (reg [⟨(some 1), bld [.int .i64 0, .int .i64 0] [(0, 1, c (.int .i64 0)), (1, 1, c (.int .i64 1))], none⟩, ⟨none, st (t 0) 2 (t 1), none⟩]) (ret))
def r_impl_zero : List ARes := [.cell 0 2 true]
theorem k_impl_zero : acLin Go.Proofs.Tryd.prog 32 0 (inQ [] []) [] = some (c_impl_zero, r_impl_zero) := by kernel_rfl
def c_impl_one : AC := seq (reg [⟨(some 0), alloc [.int .i64 0, .int .i64 0], none⟩]) (seq (reg [⟨(some 1), bld [.int .i64 0, .int .i64 0] [(0, 1, c (.int .i64 1)), (1, 1, c (.int .i64 1))], none⟩, ⟨none, st (t 0) 2 (t 1), none⟩]) (ret))
def r_impl_one : List ARes := [.cell 0 2 true]
theorem k_impl_one : acLin Go.Proofs.Tryd.prog 35 0 (inQ [] []) [] = some (c_impl_one, r_impl_one) := by kernel_rfl
def c_spec_l02Zero : AC := seq (reg [⟨(some 0), alloc [.int .i64 0, .int .i64 0], none⟩]) (seq (reg [⟨(some 1), bld [.int .i64 0, .int .i64 0] [(1, 1, c (.int .i64 1))], none⟩, ⟨none, st (t 0) 2 (t 1), none⟩]) (ret))
def r_spec_l02Zero : List ARes := [.cell 0 2 true]
theorem k_spec_l02Zero : acLin Go.Proofs.Tryd.prog 45 0 (inQ [] []) [] = some (c_spec_l02Zero, r_spec_l02Zero) := by kernel_rfl
def c_spec_l02One : AC := seq (reg [⟨(some 2), alloc [.int .i64 0, .int .i64 0], none⟩]) (seq (reg [⟨(some 3), mv (t 0), none⟩, ⟨(some 4), bld [.int .i64 0, .int .i64 0] [(0, 1, t 3), (1, 1, c (.int .i64 1))], none⟩, ⟨none, st (t 2) 2 (t 4), none⟩]) (ret))
def r_spec_l02One : List ARes := [.cell 2 2 true]
theorem k_spec_l02One : acLin Go.Proofs.Tryd.prog 25 1 (inQ [] []) [] = some (c_spec_l02One, r_spec_l02One) := by kernel_rfl
end Go.Proofs.YtlglgcmpeabdnaaDoorAi
end

section
/- Contracts: bounds, numbers of pairs, validity of graphs. -/
namespace Go.Proofs.YtlglgcmpeabdnaaDoorAi
open Go Go.RowKit
set_option linter.unusedVariables false
set_option linter.unusedSimpArgs false

noncomputable def sp_in : List AV → Option (AV) := pf (ι := (Int) × (Int) × (Int)) (α := AV) (fun ⟨n, lo, hi⟩ => True) (fun ⟨n, lo, hi⟩ => [.int .i64 n, .int .i64 lo, .int .i64 hi]) (fun ⟨n, lo, hi⟩ => .bool (decide (lo ≤ n) && decide (n ≤ hi)))
theorem sp_in_eq (n lo hi : Int) : sp_in [.int .i64 n, .int .i64 lo, .int .i64 hi] = some (.bool (decide (lo ≤ n) && decide (n ≤ hi))) := by
  unfold sp_in
  exact pf_eq (ι := (Int) × (Int) × (Int)) (α := AV) (n, lo, hi) trivial (by rintro ⟨n', lo', hi'⟩ _ e; simp_all [Int.natCast_inj])
attribute [simp] sp_in_eq
theorem q_impl_in : QP PP 50 sp_in := by
  refine QP_pf (fun i h => ?_) fun i h => ?_
  · obtain ⟨n, lo, hi⟩ := i; exact ⟨by first | rfl | simp, by first | rfl | simp⟩
  obtain ⟨n, lo, hi⟩ := i
  replace h : True := h
  refine P_code Quiet.nil hmix k_impl_in rfl ?_ ?_
  · first | rfl | simp
  show wpc 0 PP _ c_impl_in (initSt [.int .i64 n, .int .i64 lo, .int .i64 hi] .nil) (endP r_impl_in (.bool (decide (lo ≤ n) && decide (n ≤ hi))))
  simp -dsimp -implicitDefEqProofs [c_impl_in, r_impl_in]
  repeat' (refine brW_of (fun h => ?_) (fun h => ?_) <;> have h0 := h <;> (try simp only [Bool.and_eq_true, Bool.and_eq_false_iff, Bool.or_eq_true, Bool.or_eq_false_iff, Bool.not_eq_true', Bool.not_eq_false', decide_eq_true_eq, decide_eq_false_iff_not, beq_iff_eq, beq_eq_false_iff_ne, bne_iff_ne, bne_eq_false_iff_eq] at h) <;> simp -dsimp -implicitDefEqProofs [h, h0])
theorem q_spec_l00In : QP PP 43 sp_in := by
  refine QP_pf (fun i h => ?_) fun i h => ?_
  · obtain ⟨n, lo, hi⟩ := i; exact ⟨by first | rfl | simp, by first | rfl | simp⟩
  obtain ⟨n, lo, hi⟩ := i
  replace h : True := h
  refine P_code Quiet.nil hmix k_spec_l00In rfl ?_ ?_
  · first | rfl | simp
  show wpc 0 PP _ c_spec_l00In (initSt [.int .i64 n, .int .i64 lo, .int .i64 hi] .nil) (endP r_spec_l00In (.bool (decide (lo ≤ n) && decide (n ≤ hi))))
  simp -dsimp -implicitDefEqProofs [c_spec_l00In, r_spec_l00In]
  repeat' (refine brW_of (fun h => ?_) (fun h => ?_) <;> have h0 := h <;> (try simp only [Bool.and_eq_true, Bool.and_eq_false_iff, Bool.or_eq_true, Bool.or_eq_false_iff, Bool.not_eq_true', Bool.not_eq_false', decide_eq_true_eq, decide_eq_false_iff_not, beq_iff_eq, beq_eq_false_iff_ne, bne_iff_ne, bne_eq_false_iff_eq] at h) <;> simp -dsimp -implicitDefEqProofs [h, h0])

def pairsI (n : Int) : Int := (n * (n - 1)).tdiv 2
theorem pI0 : pairsI 0 = 0 := by decide
theorem pI1 : pairsI 1 = 0 := by decide
theorem pI2 : pairsI 2 = 1 := by decide
theorem pI3 : pairsI 3 = 3 := by decide
theorem pI4 : pairsI 4 = 6 := by decide
theorem pI5 : pairsI 5 = 10 := by decide
noncomputable def sp_pairs : List AV → Option (AV) := pf (ι := (Int)) (α := AV) (fun n => 0 ≤ n ∧ n ≤ 5) (fun n => [.int .i64 n]) (fun n => .int .i64 (pairsI n))
theorem sp_pairs_eq (n : Int) (h : 0 ≤ n ∧ n ≤ 5) : sp_pairs [.int .i64 n] = some (.int .i64 (pairsI n)) := by
  unfold sp_pairs
  exact pf_eq (ι := (Int)) (α := AV) n h (by rintro n' _ e; simp_all [Int.natCast_inj])
theorem q_impl_pairs : QP PP 60 sp_pairs := by
  refine QP_pf (fun n h => ?_) fun n h => ?_
  · exact ⟨by first | rfl | simp, by first | rfl | simp⟩
  replace h : 0 ≤ n ∧ n ≤ 5 := h
  refine P_code Quiet.nil hmix k_impl_pairs rfl ?_ ?_
  · first | rfl | simp
  show wpc 0 PP _ c_impl_pairs (initSt [.int .i64 n] .nil) (endP r_impl_pairs (.int .i64 (pairsI n)))
  have h5 : n = 0 ∨ n = 1 ∨ n = 2 ∨ n = 3 ∨ n = 4 ∨ n = 5 := by omega
  rcases h5 with rfl | rfl | rfl | rfl | rfl | rfl <;> simp -dsimp -implicitDefEqProofs [c_impl_pairs, r_impl_pairs] <;> decide
theorem q_spec_l01Bits : QP PP 44 sp_pairs := by
  refine QP_pf (fun n h => ?_) fun n h => ?_
  · exact ⟨by first | rfl | simp, by first | rfl | simp⟩
  replace h : 0 ≤ n ∧ n ≤ 5 := h
  refine P_code Quiet.nil hmix k_spec_l01Bits rfl ?_ ?_
  · first | rfl | simp
  show wpc 0 PP _ c_spec_l01Bits (initSt [.int .i64 n] .nil) (endP r_spec_l01Bits (.int .i64 (pairsI n)))
  have h5 : n = 0 ∨ n = 1 ∨ n = 2 ∨ n = 3 ∨ n = 4 ∨ n = 5 := by omega
  rcases h5 with rfl | rfl | rfl | rfl | rfl | rfl <;> simp -dsimp -implicitDefEqProofs [c_spec_l01Bits, r_spec_l01Bits] <;> decide

theorem fdiv_zero {e m : Int} (hm : 0 < m) (h0 : 0 ≤ e) : (e.fdiv m == 0) = decide (e < m) := by
  rw [Int.fdiv_eq_ediv_of_nonneg _ (by omega), Bool.eq_iff_iff]
  simp
  constructor
  · intro h
    have := Int.emod_add_mul_ediv e m
    have := Int.emod_lt_of_pos e hm
    rw [h] at *
    omega
  · intro h
    exact Int.ediv_eq_zero_of_lt h0 h

def graphOk (n e : Int) : Bool := decide ((0 ≤ n ∧ n ≤ 5) ∧ e < 2 ^ (pairsI n).toNat)
noncomputable def sp_graphOk : List AV → Option (AV) := pf (ι := (Int) × (Int)) (α := AV) (fun ⟨n, e⟩ => 0 ≤ e ∧ e ≤ 4294967295) (fun ⟨n, e⟩ => [.agg [.int .i64 n, .int .u32 e]]) (fun ⟨n, e⟩ => .bool (graphOk n e))
theorem sp_graphOk_eq (n e : Int) (h : 0 ≤ e ∧ e ≤ 4294967295) : sp_graphOk [.agg [.int .i64 n, .int .u32 e]] = some (.bool (graphOk n e)) := by
  unfold sp_graphOk
  exact pf_eq (ι := (Int) × (Int)) (α := AV) (n, e) h (by rintro ⟨n', e'⟩ _ e; simp_all [Int.natCast_inj])
theorem q_impl_ValidGraph : QP PP 49 sp_graphOk := by
  refine QP_pf (fun i h => ?_) fun i h => ?_
  · obtain ⟨n, e⟩ := i; exact ⟨by first | rfl | simp, by first | rfl | simp⟩
  obtain ⟨n, e⟩ := i
  replace h : 0 ≤ e ∧ e ≤ 4294967295 := h
  refine P_code (Quiet.q1 q_impl_in (Quiet.q1 q_impl_pairs Quiet.nil)) hmix k_impl_ValidGraph rfl ?_ ?_
  · first | rfl | simp
  show wpc 0 PP _ c_impl_ValidGraph (initSt [.agg [.int .i64 n, .int .u32 e]] .nil) (endP r_impl_ValidGraph (.bool (graphOk n e)))
  simp -dsimp -implicitDefEqProofs [c_impl_ValidGraph, r_impl_ValidGraph]
  by_cases hn : 0 ≤ n ∧ n ≤ 5
  · have h5 : n = 0 ∨ n = 1 ∨ n = 2 ∨ n = 3 ∨ n = 4 ∨ n = 5 := by omega
    rcases h5 with rfl | rfl | rfl | rfl | rfl | rfl <;> simp -dsimp -implicitDefEqProofs [sp_pairs_eq, pI0, pI1, pI2, pI3, pI4, pI5, IntKind.bits]
    all_goals (try rw [fdiv_zero (by decide) h.1])
    all_goals (rw [Bool.eq_iff_iff]; simp [graphOk, pI0, pI1, pI2, pI3, pI4, pI5] <;> omega)
  · have hv : graphOk n e = false := decide_eq_false fun h => hn h.1
    have hv' : (decide (0 ≤ n) && decide (n ≤ 5)) = false := by simpa using hn
    simp -dsimp -implicitDefEqProofs [hv, hv']
theorem q_spec_l01Ok : QP PP 21 sp_graphOk := by
  refine QP_pf (fun i h => ?_) fun i h => ?_
  · obtain ⟨n, e⟩ := i; exact ⟨by first | rfl | simp, by first | rfl | simp⟩
  obtain ⟨n, e⟩ := i
  replace h : 0 ≤ e ∧ e ≤ 4294967295 := h
  refine P_code (Quiet.q1 q_spec_l00In (Quiet.q1 q_spec_l01Bits Quiet.nil)) hmix k_spec_l01Ok rfl ?_ ?_
  · first | rfl | simp
  show wpc 0 PP _ c_spec_l01Ok (initSt [.agg [.int .i64 n, .int .u32 e]] .nil) (endP r_spec_l01Ok (.bool (graphOk n e)))
  have em : e % 18446744073709551616 = e := by omega
  simp -dsimp -implicitDefEqProofs [c_spec_l01Ok, r_spec_l01Ok]
  by_cases hn : 0 ≤ n ∧ n ≤ 5
  · have h5 : n = 0 ∨ n = 1 ∨ n = 2 ∨ n = 3 ∨ n = 4 ∨ n = 5 := by omega
    rcases h5 with rfl | rfl | rfl | rfl | rfl | rfl <;> simp -dsimp -implicitDefEqProofs [sp_pairs_eq, pI0, pI1, pI2, pI3, pI4, pI5, IntKind.bits, IntKind.wrap, IntKind.signed]
    all_goals (rw [em, if_neg (by omega), Bool.eq_iff_iff]; simp [graphOk, pI0, pI1, pI2, pI3, pI4, pI5] <;> omega)
  · have hv : graphOk n e = false := decide_eq_false fun h => hn h.1
    have hv' : (decide (0 ≤ n) && decide (n ≤ 5)) = false := by simpa using hn
    simp -dsimp -implicitDefEqProofs [hv, hv']
noncomputable def sp_zero : List AV → Option (AV) := pf (ι := Unit) (α := AV) (fun _ => True) (fun _ => []) (fun _ => .agg [.int .i64 0, .int .i64 1])
theorem sp_zero_eq  : sp_zero [] = some (.agg [.int .i64 0, .int .i64 1]) := by
  unfold sp_zero
  exact pf_eq (ι := Unit) (α := AV) () trivial (by rintro _ _ e; simp_all [Int.natCast_inj])
attribute [simp] sp_zero_eq
theorem q_impl_zero : QP PP 32 sp_zero := by
  refine QP_pf (fun i h => ?_) fun i h => ?_
  · exact ⟨by first | rfl | simp, by first | rfl | simp⟩
  replace h : True := h
  refine P_code Quiet.nil hmix k_impl_zero rfl ?_ ?_
  · first | rfl | simp
  show wpc 0 PP _ c_impl_zero (initSt [] .nil) (endP r_impl_zero (.agg [.int .i64 0, .int .i64 1]))
  simp -dsimp -implicitDefEqProofs [c_impl_zero, r_impl_zero]
theorem q_spec_l02Zero : QP PP 45 sp_zero := by
  refine QP_pf (fun i h => ?_) fun i h => ?_
  · exact ⟨by first | rfl | simp, by first | rfl | simp⟩
  replace h : True := h
  refine P_code Quiet.nil hmix k_spec_l02Zero rfl ?_ ?_
  · first | rfl | simp
  show wpc 0 PP _ c_spec_l02Zero (initSt [] .nil) (endP r_spec_l02Zero (.agg [.int .i64 0, .int .i64 1]))
  simp -dsimp -implicitDefEqProofs [c_spec_l02Zero, r_spec_l02Zero]
noncomputable def sp_one : List AV → Option (AV) := pf (ι := Unit) (α := AV) (fun _ => True) (fun _ => []) (fun _ => .agg [.int .i64 1, .int .i64 1])
theorem sp_one_eq  : sp_one [] = some (.agg [.int .i64 1, .int .i64 1]) := by
  unfold sp_one
  exact pf_eq (ι := Unit) (α := AV) () trivial (by rintro _ _ e; simp_all [Int.natCast_inj])
attribute [simp] sp_one_eq
theorem q_impl_one : QP PP 35 sp_one := by
  refine QP_pf (fun i h => ?_) fun i h => ?_
  · exact ⟨by first | rfl | simp, by first | rfl | simp⟩
  replace h : True := h
  refine P_code Quiet.nil hmix k_impl_one rfl ?_ ?_
  · first | rfl | simp
  show wpc 0 PP _ c_impl_one (initSt [] .nil) (endP r_impl_one (.agg [.int .i64 1, .int .i64 1]))
  simp -dsimp -implicitDefEqProofs [c_impl_one, r_impl_one]
noncomputable def sp_whole : List AV → Option (AV) := pf (ι := (Int)) (α := AV) (fun n => True) (fun n => [.int .i64 n]) (fun n => .agg [.int .i64 n, .int .i64 1])
theorem sp_whole_eq (n : Int) : sp_whole [.int .i64 n] = some (.agg [.int .i64 n, .int .i64 1]) := by
  unfold sp_whole
  exact pf_eq (ι := (Int)) (α := AV) n trivial (by rintro n' _ e; simp_all [Int.natCast_inj])
attribute [simp] sp_whole_eq
theorem q_spec_l02One : QP PP 25 sp_whole := by
  refine QP_pf (fun n h => ?_) fun n h => ?_
  · exact ⟨by first | rfl | simp, by first | rfl | simp⟩
  replace h : True := h
  refine P_code Quiet.nil hmix k_spec_l02One rfl ?_ ?_
  · first | rfl | simp
  show wpc 0 PP _ c_spec_l02One (initSt [.int .i64 n] .nil) (endP r_spec_l02One (.agg [.int .i64 n, .int .i64 1]))
  simp -dsimp -implicitDefEqProofs [c_spec_l02One, r_spec_l02One]

end Go.Proofs.YtlglgcmpeabdnaaDoorAi
end

section
/- Contracts: common divisors, validity of fractions. -/
namespace Go.Proofs.YtlglgcmpeabdnaaDoorAi
open Go Go.RowKit
set_option linter.unusedVariables false
set_option linter.unusedSimpArgs false

theorem gcd_step (x y : Int) : Int.gcd y (x.tmod y) = Int.gcd x y := by
  unfold Int.gcd
  rw [Int.natAbs_tmod, Nat.gcd_comm, ← Nat.gcd_rec, Nat.gcd_comm]
theorem tmod_bound {a b : Int} (ha : -4611686018427387904 ≤ a ∧ a ≤ 4611686018427387904) : -4611686018427387904 ≤ a.tmod b ∧ a.tmod b ≤ 4611686018427387904 := by
  have h1 : (a.tmod b).natAbs = a.natAbs % b.natAbs := Int.natAbs_tmod ..
  have h2 : a.natAbs % b.natAbs ≤ a.natAbs := Nat.mod_le ..
  omega
theorem tmod_less {a b : Int} (hb : b ≠ 0) : (a.tmod b).natAbs < b.natAbs := by
  rw [Int.natAbs_tmod]
  exact Nat.mod_lt _ (by omega)

noncomputable def sp_size : List AV → Option (AV) := pf (ι := (Int)) (α := AV) (fun n => -4611686018427387904 ≤ n ∧ n ≤ 4611686018427387904) (fun n => [.int .i64 n]) (fun n => .int .i64 n.natAbs)
theorem sp_size_eq (n : Int) (h : -4611686018427387904 ≤ n ∧ n ≤ 4611686018427387904) : sp_size [.int .i64 n] = some (.int .i64 n.natAbs) := by
  unfold sp_size
  exact pf_eq (ι := (Int)) (α := AV) n h (by rintro n' _ e; simp_all [Int.natCast_inj])
theorem q_impl_size : QP PP 67 sp_size := by
  refine QP_pf (fun n h => ?_) fun n h => ?_
  · exact ⟨by first | rfl | simp, by first | rfl | simp⟩
  replace h : -4611686018427387904 ≤ n ∧ n ≤ 4611686018427387904 := h
  refine P_code Quiet.nil hmix k_impl_size rfl ?_ ?_
  · first | rfl | simp
  show wpc 0 PP _ c_impl_size (initSt [.int .i64 n] .nil) (endP r_impl_size (.int .i64 n.natAbs))
  have hw : IntKind.i64.wrap (-n) = -n := wrapI64 (by omega) (by omega)
  simp -dsimp -implicitDefEqProofs [c_impl_size, r_impl_size, hw]
  split <;> omega
theorem q_spec_l02Abs : QP PP 29 sp_size := by
  refine QP_pf (fun n h => ?_) fun n h => ?_
  · exact ⟨by first | rfl | simp, by first | rfl | simp⟩
  replace h : -4611686018427387904 ≤ n ∧ n ≤ 4611686018427387904 := h
  refine P_code Quiet.nil hmix k_spec_l02Abs rfl ?_ ?_
  · first | rfl | simp
  show wpc 0 PP _ c_spec_l02Abs (initSt [.int .i64 n] .nil) (endP r_spec_l02Abs (.int .i64 n.natAbs))
  have hw : IntKind.i64.wrap (-n) = -n := wrapI64 (by omega) (by omega)
  simp -dsimp -implicitDefEqProofs [c_spec_l02Abs, r_spec_l02Abs, hw]
  refine brW_of (fun h => ?_) (fun h => ?_) <;> simp only [decide_eq_true_eq, decide_eq_false_iff_not] at h <;> simp -dsimp -implicitDefEqProofs [h, hw] <;> omega

def in62 (n : Int) : Prop := -4611686018427387904 ≤ n ∧ n ≤ 4611686018427387904
noncomputable def sp_gcd : List AV → Option (AV) := pf (ι := (Int) × (Int)) (α := AV) (fun ⟨a, b⟩ => in62 a ∧ in62 b) (fun ⟨a, b⟩ => [.int .i64 a, .int .i64 b]) (fun ⟨a, b⟩ => .int .i64 (Int.gcd a b))
theorem sp_gcd_eq (a b : Int) (h : in62 a ∧ in62 b) : sp_gcd [.int .i64 a, .int .i64 b] = some (.int .i64 (Int.gcd a b)) := by
  unfold sp_gcd
  exact pf_eq (ι := (Int) × (Int)) (α := AV) (a, b) h (by rintro ⟨a', b'⟩ _ e; simp_all [Int.natCast_inj])
theorem q_impl_gcd : QP PP 61 sp_gcd := by
  refine QP_pf (fun i h => ?_) fun i h => ?_
  · obtain ⟨a, b⟩ := i; exact ⟨by first | rfl | simp, by first | rfl | simp⟩
  obtain ⟨a, b⟩ := i
  replace h : in62 a ∧ in62 b := h
  refine P_code (Quiet.q1 q_impl_size Quiet.nil) hmix k_impl_gcd rfl ?_ ?_
  · first | rfl | simp
  show wpc 0 PP _ c_impl_gcd (initSt [.int .i64 a, .int .i64 b] .nil) (endP r_impl_gcd (.int .i64 (Int.gcd a b)))
  simp -dsimp -implicitDefEqProofs [c_impl_gcd, r_impl_gcd]
  refine wpLoop_st (fun (x : Int × Int) => ⟨tl [(0, .int .i64 x.1), (1, .int .i64 x.2)], ⟨[]⟩⟩) (fun x => in62 x.1 ∧ in62 x.2 ∧ Int.gcd x.1 x.2 = Int.gcd a b) (fun x => x.2.natAbs) (a, b) ⟨h.1, h.2, rfl⟩ (Sub.keep (by simp) (by simp [hsub]) (by simp)) ?_
  rintro ⟨x, y⟩ ⟨bx, by_, hg⟩
  simp -dsimp -implicitDefEqProofs
  refine brW_of (fun h => ?_) (fun h => ?_)
  · have hy0 : y ≠ 0 := by simpa using h
    simp -dsimp -implicitDefEqProofs [hy0]
    exact .mk (y, x.tmod y) ⟨by_, tmod_bound bx, by rw [gcd_step]; exact hg⟩ (tmod_less hy0) (Sub.keep (by simp) (by simp [hsub]) (by simp))
  · have hy0 : y = 0 := by simpa using h
    subst hy0
    simp -dsimp -implicitDefEqProofs [sp_size_eq x bx]
    rw [← hg, Int.gcd_zero_right]

noncomputable def sp_common : List AV → Option (AV) := pf (ι := (Int) × (Int)) (α := AV) (fun ⟨a, b⟩ => (0 ≤ a ∧ a ≤ 4611686018427387904) ∧ (0 ≤ b ∧ b ≤ 4611686018427387904)) (fun ⟨a, b⟩ => [.int .i64 a, .int .i64 b]) (fun ⟨a, b⟩ => .int .i64 (Int.gcd a b))
theorem sp_common_eq (a b : Int) (h : (0 ≤ a ∧ a ≤ 4611686018427387904) ∧ (0 ≤ b ∧ b ≤ 4611686018427387904)) : sp_common [.int .i64 a, .int .i64 b] = some (.int .i64 (Int.gcd a b)) := by
  unfold sp_common
  exact pf_eq (ι := (Int) × (Int)) (α := AV) (a, b) h (by rintro ⟨a', b'⟩ _ e; simp_all [Int.natCast_inj])
theorem q_spec_l02Common : QP PP 48 sp_common := by
  refine QP_pf (fun i h => ?_) fun i h => ?_
  · obtain ⟨a, b⟩ := i; exact ⟨by first | rfl | simp, by first | rfl | simp⟩
  obtain ⟨a, b⟩ := i
  replace h : (0 ≤ a ∧ a ≤ 4611686018427387904) ∧ (0 ≤ b ∧ b ≤ 4611686018427387904) := h
  refine P_code Quiet.nil hmix k_spec_l02Common rfl ?_ ?_
  · first | rfl | simp
  show wpc 0 PP _ c_spec_l02Common (initSt [.int .i64 a, .int .i64 b] .nil) (endP r_spec_l02Common (.int .i64 (Int.gcd a b)))
  simp -dsimp -implicitDefEqProofs [c_spec_l02Common, r_spec_l02Common]
  refine wpLoop_st (fun (x : Int × Int) => ⟨tl [(0, .int .i64 x.1), (1, .int .i64 x.2)], ⟨[]⟩⟩) (fun x => (0 ≤ x.1 ∧ x.1 ≤ 4611686018427387904) ∧ (0 ≤ x.2 ∧ x.2 ≤ 4611686018427387904) ∧ Int.gcd x.1 x.2 = Int.gcd a b) (fun x => x.2.natAbs) (a, b) ⟨h.1, h.2, rfl⟩ (Sub.keep (by simp) (by simp [hsub]) (by simp)) ?_
  rintro ⟨x, y⟩ ⟨bx, by_, hg⟩
  simp -dsimp -implicitDefEqProofs
  simp only at bx by_
  refine brW_of (fun h => ?_) (fun h => ?_)
  · have hy0 : y ≠ 0 := by simpa using h
    simp -dsimp -implicitDefEqProofs [hy0]
    exact .mk (y, x.tmod y) ⟨by_, ⟨Int.tmod_nonneg _ bx.1, (tmod_bound ⟨by omega, bx.2⟩).2⟩, by rw [gcd_step]; exact hg⟩ (tmod_less hy0) (Sub.keep (by simp) (by simp [hsub]) (by simp))
  · have hy0 : y = 0 := by simpa using h
    subst hy0
    simp -dsimp -implicitDefEqProofs
    rw [← hg, Int.gcd_zero_right]
    omega

def frOk (p q : Int) : Bool := decide ((-1000000000 ≤ p ∧ p ≤ 1000000000) ∧ (1 ≤ q ∧ q ≤ 1000000000) ∧ Int.gcd p q = 1)
theorem gcd_abs (p q : Int) : Int.gcd (p.natAbs : Int) q = Int.gcd p q := by simp [Int.gcd]
noncomputable def sp_frOk : List AV → Option (AV) := pf (ι := (Int) × (Int)) (α := AV) (fun ⟨p, q⟩ => True) (fun ⟨p, q⟩ => [.agg [.int .i64 p, .int .i64 q]]) (fun ⟨p, q⟩ => .bool (frOk p q))
theorem sp_frOk_eq (p q : Int) : sp_frOk [.agg [.int .i64 p, .int .i64 q]] = some (.bool (frOk p q)) := by
  unfold sp_frOk
  exact pf_eq (ι := (Int) × (Int)) (α := AV) (p, q) trivial (by rintro ⟨p', q'⟩ _ e; simp_all [Int.natCast_inj])
attribute [simp] sp_frOk_eq
theorem q_spec_l02Ok : QP PP 28 sp_frOk := by
  refine QP_pf (fun i h => ?_) fun i h => ?_
  · obtain ⟨p, q⟩ := i; exact ⟨by first | rfl | simp, by first | rfl | simp⟩
  obtain ⟨p, q⟩ := i
  replace h : True := h
  refine P_code (Quiet.q1 q_spec_l00In (Quiet.q1 q_spec_l02Abs (Quiet.q1 q_spec_l02Common Quiet.nil))) hmix k_spec_l02Ok rfl ?_ ?_
  · first | rfl | simp
  show wpc 0 PP _ c_spec_l02Ok (initSt [.agg [.int .i64 p, .int .i64 q]] .nil) (endP r_spec_l02Ok (.bool (frOk p q)))
  simp -dsimp -implicitDefEqProofs [c_spec_l02Ok, r_spec_l02Ok]
  by_cases c1 : -1000000000 ≤ p ∧ p ≤ 1000000000
  · by_cases c2 : 1 ≤ q ∧ q ≤ 1000000000
    · have hv : frOk p q = ((Int.gcd p q : Int) == 1) := by
        unfold frOk
        rw [Bool.eq_iff_iff]
        simp [c1, c2]
        omega
      simp -dsimp -implicitDefEqProofs [sp_size_eq p (by omega), sp_common_eq p.natAbs q (by omega), c1, c2, gcd_abs, hv]
    · have hv : frOk p q = false := decide_eq_false fun h => c2 h.2.1
      have c2' : (decide (1 ≤ q) && decide (q ≤ 1000000000)) = false := by simpa using c2
      simp -dsimp -implicitDefEqProofs [c1, c2', hv]
  · have hv : frOk p q = false := decide_eq_false fun h => c1 h.1
    have c1' : (decide (-1000000000 ≤ p) && decide (p ≤ 1000000000)) = false := by simpa using c1
    simp -dsimp -implicitDefEqProofs [c1', hv]
theorem q_impl_ValidFraction : QP PP 51 sp_frOk := by
  refine QP_pf (fun i h => ?_) fun i h => ?_
  · obtain ⟨p, q⟩ := i; exact ⟨by first | rfl | simp, by first | rfl | simp⟩
  obtain ⟨p, q⟩ := i
  replace h : True := h
  refine P_code (Quiet.q1 q_impl_gcd Quiet.nil) hmix k_impl_ValidFraction rfl ?_ ?_
  · first | rfl | simp
  show wpc 0 PP _ c_impl_ValidFraction (initSt [.agg [.int .i64 p, .int .i64 q]] .nil) (endP r_impl_ValidFraction (.bool (frOk p q)))
  simp -dsimp -implicitDefEqProofs [c_impl_ValidFraction, r_impl_ValidFraction]
  by_cases c : (-1000000000 ≤ p ∧ p ≤ 1000000000) ∧ (1 ≤ q ∧ q ≤ 1000000000)
  · have c1 : 0 < q := by omega
    have c2 : ¬ q < 1 := by omega
    have hv : frOk p q = ((Int.gcd p q : Int) == 1) := by
      unfold frOk
      rw [Bool.eq_iff_iff]
      simp [c.1, c.2]
      omega
    simp -dsimp -implicitDefEqProofs [sp_gcd_eq p q (by unfold in62; omega), c, c1, c2, hv]
  · have hv : frOk p q = false := decide_eq_false fun h => c ⟨h.1, h.2.1⟩
    rw [hv]
    repeat' (refine brW_of (fun h => ?_) (fun h => ?_) <;> have h0 := h <;> (try simp only [Bool.and_eq_true, Bool.and_eq_false_iff, Bool.or_eq_true, Bool.or_eq_false_iff, Bool.not_eq_true', Bool.not_eq_false', decide_eq_true_eq, decide_eq_false_iff_not, beq_iff_eq, beq_eq_false_iff_ne, bne_iff_ne, bne_eq_false_iff_eq] at h) <;> simp -dsimp -implicitDefEqProofs [h, h0, *])
    all_goals (exfalso; apply c; omega)
noncomputable def sp_badFraction : List AV → Option (AV) := pf (ι := (Int) × (Int)) (α := AV) (fun ⟨p, q⟩ => True) (fun ⟨p, q⟩ => [.agg [.int .i64 p, .int .i64 q]]) (fun ⟨p, q⟩ => .bool (!frOk p q))
theorem sp_badFraction_eq (p q : Int) : sp_badFraction [.agg [.int .i64 p, .int .i64 q]] = some (.bool (!frOk p q)) := by
  unfold sp_badFraction
  exact pf_eq (ι := (Int) × (Int)) (α := AV) (p, q) trivial (by rintro ⟨p', q'⟩ _ e; simp_all [Int.natCast_inj])
attribute [simp] sp_badFraction_eq
theorem q_impl_badFraction : QP PP 33 sp_badFraction := by
  refine QP_pf (fun i h => ?_) fun i h => ?_
  · obtain ⟨p, q⟩ := i; exact ⟨by first | rfl | simp, by first | rfl | simp⟩
  obtain ⟨p, q⟩ := i
  replace h : True := h
  refine P_code (Quiet.q1 q_impl_ValidFraction Quiet.nil) hmix k_impl_badFraction rfl ?_ ?_
  · first | rfl | simp
  show wpc 0 PP _ c_impl_badFraction (initSt [.agg [.int .i64 p, .int .i64 q]] .nil) (endP r_impl_badFraction (.bool (!frOk p q)))
  simp -dsimp -implicitDefEqProofs [c_impl_badFraction, r_impl_badFraction]

end Go.Proofs.YtlglgcmpeabdnaaDoorAi
end

section
/- MADE BY PROGRAM (wip/tools/gen.py): the abstract code of functions. -/
namespace Go.Proofs.YtlglgcmpeabdnaaDoorAi
open Go AC AOp Opd
set_option linter.unusedVariables false
set_option maxRecDepth 100000
def c_impl_lowest : AC := seq (reg [⟨(some 4), alloc [.int .i64 0, .int .i64 0], none⟩]) (seq (reg [⟨(some 6), mv (t 0), none⟩, ⟨(some 7), mv (t 1), none⟩, ⟨(some 8), callq (c (.fn 61 [])) [t 6, t 7], none⟩, ⟨(some 5), mv (t 8), none⟩]) (seq (seq (reg [⟨(some 9), mv (t 1), none⟩, ⟨(some 10), bin .lss (t 9) (c (.int .i64 0)), none⟩]) (cond (t 10) (reg [⟨(some 11), mv (t 5), none⟩, ⟨(some 12), un .neg (t 11), none⟩, ⟨(some 5), mv (t 12), none⟩]) (skip))) (seq (reg [⟨(some 13), mv (t 0), none⟩, ⟨(some 14), mv (t 5), none⟩, ⟨(some 15), bin .quo (t 13) (t 14), none⟩, ⟨(some 16), mv (t 1), none⟩, ⟨(some 17), mv (t 5), none⟩, ⟨(some 18), bin .quo (t 16) (t 17), none⟩, ⟨(some 19), bld [.int .i64 0, .int .i64 0] [(0, 1, t 15), (1, 1, t 18)], none⟩, ⟨none, st (t 4) 2 (t 19), none⟩]) (ret))))
def r_impl_lowest : List ARes := [.cell 4 2 true]
theorem k_impl_lowest : acLin Go.Proofs.Tryd.prog 53 2 (inQ [61] []) [⟨false, none, [], [], none⟩, ⟨false, none, [], [], none⟩, ⟨false, none, [], [], none⟩, ⟨false, none, [], [], none⟩, ⟨false, some [0, 1, 2, 3, 4, 5, 6, 7], [], [], none⟩] = some (c_impl_lowest, r_impl_lowest) := by kernel_rfl
def c_spec_l02Lowest : AC := seq (reg [⟨(some 4), alloc [.int .i64 0, .int .i64 0], none⟩, ⟨(some 5), mv (c (.int .i64 0)), none⟩]) (seq (seq (reg [⟨(some 8), mv (t 1), none⟩, ⟨(some 9), bin .lss (t 8) (c (.int .i64 0)), none⟩]) (cond (t 9) (seq (reg [⟨(some 10), mv (t 0), none⟩, ⟨(some 11), un .neg (t 10), none⟩, ⟨(some 0), mv (t 11), none⟩]) (reg [⟨(some 12), mv (t 1), none⟩, ⟨(some 13), un .neg (t 12), none⟩, ⟨(some 1), mv (t 13), none⟩])) (skip))) (seq (reg [⟨(some 14), mv (t 0), none⟩, ⟨(some 15), callq (c (.fn 29 [])) [t 14], none⟩, ⟨(some 16), mv (t 1), none⟩, ⟨(some 17), callq (c (.fn 48 [])) [t 15, t 16], none⟩, ⟨(some 6), mv (t 17), none⟩]) (seq (reg [⟨(some 18), mv (t 0), none⟩, ⟨(some 19), mv (t 6), none⟩, ⟨(some 20), bin .quo (t 18) (t 19), none⟩, ⟨(some 21), mv (t 1), none⟩, ⟨(some 22), mv (t 6), none⟩, ⟨(some 23), bin .quo (t 21) (t 22), none⟩, ⟨(some 24), bld [.int .i64 0, .int .i64 0] [(0, 1, t 20), (1, 1, t 23)], none⟩, ⟨(some 7), alloc [.int .i64 0, .int .i64 0], none⟩, ⟨none, st (t 7) 2 (t 24), none⟩]) (seq (seq (reg [⟨(some 25), fad (t 7) 0, none⟩, ⟨(some 26), ld (t 25) 1 false, none⟩, ⟨(some 27), callq (c (.fn 29 [])) [t 26], none⟩, ⟨(some 28), bin .gtr (t 27) (c (.int .i64 1000000000)), none⟩, ⟨(some 29), mv (t 28), none⟩, ⟨(some 30), fad (t 7) 1, some (29, false)⟩, ⟨(some 31), ld (t 30) 1 false, some (29, false)⟩, ⟨(some 32), bin .gtr (t 31) (c (.int .i64 1000000000)), some (29, false)⟩, ⟨(some 33), pick (t 29) (c (.bool true)) (t 32), none⟩]) (cond (t 33) (seq (reg [⟨(some 34), bld [.int .i64 0, .int .i64 0] [], none⟩, ⟨none, st (t 4) 2 (t 34), none⟩, ⟨(some 5), mv (c (.int .i64 3)), none⟩]) (ret)) (skip))) (seq (reg [⟨(some 35), ld (t 7) 2 true, none⟩, ⟨none, st (t 4) 2 (t 35), none⟩, ⟨(some 5), mv (c (.int .i64 0)), none⟩]) (ret))))))
def r_spec_l02Lowest : List ARes := [.cell 4 2 true, .tmp 5]
theorem k_spec_l02Lowest : acLin Go.Proofs.Tryd.prog 59 2 (inQ [29, 48] []) [⟨false, none, [], [], none⟩, ⟨false, none, [], [], none⟩, ⟨false, none, [], [], none⟩, ⟨false, none, [], [], none⟩, ⟨false, none, [], [], none⟩, ⟨false, some [0, 1, 2, 3, 4, 5, 6, 7, 8], [], [], none⟩] = some (c_spec_l02Lowest, r_spec_l02Lowest) := by kernel_rfl
def c_impl_Fraction_small : AC := seq (reg [⟨(some 1), box 2 (t 0), none⟩, ⟨(some 2), mv (c (.bool false)), none⟩]) (seq (reg [⟨(some 3), fad (t 1) 0, none⟩, ⟨(some 4), ld (t 3) 1 false, none⟩, ⟨(some 5), callq (c (.fn 67 [])) [t 4], none⟩, ⟨(some 6), bin .leq (t 5) (c (.int .i64 1000000000)), none⟩, ⟨(some 7), mv (t 6), none⟩, ⟨(some 8), fad (t 1) 1, some (7, true)⟩, ⟨(some 9), ld (t 8) 1 false, some (7, true)⟩, ⟨(some 10), bin .leq (t 9) (c (.int .i64 1000000000)), some (7, true)⟩, ⟨(some 11), pick (t 7) (t 10) (c (.bool false)), none⟩, ⟨(some 2), mv (t 11), none⟩]) (ret))
def r_impl_Fraction_small : List ARes := [.tmp 2]
theorem k_impl_Fraction_small : acLin Go.Proofs.Tryd.prog 62 1 (inQ [67] []) [] = some (c_impl_Fraction_small, r_impl_Fraction_small) := by kernel_rfl
def c_impl_sums_kept : AC := seq (reg [⟨(some 3), box 2 (t 1), none⟩, ⟨(some 4), alloc [.int .i64 0, .int .i64 0], none⟩]) (seq (seq (reg [⟨(some 5), ld (t 3) 2 true, none⟩, ⟨(some 6), callq (c (.fn 62 [])) [t 5], none⟩, ⟨(some 7), un .not (t 6), none⟩]) (cond (t 7) (seq (reg [⟨(some 8), mv (t 0), none⟩, ⟨(some 9), nilc (t 8), none⟩, ⟨(some 10), fad (t 9) 0, none⟩, ⟨none, st (t 10) 1 (c (.bool true)), none⟩]) (seq (reg [⟨(some 11), callq (c (.fn 32 [])) [], none⟩, ⟨none, st (t 4) 2 (t 11), none⟩]) (ret))) (skip))) (seq (reg [⟨(some 12), ld (t 3) 2 true, none⟩, ⟨none, st (t 4) 2 (t 12), none⟩]) (ret)))
def r_impl_sums_kept : List ARes := [.cell 4 2 true]
theorem k_impl_sums_kept : acLin Go.Proofs.Tryd.prog 52 2 (inQ [32, 62] []) [] = some (c_impl_sums_kept, r_impl_sums_kept) := by kernel_rfl
def c_impl_sums_add : AC := seq (reg [⟨(some 4), box 2 (t 1), none⟩, ⟨(some 5), box 2 (t 2), none⟩, ⟨(some 6), alloc [.int .i64 0, .int .i64 0], none⟩]) (seq (reg [⟨(some 7), mv (t 0), none⟩, ⟨(some 8), fad (t 4) 0, none⟩, ⟨(some 9), ld (t 8) 1 false, none⟩, ⟨(some 10), fad (t 5) 1, none⟩, ⟨(some 11), ld (t 10) 1 false, none⟩, ⟨(some 12), bin .mul (t 9) (t 11), none⟩, ⟨(some 13), fad (t 5) 0, none⟩, ⟨(some 14), ld (t 13) 1 false, none⟩, ⟨(some 15), fad (t 4) 1, none⟩, ⟨(some 16), ld (t 15) 1 false, none⟩, ⟨(some 17), bin .mul (t 14) (t 16), none⟩, ⟨(some 18), bin .add (t 12) (t 17), none⟩, ⟨(some 19), fad (t 4) 1, none⟩, ⟨(some 20), ld (t 19) 1 false, none⟩, ⟨(some 21), fad (t 5) 1, none⟩, ⟨(some 22), ld (t 21) 1 false, none⟩, ⟨(some 23), bin .mul (t 20) (t 22), none⟩, ⟨(some 24), callq (c (.fn 53 [])) [t 18, t 23], none⟩, ⟨(some 25), calle (c (.fn 52 [])) [t 7, t 24] [], none⟩, ⟨none, st (t 6) 2 (t 25), none⟩]) (ret))
def r_impl_sums_add : List ARes := [.cell 6 2 true]
theorem k_impl_sums_add : acLin Go.Proofs.Tryd.prog 34 3 (inQ [53] [52]) [] = some (c_impl_sums_add, r_impl_sums_add) := by kernel_rfl
def c_spec_l02Add : AC := seq (reg [⟨(some 2), box 2 (t 0), none⟩, ⟨(some 3), box 2 (t 1), none⟩, ⟨(some 4), alloc [.int .i64 0, .int .i64 0], none⟩, ⟨(some 5), mv (c (.int .i64 0)), none⟩]) (seq (reg [⟨(some 6), fad (t 2) 0, none⟩, ⟨(some 7), ld (t 6) 1 false, none⟩, ⟨(some 8), fad (t 3) 1, none⟩, ⟨(some 9), ld (t 8) 1 false, none⟩, ⟨(some 10), bin .mul (t 7) (t 9), none⟩, ⟨(some 11), fad (t 3) 0, none⟩, ⟨(some 12), ld (t 11) 1 false, none⟩, ⟨(some 13), fad (t 2) 1, none⟩, ⟨(some 14), ld (t 13) 1 false, none⟩, ⟨(some 15), bin .mul (t 12) (t 14), none⟩, ⟨(some 16), bin .add (t 10) (t 15), none⟩, ⟨(some 17), fad (t 2) 1, none⟩, ⟨(some 18), ld (t 17) 1 false, none⟩, ⟨(some 19), fad (t 3) 1, none⟩, ⟨(some 20), ld (t 19) 1 false, none⟩, ⟨(some 21), bin .mul (t 18) (t 20), none⟩, ⟨(some 22), callq (c (.fn 59 [])) [t 16, t 21], none⟩, ⟨(some 23), ext (t 22) 0, none⟩, ⟨(some 24), ext (t 22) 1, none⟩, ⟨none, st (t 4) 2 (t 23), none⟩, ⟨(some 5), mv (t 24), none⟩]) (ret))
def r_spec_l02Add : List ARes := [.cell 4 2 true, .tmp 5]
theorem k_spec_l02Add : acLin Go.Proofs.Tryd.prog 46 2 (inQ [59] []) [] = some (c_spec_l02Add, r_spec_l02Add) := by kernel_rfl
end Go.Proofs.YtlglgcmpeabdnaaDoorAi
end

section
/- Contracts: fractions in lowest terms, sums, products. -/
namespace Go.Proofs.YtlglgcmpeabdnaaDoorAi
open Go Go.RowKit
set_option linter.unusedVariables false
set_option linter.unusedSimpArgs false

/-- A quotient in lowest terms. -/
def lowP (p q : Int) : Int := (if q < 0 then -p else p).tdiv (Int.gcd p q)
def lowQ (p q : Int) : Int := (if q < 0 then -q else q).tdiv (Int.gcd p q)
theorem gcd_pos {p q : Int} (h : q ≠ 0) : (Int.gcd p q : Int) ≠ 0 := by
  have : 0 < Int.gcd p q := Int.gcd_pos_of_ne_zero_right _ h
  omega
theorem tdiv_small (a b : Int) : (a.tdiv b).natAbs ≤ a.natAbs := by
  rw [Int.natAbs_tdiv]
  exact Nat.div_le_self ..
theorem lowP_in {p q : Int} (h : in62 p) : in62 (lowP p q) := by
  unfold in62 lowP at *
  have := tdiv_small (if q < 0 then -p else p) (Int.gcd p q)
  split at this <;> rename_i hq <;> simp only [hq, if_true, if_false] <;> omega
theorem lowQ_in {p q : Int} (h : in62 q) : in62 (lowQ p q) := by
  unfold in62 lowQ at *
  have := tdiv_small (if q < 0 then -q else q) (Int.gcd p q)
  split at this <;> rename_i hq <;> simp only [hq, if_true, if_false] <;> omega
theorem wrap62 {n : Int} (h : in62 n) : IntKind.i64.wrap n = n := wrapI64 (by unfold in62 at h; omega) (by unfold in62 at h; omega)
noncomputable def sp_lowest : List AV → Option (AV) := pf (ι := (Int) × (Int)) (α := AV) (fun ⟨p, q⟩ => in62 p ∧ in62 q ∧ q ≠ 0) (fun ⟨p, q⟩ => [.int .i64 p, .int .i64 q]) (fun ⟨p, q⟩ => .agg [.int .i64 (lowP p q), .int .i64 (lowQ p q)])
theorem sp_lowest_eq (p q : Int) (h : in62 p ∧ in62 q ∧ q ≠ 0) : sp_lowest [.int .i64 p, .int .i64 q] = some (.agg [.int .i64 (lowP p q), .int .i64 (lowQ p q)]) := by
  unfold sp_lowest
  exact pf_eq (ι := (Int) × (Int)) (α := AV) (p, q) h (by rintro ⟨p', q'⟩ _ e; simp_all [Int.natCast_inj])
theorem q_impl_lowest : QP PP 53 sp_lowest := by
  refine QP_pf (fun i h => ?_) fun i h => ?_
  · obtain ⟨p, q⟩ := i; exact ⟨by first | rfl | simp, by first | rfl | simp⟩
  obtain ⟨p, q⟩ := i
  replace h : in62 p ∧ in62 q ∧ q ≠ 0 := h
  refine P_code (Quiet.q1 q_impl_gcd Quiet.nil) hmix k_impl_lowest rfl ?_ ?_
  · first | rfl | simp
  show wpc 0 PP _ c_impl_lowest (initSt [.int .i64 p, .int .i64 q] .nil) (endP r_impl_lowest (.agg [.int .i64 (lowP p q), .int .i64 (lowQ p q)]))
  obtain ⟨hp, hq, h0⟩ := h
  have g0 := gcd_pos (p := p) h0
  have w1 := wrap62 (lowP_in (q := q) hp)
  have w2 := wrap62 (lowQ_in (p := p) hq)
  simp -dsimp -implicitDefEqProofs [c_impl_lowest, r_impl_lowest, sp_gcd_eq p q ⟨hp, hq⟩]
  by_cases hn : q < 0
  · have hg : in62 (Int.gcd p q) := by
      have := Int.gcd_le_natAbs_right (a := p) h0
      unfold in62 at *
      omega
    have w3 : IntKind.i64.wrap (-(Int.gcd p q : Int)) = -(Int.gcd p q : Int) := wrapI64 (by unfold in62 at hg; omega) (by unfold in62 at hg; omega)
    have g0' : ¬ (-(Int.gcd p q : Int)) = 0 := by omega
    have r1 : -(p.tdiv (Int.gcd p q)) = lowP p q := by unfold lowP; rw [if_pos hn, Int.neg_tdiv]
    have r2 : -(q.tdiv (Int.gcd p q)) = lowQ p q := by unfold lowQ; rw [if_pos hn, Int.neg_tdiv]
    simp -dsimp -implicitDefEqProofs [hn, w3, g0', r1, r2, w1, w2, h0]
  · have r1 : p.tdiv (Int.gcd p q) = lowP p q := by unfold lowP; rw [if_neg hn]
    have r2 : q.tdiv (Int.gcd p q) = lowQ p q := by unfold lowQ; rw [if_neg hn]
    simp -dsimp -implicitDefEqProofs [hn, r1, r2, w1, w2, h0]

def smallB (p q : Int) : Bool := decide (p.natAbs ≤ 1000000000) && decide (q ≤ 1000000000)
def lowO (p q : Int) : Option Fr := if smallB (lowP p q) (lowQ p q) = true then some ⟨lowP p q, lowQ p q⟩ else none
/-- A fraction with a code. -/
def frO : Option Fr → AV
  | some x => .tup [frA x, .int .i64 0]
  | none => .tup [.agg [.int .i64 0, .int .i64 0], .int .i64 3]
theorem frO_lt (x : Option Fr) (n : Nat) : (frO x).lt n = true := by cases x <;> rfl
@[simp] theorem frO_ren (x : Option Fr) (f : Nat → Nat) : (frO x).ren f = frO x := by cases x <;> rfl
@[simp] theorem frO_lt' (x : Option Fr) (n : Nat) : (frO x).lt n = true := frO_lt x n
noncomputable def sp_lowO : List AV → Option (AV) := pf (ι := (Int) × (Int)) (α := AV) (fun ⟨p, q⟩ => in62 p ∧ in62 q ∧ q ≠ 0) (fun ⟨p, q⟩ => [.int .i64 p, .int .i64 q]) (fun ⟨p, q⟩ => frO (lowO p q))
theorem sp_lowO_eq (p q : Int) (h : in62 p ∧ in62 q ∧ q ≠ 0) : sp_lowO [.int .i64 p, .int .i64 q] = some (frO (lowO p q)) := by
  unfold sp_lowO
  exact pf_eq (ι := (Int) × (Int)) (α := AV) (p, q) h (by rintro ⟨p', q'⟩ _ e; simp_all [Int.natCast_inj])
theorem q_spec_l02Lowest : QP PP 59 sp_lowO := by
  refine QP_pf (fun i h => ?_) fun i h => ?_
  · obtain ⟨p, q⟩ := i; exact ⟨by first | rfl | simp, by first | rfl | simp⟩
  obtain ⟨p, q⟩ := i
  replace h : in62 p ∧ in62 q ∧ q ≠ 0 := h
  refine P_code (Quiet.q1 q_spec_l02Abs (Quiet.q1 q_spec_l02Common Quiet.nil)) hmix k_spec_l02Lowest rfl ?_ ?_
  · first | rfl | simp
  show wpc 0 PP _ c_spec_l02Lowest (initSt [.int .i64 p, .int .i64 q] .nil) (endP r_spec_l02Lowest (frO (lowO p q)))
  obtain ⟨hp, hq, h0⟩ := h
  have g0 := gcd_pos (p := p) h0
  have b1 := lowP_in (q := q) hp
  have b2 := lowQ_in (p := p) hq
  have w1 := wrap62 b1
  have w2 := wrap62 b2
  by_cases hn : q < 0
  · have n1 : in62 (-p) := by unfold in62 at *; omega
    have n2 : in62 (-q) := by unfold in62 at *; omega
    have d1 := sp_size_eq (-p) n1
    rw [Int.natAbs_neg] at d1
    have d2 := sp_common_eq (p.natAbs : Int) (-q) (by unfold in62 at *; omega)
    rw [gcd_abs, Int.gcd_neg] at d2
    have r1 : -(p.tdiv (Int.gcd p q)) = lowP p q := by unfold lowP; rw [if_pos hn, Int.neg_tdiv]
    have r2 : -(q.tdiv (Int.gcd p q)) = lowQ p q := by unfold lowQ; rw [if_pos hn, Int.neg_tdiv]
    simp -dsimp -implicitDefEqProofs [c_spec_l02Lowest, r_spec_l02Lowest, hn, h0, wrap62 n1, wrap62 n2, d1, d2, g0, r1, r2, w1, w2, sp_size_eq _ b1]
    by_cases c1 : (lowP p q).natAbs ≤ 1000000000
    · have c1' : ¬ (1000000000 : Int) < (lowP p q).natAbs := by omega
      by_cases c : lowQ p q ≤ 1000000000
      · have c' : ¬ 1000000000 < lowQ p q := by omega
        simp -dsimp -implicitDefEqProofs [c1', c', frO, lowO, smallB, c1, c]
      · have c' : 1000000000 < lowQ p q := by omega
        simp -dsimp -implicitDefEqProofs [c1', c', frO, lowO, smallB, c1, c]
    · have c1' : (1000000000 : Int) < (lowP p q).natAbs := by omega
      simp -dsimp -implicitDefEqProofs [c1', frO, lowO, smallB, c1]
  · have d1 := sp_size_eq p hp
    have d2 := sp_common_eq (p.natAbs : Int) q (by unfold in62 at *; omega)
    rw [gcd_abs] at d2
    have r1 : p.tdiv (Int.gcd p q) = lowP p q := by unfold lowP; rw [if_neg hn]
    have r2 : q.tdiv (Int.gcd p q) = lowQ p q := by unfold lowQ; rw [if_neg hn]
    simp -dsimp -implicitDefEqProofs [c_spec_l02Lowest, r_spec_l02Lowest, hn, d1, d2, g0, r1, r2, w1, w2, sp_size_eq _ b1, h0]
    by_cases c1 : (lowP p q).natAbs ≤ 1000000000
    · have c1' : ¬ (1000000000 : Int) < (lowP p q).natAbs := by omega
      by_cases c : lowQ p q ≤ 1000000000
      · have c' : ¬ 1000000000 < lowQ p q := by omega
        simp -dsimp -implicitDefEqProofs [c1', c', frO, lowO, smallB, c1, c]
      · have c' : 1000000000 < lowQ p q := by omega
        simp -dsimp -implicitDefEqProofs [c1', c', frO, lowO, smallB, c1, c]
    · have c1' : (1000000000 : Int) < (lowP p q).natAbs := by omega
      simp -dsimp -implicitDefEqProofs [c1', frO, lowO, smallB, c1]

end Go.Proofs.YtlglgcmpeabdnaaDoorAi
end

section
/- Contracts: sums and products of fractions. -/
namespace Go.Proofs.YtlglgcmpeabdnaaDoorAi
open Go Go.RowKit
set_option linter.unusedVariables false
set_option linter.unusedSimpArgs false

def frIn (p q : Int) : Prop := (-1000000000 ≤ p ∧ p ≤ 1000000000) ∧ (1 ≤ q ∧ q ≤ 1000000000)
theorem mul_small {a b : Int} (ha : a.natAbs ≤ 1000000000) (hb : b.natAbs ≤ 1000000000) : -1000000000000000000 ≤ a * b ∧ a * b ≤ 1000000000000000000 := by
  have h : (a * b).natAbs ≤ 1000000000 * 1000000000 := by rw [Int.natAbs_mul]; exact Nat.mul_le_mul ha hb
  omega
def valO (o : Option Fr) : Fr := o.getD ⟨0, 1⟩
def addO (p q p' q' : Int) : Option Fr := lowO (p * q' + p' * q) (q * q')
theorem lowQ_pos {p q : Int} (h : q ≠ 0) : 1 ≤ lowQ p q := by
  have hd : (Int.gcd p q : Int) ∣ q := Int.gcd_dvd_right ..
  have hg : 0 < Int.gcd p q := Int.gcd_pos_of_ne_zero_right _ h
  have h2 : (Int.gcd p q : Int) ∣ (if q < 0 then -q else q) := by
    split
    · exact (Int.dvd_neg).2 hd
    · exact hd
  obtain ⟨k, hk⟩ := h2
  have hpos : 0 < (if q < 0 then -q else q) := by split <;> omega
  have hkp : 0 < k := by
    rw [hk] at hpos
    rcases Int.lt_trichotomy k 0 with h0 | h0 | h0
    · have := Int.mul_neg_of_pos_of_neg (a := (Int.gcd p q : Int)) (b := k) (by omega) h0; omega
    · rw [h0] at hpos; simp at hpos
    · exact h0
  unfold lowQ
  rw [hk, Int.mul_comm, Int.mul_tdiv_cancel _ (by omega)]
  omega
theorem lowO_in {p q : Int} (h : q ≠ 0) {x : Fr} (e : lowO p q = some x) : frIn x.p x.q := by
  unfold lowO smallB at e
  split at e
  · rename_i hs
    obtain rfl := Option.some.inj e
    simp at hs
    have := lowQ_pos (p := p) h
    unfold frIn
    simp only
    omega
  · cases e
theorem valO_in {p q : Int} (h : q ≠ 0) : frIn (valO (lowO p q)).p (valO (lowO p q)).q := by
  cases e : lowO p q with
  | none => unfold frIn valO; decide
  | some x => exact lowO_in h e
theorem add_pre {p q p' q' : Int} (h : frIn p q) (h' : frIn p' q') : in62 (p * q' + p' * q) ∧ in62 (q * q') ∧ q * q' ≠ 0 ∧ IntKind.i64.wrap (p * q') = p * q' ∧ IntKind.i64.wrap (p' * q) = p' * q ∧ IntKind.i64.wrap (p * q' + p' * q) = p * q' + p' * q ∧ IntKind.i64.wrap (q * q') = q * q' := by
  unfold frIn at *
  have a1 := mul_small (a := p) (b := q') (by omega) (by omega)
  have a2 := mul_small (a := p') (b := q) (by omega) (by omega)
  have a3 := mul_small (a := q) (b := q') (by omega) (by omega)
  have a4 : 0 < q * q' := Int.mul_pos (by omega) (by omega)
  exact ⟨by unfold in62; omega, by unfold in62; omega, by omega, wrapI64 (by omega) (by omega), wrapI64 (by omega) (by omega), wrapI64 (by omega) (by omega), wrapI64 (by omega) (by omega)⟩
noncomputable def sp_small : List AV → Option (AV) := pf (ι := (Int) × (Int)) (α := AV) (fun ⟨p, q⟩ => in62 p) (fun ⟨p, q⟩ => [.agg [.int .i64 p, .int .i64 q]]) (fun ⟨p, q⟩ => .bool (smallB p q))
theorem sp_small_eq (p q : Int) (h : in62 p) : sp_small [.agg [.int .i64 p, .int .i64 q]] = some (.bool (smallB p q)) := by
  unfold sp_small
  exact pf_eq (ι := (Int) × (Int)) (α := AV) (p, q) h (by rintro ⟨p', q'⟩ _ e; simp_all [Int.natCast_inj])
theorem q_impl_Fraction_small : QP PP 62 sp_small := by
  refine QP_pf (fun i h => ?_) fun i h => ?_
  · obtain ⟨p, q⟩ := i; exact ⟨by first | rfl | simp, by first | rfl | simp⟩
  obtain ⟨p, q⟩ := i
  replace h : in62 p := h
  refine P_code (Quiet.q1 q_impl_size Quiet.nil) hmix k_impl_Fraction_small rfl ?_ ?_
  · first | rfl | simp
  show wpc 0 PP _ c_impl_Fraction_small (initSt [.agg [.int .i64 p, .int .i64 q]] .nil) (endP r_impl_Fraction_small (.bool (smallB p q)))
  simp -dsimp -implicitDefEqProofs [c_impl_Fraction_small, r_impl_Fraction_small, sp_size_eq p h]
  by_cases e1 : p.natAbs ≤ 1000000000
  · have e1' : (p.natAbs : Int) ≤ 1000000000 := by omega
    simp -dsimp -implicitDefEqProofs [e1', smallB, e1]
  · have e1' : ¬ (p.natAbs : Int) ≤ 1000000000 := by omega
    simp -dsimp -implicitDefEqProofs [e1', smallB, e1]
def keepF (p q : Int) : Fr := if smallB p q = true then ⟨p, q⟩ else ⟨0, 1⟩
noncomputable def sp_kept : List AV → List AV → Option (AV × List AV) := pm (pf (ι := (Bool) × (Int) × (Int)) (α := AV × List AV) (fun ⟨g, p, q⟩ => in62 p) (fun i => .agg ((fun ⟨g, p, q⟩ => [.bool g] : (Bool) × (Int) × (Int) → List AV) i) :: (fun ⟨g, p, q⟩ => [.agg [.int .i64 p, .int .i64 q]] : (Bool) × (Int) × (Int) → List AV) i) (fun ⟨g, p, q⟩ => (frA (keepF p q), [.bool (g || !smallB p q)])))
theorem sp_kept_eq (g : Bool) (p q : Int) (h : in62 p) : sp_kept [.bool g] [.agg [.int .i64 p, .int .i64 q]] = some (frA (keepF p q), [.bool (g || !smallB p q)]) := by
  unfold sp_kept pm
  exact pf_eq (ι := (Bool) × (Int) × (Int)) (α := AV × List AV) (g, p, q) h (by rintro ⟨g', p', q'⟩ _ e; simp_all [Int.natCast_inj])
theorem m_impl_sums_kept : QM PP 52 sp_kept := by
  refine QM_pf (fun i h => ?_) fun i h => ?_
  · obtain ⟨g, p, q⟩ := i; exact ⟨⟨by first | rfl | simp, by first | rfl | simp⟩, by first | rfl | simp, by first | rfl | simp⟩
  obtain ⟨g, p, q⟩ := i
  replace h : in62 p := h
  refine H_code (Quiet.q1 q_impl_Fraction_small (Quiet.q1 q_impl_zero Quiet.nil)) hmix k_impl_sums_kept rfl (fun b => b) (Nat.le_refl _) (fun _ _ => rfl) rfl (by first | rfl | simp) ?_
  show wpc 1 PP _ c_impl_sums_kept (initSt [.ptr 0 0, .agg [.int .i64 p, .int .i64 q]] ⟨[some [.bool g]]⟩) (endH (fun b => b) r_impl_sums_kept (frA (keepF p q)) [some [.bool (g || !smallB p q)]])
  simp -dsimp -implicitDefEqProofs [c_impl_sums_kept, r_impl_sums_kept, sp_small_eq p q h]
  cases e : smallB p q <;> simp -dsimp -implicitDefEqProofs [keepF, e, hsub]
theorem keepF_low (p q : Int) : keepF (lowP p q) (lowQ p q) = valO (lowO p q) := by unfold keepF valO lowO; split <;> rfl
theorem small_low (p q : Int) : (!smallB (lowP p q) (lowQ p q)) = (lowO p q).isNone := by unfold lowO; split <;> simp_all

noncomputable def sp_add : List AV → List AV → Option (AV × List AV) := pm (pf (ι := (Bool) × (Int) × (Int) × (Int) × (Int)) (α := AV × List AV) (fun ⟨g, p, q, p', q'⟩ => frIn p q ∧ frIn p' q') (fun i => .agg ((fun ⟨g, p, q, p', q'⟩ => [.bool g] : (Bool) × (Int) × (Int) × (Int) × (Int) → List AV) i) :: (fun ⟨g, p, q, p', q'⟩ => [.agg [.int .i64 p, .int .i64 q], .agg [.int .i64 p', .int .i64 q']] : (Bool) × (Int) × (Int) × (Int) × (Int) → List AV) i) (fun ⟨g, p, q, p', q'⟩ => (frA (valO (addO p q p' q')), [.bool (g || (addO p q p' q').isNone)])))
theorem sp_add_eq (g : Bool) (p q p' q' : Int) (h : frIn p q ∧ frIn p' q') : sp_add [.bool g] [.agg [.int .i64 p, .int .i64 q], .agg [.int .i64 p', .int .i64 q']] = some (frA (valO (addO p q p' q')), [.bool (g || (addO p q p' q').isNone)]) := by
  unfold sp_add pm
  exact pf_eq (ι := (Bool) × (Int) × (Int) × (Int) × (Int)) (α := AV × List AV) (g, p, q, p', q') h (by rintro ⟨g', p', q', p'', q''⟩ _ e; simp_all [Int.natCast_inj])
theorem m_impl_sums_add : QM PP 34 sp_add := by
  refine QM_pf (fun i h => ?_) fun i h => ?_
  · obtain ⟨g, p, q, p', q'⟩ := i; exact ⟨⟨by first | rfl | simp, by first | rfl | simp⟩, by first | rfl | simp, by first | rfl | simp⟩
  obtain ⟨g, p, q, p', q'⟩ := i
  replace h : frIn p q ∧ frIn p' q' := h
  refine H_code (Quiet.q1 q_impl_lowest (Quiet.e1 m_impl_sums_kept.toE Quiet.nil)) hmix k_impl_sums_add rfl (fun b => b) (Nat.le_refl _) (fun _ _ => rfl) rfl (by first | rfl | simp) ?_
  show wpc 1 PP _ c_impl_sums_add (initSt [.ptr 0 0, .agg [.int .i64 p, .int .i64 q], .agg [.int .i64 p', .int .i64 q']] ⟨[some [.bool g]]⟩) (endH (fun b => b) r_impl_sums_add (frA (valO (addO p q p' q'))) [some [.bool (g || (addO p q p' q').isNone)]])
  obtain ⟨d1, d2, d3, w1, w2, w3, w4⟩ := add_pre h.1 h.2
  simp -dsimp -implicitDefEqProofs [c_impl_sums_add, r_impl_sums_add, w1, w2, w3, w4, sp_lowest_eq _ _ ⟨d1, d2, d3⟩, sp_kept_eq _ _ _ (lowP_in d1), hsub, keepF_low, small_low, addO]
def toldA (g : Bool) (p q : Int) : AV := if g = true then .tup [.agg [.int .i64 0, .int .i64 0], .int .i64 3] else .tup [.agg [.int .i64 p, .int .i64 q], .int .i64 0]
@[simp] theorem toldA_ren (g : Bool) (p q : Int) (f : Nat → Nat) : (toldA g p q).ren f = toldA g p q := by cases g <;> rfl
@[simp] theorem toldA_lt (g : Bool) (p q : Int) (n : Nat) : (toldA g p q).lt n = true := by cases g <;> rfl
noncomputable def sp_told : List AV → List AV → Option (AV × List AV) := pm (pf (ι := (Bool) × (Int) × (Int)) (α := AV × List AV) (fun ⟨g, p, q⟩ => True) (fun i => .agg ((fun ⟨g, p, q⟩ => [.bool g] : (Bool) × (Int) × (Int) → List AV) i) :: (fun ⟨g, p, q⟩ => [.agg [.int .i64 p, .int .i64 q]] : (Bool) × (Int) × (Int) → List AV) i) (fun ⟨g, p, q⟩ => (toldA g p q, [.bool g])))
theorem sp_told_eq (g : Bool) (p q : Int) : sp_told [.bool g] [.agg [.int .i64 p, .int .i64 q]] = some (toldA g p q, [.bool g]) := by
  unfold sp_told pm
  exact pf_eq (ι := (Bool) × (Int) × (Int)) (α := AV × List AV) (g, p, q) trivial (by rintro ⟨g', p', q'⟩ _ e; simp_all [Int.natCast_inj])
attribute [simp] sp_told_eq
noncomputable def sp_l02Add : List AV → Option (AV) := pf (ι := (Int) × (Int) × (Int) × (Int)) (α := AV) (fun ⟨p, q, p', q'⟩ => frIn p q ∧ frIn p' q') (fun ⟨p, q, p', q'⟩ => [.agg [.int .i64 p, .int .i64 q], .agg [.int .i64 p', .int .i64 q']]) (fun ⟨p, q, p', q'⟩ => frO (addO p q p' q'))
theorem sp_l02Add_eq (p q p' q' : Int) (h : frIn p q ∧ frIn p' q') : sp_l02Add [.agg [.int .i64 p, .int .i64 q], .agg [.int .i64 p', .int .i64 q']] = some (frO (addO p q p' q')) := by
  unfold sp_l02Add
  exact pf_eq (ι := (Int) × (Int) × (Int) × (Int)) (α := AV) (p, q, p', q') h (by rintro ⟨p', q', p'', q''⟩ _ e; simp_all [Int.natCast_inj])
theorem q_spec_l02Add : QP PP 46 sp_l02Add := by
  refine QP_pf (fun i h => ?_) fun i h => ?_
  · obtain ⟨p, q, p', q'⟩ := i; exact ⟨by first | rfl | simp, by first | rfl | simp⟩
  obtain ⟨p, q, p', q'⟩ := i
  replace h : frIn p q ∧ frIn p' q' := h
  refine P_code (Quiet.q1 q_spec_l02Lowest Quiet.nil) hmix k_spec_l02Add rfl ?_ ?_
  · first | rfl | simp
  show wpc 0 PP _ c_spec_l02Add (initSt [.agg [.int .i64 p, .int .i64 q], .agg [.int .i64 p', .int .i64 q']] .nil) (endP r_spec_l02Add (frO (addO p q p' q')))
  obtain ⟨d1, d2, d3, w1, w2, w3, w4⟩ := add_pre h.1 h.2
  simp -dsimp -implicitDefEqProofs [c_spec_l02Add, r_spec_l02Add, w1, w2, w3, w4, sp_lowO_eq _ _ ⟨d1, d2, d3⟩, addO]
  cases lowO (p * q' + p' * q) (q * q') <;> simp -dsimp -implicitDefEqProofs [frO]
end Go.Proofs.YtlglgcmpeabdnaaDoorAi
end

section
/- Contracts: products of lists, sums of lists. -/
namespace Go.Proofs.YtlglgcmpeabdnaaDoorAi
open Go Go.RowKit
set_option linter.unusedVariables false
set_option linter.unusedSimpArgs false

def allIn (l : List Fr) : Prop := ∀ x ∈ l, frIn x.p x.q
theorem allIn.get {l : List Fr} (h : allIn l) {i : Nat} (hi : i < l.length) : frIn l[i].p l[i].q := h _ (List.getElem_mem hi)
theorem drop_cons {α : Type} {l : List α} {i : Nat} (h : i < l.length) : l.drop i = l[i] :: l.drop (i + 1) := by simp
theorem drop_end {α : Type} {l : List α} {i : Nat} (h : ¬ i < l.length) : l.drop i = [] := List.drop_eq_nil_of_le (by omega)
def add2 (x y : Fr) : Option Fr := addO x.p x.q y.p y.q
theorem add2_in {x y : Fr} (h1 : frIn x.p x.q) (h2 : frIn y.p y.q) : frIn (valO (add2 x y)).p (valO (add2 x y)).q := valO_in (add_pre h1 h2).2.2.1
theorem add2_some {x y z : Fr} (h1 : frIn x.p x.q) (h2 : frIn y.p y.q) (e : add2 x y = some z) : frIn z.p z.q := lowO_in (add_pre h1 h2).2.2.1 e
theorem zero_in : frIn 0 1 := by unfold frIn; decide

def allOk (l : List Fr) : Bool := l.all fun x => frOk x.p x.q
theorem frOk_in {p q : Int} (h : frOk p q = true) : frIn p q := by
  have := of_decide_eq_true h
  unfold frIn
  exact ⟨this.1, this.2.1⟩
theorem allOk_in {l : List Fr} (h : allOk l = true) : allIn l := fun x hx => frOk_in (List.all_eq_true.1 h x hx)
theorem allOk_false {l : List Fr} {i : Nat} (h : i < l.length) (hf : frOk l[i].p l[i].q = false) : allOk l = false := by
  unfold allOk
  rw [List.all_eq_false]
  exact ⟨l[i], List.getElem_mem h, by simp [hf]⟩
theorem allOk_step {l : List Fr} {i : Nat} (h : i < l.length) (h1 : allOk (l.take i) = true) (h2 : frOk l[i].p l[i].q = true) : allOk (l.take (i + 1)) = true := by
  rw [take_snoc l i h]
  unfold allOk at *
  rw [List.all_append, h1]
  simp [h2]

end Go.Proofs.YtlglgcmpeabdnaaDoorAi
end

section
/- MADE BY PROGRAM (wip/tools/gen.py): the abstract code of functions. -/
namespace Go.Proofs.YtlglgcmpeabdnaaDoorAi
open Go AC AOp Opd
set_option linter.unusedVariables false
set_option maxRecDepth 100000
def c_spec_l02List : AC := seq (reg [⟨(some 2), mv (c (.bool false)), none⟩]) (seq (seq (reg [⟨(some 3), mv (c (.int .i64 0)), none⟩]) (block 0 (loop (seq (seq (reg [⟨(some 4), mv (t 3), none⟩, ⟨(some 5), mv (t 0), none⟩, ⟨(some 6), len (t 5), none⟩, ⟨(some 7), bin .lss (t 4) (t 6), none⟩]) (cond (t 7) (skip) (exit 0))) (seq (block 1 (seq (reg [⟨(some 10), mv (t 0), none⟩, ⟨(some 11), mv (t 3), none⟩, ⟨(some 12), iad 2 (t 10) (t 11), none⟩, ⟨(some 13), ld (t 12) 2 true, none⟩, ⟨(some 14), callq (c (.fn 28 [])) [t 13], none⟩, ⟨(some 15), un .not (t 14), none⟩]) (cond (t 15) (seq (reg [⟨(some 2), mv (c (.bool false)), none⟩]) (ret)) (skip)))) (reg [⟨(some 8), mv (t 3), none⟩, ⟨(some 9), bin .add (t 8) (c (.int .i64 1)), none⟩, ⟨(some 3), mv (t 9), none⟩])))))) (seq (reg [⟨(some 16), mv (t 0), none⟩, ⟨(some 17), len (t 16), none⟩, ⟨(some 18), bin .leq (t 17) (c (.int .i64 256)), none⟩, ⟨(some 2), mv (t 18), none⟩]) (ret)))
def r_spec_l02List : List ARes := [.tmp 2]
theorem k_spec_l02List : acLin Go.Proofs.Tryd.prog 23 1 (inQ [28] []) [] = some (c_spec_l02List, r_spec_l02List) := by kernel_rfl
def c_spec_SumOfFractions : AC := seq (reg [⟨(some 2), alloc [.int .i64 0, .int .i64 0], none⟩, ⟨(some 3), mv (c (.int .i64 0)), none⟩]) (seq (seq (reg [⟨(some 8), mv (t 0), none⟩, ⟨(some 9), callq (c (.fn 23 [])) [t 8], none⟩, ⟨(some 10), un .not (t 9), none⟩]) (cond (t 10) (seq (reg [⟨(some 11), bld [.int .i64 0, .int .i64 0] [], none⟩, ⟨none, st (t 2) 2 (t 11), none⟩, ⟨(some 3), mv (c (.int .i64 1)), none⟩]) (ret)) (skip))) (seq (reg [⟨(some 12), callq (c (.fn 45 [])) [], none⟩, ⟨(some 4), alloc [.int .i64 0, .int .i64 0], none⟩, ⟨none, st (t 4) 2 (t 12), none⟩]) (seq (seq (reg [⟨(some 5), mv (c (.int .i64 0)), none⟩]) (block 0 (loop (seq (seq (reg [⟨(some 13), mv (t 5), none⟩, ⟨(some 14), mv (t 0), none⟩, ⟨(some 15), len (t 14), none⟩, ⟨(some 16), bin .lss (t 13) (t 15), none⟩]) (cond (t 16) (skip) (exit 0))) (seq (block 1 (seq (reg [⟨(some 20), ld (t 4) 2 true, none⟩, ⟨(some 21), mv (t 0), none⟩, ⟨(some 22), mv (t 5), none⟩, ⟨(some 23), iad 2 (t 21) (t 22), none⟩, ⟨(some 24), ld (t 23) 2 true, none⟩, ⟨(some 25), callq (c (.fn 46 [])) [t 20, t 24], none⟩, ⟨(some 19), mv (t 25), none⟩, ⟨(some 26), ext (t 19) 0, none⟩, ⟨(some 27), ext (t 19) 1, none⟩, ⟨(some 6), alloc [.int .i64 0, .int .i64 0], none⟩, ⟨none, st (t 6) 2 (t 26), none⟩, ⟨(some 7), mv (t 27), none⟩]) (seq (seq (reg [⟨(some 28), mv (t 7), none⟩, ⟨(some 29), bin .neq (t 28) (c (.int .i64 0)), none⟩]) (cond (t 29) (seq (reg [⟨(some 30), bld [.int .i64 0, .int .i64 0] [], none⟩, ⟨(some 31), mv (t 7), none⟩, ⟨none, st (t 2) 2 (t 30), none⟩, ⟨(some 3), mv (t 31), none⟩]) (ret)) (skip))) (reg [⟨(some 32), ld (t 6) 2 true, none⟩, ⟨none, st (t 4) 2 (t 32), none⟩])))) (reg [⟨(some 17), mv (t 5), none⟩, ⟨(some 18), bin .add (t 17) (c (.int .i64 1)), none⟩, ⟨(some 5), mv (t 18), none⟩])))))) (seq (reg [⟨(some 33), ld (t 4) 2 true, none⟩, ⟨none, st (t 2) 2 (t 33), none⟩, ⟨(some 3), mv (c (.int .i64 0)), none⟩]) (ret)))))
def r_spec_SumOfFractions : List ARes := [.cell 2 2 true, .tmp 3]
theorem k_spec_SumOfFractions : acLin Go.Proofs.Tryd.prog 24 1 (inQ [23, 45, 46] []) [⟨false, none, [], [], none⟩, ⟨false, none, [], [], none⟩, ⟨false, none, [], [], none⟩, ⟨false, none, [], [], none⟩, ⟨false, none, [], [], none⟩, ⟨false, none, [], [], none⟩, ⟨false, none, [], [], none⟩, ⟨false, none, [], [], none⟩, ⟨false, some [0, 1, 2, 3, 4, 5, 6, 7, 8, 9, 10, 11], [], [], none⟩] = some (c_spec_SumOfFractions, r_spec_SumOfFractions) := by kernel_rfl
def c_impl_shapeOk : AC := seq (reg [⟨(some 2), box 2 (t 0), none⟩, ⟨(some 4), mv (c (.bool false)), none⟩]) (seq (reg [⟨(some 5), ld (t 2) 2 true, none⟩, ⟨(some 6), callq (c (.fn 49 [])) [t 5], none⟩, ⟨(some 7), mv (t 6), none⟩, ⟨(some 8), fad (t 2) 0, some (7, true)⟩, ⟨(some 9), ld (t 8) 1 false, some (7, true)⟩, ⟨(some 10), callq (c (.fn 50 [])) [t 9, c (.int .i64 1), c (.int .i64 4)], some (7, true)⟩, ⟨(some 11), pick (t 7) (t 10) (c (.bool false)), none⟩, ⟨(some 12), mv (t 11), none⟩, ⟨(some 13), mv (t 1), some (12, true)⟩, ⟨(some 14), fad (t 2) 0, some (12, true)⟩, ⟨(some 15), ld (t 14) 1 false, some (12, true)⟩, ⟨(some 16), bin .shr (t 13) (t 15), some (12, true)⟩, ⟨(some 17), bin .eql (t 16) (c (.int .u32 0)), some (12, true)⟩, ⟨(some 18), pick (t 12) (t 17) (c (.bool false)), none⟩, ⟨(some 4), mv (t 18), none⟩]) (ret))
def r_impl_shapeOk : List ARes := [.tmp 4]
theorem k_impl_shapeOk : acLin Go.Proofs.Tryd.prog 31 2 (inQ [49, 50] []) [] = some (c_impl_shapeOk, r_impl_shapeOk) := by kernel_rfl
def c_spec_l07Form : AC := seq (reg [⟨(some 2), box 2 (t 0), none⟩, ⟨(some 4), mv (c (.bool false)), none⟩]) (seq (reg [⟨(some 5), fad (t 2) 0, none⟩, ⟨(some 6), ld (t 5) 1 false, none⟩, ⟨(some 7), callq (c (.fn 43 [])) [t 6, c (.int .i64 1), c (.int .i64 4)], none⟩, ⟨(some 8), mv (t 7), none⟩, ⟨(some 9), mv (t 1), some (8, true)⟩, ⟨(some 10), conv .i64 (t 9), some (8, true)⟩, ⟨(some 11), fad (t 2) 0, some (8, true)⟩, ⟨(some 12), ld (t 11) 1 false, some (8, true)⟩, ⟨(some 13), conv .u64 (t 12), some (8, true)⟩, ⟨(some 14), bin .shl (c (.int .i64 1)) (t 13), some (8, true)⟩, ⟨(some 15), bin .lss (t 10) (t 14), some (8, true)⟩, ⟨(some 16), pick (t 8) (t 15) (c (.bool false)), none⟩, ⟨(some 4), mv (t 16), none⟩]) (ret))
def r_spec_l07Form : List ARes := [.tmp 4]
theorem k_spec_l07Form : acLin Go.Proofs.Tryd.prog 22 2 (inQ [43] []) [] = some (c_spec_l07Form, r_spec_l07Form) := by kernel_rfl
def c_spec_l07Ok : AC := seq (reg [⟨(some 2), mv (c (.bool false)), none⟩]) (seq (seq (reg [⟨(some 6), mv (t 0), none⟩, ⟨(some 7), nilc (t 6), none⟩, ⟨(some 8), fad (t 7) 0, none⟩, ⟨(some 9), ld (t 8) 2 true, none⟩, ⟨(some 10), callq (c (.fn 21 [])) [t 9], none⟩, ⟨(some 11), un .not (t 10), none⟩, ⟨(some 12), mv (t 11), none⟩, ⟨(some 13), mv (t 0), some (12, false)⟩, ⟨(some 14), nilc (t 13), some (12, false)⟩, ⟨(some 15), fad (t 14) 0, some (12, false)⟩, ⟨(some 16), ld (t 15) 2 true, some (12, false)⟩, ⟨(some 17), mv (t 0), some (12, false)⟩, ⟨(some 18), nilc (t 17), some (12, false)⟩, ⟨(some 19), fad (t 18) 2, some (12, false)⟩, ⟨(some 20), ld (t 19) 1 false, some (12, false)⟩, ⟨(some 21), callq (c (.fn 22 [])) [t 16, t 20], some (12, false)⟩, ⟨(some 22), un .not (t 21), some (12, false)⟩, ⟨(some 23), pick (t 12) (c (.bool true)) (t 22), none⟩, ⟨(some 24), mv (t 23), none⟩, ⟨(some 25), mv (t 0), some (24, false)⟩, ⟨(some 26), nilc (t 25), some (24, false)⟩, ⟨(some 27), fad (t 26) 3, some (24, false)⟩, ⟨(some 28), ld (t 27) 1 false, some (24, false)⟩, ⟨(some 29), len (t 28), some (24, false)⟩, ⟨(some 30), mv (t 0), some (24, false)⟩, ⟨(some 31), nilc (t 30), some (24, false)⟩, ⟨(some 32), fad (t 31) 0, some (24, false)⟩, ⟨(some 33), fad (t 32) 0, some (24, false)⟩, ⟨(some 34), ld (t 33) 1 false, some (24, false)⟩, ⟨(some 35), bin .neq (t 29) (t 34), some (24, false)⟩, ⟨(some 36), pick (t 24) (c (.bool true)) (t 35), none⟩, ⟨(some 37), mv (t 36), none⟩, ⟨(some 38), mv (t 0), some (37, false)⟩, ⟨(some 39), nilc (t 38), some (37, false)⟩, ⟨(some 40), fad (t 39) 3, some (37, false)⟩, ⟨(some 41), ld (t 40) 1 false, some (37, false)⟩, ⟨(some 42), callq (c (.fn 23 [])) [t 41], some (37, false)⟩, ⟨(some 43), un .not (t 42), some (37, false)⟩, ⟨(some 44), pick (t 37) (c (.bool true)) (t 43), none⟩]) (cond (t 44) (seq (reg [⟨(some 2), mv (c (.bool false)), none⟩]) (ret)) (skip))) (seq (seq (reg [⟨(some 3), mv (c (.int .i64 0)), none⟩]) (block 0 (loop (seq (seq (reg [⟨(some 45), mv (t 3), none⟩, ⟨(some 46), mv (t 0), none⟩, ⟨(some 47), nilc (t 46), none⟩, ⟨(some 48), fad (t 47) 3, none⟩, ⟨(some 49), ld (t 48) 1 false, none⟩, ⟨(some 50), len (t 49), none⟩, ⟨(some 51), bin .lss (t 45) (t 50), none⟩]) (cond (t 51) (skip) (exit 0))) (seq (block 1 (seq (reg [⟨(some 54), mv (t 0), none⟩, ⟨(some 55), nilc (t 54), none⟩, ⟨(some 56), fad (t 55) 3, none⟩, ⟨(some 57), ld (t 56) 1 false, none⟩, ⟨(some 58), mv (t 3), none⟩, ⟨(some 59), iad 2 (t 57) (t 58), none⟩, ⟨(some 60), fad (t 59) 0, none⟩, ⟨(some 61), ld (t 60) 1 false, none⟩, ⟨(some 62), bin .lss (t 61) (c (.int .i64 0)), none⟩]) (cond (t 62) (seq (reg [⟨(some 2), mv (c (.bool false)), none⟩]) (ret)) (skip)))) (reg [⟨(some 52), mv (t 3), none⟩, ⟨(some 53), bin .add (t 52) (c (.int .i64 1)), none⟩, ⟨(some 3), mv (t 53), none⟩])))))) (seq (reg [⟨(some 64), mv (t 0), none⟩, ⟨(some 65), nilc (t 64), none⟩, ⟨(some 66), fad (t 65) 3, none⟩, ⟨(some 67), ld (t 66) 1 false, none⟩, ⟨(some 68), callq (c (.fn 24 [])) [t 67], none⟩, ⟨(some 63), mv (t 68), none⟩, ⟨(some 69), ext (t 63) 0, none⟩, ⟨(some 70), ext (t 63) 1, none⟩, ⟨(some 4), alloc [.int .i64 0, .int .i64 0], none⟩, ⟨none, st (t 4) 2 (t 69), none⟩, ⟨(some 5), mv (t 70), none⟩]) (seq (reg [⟨(some 71), mv (t 5), none⟩, ⟨(some 72), bin .eql (t 71) (c (.int .i64 0)), none⟩, ⟨(some 73), mv (t 72), none⟩, ⟨(some 74), ld (t 4) 2 true, some (73, true)⟩, ⟨(some 75), callq (c (.fn 25 [])) [c (.int .i64 1)], some (73, true)⟩, ⟨(some 76), eqs false [.i .i64, .i .i64] (t 74) (t 75), some (73, true)⟩, ⟨(some 77), pick (t 73) (t 76) (c (.bool false)), none⟩, ⟨(some 2), mv (t 77), none⟩]) (ret)))))
def r_spec_l07Ok : List ARes := [.tmp 2]
theorem k_spec_l07Ok : acLin Go.Proofs.Tryd.prog 10 1 (inQ [21, 22, 23, 24, 25] []) [⟨false, none, [], [], none⟩, ⟨false, some [0, 1, 2, 3, 4, 5, 6, 7, 8, 9, 10, 11, 12, 13, 14, 15, 16, 17, 18, 19, 20, 21, 22, 23, 24, 25, 26, 27, 28, 29, 30, 31, 32, 33, 34, 35, 36, 37, 38], [], [], none⟩, ⟨false, none, [], [], none⟩, ⟨false, none, [], [], none⟩, ⟨false, none, [], [], none⟩, ⟨false, none, [], [], none⟩, ⟨false, none, [], [], none⟩, ⟨false, none, [], [], none⟩, ⟨false, none, [], [], none⟩, ⟨false, none, [], [], none⟩, ⟨false, none, [], [], none⟩, ⟨false, none, [], [], none⟩, ⟨false, some [0, 1, 2, 3, 4, 5, 6, 7], [], [], none⟩] = some (c_spec_l07Ok, r_spec_l07Ok) := by kernel_rfl
def c_impl_ValidPattern : AC := seq (reg [⟨(some 1), box 4 (t 0), none⟩, ⟨(some 2), mv (c (.bool false)), none⟩]) (seq (seq (reg [⟨(some 7), fad (t 1) 0, none⟩, ⟨(some 8), ld (t 7) 2 true, none⟩, ⟨(some 9), fad (t 1) 2, none⟩, ⟨(some 10), ld (t 9) 1 false, none⟩, ⟨(some 11), callq (c (.fn 31 [])) [t 8, t 10], none⟩, ⟨(some 12), un .not (t 11), none⟩, ⟨(some 13), mv (t 12), none⟩, ⟨(some 14), fad (t 1) 3, some (13, false)⟩, ⟨(some 15), ld (t 14) 1 false, some (13, false)⟩, ⟨(some 16), len (t 15), some (13, false)⟩, ⟨(some 17), fad (t 1) 0, some (13, false)⟩, ⟨(some 18), fad (t 17) 0, some (13, false)⟩, ⟨(some 19), ld (t 18) 1 false, some (13, false)⟩, ⟨(some 20), bin .neq (t 16) (t 19), some (13, false)⟩, ⟨(some 21), pick (t 13) (c (.bool true)) (t 20), none⟩]) (cond (t 21) (seq (reg [⟨(some 2), mv (c (.bool false)), none⟩]) (ret)) (skip))) (seq (reg [⟨(some 22), bld [.bool false] [], none⟩, ⟨(some 23), callq (c (.fn 32 [])) [], none⟩, ⟨(some 3), alloc [.bool false], none⟩, ⟨(some 4), alloc [.int .i64 0, .int .i64 0], none⟩, ⟨none, st (t 3) 1 (t 22), none⟩, ⟨none, st (t 4) 2 (t 23), none⟩]) (seq (seq (reg [⟨(some 24), fad (t 1) 3, none⟩, ⟨(some 25), ld (t 24) 1 false, none⟩, ⟨(some 26), len (t 25), none⟩, ⟨(some 27), mv (c (.int .i64 0)), none⟩]) (block 0 (loop (seq (reg [⟨(some 28), bin .lss (t 27) (t 26), none⟩]) (seq (cond (t 28) (skip) (exit 0)) (seq (block 1 (seq (reg [⟨(some 29), iad 2 (t 25) (t 27), none⟩, ⟨(some 30), ld (t 29) 2 true, none⟩, ⟨(some 6), alloc [.int .i64 0, .int .i64 0], none⟩, ⟨none, st (t 6) 2 (t 30), none⟩]) (seq (seq (reg [⟨(some 31), ld (t 6) 2 true, none⟩, ⟨(some 32), callq (c (.fn 33 [])) [t 31], none⟩, ⟨(some 33), mv (t 32), none⟩, ⟨(some 34), fad (t 6) 0, some (33, false)⟩, ⟨(some 35), ld (t 34) 1 false, some (33, false)⟩, ⟨(some 36), bin .lss (t 35) (c (.int .i64 0)), some (33, false)⟩, ⟨(some 37), pick (t 33) (c (.bool true)) (t 36), none⟩]) (cond (t 37) (seq (reg [⟨(some 2), mv (c (.bool false)), none⟩]) (ret)) (skip))) (reg [⟨(some 38), ld (t 4) 2 true, none⟩, ⟨(some 39), ld (t 6) 2 true, none⟩, ⟨(some 40), calle (c (.fn 34 [])) [t 3, t 38, t 39] [], none⟩, ⟨none, st (t 4) 2 (t 40), none⟩])))) (reg [⟨(some 41), bin .add (t 27) (c (.int .i64 1)), none⟩, ⟨(some 27), mv (t 41), none⟩]))))))) (seq (reg [⟨(some 42), fad (t 3) 0, none⟩, ⟨(some 43), ld (t 42) 1 false, none⟩, ⟨(some 44), un .not (t 43), none⟩, ⟨(some 45), mv (t 44), none⟩, ⟨(some 46), ld (t 4) 2 true, some (45, true)⟩, ⟨(some 47), callq (c (.fn 35 [])) [], some (45, true)⟩, ⟨(some 48), eqs false [.i .i64, .i .i64] (t 46) (t 47), some (45, true)⟩, ⟨(some 49), pick (t 45) (t 48) (c (.bool false)), none⟩, ⟨(some 2), mv (t 49), none⟩]) (ret)))))
def r_impl_ValidPattern : List ARes := [.tmp 2]
theorem k_impl_ValidPattern : acLin Go.Proofs.Tryd.prog 17 1 (inQ [31, 32, 33, 35] [34]) [⟨false, none, [], [], none⟩, ⟨false, none, [], [], none⟩, ⟨false, none, [], [], none⟩, ⟨false, none, [], [], none⟩, ⟨false, none, [], [], none⟩, ⟨false, none, [], [], none⟩, ⟨false, none, [], [], none⟩, ⟨false, none, [], [], none⟩, ⟨false, none, [], [], none⟩, ⟨false, none, [], [], none⟩, ⟨false, none, [], [], none⟩, ⟨false, none, [], [], none⟩, ⟨false, none, [], [], none⟩, ⟨false, none, [], [], none⟩, ⟨false, some [0, 1, 2, 3, 4, 5, 6, 7, 8], [], [], none⟩] = some (c_impl_ValidPattern, r_impl_ValidPattern) := by kernel_rfl
def c_laws_szFractionS : AC := seq (reg [⟨(some 4), mv (c (.int .i64 0)), none⟩]) (seq (reg [⟨(some 5), mv (t 1), none⟩, ⟨(some 6), mv (t 0), none⟩, ⟨(some 7), len (t 6), none⟩, ⟨(some 8), bin .sub (t 5) (t 7), none⟩, ⟨(some 1), mv (t 8), none⟩]) (seq (seq (reg [⟨(some 9), mv (t 1), none⟩, ⟨(some 10), bin .lss (t 9) (c (.int .i64 0)), none⟩]) (cond (t 10) (seq (reg [⟨(some 4), mv (c (.int .i64 (-1))), none⟩]) (ret)) (skip))) (seq (reg [⟨(some 11), mv (t 1), none⟩, ⟨(some 4), mv (t 11), none⟩]) (ret))))
def r_laws_szFractionS : List ARes := [.tmp 4]
theorem k_laws_szFractionS : acLin Go.Proofs.Tryd.prog 9 2 (inQ [] []) [] = some (c_laws_szFractionS, r_laws_szFractionS) := by kernel_rfl
def c_laws_szPattern : AC := seq (reg [⟨(some 2), box 4 (t 0), none⟩, ⟨(some 4), mv (c (.int .i64 0)), none⟩]) (seq (reg [⟨(some 5), fad (t 2) 3, none⟩, ⟨(some 6), ld (t 5) 1 false, none⟩, ⟨(some 7), mv (t 1), none⟩, ⟨(some 8), callq (c (.fn 9 [])) [t 6, t 7], none⟩, ⟨(some 1), mv (t 8), none⟩]) (seq (seq (reg [⟨(some 9), mv (t 1), none⟩, ⟨(some 10), bin .lss (t 9) (c (.int .i64 0)), none⟩]) (cond (t 10) (seq (reg [⟨(some 4), mv (c (.int .i64 (-1))), none⟩]) (ret)) (skip))) (seq (reg [⟨(some 11), mv (t 1), none⟩, ⟨(some 4), mv (t 11), none⟩]) (ret))))
def r_laws_szPattern : List ARes := [.tmp 4]
theorem k_laws_szPattern : acLin Go.Proofs.Tryd.prog 4 2 (inQ [9] []) [] = some (c_laws_szPattern, r_laws_szPattern) := by kernel_rfl
def c_laws_toFraction : AC := seq (reg [⟨(some 1), box 2 (t 0), none⟩, ⟨(some 2), alloc [.int .i64 0, .int .i64 0], none⟩]) (seq (reg [⟨(some 3), alloc [.int .i64 0, .int .i64 0], none⟩]) (seq (reg [⟨(some 4), fad (t 1) 0, none⟩, ⟨(some 5), ld (t 4) 1 false, none⟩, ⟨(some 6), fad (t 3) 0, none⟩, ⟨none, st (t 6) 1 (t 5), none⟩]) (seq (reg [⟨(some 7), fad (t 1) 1, none⟩, ⟨(some 8), ld (t 7) 1 false, none⟩, ⟨(some 9), fad (t 3) 1, none⟩, ⟨none, st (t 9) 1 (t 8), none⟩]) (seq (reg [⟨(some 10), ld (t 3) 2 true, none⟩, ⟨none, st (t 2) 2 (t 10), none⟩]) (ret)))))
def r_laws_toFraction : List ARes := [.cell 2 2 true]
theorem k_laws_toFraction : acLin Go.Proofs.Tryd.prog 30 1 (inQ [] []) [] = some (c_laws_toFraction, r_laws_toFraction) := by kernel_rfl
def c_laws_toFractionS : AC := seq (reg [⟨(some 2), mv (c (.sl [] true)), none⟩]) (seq (reg [⟨(some 5), mv (t 0), none⟩, ⟨(some 6), len (t 5), none⟩, ⟨(some 7), mks 2 16 [.int .i64 0, .int .i64 0] (t 6) (t 6), none⟩, ⟨(some 3), mv (t 7), none⟩]) (seq (seq (reg [⟨(some 4), mv (c (.int .i64 0)), none⟩]) (block 0 (loop (seq (seq (reg [⟨(some 8), mv (t 4), none⟩, ⟨(some 9), mv (t 0), none⟩, ⟨(some 10), len (t 9), none⟩, ⟨(some 11), bin .lss (t 8) (t 10), none⟩]) (cond (t 11) (skip) (exit 0))) (seq (block 1 (reg [⟨(some 14), mv (t 3), none⟩, ⟨(some 15), mv (t 4), none⟩, ⟨(some 16), mv (t 0), none⟩, ⟨(some 17), mv (t 4), none⟩, ⟨(some 18), iad 2 (t 16) (t 17), none⟩, ⟨(some 19), ld (t 18) 2 true, none⟩, ⟨(some 20), callq (c (.fn 30 [])) [t 19], none⟩, ⟨(some 21), iad 2 (t 14) (t 15), none⟩, ⟨none, st (t 21) 2 (t 20), none⟩])) (reg [⟨(some 12), mv (t 4), none⟩, ⟨(some 13), bin .add (t 12) (c (.int .i64 1)), none⟩, ⟨(some 4), mv (t 13), none⟩])))))) (seq (reg [⟨(some 22), mv (t 3), none⟩, ⟨(some 2), mv (t 22), none⟩]) (seq shift (ret)))))
def r_laws_toFractionS : List ARes := [.tmp 2]
theorem k_laws_toFractionS : acLin Go.Proofs.Tryd.prog 16 1 (inQ [30] []) [⟨false, none, [], [], none⟩, ⟨false, none, [], [], none⟩, ⟨false, none, [], [], none⟩, ⟨false, none, [], [], none⟩, ⟨false, none, [], [], none⟩, ⟨false, none, [], [], none⟩, ⟨false, none, [], [], none⟩, ⟨false, none, [], [], none⟩, ⟨true, none, [], [], none⟩] = some (c_laws_toFractionS, r_laws_toFractionS) := by kernel_rfl
def c_laws_toGraph : AC := seq (reg [⟨(some 1), box 2 (t 0), none⟩, ⟨(some 2), alloc [.int .i64 0, .int .u32 0], none⟩]) (seq (reg [⟨(some 3), alloc [.int .i64 0, .int .u32 0], none⟩]) (seq (reg [⟨(some 4), fad (t 1) 0, none⟩, ⟨(some 5), ld (t 4) 1 false, none⟩, ⟨(some 6), fad (t 3) 0, none⟩, ⟨none, st (t 6) 1 (t 5), none⟩]) (seq (reg [⟨(some 7), fad (t 1) 1, none⟩, ⟨(some 8), ld (t 7) 1 false, none⟩, ⟨(some 9), fad (t 3) 1, none⟩, ⟨none, st (t 9) 1 (t 8), none⟩]) (seq (reg [⟨(some 10), ld (t 3) 2 true, none⟩, ⟨none, st (t 2) 2 (t 10), none⟩]) (ret)))))
def r_laws_toGraph : List ARes := [.cell 2 2 true]
theorem k_laws_toGraph : acLin Go.Proofs.Tryd.prog 15 1 (inQ [] []) [] = some (c_laws_toGraph, r_laws_toGraph) := by kernel_rfl
def c_laws_toPattern : AC := seq (reg [⟨(some 1), box 4 (t 0), none⟩, ⟨(some 2), alloc [.int .i64 0, .int .u32 0, .int .u32 0, .sl [] true], none⟩]) (seq (reg [⟨(some 3), alloc [.int .i64 0, .int .u32 0, .int .u32 0, .sl [] true], none⟩]) (seq (reg [⟨(some 4), fad (t 1) 0, none⟩, ⟨(some 5), ld (t 4) 2 true, none⟩, ⟨(some 6), callq (c (.fn 15 [])) [t 5], none⟩, ⟨(some 7), fad (t 3) 0, none⟩, ⟨none, st (t 7) 2 (t 6), none⟩]) (seq (reg [⟨(some 8), fad (t 1) 2, none⟩, ⟨(some 9), ld (t 8) 1 false, none⟩, ⟨(some 10), fad (t 3) 2, none⟩, ⟨none, st (t 10) 1 (t 9), none⟩]) (seq (reg [⟨(some 11), fad (t 1) 3, none⟩, ⟨(some 12), ld (t 11) 1 false, none⟩, ⟨(some 13), callq (c (.fn 16 [])) [t 12], none⟩, ⟨(some 14), fad (t 3) 3, none⟩, ⟨none, st (t 14) 1 (t 13), none⟩]) (seq (reg [⟨(some 15), ld (t 3) 4 true, none⟩, ⟨none, st (t 2) 4 (t 15), none⟩]) (ret))))))
def r_laws_toPattern : List ARes := [.cell 2 4 true]
theorem k_laws_toPattern : acLin Go.Proofs.Tryd.prog 6 1 (inQ [15, 16] []) [] = some (c_laws_toPattern, r_laws_toPattern) := by kernel_rfl
def c_laws_eqFraction : AC := seq (reg [⟨(some 2), box 2 (t 0), none⟩, ⟨(some 3), box 2 (t 1), none⟩, ⟨(some 4), mv (c (.bool false)), none⟩]) (seq (seq (reg [⟨(some 5), fad (t 2) 0, none⟩, ⟨(some 6), ld (t 5) 1 false, none⟩, ⟨(some 7), fad (t 3) 0, none⟩, ⟨(some 8), ld (t 7) 1 false, none⟩, ⟨(some 9), bin .neq (t 6) (t 8), none⟩]) (cond (t 9) (seq (reg [⟨(some 4), mv (c (.bool false)), none⟩]) (ret)) (skip))) (seq (seq (reg [⟨(some 10), fad (t 2) 1, none⟩, ⟨(some 11), ld (t 10) 1 false, none⟩, ⟨(some 12), fad (t 3) 1, none⟩, ⟨(some 13), ld (t 12) 1 false, none⟩, ⟨(some 14), bin .neq (t 11) (t 13), none⟩]) (cond (t 14) (seq (reg [⟨(some 4), mv (c (.bool false)), none⟩]) (ret)) (skip))) (seq (reg [⟨(some 4), mv (c (.bool true)), none⟩]) (ret))))
def r_laws_eqFraction : List ARes := [.tmp 4]
theorem k_laws_eqFraction : acLin Go.Proofs.Tryd.prog 42 2 (inQ [] []) [] = some (c_laws_eqFraction, r_laws_eqFraction) := by kernel_rfl
def c_laws_eqFractionS : AC := seq (reg [⟨(some 4), mv (c (.bool false)), none⟩]) (seq (seq (reg [⟨(some 6), mv (t 0), none⟩, ⟨(some 7), len (t 6), none⟩, ⟨(some 8), mv (t 1), none⟩, ⟨(some 9), len (t 8), none⟩, ⟨(some 10), bin .neq (t 7) (t 9), none⟩]) (cond (t 10) (seq (reg [⟨(some 4), mv (c (.bool false)), none⟩]) (ret)) (skip))) (seq (seq (reg [⟨(some 5), mv (c (.int .i64 0)), none⟩]) (block 0 (loop (seq (seq (reg [⟨(some 11), mv (t 5), none⟩, ⟨(some 12), mv (t 0), none⟩, ⟨(some 13), len (t 12), none⟩, ⟨(some 14), bin .lss (t 11) (t 13), none⟩]) (cond (t 14) (skip) (exit 0))) (seq (block 1 (seq (reg [⟨(some 17), mv (t 0), none⟩, ⟨(some 18), mv (t 5), none⟩, ⟨(some 19), iad 2 (t 17) (t 18), none⟩, ⟨(some 20), ld (t 19) 2 true, none⟩, ⟨(some 21), mv (t 1), none⟩, ⟨(some 22), mv (t 5), none⟩, ⟨(some 23), iad 2 (t 21) (t 22), none⟩, ⟨(some 24), ld (t 23) 2 true, none⟩, ⟨(some 25), callq (c (.fn 42 [])) [t 20, t 24], none⟩, ⟨(some 26), un .not (t 25), none⟩]) (cond (t 26) (seq (reg [⟨(some 4), mv (c (.bool false)), none⟩]) (ret)) (skip)))) (reg [⟨(some 15), mv (t 5), none⟩, ⟨(some 16), bin .add (t 15) (c (.int .i64 1)), none⟩, ⟨(some 5), mv (t 16), none⟩])))))) (seq (reg [⟨(some 4), mv (c (.bool true)), none⟩]) (ret))))
def r_laws_eqFractionS : List ARes := [.tmp 4]
theorem k_laws_eqFractionS : acLin Go.Proofs.Tryd.prog 20 2 (inQ [42] []) [⟨false, none, [], [], none⟩, ⟨false, none, [], [], none⟩, ⟨false, none, [], [], none⟩, ⟨false, none, [], [], none⟩, ⟨false, none, [], [], none⟩, ⟨false, none, [], [], none⟩, ⟨false, none, [], [], none⟩, ⟨false, some [0, 1, 2, 3, 4, 5, 6, 7, 8, 9], [], [], none⟩] = some (c_laws_eqFractionS, r_laws_eqFractionS) := by kernel_rfl
def c_laws_eqGraph : AC := seq (reg [⟨(some 2), box 2 (t 0), none⟩, ⟨(some 3), box 2 (t 1), none⟩, ⟨(some 4), mv (c (.bool false)), none⟩]) (seq (seq (reg [⟨(some 5), fad (t 2) 0, none⟩, ⟨(some 6), ld (t 5) 1 false, none⟩, ⟨(some 7), fad (t 3) 0, none⟩, ⟨(some 8), ld (t 7) 1 false, none⟩, ⟨(some 9), bin .neq (t 6) (t 8), none⟩]) (cond (t 9) (seq (reg [⟨(some 4), mv (c (.bool false)), none⟩]) (ret)) (skip))) (seq (seq (reg [⟨(some 10), fad (t 2) 1, none⟩, ⟨(some 11), ld (t 10) 1 false, none⟩, ⟨(some 12), fad (t 3) 1, none⟩, ⟨(some 13), ld (t 12) 1 false, none⟩, ⟨(some 14), bin .neq (t 11) (t 13), none⟩]) (cond (t 14) (seq (reg [⟨(some 4), mv (c (.bool false)), none⟩]) (ret)) (skip))) (seq (reg [⟨(some 4), mv (c (.bool true)), none⟩]) (ret))))
def r_laws_eqGraph : List ARes := [.tmp 4]
theorem k_laws_eqGraph : acLin Go.Proofs.Tryd.prog 19 2 (inQ [] []) [] = some (c_laws_eqGraph, r_laws_eqGraph) := by kernel_rfl
def c_laws_eqPattern : AC := seq (reg [⟨(some 2), box 4 (t 0), none⟩, ⟨(some 3), box 4 (t 1), none⟩, ⟨(some 4), mv (c (.bool false)), none⟩]) (seq (seq (reg [⟨(some 5), fad (t 2) 0, none⟩, ⟨(some 6), ld (t 5) 2 true, none⟩, ⟨(some 7), fad (t 3) 0, none⟩, ⟨(some 8), ld (t 7) 2 true, none⟩, ⟨(some 9), callq (c (.fn 19 [])) [t 6, t 8], none⟩, ⟨(some 10), un .not (t 9), none⟩]) (cond (t 10) (seq (reg [⟨(some 4), mv (c (.bool false)), none⟩]) (ret)) (skip))) (seq (seq (reg [⟨(some 11), fad (t 2) 2, none⟩, ⟨(some 12), ld (t 11) 1 false, none⟩, ⟨(some 13), fad (t 3) 2, none⟩, ⟨(some 14), ld (t 13) 1 false, none⟩, ⟨(some 15), bin .neq (t 12) (t 14), none⟩]) (cond (t 15) (seq (reg [⟨(some 4), mv (c (.bool false)), none⟩]) (ret)) (skip))) (seq (seq (reg [⟨(some 16), fad (t 2) 3, none⟩, ⟨(some 17), ld (t 16) 1 false, none⟩, ⟨(some 18), fad (t 3) 3, none⟩, ⟨(some 19), ld (t 18) 1 false, none⟩, ⟨(some 20), callq (c (.fn 20 [])) [t 17, t 19], none⟩, ⟨(some 21), un .not (t 20), none⟩]) (cond (t 21) (seq (reg [⟨(some 4), mv (c (.bool false)), none⟩]) (ret)) (skip))) (seq (reg [⟨(some 4), mv (c (.bool true)), none⟩]) (ret)))))
def r_laws_eqPattern : List ARes := [.tmp 4]
theorem k_laws_eqPattern : acLin Go.Proofs.Tryd.prog 8 2 (inQ [19, 20] []) [] = some (c_laws_eqPattern, r_laws_eqPattern) := by kernel_rfl
end Go.Proofs.YtlglgcmpeabdnaaDoorAi
end

section
/- Contracts: validity of patterns. -/
namespace Go.Proofs.YtlglgcmpeabdnaaDoorAi
open Go Go.RowKit
set_option linter.unusedVariables false
set_option linter.unusedSimpArgs false

noncomputable def sp_l02List : List AV → Option (AV) := pf (ι := (List Fr)) (α := AV) (fun l => l.length ≤ maxLen) (fun l => [.sl (frsA l) false]) (fun l => .bool (allOk l && decide (l.length ≤ 256)))
theorem sp_l02List_eq (l : List Fr) (h : l.length ≤ maxLen) : sp_l02List [.sl (frsA l) false] = some (.bool (allOk l && decide (l.length ≤ 256))) := by
  unfold sp_l02List
  exact pf_eq (ι := (List Fr)) (α := AV) l h (by rintro l' _ e; simp_all [Int.natCast_inj])
theorem q_spec_l02List : QP PP 23 sp_l02List := by
  refine QP_pf (fun l h => ?_) fun l h => ?_
  · exact ⟨by first | rfl | simp, by first | rfl | simp⟩
  replace h : l.length ≤ maxLen := h
  refine P_code (Quiet.q1 q_spec_l02Ok Quiet.nil) hmix k_spec_l02List rfl ?_ ?_
  · first | rfl | simp
  show wpc 0 PP _ c_spec_l02List (initSt [.sl (frsA l) false] .nil) (endP r_spec_l02List (.bool (allOk l && decide (l.length ≤ 256))))
  simp only [maxLen] at h
  simp -dsimp -implicitDefEqProofs [c_spec_l02List, r_spec_l02List]
  refine wpLoop_st (fun (i : Nat) => ⟨tl [(0, .sl (frsA l) false), (3, .int .i64 i)], ⟨[]⟩⟩) (fun i => i ≤ l.length ∧ allOk (l.take i) = true) (fun i => l.length - i) 0 ⟨Nat.zero_le _, rfl⟩ (Sub.keep (by simp) (by simp [hsub]) (by simp)) ?_
  rintro i ⟨h1, h2⟩
  simp -dsimp -implicitDefEqProofs
  refine brW_of (fun h => ?_) (fun h => ?_) <;> simp only [decide_eq_true_eq, decide_eq_false_iff_not] at h
  · have hi : i < l.length := by omega
    have hw := wrapNat (i := i) (by omega)
    cases hv : frOk l[i].p l[i].q with
    | false => simp -dsimp -implicitDefEqProofs [hi, hw, hv, allOk_false hi hv]
    | true =>
      simp -dsimp -implicitDefEqProofs [hi, hw, hv]
      exact .mk (i + 1) ⟨by omega, allOk_step hi h2 hv⟩ (by omega) (Sub.keep (by simp) (by simp [hsub]) (by simp))
  · have hi' : i = l.length := by omega
    rw [hi', List.take_length] at h2
    simp -dsimp -implicitDefEqProofs [h2]
    omega

def sumO : Fr → List Fr → Option Fr
  | a, [] => some a
  | a, x :: xs => (add2 a x).bind fun s => sumO s xs
def sumA (l : List Fr) : AV := if allOk l = true ∧ l.length ≤ 256 then frO (sumO ⟨0, 1⟩ l) else .tup [.agg [.int .i64 0, .int .i64 0], .int .i64 1]
@[simp] theorem sumA_lt (l : List Fr) (n : Nat) : (sumA l).lt n = true := by unfold sumA; split <;> first | simp | rfl
noncomputable def sp_Sum : List AV → Option (AV) := pf (ι := (List Fr)) (α := AV) (fun l => l.length ≤ maxLen) (fun l => [.sl (frsA l) false]) (fun l => sumA l)
theorem sp_Sum_eq (l : List Fr) (h : l.length ≤ maxLen) : sp_Sum [.sl (frsA l) false] = some (sumA l) := by
  unfold sp_Sum
  exact pf_eq (ι := (List Fr)) (α := AV) l h (by rintro l' _ e; simp_all [Int.natCast_inj])
theorem q_spec_SumOfFractions : QP PP 24 sp_Sum := by
  refine QP_pf (fun l h => ?_) fun l h => ?_
  · exact ⟨by first | rfl | simp, by first | rfl | simp⟩
  replace h : l.length ≤ maxLen := h
  refine P_code (Quiet.q1 q_spec_l02List (Quiet.q1 q_spec_l02Zero (Quiet.q1 q_spec_l02Add Quiet.nil))) hmix k_spec_SumOfFractions rfl ?_ ?_
  · first | rfl | simp
  show wpc 0 PP _ c_spec_SumOfFractions (initSt [.sl (frsA l) false] .nil) (endP r_spec_SumOfFractions (sumA l))
  simp -dsimp -implicitDefEqProofs [c_spec_SumOfFractions, r_spec_SumOfFractions, sp_l02List_eq l h]
  by_cases hv : allOk l = true ∧ l.length ≤ 256
  · have hs : sumA l = frO (sumO ⟨0, 1⟩ l) := if_pos hv
    simp -dsimp -implicitDefEqProofs [hv.1, hv.2]
    refine wpLoop_st (fun (i : Nat × Fr) => ⟨tl [(0, .sl (frsA l) false), (2, .ptr 0 0), (4, .ptr 1 0), (5, .int .i64 i.1)], ⟨[some [.int .i64 0, .int .i64 0], some [.int .i64 i.2.p, .int .i64 i.2.q]]⟩⟩) (fun i => i.1 ≤ l.length ∧ frIn i.2.p i.2.q ∧ sumO i.2 (l.drop i.1) = sumO ⟨0, 1⟩ l) (fun i => l.length - i.1) (0, ⟨0, 1⟩) ⟨Nat.zero_le _, zero_in, rfl⟩ (Sub.keep (by simp) (by simp [hsub]) (by simp)) ?_
    rintro ⟨i, a⟩ ⟨h1, h2, h3⟩
    simp -dsimp -implicitDefEqProofs
    refine brW_of (fun h => ?_) (fun h => ?_) <;> simp only [decide_eq_true_eq, decide_eq_false_iff_not] at h
    · have hi : i < l.length := by omega
      have hw := wrapNat (i := i) (by omega)
      have hx := (allOk_in hv.1).get hi
      have e1 := sp_l02Add_eq a.p a.q l[i].p l[i].q ⟨h2, hx⟩
      rw [drop_cons hi, sumO, add2] at h3
      cases ha : addO a.p a.q l[i].p l[i].q with
      | none =>
        rw [ha] at e1 h3
        simp -dsimp -implicitDefEqProofs [hi, hw, e1, frO, hs, ← h3]
      | some s =>
        rw [ha] at e1 h3
        simp -dsimp -implicitDefEqProofs [hi, hw, e1, frO]
        exact .mk (i + 1, s) ⟨by simp only; omega, add2_some h2 hx ha, h3⟩ (by simp only; omega) (Sub.keep (by simp) (by simp [hsub]) (by simp [hw]))
    · have hi : ¬ i < l.length := by omega
      rw [drop_end hi, sumO] at h3
      simp -dsimp -implicitDefEqProofs [hs, ← h3, frO]
  · have hv' : (!allOk l || !decide (l.length ≤ 256)) = true := by cases e : allOk l <;> simp_all
    have hs : sumA l = .tup [.agg [.int .i64 0, .int .i64 0], .int .i64 1] := if_neg hv
    simp -dsimp -implicitDefEqProofs [hv', hs]

def loopsOk (n l : Int) : Bool := decide ((1 ≤ n ∧ n ≤ 4) ∧ l < 2 ^ n.toNat)
noncomputable def sp_form : List AV → Option (AV) := pf (ι := (Int) × (Int) × (Int)) (α := AV) (fun ⟨n, e, l⟩ => 0 ≤ l ∧ l ≤ 4294967295) (fun ⟨n, e, l⟩ => [.agg [.int .i64 n, .int .u32 e], .int .u32 l]) (fun ⟨n, e, l⟩ => .bool (loopsOk n l))
theorem sp_form_eq (n e l : Int) (h : 0 ≤ l ∧ l ≤ 4294967295) : sp_form [.agg [.int .i64 n, .int .u32 e], .int .u32 l] = some (.bool (loopsOk n l)) := by
  unfold sp_form
  exact pf_eq (ι := (Int) × (Int) × (Int)) (α := AV) (n, e, l) h (by rintro ⟨n', e', l'⟩ _ e; simp_all [Int.natCast_inj])
theorem q_spec_l07Form : QP PP 22 sp_form := by
  refine QP_pf (fun i h => ?_) fun i h => ?_
  · obtain ⟨n, e, l⟩ := i; exact ⟨by first | rfl | simp, by first | rfl | simp⟩
  obtain ⟨n, e, l⟩ := i
  replace h : 0 ≤ l ∧ l ≤ 4294967295 := h
  refine P_code (Quiet.q1 q_spec_l00In Quiet.nil) hmix k_spec_l07Form rfl ?_ ?_
  · first | rfl | simp
  show wpc 0 PP _ c_spec_l07Form (initSt [.agg [.int .i64 n, .int .u32 e], .int .u32 l] .nil) (endP r_spec_l07Form (.bool (loopsOk n l)))
  have em : l % 18446744073709551616 = l := by omega
  simp -dsimp -implicitDefEqProofs [c_spec_l07Form, r_spec_l07Form]
  by_cases hn : 1 ≤ n ∧ n ≤ 4
  · have h5 : n = 1 ∨ n = 2 ∨ n = 3 ∨ n = 4 := by omega
    rcases h5 with rfl | rfl | rfl | rfl <;> simp -dsimp -implicitDefEqProofs [IntKind.bits, IntKind.wrap, IntKind.signed]
    all_goals (rw [em, if_neg (by omega), Bool.eq_iff_iff]; simp [loopsOk] <;> omega)
  · have hv : loopsOk n l = false := decide_eq_false fun h => hn h.1
    have hv' : (decide (1 ≤ n) && decide (n ≤ 4)) = false := by simpa using hn
    simp -dsimp -implicitDefEqProofs [hv, hv']
noncomputable def sp_shapeOk : List AV → Option (AV) := pf (ι := (Int) × (Int) × (Int)) (α := AV) (fun ⟨n, e, l⟩ => (0 ≤ e ∧ e ≤ 4294967295) ∧ (0 ≤ l ∧ l ≤ 4294967295)) (fun ⟨n, e, l⟩ => [.agg [.int .i64 n, .int .u32 e], .int .u32 l]) (fun ⟨n, e, l⟩ => .bool (graphOk n e && loopsOk n l))
theorem sp_shapeOk_eq (n e l : Int) (h : (0 ≤ e ∧ e ≤ 4294967295) ∧ (0 ≤ l ∧ l ≤ 4294967295)) : sp_shapeOk [.agg [.int .i64 n, .int .u32 e], .int .u32 l] = some (.bool (graphOk n e && loopsOk n l)) := by
  unfold sp_shapeOk
  exact pf_eq (ι := (Int) × (Int) × (Int)) (α := AV) (n, e, l) h (by rintro ⟨n', e', l'⟩ _ e; simp_all [Int.natCast_inj])
theorem q_impl_shapeOk : QP PP 31 sp_shapeOk := by
  refine QP_pf (fun i h => ?_) fun i h => ?_
  · obtain ⟨n, e, l⟩ := i; exact ⟨by first | rfl | simp, by first | rfl | simp⟩
  obtain ⟨n, e, l⟩ := i
  replace h : (0 ≤ e ∧ e ≤ 4294967295) ∧ (0 ≤ l ∧ l ≤ 4294967295) := h
  refine P_code (Quiet.q1 q_impl_ValidGraph (Quiet.q1 q_impl_in Quiet.nil)) hmix k_impl_shapeOk rfl ?_ ?_
  · first | rfl | simp
  show wpc 0 PP _ c_impl_shapeOk (initSt [.agg [.int .i64 n, .int .u32 e], .int .u32 l] .nil) (endP r_impl_shapeOk (.bool (graphOk n e && loopsOk n l)))
  simp -dsimp -implicitDefEqProofs [c_impl_shapeOk, r_impl_shapeOk, sp_graphOk_eq n e h.1]
  cases hg : graphOk n e with
  | false => simp -dsimp -implicitDefEqProofs
  | true =>
    by_cases hn : 1 ≤ n ∧ n ≤ 4
    · have h5 : n = 1 ∨ n = 2 ∨ n = 3 ∨ n = 4 := by omega
      rcases h5 with rfl | rfl | rfl | rfl <;> simp -dsimp -implicitDefEqProofs [IntKind.bits]
      all_goals (rw [fdiv_zero (by decide) h.2.1, Bool.eq_iff_iff]; simp [loopsOk] <;> omega)
    · have hv : loopsOk n l = false := decide_eq_false fun h => hn h.1
      have hv' : (decide (1 ≤ n) && decide (n ≤ 4)) = false := by simpa using hn
      simp -dsimp -implicitDefEqProofs [hv, hv']

def nnAll (ps : List Fr) : Bool := ps.all fun x => decide (0 ≤ x.p)
def patOk (n e l : Int) (ps : List Fr) : Bool := graphOk n e && loopsOk n l && decide ((ps.length : Int) = n) && allOk ps && nnAll ps && decide (sumO ⟨0, 1⟩ ps = some ⟨1, 1⟩)
theorem nnAll_false {ps : List Fr} {i : Nat} (h : i < ps.length) (hf : ps[i].p < 0) : nnAll ps = false := by
  unfold nnAll
  rw [List.all_eq_false]
  exact ⟨ps[i], List.getElem_mem h, by simp; omega⟩
theorem nnAll_step {ps : List Fr} {i : Nat} (h : i < ps.length) (h1 : nnAll (ps.take i) = true) (hf : ¬ ps[i].p < 0) : nnAll (ps.take (i + 1)) = true := by
  rw [take_snoc ps i h]
  unfold nnAll at *
  rw [List.all_append, h1]
  simp
  omega

noncomputable def sp_l07Ok : List AV → List AV → Option (AV × List AV) := pm (pf (ι := (Int) × (Int) × (Int) × (List Fr)) (α := AV × List AV) (fun ⟨n, e, l, ps⟩ => (0 ≤ e ∧ e ≤ 4294967295) ∧ (0 ≤ l ∧ l ≤ 4294967295) ∧ ps.length ≤ maxLen) (fun i => .agg ((fun ⟨n, e, l, ps⟩ => [.int .i64 n, .int .u32 e, .int .u32 l, .sl (frsA ps) false] : (Int) × (Int) × (Int) × (List Fr) → List AV) i) :: (fun ⟨n, e, l, ps⟩ => [] : (Int) × (Int) × (Int) × (List Fr) → List AV) i) (fun ⟨n, e, l, ps⟩ => (.bool (patOk n e l ps), [.int .i64 n, .int .u32 e, .int .u32 l, .sl (frsA ps) false])))
theorem sp_l07Ok_eq (n e l : Int) (ps : List Fr) (h : (0 ≤ e ∧ e ≤ 4294967295) ∧ (0 ≤ l ∧ l ≤ 4294967295) ∧ ps.length ≤ maxLen) : sp_l07Ok [.int .i64 n, .int .u32 e, .int .u32 l, .sl (frsA ps) false] [] = some (.bool (patOk n e l ps), [.int .i64 n, .int .u32 e, .int .u32 l, .sl (frsA ps) false]) := by
  unfold sp_l07Ok pm
  exact pf_eq (ι := (Int) × (Int) × (Int) × (List Fr)) (α := AV × List AV) (n, e, l, ps) h (by rintro ⟨n', e', l', ps'⟩ _ e; simp_all [Int.natCast_inj])
theorem m_spec_l07Ok : QM PP 10 sp_l07Ok := by
  refine QM_pf (fun i h => ?_) fun i h => ?_
  · obtain ⟨n, e, l, ps⟩ := i; exact ⟨⟨by first | rfl | simp, by first | rfl | simp⟩, by first | rfl | simp, by first | rfl | simp⟩
  obtain ⟨n, e, l, ps⟩ := i
  replace h : (0 ≤ e ∧ e ≤ 4294967295) ∧ (0 ≤ l ∧ l ≤ 4294967295) ∧ ps.length ≤ maxLen := h
  refine H_code (Quiet.q1 q_spec_l01Ok (Quiet.q1 q_spec_l07Form (Quiet.q1 q_spec_l02List (Quiet.q1 q_spec_SumOfFractions (Quiet.q1 q_spec_l02One Quiet.nil))))) hmix k_spec_l07Ok rfl (fun b => b) (Nat.le_refl _) (fun _ _ => rfl) rfl (by first | rfl | simp) ?_
  show wpc 1 PP _ c_spec_l07Ok (initSt [.ptr 0 0] ⟨[some [.int .i64 n, .int .u32 e, .int .u32 l, .sl (frsA ps) false]]⟩) (endH (fun b => b) r_spec_l07Ok (.bool (patOk n e l ps)) [some [.int .i64 n, .int .u32 e, .int .u32 l, .sl (frsA ps) false]])
  obtain ⟨he, hl, hp⟩ := h
  have hlen4 : loopsOk n l = true → n ≤ 4 := fun h => (of_decide_eq_true h).1.2
  simp -dsimp -implicitDefEqProofs [c_spec_l07Ok, r_spec_l07Ok, sp_graphOk_eq n e he]
  cases hg : graphOk n e with
  | false => simp -dsimp -implicitDefEqProofs [patOk, hg, hsub]
  | true =>
    cases hf : loopsOk n l with
    | false => simp -dsimp -implicitDefEqProofs [sp_form_eq n e l hl, hf, patOk, hsub]
    | true =>
      by_cases hn : (ps.length : Int) = n
      · have hn4 := hlen4 hf
        have h256 : ps.length ≤ 256 := by omega
        cases ha : allOk ps with
        | false => simp -dsimp -implicitDefEqProofs [sp_form_eq n e l hl, hf, hn, sp_l02List_eq ps hp, ha, patOk, hsub]
        | true =>
          simp -dsimp -implicitDefEqProofs [sp_form_eq n e l hl, hf, hn, sp_l02List_eq ps hp, ha, h256]
          refine wpLoop_st (fun (i : Nat) => ⟨tl [(0, .ptr 0 0), (3, .int .i64 i)], ⟨[some [.int .i64 n, .int .u32 e, .int .u32 l, .sl (frsA ps) false]]⟩⟩) (fun i => i ≤ ps.length ∧ nnAll (ps.take i) = true) (fun i => ps.length - i) 0 ⟨Nat.zero_le _, rfl⟩ (Sub.keep (by simp) (by simp [hsub]) (by simp)) ?_
          rintro i ⟨h1, h2⟩
          simp -dsimp -implicitDefEqProofs
          refine brW_of (fun h => ?_) (fun h => ?_) <;> simp only [decide_eq_true_eq, decide_eq_false_iff_not] at h
          · have hi : i < ps.length := by omega
            have hw := wrapNat (i := i) (by omega)
            by_cases hneg : ps[i].p < 0
            · simp -dsimp -implicitDefEqProofs [hi, hw, hneg, patOk, nnAll_false hi hneg, hsub]
            · simp -dsimp -implicitDefEqProofs [hi, hw, hneg]
              exact .mk (i + 1) ⟨by omega, nnAll_step hi h2 hneg⟩ (by omega) (Sub.keep (by simp) (by simp [hsub]) (by simp))
          · have hi : i = ps.length := by omega
            rw [hi, List.take_length] at h2
            have hs : sumA ps = frO (sumO ⟨0, 1⟩ ps) := if_pos ⟨ha, h256⟩
            cases hsum : sumO ⟨0, 1⟩ ps with
            | none => simp -dsimp -implicitDefEqProofs [sp_Sum_eq ps hp, hs, hsum, frO, patOk, hsub]
            | some s =>
              simp -dsimp -implicitDefEqProofs [sp_Sum_eq ps hp, hs, hsum, frO, patOk, hsub, hg, hf, hn, ha, h2]
              cases s
              rw [Bool.eq_iff_iff]
              simp
      · have hn' : ((ps.length : Int) != n) = true := by simpa using hn
        simp -dsimp -implicitDefEqProofs [sp_form_eq n e l hl, hf, hn', hn, patOk, hsub]

noncomputable def sp_patOk : List AV → Option (AV) := pf (ι := (Int) × (Int) × (Int) × (List Fr)) (α := AV) (fun ⟨n, e, l, ps⟩ => (0 ≤ e ∧ e ≤ 4294967295) ∧ (0 ≤ l ∧ l ≤ 4294967295) ∧ ps.length ≤ maxLen) (fun ⟨n, e, l, ps⟩ => [.agg [.int .i64 n, .int .u32 e, .int .u32 l, .sl (frsA ps) false]]) (fun ⟨n, e, l, ps⟩ => .bool (patOk n e l ps))
theorem sp_patOk_eq (n e l : Int) (ps : List Fr) (h : (0 ≤ e ∧ e ≤ 4294967295) ∧ (0 ≤ l ∧ l ≤ 4294967295) ∧ ps.length ≤ maxLen) : sp_patOk [.agg [.int .i64 n, .int .u32 e, .int .u32 l, .sl (frsA ps) false]] = some (.bool (patOk n e l ps)) := by
  unfold sp_patOk
  exact pf_eq (ι := (Int) × (Int) × (Int) × (List Fr)) (α := AV) (n, e, l, ps) h (by rintro ⟨n', e', l', ps'⟩ _ e; simp_all [Int.natCast_inj])
end Go.Proofs.YtlglgcmpeabdnaaDoorAi
end

section
/- Contracts: validity of patterns, as the program has it; its law. -/
namespace Go.Proofs.YtlglgcmpeabdnaaDoorAi
open Go Go.RowKit
set_option linter.unusedVariables false
set_option linter.unusedSimpArgs false

/-- The sum as the program makes it. -/
def sumG : Fr → Bool → List Fr → Fr × Bool
  | a, g, [] => (a, g)
  | a, g, x :: xs => sumG (valO (add2 a x)) (g || (add2 a x).isNone) xs
theorem sumG_true : ∀ (xs : List Fr) (a : Fr), (sumG a true xs).2 = true
  | [], a => rfl
  | x :: xs, a => by rw [sumG]; simpa using sumG_true xs _
theorem sumO_G : ∀ (xs : List Fr) (a : Fr) (g : Bool), (∀ v, sumO a xs = some v → sumG a g xs = (v, g)) ∧ (sumO a xs = none → (sumG a g xs).2 = true)
  | [], a, g => by simp [sumO, sumG]
  | x :: xs, a, g => by
    rw [sumO, sumG]
    cases ha : add2 a x with
    | none => simp [sumG_true]
    | some s => simpa [valO, ha] using sumO_G xs s g
theorem sumG_one (l : List Fr) : (!(sumG ⟨0, 1⟩ false l).2 && decide ((sumG ⟨0, 1⟩ false l).1 = ⟨1, 1⟩)) = decide (sumO ⟨0, 1⟩ l = some ⟨1, 1⟩) := by
  obtain ⟨h1, h2⟩ := sumO_G l ⟨0, 1⟩ false
  cases e : sumO ⟨0, 1⟩ l with
  | none => simp [h2 e]
  | some v => rw [h1 v e]; simp

theorem q_impl_ValidPattern : QP PP 17 sp_patOk := by
  refine QP_pf (fun i h => ?_) fun i h => ?_
  · obtain ⟨n, e, l, ps⟩ := i; exact ⟨by first | rfl | simp, by first | rfl | simp⟩
  obtain ⟨n, e, l, ps⟩ := i
  replace h : (0 ≤ e ∧ e ≤ 4294967295) ∧ (0 ≤ l ∧ l ≤ 4294967295) ∧ ps.length ≤ maxLen := h
  refine P_code (Quiet.q1 q_impl_shapeOk (Quiet.q1 q_impl_zero (Quiet.q1 q_impl_badFraction (Quiet.q1 q_impl_one (Quiet.e1 m_impl_sums_add.toE Quiet.nil))))) hmix k_impl_ValidPattern rfl ?_ ?_
  · first | rfl | simp
  show wpc 0 PP _ c_impl_ValidPattern (initSt [.agg [.int .i64 n, .int .u32 e, .int .u32 l, .sl (frsA ps) false]] .nil) (endP r_impl_ValidPattern (.bool (patOk n e l ps)))
  obtain ⟨he, hl, hp⟩ := h
  simp -dsimp -implicitDefEqProofs [c_impl_ValidPattern, r_impl_ValidPattern, sp_shapeOk_eq n e l ⟨he, hl⟩]
  cases hg : graphOk n e with
  | false => simp -dsimp -implicitDefEqProofs [patOk, hg]
  | true =>
    cases hf : loopsOk n l with
    | false => simp -dsimp -implicitDefEqProofs [patOk, hg, hf]
    | true =>
      have hn4 : n ≤ 4 := (of_decide_eq_true hf).1.2
      by_cases hn : (ps.length : Int) = n
      · simp -dsimp -implicitDefEqProofs [hn]
        refine wpLoop_st (fun (i : Nat × Fr × Bool) => ⟨tl [(1, .ptr 0 0), (3, .ptr 1 0), (4, .ptr 2 0), (25, .sl (frsA ps) false), (26, .int .i64 ps.length), (27, .int .i64 i.1)], ⟨[some [.int .i64 n, .int .u32 e, .int .u32 l, .sl (frsA ps) false], some [.bool i.2.2], some [.int .i64 i.2.1.p, .int .i64 i.2.1.q]]⟩⟩)
          (fun i => i.1 ≤ ps.length ∧ frIn i.2.1.p i.2.1.q ∧ sumG i.2.1 i.2.2 (ps.drop i.1) = sumG ⟨0, 1⟩ false ps ∧ allOk (ps.take i.1) = true ∧ nnAll (ps.take i.1) = true) (fun i => ps.length - i.1) (0, ⟨0, 1⟩, false) ⟨Nat.zero_le _, zero_in, rfl, rfl, rfl⟩ (Sub.keep (by simp) (by simp [hsub]) (by simp [hn])) ?_
        rintro ⟨i, a, b⟩ ⟨h1, h2, h3, h4, h5⟩
        simp -dsimp -implicitDefEqProofs
        refine brW_of (fun h => ?_) (fun h => ?_) <;> simp only [decide_eq_true_eq, decide_eq_false_iff_not] at h
        · have hi : i < ps.length := by omega
          have hw := wrapNat (i := i) (by omega)
          cases hv : frOk ps[i].p ps[i].q with
          | false => simp -dsimp -implicitDefEqProofs [hi, hw, hv, patOk, allOk_false hi hv]
          | true =>
            by_cases hneg : ps[i].p < 0
            · simp -dsimp -implicitDefEqProofs [hi, hw, hv, hneg, patOk, nnAll_false hi hneg]
            · simp -dsimp -implicitDefEqProofs [hi, hw, hv, hneg, sp_add_eq b a.p a.q ps[i].p ps[i].q ⟨h2, frOk_in hv⟩]
              rw [drop_cons hi, sumG] at h3
              exact .mk (i + 1, valO (add2 a ps[i]), (b || (add2 a ps[i]).isNone)) ⟨by simp only; omega, add2_in h2 (frOk_in hv), h3, allOk_step hi h4 hv, nnAll_step hi h5 hneg⟩ (by simp only; omega) (Sub.keep (by simp) (by simp [hsub, add2]) (by simp [hw]))
        · have hi : i = ps.length := by omega
          simp only [hi, List.take_length, List.drop_length, sumG] at h3 h4 h5
          have hs := sumG_one ps
          rw [← h3] at hs
          have hv : patOk n e l ps = decide (sumO ⟨0, 1⟩ ps = some ⟨1, 1⟩) := by simp [patOk, hg, hf, hn, h4, h5]
          rw [hv, ← hs]
          cases b <;> simp -dsimp -implicitDefEqProofs [Fr.mk.injEq]
          cases a
          rw [Bool.eq_iff_iff]
          simp
      · have hn' : ((ps.length : Int) != n) = true := by simpa using hn
        simp -dsimp -implicitDefEqProofs [hn', hn, patOk]

/-! ### the law's own functions -/
noncomputable def sp_szFractionS : List AV → Option (AV) := pf (ι := (List Fr) × (Int)) (α := AV) (fun ⟨l, n⟩ => 0 ≤ n ∧ n ≤ 1048576 ∧ l.length ≤ maxLen) (fun ⟨l, n⟩ => [.sl (frsA l) false, .int .i64 n]) (fun ⟨l, n⟩ => .int .i64 (if (l.length : Int) ≤ n then n - l.length else -1))
theorem sp_szFractionS_eq (l : List Fr) (n : Int) (h : 0 ≤ n ∧ n ≤ 1048576 ∧ l.length ≤ maxLen) : sp_szFractionS [.sl (frsA l) false, .int .i64 n] = some (.int .i64 (if (l.length : Int) ≤ n then n - l.length else -1)) := by
  unfold sp_szFractionS
  exact pf_eq (ι := (List Fr) × (Int)) (α := AV) (l, n) h (by rintro ⟨l', n'⟩ _ e; simp_all [Int.natCast_inj])
theorem q_laws_szFractionS : QP PP 9 sp_szFractionS := by
  refine QP_pf (fun i h => ?_) fun i h => ?_
  · obtain ⟨l, n⟩ := i; exact ⟨by first | rfl | simp, by first | rfl | simp⟩
  obtain ⟨l, n⟩ := i
  replace h : 0 ≤ n ∧ n ≤ 1048576 ∧ l.length ≤ maxLen := h
  refine P_code Quiet.nil hmix k_laws_szFractionS rfl ?_ ?_
  · first | rfl | simp
  show wpc 0 PP _ c_laws_szFractionS (initSt [.sl (frsA l) false, .int .i64 n] .nil) (endP r_laws_szFractionS (.int .i64 (if (l.length : Int) ≤ n then n - l.length else -1)))
  obtain ⟨h0, h1, hl⟩ := h
  have hw : IntKind.i64.wrap (n - l.length) = n - l.length := wrapI64 (by simp only [maxLen] at hl; omega) (by omega)
  simp -dsimp -implicitDefEqProofs [c_laws_szFractionS, r_laws_szFractionS, hw]
  by_cases hlt : (l.length : Int) ≤ n
  · have h2 : ¬ (n - (l.length : Int) < 0) := by omega
    simp -dsimp -implicitDefEqProofs [hlt, h2]
  · have h2 : n - (l.length : Int) < 0 := by omega
    simp -dsimp -implicitDefEqProofs [hlt, h2]
noncomputable def sp_szPattern : List AV → Option (AV) := pf (ι := (Int) × (Int) × (Int) × (List Fr) × (Int)) (α := AV) (fun ⟨n, e, l, ps, m⟩ => 0 ≤ m ∧ m ≤ 1048576 ∧ ps.length ≤ maxLen) (fun ⟨n, e, l, ps, m⟩ => [.agg [.int .i64 n, .int .u32 e, .int .u32 l, .sl (frsA ps) false], .int .i64 m]) (fun ⟨n, e, l, ps, m⟩ => .int .i64 (if (ps.length : Int) ≤ m then m - ps.length else -1))
theorem sp_szPattern_eq (n e l : Int) (ps : List Fr) (m : Int) (h : 0 ≤ m ∧ m ≤ 1048576 ∧ ps.length ≤ maxLen) : sp_szPattern [.agg [.int .i64 n, .int .u32 e, .int .u32 l, .sl (frsA ps) false], .int .i64 m] = some (.int .i64 (if (ps.length : Int) ≤ m then m - ps.length else -1)) := by
  unfold sp_szPattern
  exact pf_eq (ι := (Int) × (Int) × (Int) × (List Fr) × (Int)) (α := AV) (n, e, l, ps, m) h (by rintro ⟨n', e', l', ps', m'⟩ _ e; simp_all [Int.natCast_inj])
theorem q_laws_szPattern : QP PP 4 sp_szPattern := by
  refine QP_pf (fun i h => ?_) fun i h => ?_
  · obtain ⟨n, e, l, ps, m⟩ := i; exact ⟨by first | rfl | simp, by first | rfl | simp⟩
  obtain ⟨n, e, l, ps, m⟩ := i
  replace h : 0 ≤ m ∧ m ≤ 1048576 ∧ ps.length ≤ maxLen := h
  refine P_code (Quiet.q1 q_laws_szFractionS Quiet.nil) hmix k_laws_szPattern rfl ?_ ?_
  · first | rfl | simp
  show wpc 0 PP _ c_laws_szPattern (initSt [.agg [.int .i64 n, .int .u32 e, .int .u32 l, .sl (frsA ps) false], .int .i64 m] .nil) (endP r_laws_szPattern (.int .i64 (if (ps.length : Int) ≤ m then m - ps.length else -1)))
  simp -dsimp -implicitDefEqProofs [c_laws_szPattern, r_laws_szPattern, sp_szFractionS_eq ps m h]
  by_cases hlt : (ps.length : Int) ≤ m
  · have h2 : ¬ (m - (ps.length : Int) < 0) := by omega
    simp -dsimp -implicitDefEqProofs [hlt, h2]
  · simp -dsimp -implicitDefEqProofs [hlt]
noncomputable def sp_toFraction : List AV → Option (AV) := pf (ι := (Int) × (Int)) (α := AV) (fun ⟨p, q⟩ => True) (fun ⟨p, q⟩ => [.agg [.int .i64 p, .int .i64 q]]) (fun ⟨p, q⟩ => .agg [.int .i64 p, .int .i64 q])
theorem sp_toFraction_eq (p q : Int) : sp_toFraction [.agg [.int .i64 p, .int .i64 q]] = some (.agg [.int .i64 p, .int .i64 q]) := by
  unfold sp_toFraction
  exact pf_eq (ι := (Int) × (Int)) (α := AV) (p, q) trivial (by rintro ⟨p', q'⟩ _ e; simp_all [Int.natCast_inj])
attribute [simp] sp_toFraction_eq
theorem q_laws_toFraction : QP PP 30 sp_toFraction := by
  refine QP_pf (fun i h => ?_) fun i h => ?_
  · obtain ⟨p, q⟩ := i; exact ⟨by first | rfl | simp, by first | rfl | simp⟩
  obtain ⟨p, q⟩ := i
  replace h : True := h
  refine P_code Quiet.nil hmix k_laws_toFraction rfl ?_ ?_
  · first | rfl | simp
  show wpc 0 PP _ c_laws_toFraction (initSt [.agg [.int .i64 p, .int .i64 q]] .nil) (endP r_laws_toFraction (.agg [.int .i64 p, .int .i64 q]))
  simp -dsimp -implicitDefEqProofs [c_laws_toFraction, r_laws_toFraction]
noncomputable def sp_toGraph : List AV → Option (AV) := pf (ι := (Int) × (Int)) (α := AV) (fun ⟨n, e⟩ => True) (fun ⟨n, e⟩ => [.agg [.int .i64 n, .int .u32 e]]) (fun ⟨n, e⟩ => .agg [.int .i64 n, .int .u32 e])
theorem sp_toGraph_eq (n e : Int) : sp_toGraph [.agg [.int .i64 n, .int .u32 e]] = some (.agg [.int .i64 n, .int .u32 e]) := by
  unfold sp_toGraph
  exact pf_eq (ι := (Int) × (Int)) (α := AV) (n, e) trivial (by rintro ⟨n', e'⟩ _ e; simp_all [Int.natCast_inj])
attribute [simp] sp_toGraph_eq
theorem q_laws_toGraph : QP PP 15 sp_toGraph := by
  refine QP_pf (fun i h => ?_) fun i h => ?_
  · obtain ⟨n, e⟩ := i; exact ⟨by first | rfl | simp, by first | rfl | simp⟩
  obtain ⟨n, e⟩ := i
  replace h : True := h
  refine P_code Quiet.nil hmix k_laws_toGraph rfl ?_ ?_
  · first | rfl | simp
  show wpc 0 PP _ c_laws_toGraph (initSt [.agg [.int .i64 n, .int .u32 e]] .nil) (endP r_laws_toGraph (.agg [.int .i64 n, .int .u32 e]))
  simp -dsimp -implicitDefEqProofs [c_laws_toGraph, r_laws_toGraph]
theorem frsA_cells (l : List Fr) : ∀ x ∈ frsA l, x.cells.length = 2 ∧ ltL 0 x.cells = true := by
  intro x hx
  obtain ⟨p, _, rfl⟩ := List.mem_map.1 hx
  exact ⟨rfl, rfl⟩
noncomputable def sp_toFractionS : List AV → Option (AV) := pf (ι := (List Fr)) (α := AV) (fun l => l.length ≤ 1048576) (fun l => [.sl (frsA l) false]) (fun l => .sl (frsA l) false)
theorem sp_toFractionS_eq (l : List Fr) (h : l.length ≤ 1048576) : sp_toFractionS [.sl (frsA l) false] = some (.sl (frsA l) false) := by
  unfold sp_toFractionS
  exact pf_eq (ι := (List Fr)) (α := AV) l h (by rintro l' _ e; simp_all [Int.natCast_inj])
theorem q_laws_toFractionS : QP PP 16 sp_toFractionS := by
  refine QP_pf (fun l h => ?_) fun l h => ?_
  · exact ⟨by first | rfl | simp, by first | rfl | simp⟩
  replace h : l.length ≤ 1048576 := h
  refine P_code (Quiet.q1 q_laws_toFraction Quiet.nil) hmix k_laws_toFractionS rfl ?_ ?_
  · first | rfl | simp
  show wpc 0 PP _ c_laws_toFractionS (initSt [.sl (frsA l) false] .nil) (endP r_laws_toFractionS (.sl (frsA l) false))
  have hm : (l.length : Int) * 17 ≤ (mostBytes : Int) := by simp only [mostBytes]; omega
  simp -dsimp -implicitDefEqProofs [c_laws_toFractionS, r_laws_toFractionS, hm]
  refine wpLoop_st (fun (i : Nat × List AV) => ⟨tl [(0, .sl (frsA l) false), (3, .ref 0 2 0 l.length .tight), (4, .int .i64 i.1)], ⟨[some i.2]⟩⟩) (fun i => i.1 ≤ l.length ∧ Filled 2 i.2 (frsA l) i.1 ∧ ltL 0 i.2 = true) (fun i => l.length - i.1) (0, newCells 2 l.length [.int .i64 0, .int .i64 0])
    ⟨Nat.zero_le _, Filled.zero (by simp [newCells, flat_len]), newCells_lt 2 l.length rfl⟩ (Sub.keep (by simp) (by
      have := newCells_lt (n := 1) 2 l.length (z := [.int .i64 0, .int .i64 0]) rfl
      simp [hsub, renL_id] at this ⊢
      exact this) (by simp)) ?_
  rintro ⟨i, cs⟩ ⟨h1, h2, h3⟩
  simp -dsimp -implicitDefEqProofs
  refine brW_of (fun h => ?_) (fun h => ?_) <;> simp only [decide_eq_true_eq, decide_eq_false_iff_not] at h
  · have hi : i < l.length := by omega
    have hw := wrapNat (i := i) (by omega)
    have hl : cs.length = l.length * 2 := by have := h2.len; rw [mapA_length] at this; exact this
    have hfit : i * 2 + 2 ≤ cs.length := by omega
    simp -dsimp -implicitDefEqProofs [hi, hfit, hw]
    refine .mk (i + 1, setCells cs (i * 2) (frA l[i]).cells) ⟨by simp only; omega, h2.step (by simp [hi]) rfl, setCells_lt _ _ _ h3 rfl⟩ (by simp only; omega) (Sub.keep (by simp) ?_ (by simp))
    have := setCells_lt (n := 1) _ (i * 2) (frA l[i]).cells (ltL_mono (Nat.zero_le 1) _ h3) rfl
    simp [hsub, renL_id, setCells] at this ⊢
    exact this
  · have hi : i = l.length := by omega
    subst hi
    simp -dsimp -implicitDefEqProofs
    have h2' : Filled 2 cs (frsA l) (frsA l).length := by rw [mapA_length]; exact h2
    have hl : cs.length = l.length * 2 := by have := h2.len; rw [mapA_length] at this; exact this
    refine ⟨_, Shift.tmp (k := 2) (b := 0) (e := 2) (o := 0) (n := l.length) (xs := frsA l) (t' := false) (t := .tight) (cs := cs) (by simp -dsimp) (by simp -dsimp) (by simp) (by omega) (by simp) (frsA_cells l) (.inl (by rw [h2'.all (fun x hx => (frsA_cells l x hx).1) (by omega)]; simp [← hl])), ?_⟩
    simp -dsimp -implicitDefEqProofs
noncomputable def sp_toPattern : List AV → Option (AV) := pf (ι := (Int) × (Int) × (Int) × (List Fr)) (α := AV) (fun ⟨n, e, l, ps⟩ => ps.length ≤ 1048576) (fun ⟨n, e, l, ps⟩ => [.agg [.int .i64 n, .int .u32 e, .int .u32 l, .sl (frsA ps) false]]) (fun ⟨n, e, l, ps⟩ => .agg [.int .i64 n, .int .u32 e, .int .u32 l, .sl (frsA ps) false])
theorem sp_toPattern_eq (n e l : Int) (ps : List Fr) (h : ps.length ≤ 1048576) : sp_toPattern [.agg [.int .i64 n, .int .u32 e, .int .u32 l, .sl (frsA ps) false]] = some (.agg [.int .i64 n, .int .u32 e, .int .u32 l, .sl (frsA ps) false]) := by
  unfold sp_toPattern
  exact pf_eq (ι := (Int) × (Int) × (Int) × (List Fr)) (α := AV) (n, e, l, ps) h (by rintro ⟨n', e', l', ps'⟩ _ e; simp_all [Int.natCast_inj])
theorem q_laws_toPattern : QP PP 6 sp_toPattern := by
  refine QP_pf (fun i h => ?_) fun i h => ?_
  · obtain ⟨n, e, l, ps⟩ := i; exact ⟨by first | rfl | simp, by first | rfl | simp⟩
  obtain ⟨n, e, l, ps⟩ := i
  replace h : ps.length ≤ 1048576 := h
  refine P_code (Quiet.q1 q_laws_toGraph (Quiet.q1 q_laws_toFractionS Quiet.nil)) hmix k_laws_toPattern rfl ?_ ?_
  · first | rfl | simp
  show wpc 0 PP _ c_laws_toPattern (initSt [.agg [.int .i64 n, .int .u32 e, .int .u32 l, .sl (frsA ps) false]] .nil) (endP r_laws_toPattern (.agg [.int .i64 n, .int .u32 e, .int .u32 l, .sl (frsA ps) false]))
  simp -dsimp -implicitDefEqProofs [c_laws_toPattern, r_laws_toPattern, sp_toFractionS_eq ps h]
noncomputable def sp_eqFraction : List AV → Option (AV) := pf (ι := (Int) × (Int) × (Int) × (Int)) (α := AV) (fun ⟨p, q, p', q'⟩ => True) (fun ⟨p, q, p', q'⟩ => [.agg [.int .i64 p, .int .i64 q], .agg [.int .i64 p', .int .i64 q']]) (fun ⟨p, q, p', q'⟩ => .bool (p == p' && q == q'))
theorem sp_eqFraction_eq (p q p' q' : Int) : sp_eqFraction [.agg [.int .i64 p, .int .i64 q], .agg [.int .i64 p', .int .i64 q']] = some (.bool (p == p' && q == q')) := by
  unfold sp_eqFraction
  exact pf_eq (ι := (Int) × (Int) × (Int) × (Int)) (α := AV) (p, q, p', q') trivial (by rintro ⟨p', q', p'', q''⟩ _ e; simp_all [Int.natCast_inj])
attribute [simp] sp_eqFraction_eq
theorem q_laws_eqFraction : QP PP 42 sp_eqFraction := by
  refine QP_pf (fun i h => ?_) fun i h => ?_
  · obtain ⟨p, q, p', q'⟩ := i; exact ⟨by first | rfl | simp, by first | rfl | simp⟩
  obtain ⟨p, q, p', q'⟩ := i
  replace h : True := h
  refine P_code Quiet.nil hmix k_laws_eqFraction rfl ?_ ?_
  · first | rfl | simp
  show wpc 0 PP _ c_laws_eqFraction (initSt [.agg [.int .i64 p, .int .i64 q], .agg [.int .i64 p', .int .i64 q']] .nil) (endP r_laws_eqFraction (.bool (p == p' && q == q')))
  simp -dsimp -implicitDefEqProofs [c_laws_eqFraction, r_laws_eqFraction]
  repeat' (refine brW_of (fun h => ?_) (fun h => ?_) <;> have h0 := h <;> (try simp only [Bool.and_eq_true, Bool.and_eq_false_iff, Bool.or_eq_true, Bool.or_eq_false_iff, Bool.not_eq_true', Bool.not_eq_false', decide_eq_true_eq, decide_eq_false_iff_not, beq_iff_eq, beq_eq_false_iff_ne, bne_iff_ne, bne_eq_false_iff_eq] at h) <;> simp -dsimp -implicitDefEqProofs [h, h0, *])
noncomputable def sp_eqGraph : List AV → Option (AV) := pf (ι := (Int) × (Int) × (Int) × (Int)) (α := AV) (fun ⟨p, q, p', q'⟩ => True) (fun ⟨p, q, p', q'⟩ => [.agg [.int .i64 p, .int .u32 q], .agg [.int .i64 p', .int .u32 q']]) (fun ⟨p, q, p', q'⟩ => .bool (p == p' && q == q'))
theorem sp_eqGraph_eq (p q p' q' : Int) : sp_eqGraph [.agg [.int .i64 p, .int .u32 q], .agg [.int .i64 p', .int .u32 q']] = some (.bool (p == p' && q == q')) := by
  unfold sp_eqGraph
  exact pf_eq (ι := (Int) × (Int) × (Int) × (Int)) (α := AV) (p, q, p', q') trivial (by rintro ⟨p', q', p'', q''⟩ _ e; simp_all [Int.natCast_inj])
attribute [simp] sp_eqGraph_eq
theorem q_laws_eqGraph : QP PP 19 sp_eqGraph := by
  refine QP_pf (fun i h => ?_) fun i h => ?_
  · obtain ⟨p, q, p', q'⟩ := i; exact ⟨by first | rfl | simp, by first | rfl | simp⟩
  obtain ⟨p, q, p', q'⟩ := i
  replace h : True := h
  refine P_code Quiet.nil hmix k_laws_eqGraph rfl ?_ ?_
  · first | rfl | simp
  show wpc 0 PP _ c_laws_eqGraph (initSt [.agg [.int .i64 p, .int .u32 q], .agg [.int .i64 p', .int .u32 q']] .nil) (endP r_laws_eqGraph (.bool (p == p' && q == q')))
  simp -dsimp -implicitDefEqProofs [c_laws_eqGraph, r_laws_eqGraph]
  repeat' (refine brW_of (fun h => ?_) (fun h => ?_) <;> have h0 := h <;> (try simp only [Bool.and_eq_true, Bool.and_eq_false_iff, Bool.or_eq_true, Bool.or_eq_false_iff, Bool.not_eq_true', Bool.not_eq_false', decide_eq_true_eq, decide_eq_false_iff_not, beq_iff_eq, beq_eq_false_iff_ne, bne_iff_ne, bne_eq_false_iff_eq] at h) <;> simp -dsimp -implicitDefEqProofs [h, h0, *])
noncomputable def sp_eqFractionS : List AV → Option (AV) := pf (ι := (List Fr) × (List Fr)) (α := AV) (fun ⟨l, k⟩ => l.length ≤ maxLen) (fun ⟨l, k⟩ => [.sl (frsA l) false, .sl (frsA k) false]) (fun ⟨l, k⟩ => .bool (decide (l = k)))
theorem sp_eqFractionS_eq (l k : List Fr) (h : l.length ≤ maxLen) : sp_eqFractionS [.sl (frsA l) false, .sl (frsA k) false] = some (.bool (decide (l = k))) := by
  unfold sp_eqFractionS
  exact pf_eq (ι := (List Fr) × (List Fr)) (α := AV) (l, k) h (by rintro ⟨l', k'⟩ _ e; simp_all [Int.natCast_inj])
theorem q_laws_eqFractionS : QP PP 20 sp_eqFractionS := by
  refine QP_pf (fun i h => ?_) fun i h => ?_
  · obtain ⟨l, k⟩ := i; exact ⟨by first | rfl | simp, by first | rfl | simp⟩
  obtain ⟨l, k⟩ := i
  replace h : l.length ≤ maxLen := h
  refine P_code (Quiet.q1 q_laws_eqFraction Quiet.nil) hmix k_laws_eqFractionS rfl ?_ ?_
  · first | rfl | simp
  show wpc 0 PP _ c_laws_eqFractionS (initSt [.sl (frsA l) false, .sl (frsA k) false] .nil) (endP r_laws_eqFractionS (.bool (decide (l = k))))
  simp only [maxLen] at h
  by_cases hlen : l.length = k.length
  · simp -dsimp -implicitDefEqProofs [c_laws_eqFractionS, r_laws_eqFractionS, hlen]
    refine wpLoop_st (fun (i : Nat) => ⟨tl [(0, .sl (frsA l) false), (1, .sl (frsA k) false), (5, .int .i64 i)], ⟨[]⟩⟩) (fun i => i ≤ l.length ∧ l.take i = k.take i) (fun i => l.length - i) 0 ⟨Nat.zero_le _, rfl⟩ (Sub.keep (by simp) (by simp [hsub]) (by simp)) ?_
    rintro i ⟨h1, h2⟩
    simp -dsimp -implicitDefEqProofs
    refine brW_of (fun h => ?_) (fun h => ?_) <;> simp only [decide_eq_true_eq, decide_eq_false_iff_not] at h
    · have hi : i < l.length := by omega
      have hj : i < k.length := by omega
      have hw := wrapNat (i := i) (by omega)
      by_cases he : l[i] = k[i]
      · simp -dsimp -implicitDefEqProofs [hi, hj, hw, he]
        exact .mk (i + 1) ⟨by omega, by rw [take_snoc l i hi, take_snoc k i hj, h2, he]⟩ (by omega) (Sub.keep (by simp) (by simp [hsub]) (by simp))
      · have hne : ¬ l = k := fun e => he (by subst e; rfl)
        have he' : (l[i].p == k[i].p && l[i].q == k[i].q) = false := by
          rw [Bool.eq_false_iff]
          intro hh
          simp at hh
          apply he
          cases hx : l[i]; cases hy : k[i]
          simp_all
        have he2 : (!(l[i].p == k[i].p) || !(l[i].q == k[i].q)) = true := by rw [← Bool.not_and, he']; rfl
        simp -dsimp -implicitDefEqProofs [hi, hj, hw, hne, he', he2]
    · have hi : i = l.length := by omega
      have he : l = k := by
        rw [hi, List.take_length, hlen, List.take_length] at h2
        exact h2
      simp -dsimp -implicitDefEqProofs [he]
  · have hne : ¬ l = k := fun e => hlen (by rw [e])
    have hln : ((l.length : Int) != (k.length : Int)) = true := by simp; omega
    simp -dsimp -implicitDefEqProofs [c_laws_eqFractionS, r_laws_eqFractionS, hln, hne]
noncomputable def sp_eqPattern : List AV → Option (AV) := pf (ι := (Int) × (Int) × (Int) × (List Fr) × (Int) × (Int) × (Int) × (List Fr)) (α := AV) (fun ⟨n, e, l, ps, n', e', l', ps'⟩ => ps.length ≤ maxLen) (fun ⟨n, e, l, ps, n', e', l', ps'⟩ => [.agg [.int .i64 n, .int .u32 e, .int .u32 l, .sl (frsA ps) false], .agg [.int .i64 n', .int .u32 e', .int .u32 l', .sl (frsA ps') false]]) (fun ⟨n, e, l, ps, n', e', l', ps'⟩ => .bool ((n == n' && e == e') && (l == l') && decide (ps = ps')))
theorem sp_eqPattern_eq (n e l : Int) (ps : List Fr) (n' e' l' : Int) (ps' : List Fr) (h : ps.length ≤ maxLen) : sp_eqPattern [.agg [.int .i64 n, .int .u32 e, .int .u32 l, .sl (frsA ps) false], .agg [.int .i64 n', .int .u32 e', .int .u32 l', .sl (frsA ps') false]] = some (.bool ((n == n' && e == e') && (l == l') && decide (ps = ps'))) := by
  unfold sp_eqPattern
  exact pf_eq (ι := (Int) × (Int) × (Int) × (List Fr) × (Int) × (Int) × (Int) × (List Fr)) (α := AV) (n, e, l, ps, n', e', l', ps') h (by rintro ⟨n', e', l', ps', n'', e'', l'', ps''⟩ _ e; simp_all [Int.natCast_inj])
theorem q_laws_eqPattern : QP PP 8 sp_eqPattern := by
  refine QP_pf (fun i h => ?_) fun i h => ?_
  · obtain ⟨n, e, l, ps, n', e', l', ps'⟩ := i; exact ⟨by first | rfl | simp, by first | rfl | simp⟩
  obtain ⟨n, e, l, ps, n', e', l', ps'⟩ := i
  replace h : ps.length ≤ maxLen := h
  refine P_code (Quiet.q1 q_laws_eqGraph (Quiet.q1 q_laws_eqFractionS Quiet.nil)) hmix k_laws_eqPattern rfl ?_ ?_
  · first | rfl | simp
  show wpc 0 PP _ c_laws_eqPattern (initSt [.agg [.int .i64 n, .int .u32 e, .int .u32 l, .sl (frsA ps) false], .agg [.int .i64 n', .int .u32 e', .int .u32 l', .sl (frsA ps') false]] .nil) (endP r_laws_eqPattern (.bool ((n == n' && e == e') && (l == l') && decide (ps = ps'))))
  by_cases h4 : ps = ps'
  · subst h4
    simp -dsimp -implicitDefEqProofs [c_laws_eqPattern, r_laws_eqPattern, sp_eqFractionS_eq ps ps h]
    cases h1 : n == n' <;> cases h2 : e == e' <;> cases h3 : l == l' <;> simp -dsimp -implicitDefEqProofs [h1, h2, h3, bne, sp_eqFractionS_eq ps ps h]
  · simp -dsimp -implicitDefEqProofs [c_laws_eqPattern, r_laws_eqPattern, sp_eqFractionS_eq ps ps' h]
    cases h1 : n == n' <;> cases h2 : e == e' <;> cases h3 : l == l' <;> simp -dsimp -implicitDefEqProofs [h1, h2, h3, h4, bne, sp_eqFractionS_eq ps ps' h]

end Go.Proofs.YtlglgcmpeabdnaaDoorAi
end

section
/- Bits of numbers; copies of cells over and over. -/
namespace Go.Proofs.YtlglgcmpeabdnaaDoorAi
open Go Go.RowKit
set_option linter.unusedVariables false
set_option linter.unusedSimpArgs false

theorem wrapU {k : IntKind} (hk : k.signed = false) {n : Int} (h0 : 0 ≤ n) (h1 : n < 2 ^ k.bits) : k.wrap n = n := by
  simp only [IntKind.wrap, hk, Bool.false_and]
  rw [Int.emod_eq_of_lt h0 h1]
  simp
theorem wrap32 {n : Int} (h0 : 0 ≤ n) (h1 : n < 4294967296) : IntKind.u32.wrap n = n := wrapU rfl h0 h1
theorem wrapU64 {n : Int} (h0 : 0 ≤ n) (h1 : n < 18446744073709551616) : IntKind.u64.wrap n = n := wrapU rfl h0 h1
/-! ### cells over and over -/
end Go.Proofs.YtlglgcmpeabdnaaDoorAi
end
