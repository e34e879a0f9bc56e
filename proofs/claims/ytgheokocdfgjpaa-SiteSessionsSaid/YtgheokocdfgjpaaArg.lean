/- The argument of the four laws, opened: a slice of operations. -/
import Derived.Test.YtgheokocdfgjpaaHeld
import Derived.WalkKit
import Derived.ProofKit
import Derived.OpenShut
import Derived.ShutString
import Derived.ChangeOld
import Derived.Below
import Derived.Deep.Slices
import Derived.Deep.Fields
namespace Go.Proofs.Ytgheokocdfgjpaa
open Go.ChangeShapes Go.WideShapes Go.ChangeAt Go.RowKit Go.Deep

theorem ownT : ownKnob Try.prog.godebug = none := by kernel_rfl
theorem laidOutT : laidOutB Try.prog = true := by kernel_rfl

section
variable {H : Type} {enc : TypeId × Value → H} {P : Program} {w : World} {base : Nat} {spare : Nat → Bool} {held : Bool}
theorem open_slice_fields {t e : TypeId} {fs : Array Field} {fuel : Nat} {cs : List Value} {x : DataW H × List MemPlace} (ht : P.underlying t = some (.slice e)) (he : P.underlying e = some (.struct fs))
    (hone : oneCellFields P fs = true) (hC : P.cellsOf e = fs.size) (h : DataW.trod enc P w base spare held fuel t cs = some x) :
    (cs = [.slice none 0 0] ∧ x = (.nil, [])) ∨
    ∃ (a : Addr) (len cap m : Nat) (D : Nat → DataW H) (Pl : Nat → List MemPlace), cs = [.slice (some a) len cap] ∧ base ≤ a.block ∧ len ≤ cap ∧ cap ≤ maxLen ∧ m = (if spare a.block then cap else len) ∧
      x = (.slice ((List.range len).map D) ((List.range (m - len)).map fun j => D (len + j)), MemPlace.row a (m * fs.size) ++ (List.range m).flatMap Pl) ∧
      ∀ i, i < m → ∃ (ys : List (DataW H × List MemPlace)) (n : Nat), D i = .agg (ys.map (·.1)) ∧ Pl i = ys.flatMap (·.2) ∧ ys.length = fs.size ∧
        ∀ (j : Nat) (f : Field), fs[j]? = some f → ∃ (v : Value) (y : DataW H × List MemPlace), w.cell? (a.add (i * fs.size + j)) = some v ∧ ys[j]? = some y ∧ DataW.trod enc P w base spare held n f.type [v] = some y := by
  rcases open_slice ht h with h0 | ⟨a, len, cap, m, n, D, Pl, hcs, hb, hl, hm, hmm, hx, hi⟩
  · exact .inl h0
  · refine .inr ⟨a, len, cap, m, D, Pl, hcs, hb, hl, hm, hmm, by rw [hC] at hx; exact hx, fun i him => ?_⟩
    obtain ⟨cs', hc, ht'⟩ := hi i him
    rw [hC] at hc
    obtain ⟨ys, n', hn', hy, hlen, hyl, hf⟩ := DataW.trod_struct he ht'
    obtain ⟨_, hcl, hat⟩ := World.cells?_some hc
    simp only [Prod.mk.injEq] at hy
    refine ⟨ys, n', hy.1, hy.2, hyl, fun j f hj => ?_⟩
    obtain ⟨ho, hk⟩ := hone_of hone j f hj
    have hjl : j < fs.size := (Array.getElem?_eq_some_iff.1 hj).1
    have hcell := hat j hjl
    have hv : cs'[j]? = some (cs'[j]'(by omega)) := List.getElem?_eq_getElem (by omega)
    have h1 := hf j f hj
    rw [ho, hk] at h1
    have hone' : (cs'.drop j).take 1 = [cs'[j]'(by omega)] := by
      rw [List.drop_eq_getElem_cons (by omega)]
      rfl
    rw [hone'] at h1
    have hys : ys[j]? = some (ys[j]'(by omega)) := List.getElem?_eq_getElem (by omega)
    refine ⟨_, _, ?_, hys, h1.trans hys⟩
    rw [← Go.Deep.add_add, hcell, hv]
end

noncomputable def OpFields : Array Field := match Try.prog.underlying 35 with
  | some (.struct fs) => fs
  | _ => #[]

theorem opFields : Try.prog.underlying 35 = some (.struct OpFields) := by kernel_rfl
theorem opOne : oneCellFields Try.prog OpFields = true := by kernel_rfl
theorem opCells : Try.prog.cellsOf 35 = OpFields.size := by kernel_rfl
theorem opSize : OpFields.size = 3 := by kernel_rfl
theorem opType (j : Nat) (hj : j < 3) : ∃ f, OpFields[j]? = some f ∧ f.type = 3 := by
  have h : ∀ j : Fin 3, (OpFields[j.val]?).map (·.type) = some 3 := by decide +kernel
  have := h ⟨j, hj⟩
  cases hf : OpFields[j]? with
  | none => simp only [hf] at this; cases this
  | some f => simp only [hf, Option.map_some, Option.some.injEq] at this; exact ⟨f, rfl, this⟩

/-- The slice of operations, as the walks want it. -/
theorem open_ops {H : Type} {enc : TypeId × Value → H} {W : World} {base : Nat} {v : Value} {d : DataW H} {p : List MemPlace}
    (hval : Value.okWide Try.prog W .any base 22 v) (h : DataW.Trod enc Try.prog W 0 (fun _ => true) true 22 v d p) :
    ∃ av n cap b off L, v = .slice av n cap ∧ L.length = n ∧ (av = none → n = 0 ∧ cap = 0) ∧ n ≤ cap ∧ OpsAt W av b off L := by
  obtain ⟨av, n, cap, rfl⟩ := okWide_slice Try.underlying22 hval
  obtain ⟨fuel, hf⟩ := h
  rcases open_slice_fields Try.underlying22 opFields opOne opCells hf with ⟨hcs, _⟩ | ⟨a, len, cap', m, D, Pl, hcs, hb, hl, hm, hmm, hx, hi⟩
  · simp [Value.cells] at hcs
    obtain ⟨rfl, rfl, rfl⟩ := hcs
    exact ⟨none, 0, 0, 0, 0, [], rfl, rfl, (fun _ => ⟨rfl, rfl⟩), Nat.le_refl _, (fun i o ho => by simp at ho)⟩
  · simp [Value.cells] at hcs
    obtain ⟨rfl, rfl, rfl⟩ := hcs
    have hmm : m = cap := hmm
    have hcell : ∀ i, i < n → ∃ o : OpI, o.ok ∧ W.cell? (a.add (i * 3)) = some (.int .i64 o.kind) ∧ W.cell? (a.add (i * 3 + 1)) = some (.int .i64 o.cls) ∧ W.cell? (a.add (i * 3 + 2)) = some (.int .i64 o.n) := fun i hin => by
      obtain ⟨ys, n', _, _, _, hfield⟩ := hi i (by omega)
      rw [opSize] at hfield
      have get : ∀ j, j < 3 → ∃ z : Int, W.cell? (a.add (i * 3 + j)) = some (.int .i64 z) ∧ (-9223372036854775808 ≤ z ∧ z ≤ 9223372036854775807) := fun j hj => by
        obtain ⟨f, hf, ht⟩ := opType j hj
        obtain ⟨u, y, hc, _, htr⟩ := hfield j f hf
        rw [ht] at htr
        obtain ⟨z, hz, _, wz⟩ := DataW.trod_int Try.underlying3 htr
        simp at hz
        subst hz
        refine ⟨z, hc, ?_⟩
        exact bounds_i64 wz
      obtain ⟨z0, c0, b0⟩ := get 0 (by omega)
      obtain ⟨z1, c1, b1⟩ := get 1 (by omega)
      obtain ⟨z2, c2, b2⟩ := get 2 (by omega)
      exact ⟨⟨z0, z1, z2⟩, ⟨b0, b1, b2⟩, c0, c1, c2⟩
    -- the address of the row, if it has an element
    by_cases hn0 : n = 0
    · subst hn0
      exact ⟨some a, 0, cap, 0, 0, [], rfl, rfl, (fun h => by cases h), by omega, (fun i o ho => by simp at ho)⟩
    · obtain ⟨o0, _, c0, _⟩ := hcell 0 (by omega)
      have ha : a = ⟨a.block, a.off, none⟩ := by
        have e : a.add (0 * 3) = a := by simp [Addr.add]
        rw [e] at c0
        unfold World.cell? at c0
        obtain ⟨ab, ao, sp⟩ := a
        cases sp with
        | none => rfl
        | some x =>
          simp only at c0
          split at c0
          · simp at c0
          · cases c0
      obtain ⟨b, off, rfl⟩ : ∃ b off, a = ⟨b, off, none⟩ := ⟨_, _, ha⟩
      have hadd : ∀ j, (⟨b, off, none⟩ : Addr).add j = ⟨b, off + j, none⟩ := fun j => by unfold Addr.add; split <;> simp_all
      have hcell2 : ∀ i, i < n → ∃ o : OpI, o.ok ∧ W.cell? ⟨b, off + i * 3, none⟩ = some (.int .i64 o.kind) ∧ W.cell? ⟨b, off + i * 3 + 1, none⟩ = some (.int .i64 o.cls) ∧ W.cell? ⟨b, off + i * 3 + 2, none⟩ = some (.int .i64 o.n) := fun i hin => by
        obtain ⟨o, k1, k2, k3, k4⟩ := hcell i hin
        rw [hadd] at k2 k3 k4
        exact ⟨o, k1, k2, k3, k4⟩
      have hch : ∃ g : Nat → OpI, ∀ i, i < n → (g i).ok ∧ W.cell? ⟨b, off + i * 3, none⟩ = some (.int .i64 (g i).kind) ∧ W.cell? ⟨b, off + i * 3 + 1, none⟩ = some (.int .i64 (g i).cls) ∧ W.cell? ⟨b, off + i * 3 + 2, none⟩ = some (.int .i64 (g i).n) := by
        refine ⟨fun i => if h : i < n then Classical.choose (hcell2 i h) else ⟨0, 0, 0⟩, fun i h => ?_⟩
        have := Classical.choose_spec (hcell2 i h)
        simp only [dif_pos h]
        exact this
      obtain ⟨g, hg⟩ := hch
      refine ⟨some ⟨b, off, none⟩, n, cap, b, off, (List.range n).map g, rfl, by simp, (fun h => by cases h), by omega, fun i o ho => ?_⟩
      rw [List.getElem?_map] at ho
      cases hr : (List.range n)[i]? with
      | none => rw [hr] at ho; simp at ho
      | some i' =>
        rw [hr] at ho
        simp only [Option.map_some, Option.some.injEq] at ho
        obtain ⟨hin, e⟩ := List.getElem?_eq_some_iff.1 hr
        simp only [List.length_range] at hin
        simp only [List.getElem_range] at e
        subst e; subst ho
        obtain ⟨k1, k2, k3, k4⟩ := hg i hin
        exact ⟨k1, rfl, World.block_lt_of_cell? W _ k2, k2, k3, k4⟩
end Go.Proofs.Ytgheokocdfgjpaa
