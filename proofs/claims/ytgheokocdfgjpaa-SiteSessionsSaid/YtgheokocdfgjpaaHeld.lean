/- What the law functions about package site keep from round to round. -/
import Derived.Test.YtgheokocdfgjpaaPlain
namespace Go.Proofs.Ytgheokocdfgjpaa
open Go.RowKit Go.MapKept Go.ChangeMaps Go.Maps Go.WideMaps

/-- The Site lies in blocks F, all new since w; nothing that was there in w has changed. -/
structure Held (w : World) (s : Nat) (A : AS) (F : Nat → Prop) (v : World) : Prop where
  rep : Rep F v s A
  new : ∀ j, F j → w.heap.size ≤ j
  below : Below w.heap.size w v

theorem Held.more {w v v' : World} {s : Nat} {A : AS} {F : Nat → Prop} (h : Held w s A F v) (hb : Below v.heap.size v v') : Held w s A F v' :=
  ⟨h.rep.below hb, h.new, h.below.trans (hb.mono h.below.size)⟩

theorem Held.drewN {w v : World} {s : Nat} {A : AS} {F : Nat → Prop} (h : Held w s A F v) (n : Nat) : Held w s A F (v.drewN n) :=
  h.more ⟨rfl, rfl, rfl, Nat.le_refl _, fun _ _ => rfl⟩

/-- Behind a call that may change the Site. -/
theorem Held.after {w v v' : World} {s : Nat} {A A' : AS} {F : Nat → Prop} (h : Held w s A F v) (ha : After F v s A' v') :
    ∃ F', Held w s A' F' v' ∧ ∀ j, j < v.heap.size → ¬ F j → ¬ F' j ∧ v'.heap[j]? = v.heap[j]? := by
  obtain ⟨F', h1, h2, h3⟩ := ha
  have hsz := h.below.size
  refine ⟨F', ⟨h1, fun j hj => ?_, h.below.trans ⟨h2.os, h2.tape, h2.output, h2.size, fun j hj => h2.block j (by omega) (fun hf => by have := h.new j hf; omega)⟩⟩, fun j hj hF => ⟨fun hf => hF (h3 j hj hf), h2.block j hj hF⟩⟩
  by_cases e : j < v.heap.size
  · exact h.new j (h3 j e hj)
  · omega

/-- The slice of operations: L[i] lies at ⟨b, off + 3 i⟩. -/
def OpsAt (w : World) (av : Option Addr) (b off : Nat) (L : List OpI) : Prop :=
  ∀ (i : Nat) (o : OpI), L[i]? = some o → o.ok ∧ av = some ⟨b, off, none⟩ ∧ b < w.heap.size ∧
    w.cell? ⟨b, off + i * 3, none⟩ = some (.int .i64 o.kind) ∧ w.cell? ⟨b, off + i * 3 + 1, none⟩ = some (.int .i64 o.cls) ∧ w.cell? ⟨b, off + i * 3 + 2, none⟩ = some (.int .i64 o.n)

theorem few_gen (av : Option Addr) (n c : Nat) (w : World) (h0 : av = none → n = 0 ∧ c = 0) (hn : n ≤ c) :
    Calls Try.prog 9 #[.slice av n c] w fun e w' => e = .returned (.slice av (min n 40) c) ∧ w = w' := by
  cases av with
  | none =>
    obtain ⟨rfl, rfl⟩ := h0 rfl
    exact few_nil w
  | some a => exact few_any a n c w hn

/-- What an operation becomes if it must not purge. -/
def noPurge (o : OpI) : OpI := if o.k = 1 then { o with kind := 0 } else o

theorem noPurge_ok {o : OpI} (h : o.ok) : (noPurge o).ok := by
  unfold noPurge
  split
  · exact ⟨⟨show (-9223372036854775808 : Int) ≤ 0 by decide, show (0 : Int) ≤ 9223372036854775807 by decide⟩, h.2⟩
  · exact h

theorem noPurge_k (o : OpI) : (noPurge o).k ≠ 1 := by
  unfold noPurge
  split
  · show pickI 0 4 ≠ 1; decide
  · assumption

theorem adRow_keep {v v' : World} {ab : Nat} (hb : Below v.heap.size v v') (ha : v.heap[ab]? = some adRow) : v'.heap[ab]? = some adRow :=
  (hb.block ab (Array.getElem?_eq_some_iff.1 ha).1).trans ha

theorem adRow_at {v : World} {ab : Nat} (h : v.heap[ab]? = some adRow) (k : Nat) (hk : k < 5) : v.cell? ⟨ab, k, none⟩ = some (.string (ad k)) := by
  match k, hk with
  | 0, _ => simp [World.cell?, h, adRow]
  | 1, _ => simp [World.cell?, h, adRow]
  | 2, _ => simp [World.cell?, h, adRow]
  | 3, _ => simp [World.cell?, h, adRow]
  | 4, _ => simp [World.cell?, h, adRow]

def TruePost (w : World) (e : Ending) (w' : World) : Prop := e = .returned (.bool true) ∧ Below w.heap.size w w'
end Go.Proofs.Ytgheokocdfgjpaa
