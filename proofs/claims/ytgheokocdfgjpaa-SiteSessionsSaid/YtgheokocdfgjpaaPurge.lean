/- The walk of purge of package site. -/
import Derived.Test.YtgheokocdfgjpaaNew
namespace Go.Proofs.Ytgheokocdfgjpaa
open Go.RowKit Go.MapKept Go.ChangeMaps Go.Maps Go.WideMaps

def purgeF (g f : BA → Option BA) (a : BA) : Option BA := if (g a).isSome then f a else none

theorem purgeF_twice (g f : BA → Option BA) : purgeF (purgeF g f) f = purgeF g f := by
  funext a
  unfold purgeF
  cases g a <;> cases f a <;> simp

theorem mem_ups {K V : Type} [DecidableEq K] {l : List (K × V)} {x : K} {v : V} {p : K × V} (h : p ∈ ups l x v) : p = (x, v) ∨ p ∈ l := by
  rcases ups_keys h with h | h | h
  · exact .inl h
  · exact .inr h.1
  · exact .inr h

theorem SMap.ups {w w' : World} {b : Nat} {l : List (BA × BA)} (h : SMap w b l) {x v : BA} (hm : MapIs w' b Value.string Value.string (ups l x v)) (hx : x.size ≤ 1000) (hv : v.size ≤ 1000) : SMap w' b (ups l x v) :=
  ⟨hm, fun p hp => by
    rcases mem_ups hp with rfl | hp
    · exact ⟨hx, hv⟩
    · exact h.2 p hp⟩

theorem SMap.only {F : Nat → Prop} {w w' : World} {b : Nat} {l : List (BA × BA)} (h : SMap w b l) (hk : Only F w w') (hF : ¬ F b) : SMap w' b l := ⟨h.1.only hk hF, h.2⟩

theorem SMap.update {w : World} {b : Nat} {l : List (BA × BA)} (h : SMap w b l) {x v : BA} (hx : x.size ≤ 1000) (hv : v.size ≤ 1000) :
    ∃ w', (Instr.mapUpdate 56 (.map (some b)) (.string x) (.string v)).run Try.prog w = .ok () w' ∧ SMap w' b (Ytgheokocdfgjpaa.ups l x v) ∧ Only (· = b) w w' ∧ w'.heap.size = w.heap.size := by
  obtain ⟨o, h1, h2⟩ := run_update Try.underlying56 (KeyOk.of_keyed keyed9 w) strV_inj h.1 h.ok (x := x) (ok_str (by unfold maxLen; omega)) v
  exact ⟨_, h1, h.ups h2 hx hv, (Only.refl (· = b) w).setBlock (fun _ => rfl) o, by simp [ChangeMaps.setBlock]⟩

/-- What 'left' holds when the entries at the keys with 'left' are still to come. -/
def LeftIs (l : List (BA × BA)) (f : BA → Option BA) (left : BA → Bool) (lout : List (BA × BA)) : Prop := ∀ a, asc lout a = if left a then none else purgeF (asc l) f a

theorem LeftIs.start (l : List (BA × BA)) (f : BA → Option BA) : LeftIs l f (fun _ => true) [] := fun a => by simp [asc]

theorem LeftIs.put {l lout : List (BA × BA)} {f : BA → Option BA} {left : BA → Bool} (h : LeftIs l f left lout) (hn : (l.map (·.1)).Nodup) {p : BA × BA} (hp : p ∈ l) {v : BA} (hv : f p.1 = some v) :
    LeftIs l f (fun x => left x && !decide (x = p.1)) (ups lout p.1 v) := fun a => by
  rw [asc_ups]
  by_cases e : p.1 = a
  · subst e
    simp [purgeF, asc_of_mem hn hp, hv]
  · have : ¬ a = p.1 := fun x => e x.symm
    rw [if_neg e, h a]
    simp [this]

theorem LeftIs.skip {l lout : List (BA × BA)} {f : BA → Option BA} {left : BA → Bool} (h : LeftIs l f left lout) {p : BA × BA} (hl : left p.1 = true) (hv : f p.1 = none) :
    LeftIs l f (fun x => left x && !decide (x = p.1)) lout := fun a => by
  rw [h a]
  by_cases e : a = p.1
  · subst e
    simp [hl, purgeF, hv]
  · simp [e]

theorem LeftIs.done {l lout : List (BA × BA)} {f : BA → Option BA} {left : BA → Bool} (h : LeftIs l f left lout) (hl : ∀ p ∈ l, left p.1 = false) : asc lout = purgeF (asc l) f := by
  funext a
  rw [h a]
  cases e : left a with
  | false => simp
  | true =>
    have : asc l a = none := asc_none.2 fun p hp e1 => by rw [← e1, hl p hp] at e; cases e
    simp [purgeF, this]

def PurgePost (w : World) (b : Nat) (cls : Int) (g : BA → Option BA) (e : Ending) (w' : World) : Prop :=
  e = .returned (.tuple #[]) ∧ ∃ t' l', w.heap.size ≤ t' ∧ w'.heap[b]? = some (.cells #[intV cls, .map (some t')] 58 (0, 0)) ∧ SMap w' t' l' ∧ asc l' = g ∧ Only (· = b) w w' ∧ t' < w'.heap.size

theorem purge_end (w wr : World) (b : Nat) (cls : Int) (t m : Nat) (lout : List (BA × BA)) (g : BA → Option BA) (hb : w.heap[b]? = some (.cells #[intV cls, .map (some t)] 58 (0, 0))) (hw : Below w.heap.size w wr) (hm : w.heap.size ≤ m) (hs : SMap wr m lout) (hg : asc lout = g) :
    PurgePost w b cls g (.returned (.tuple #[])) (wr.setCell ⟨b, 1, none⟩ (.map (some m))) := by
  have hbl : b < w.heap.size := (Array.getElem?_eq_some_iff.1 hb).1
  refine ⟨rfl, m, lout, hm, ?_, hs.only (F := (· = b)) ((Only.refl (· = b) wr).setCell (fun _ => rfl) _) (by show ¬ m = b; omega), hg, ((Only.of_below hw (· = b)).setCell (fun _ => rfl) _), by simpa using hs.1.lt⟩
  have := (hw.block b hbl).trans hb
  simp only [World.setCell, Array.getElem?_modify, if_true, this, Option.map_some]
  simp

set_option maxHeartbeats 1000000 in
theorem purge_any (b t nt : Nat) (cls : Int) (l L : List (BA × BA)) (w : World) (hb : w.heap[b]? = some (.cells #[intV cls, .map (some t)] 58 (0, 0))) (ht : SMap w t l) (hL : SMap w nt L) :
    Calls Try.prog 27 #[ptrV b, .map (some nt)] w (PurgePost w b cls (purgeF (asc l) (asc L))) := by
  have hmm := @run_makeMap Try.prog
  have c1 : w.cell? ⟨b, 1, none⟩ = some (.map (some t)) := by simp [World.cell?, hb]
  have hbl : b < w.heap.size := (Array.getElem?_eq_some_iff.1 hb).1
  have htl := ht.1.lt
  have hLl := hL.1.lt
  obtain ⟨o, hrange, hrg⟩ := run_range (P := Try.prog) Try.underlying56 (ht.1.kept (w' := w.alloc (.map #[] 0)) (Below.heap_alloc w _ t htl))
  have e1 : (w.alloc (.map #[] 0)).heap.size = w.heap.size + 1 := by simp
  rw [e1] at hrange hrg
  have hb0 : Below w.heap.size w ((w.alloc (.map #[] 0)).alloc o) := by go_grown
  have hm0 : SMap ((w.alloc (.map #[] 0)).alloc o) w.heap.size [] := ⟨MapIs.kept (MapIs.made w) (Below.heap_alloc _ _ _ (by simp)), by simp⟩
  have Hrg := Lib.hid hrg; clear hrg
  have Hb0 := Lib.hid hb0; clear hb0
  have Hm0 := Lib.hid hm0; clear hm0
  have Hb := Lib.hid hb; clear hb
  have Ht := Lib.hid ht; clear ht
  have HL := Lib.hid hL; clear hL
  unfold ptrV
  go_enter Try.func27, Try.ntmps27
  go_wp2
  clear hmm
  go_loopw [5] (fun _ wr => ∃ (left : BA → Bool) (cnt : Nat) (lout : List (BA × BA)), Ranging wr t (w.heap.size + 1) Value.string Value.string l left cnt ∧ SMap wr w.heap.size lout ∧ LeftIs l (asc L) left lout ∧ Below w.heap.size w wr)
    (fun _ wr => wr.rangeLeft t (w.heap.size + 1))
  case atStart => exact ⟨_, _, [], Hrg.out, Hm0.out, LeftIs.start l _, Hb0.out⟩
  case round =>
    obtain ⟨left, cnt, lout, hrg, hout, hlf, hbw⟩ := hrel
    rcases run_next (P := Try.prog) hrg 0 with ⟨h0, hall, hnext⟩ | ⟨p, w1, cnt1, hp, hlp, hnext, hrg1, hlt, hon, hsz, hent⟩
    · have hend := Lib.hid (purge_end w wr b cls t w.heap.size lout _ Hb.out hbw (Nat.le_refl _) hout (hlf.done hall))
      clear hall hlf
      have c1' : wr.cell? ⟨b, 1, none⟩ = some (.map (some t)) := by rw [hbw.cell (p := ⟨b, 1, none⟩) hbl]; exact c1
      have f1' : wr.frozen? ⟨b, 1, none⟩ = false := by rw [hbw.frozen (p := ⟨b, 1, none⟩) hbl]; simp [World.frozen?, Hb.out]
      clear hbw hout hrg
      go_wp2
      go_end0
      exact hend.out
    · have hr_ne : ∀ i, i < w.heap.size → ¬ i = w.heap.size + 1 := fun i hi e => by omega
      have hbw1 : Below w.heap.size w w1 := hbw.trans ⟨hon.os, hon.tape, hon.output, hon.size, fun i hi => hon.block i (by have := hbw.size; omega) (hr_ne i hi)⟩
      have hout1 : SMap w1 w.heap.size lout := hout.only hon (by omega)
      have hp1 := (Ht.out.2 p hp).1
      have hL1 : SMap w1 nt L := ⟨HL.out.1.kept (hbw1.block nt hLl), HL.out.2⟩
      have hlook := hL1.look hp1 true
      have hmeas : w1.rangeLeft t (w.heap.size + 1) < wr.rangeLeft t (w.heap.size + 1) := by rw [hrg1.left_eq, hrg.left_eq]; exact hlt
      cases hv : asc L p.1 with
      | none =>
        rw [hv] at hlook
        have hrel := Lib.hid (And.intro hrg1 (And.intro hout1 (And.intro (hlf.skip hlp hv) hbw1)))
        have hmeas' := Lib.hid hmeas
        clear hv hmeas hrg1 hout1 hlf hbw1 hL1 hrg hout hbw hon hsz hr_ne hp
        go_wp2
        go_roundw
        case rel => exact ⟨_, _, _, hrel.out⟩
        case measure => exact hmeas'.out
      | some v =>
        rw [hv] at hlook
        have hvs := (HL.out.2 _ (asc_mem hv)).2
        obtain ⟨w2, hupd, hout2, hon2, hsz2⟩ := hout1.update hp1 hvs
        have hrg2 := hrg1.only hon2 (by omega) (by omega)
        have hbw2 : Below w.heap.size w w2 := hbw1.trans ⟨hon2.os, hon2.tape, hon2.output, hon2.size, fun i hi => hon2.block i (by have := hbw1.size; omega) (by omega)⟩
        have hrel := Lib.hid (And.intro hrg2 (And.intro hout2 (And.intro (hlf.put Ht.out.1.nodup hp hv) hbw2)))
        have hmeas' : Hid (w2.rangeLeft t (w.heap.size + 1) < wr.rangeLeft t (w.heap.size + 1)) := by show w2.rangeLeft t (w.heap.size + 1) < wr.rangeLeft t (w.heap.size + 1); rw [hrg2.left_eq, hrg.left_eq]; exact hlt
        clear hv hmeas hrg1 hout1 hlf hbw1 hL1 hrg hout hbw hon hsz hr_ne hp hout2 hon2 hsz2 hrg2 hbw2
        go_wp2
        go_roundw
        case rel => exact ⟨_, _, _, hrel.out⟩
        case measure => exact hmeas'.out
end Go.Proofs.Ytgheokocdfgjpaa
