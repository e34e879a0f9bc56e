/- The walks of Close, Open and New of package site. -/
import Derived.Test.YtgheokocdfgjpaaGet
namespace Go.Proofs.Ytgheokocdfgjpaa
open Go.RowKit Go.MapKept Go.ChangeMaps Go.Maps Go.WideMaps

/-- What a call that may change a Site leaves. -/
def After (F : Nat → Prop) (w : World) (s : Nat) (A' : AS) (w' : World) : Prop := ∃ F', Rep F' w' s A' ∧ Only F w w' ∧ ∀ i, i < w.heap.size → F' i → F i

theorem After.same {F : Nat → Prop} {w : World} {s : Nat} {A : AS} (h : Rep F w s A) : After F w s A w := ⟨F, h, Only.refl F w, fun _ _ x => x⟩

theorem setBlock_other (w : World) (b : Nat) (o : Obj) {i : Nat} (h : i ≠ b) : (setBlock w b o).heap[i]? = w.heap[i]? := by
  simp only [ChangeMaps.setBlock]
  rw [Array.getElem?_setIfInBounds]
  rw [if_neg (fun e => h e.symm)]

theorem nodup_of_keys {K V W : Type} {l : List (K × V)} {l' : List (K × W)} (h : l.map (·.1) = l'.map (·.1)) (hn : (l.map (·.1)).Nodup) : (l'.map (·.1)).Nodup := by rw [← h]; exact hn

theorem RepB.ne_m {F : Nat → Prop} {w : World} {s : Nat} {A : AS} {B : Bk} (h : RepB F w s A B) : s ≠ B.m := by
  intro e
  obtain ⟨es, clock, hb, _⟩ := h.ses
  have := h.top
  rw [e, hb] at this
  cases this

theorem del_eraseIdx {K V W : Type} [DecidableEq K] {l : List (K × V)} {l' : List (K × W)} (hk : l.map (·.1) = l'.map (·.1)) (hn : (l.map (·.1)).Nodup) {j : Nat} {x : K} {v : V} {u : W} (h : l[j]? = some (x, v)) (h' : l'[j]? = some (x, u)) :
    del l x = l.eraseIdx j ∧ del l' x = l'.eraseIdx j := ⟨del_at hn h, del_at (nodup_of_keys hk hn) h'⟩

def closeR (A : AS) (n : Int) : Int := if (asc A.ses n).isSome then 0 else 250
def closeA (A : AS) (n : Int) : AS := { A with ses := del A.ses n }

set_option maxHeartbeats 400000 in
theorem close_any (F : Nat → Prop) (s : Nat) (A : AS) (n : Int) (w : World) (h : Rep F w s A) (h0 : -9223372036854775808 ≤ n) (h1 : n ≤ 9223372036854775807) :
    Calls Try.prog 23 #[ptrV s, .int .i64 n] w fun e w' => e = .returned (.int .i64 (closeR A n)) ∧ After F w s (closeA A n) w' := by
  have hrep := h
  obtain ⟨B, hB⟩ := h
  have hrun := hB.look n h0 h1 true
  have c4 : w.cell? ⟨s, 4, none⟩ = some (.map (some B.m)) := by simp [World.cell?, hB.top]
  unfold ptrV
  rcases asc_idx hB.keys n with ⟨e1, e2⟩ | ⟨j, b, q, hj1, hj2, e1, e2⟩
  · rw [e1] at hrun
    have hA : After F w s (closeA A n) w := by rw [show closeA A n = A from by unfold closeA; rw [del_none e2]]; exact After.same hrep
    have Hg : Hid (closeR A n = 250) := by show closeR A n = 250; simp [closeR, e2]
    have HA := Lib.hid hA; clear hA
    clear e1 e2
    go_enter Try.func23, Try.ntmps23
    go_wp2
    go_ret
    exact ⟨by rw [Hg.out]; rfl, HA.out⟩
  · rw [e1] at hrun
    obtain ⟨o, hdel, hm⟩ : ∃ o, (∀ ty, (Builtin.delete_ #[51, 3] ty #[.map (some B.m), .int .i64 n]).run Try.prog w = .ok (.tuple #[]) (setBlock w B.m o)) ∧ MapIs (setBlock w B.m o) B.m intV ptrV (del B.s n) := by
      obtain ⟨o, hd, hm⟩ := run_delete (ty := 0) Try.underlying51 (KeyOk.of_keyed keyed3 w) intV_inj hB.ses hB.key_ok (x := n) (ok_int h0 h1)
      exact ⟨o, fun ty => hd, hm⟩
    have hA : After F w s (closeA A n) (setBlock w B.m o) := by
      obtain ⟨d1, d2⟩ := del_eraseIdx hB.keys hB.ses.nodup hj1 hj2
      have hoth : ∀ i, Sub F s B.m i → (setBlock w B.m o).heap[i]? = w.heap[i]? := fun i hi => setBlock_other w _ o hi.2.2
      refine ⟨F, ⟨⟨B.c, B.m, del B.s n⟩, ⟨hB.fs, hB.fm, fun i hi => by simpa [ChangeMaps.setBlock] using hB.lt i hi, (setBlock_other w _ o hB.ne_m).trans hB.top, hm, fun i hi => (hB.cur i hi).kept hoth (fun _ x => x), ?_, ?_, ?_, hB.op0, hB.op1⟩⟩, (Only.refl F w).setBlock (fun _ => hB.fm) o, fun _ _ x => x⟩
      · show (del B.s n).map (·.1) = (del A.ses n).map (·.1)
        rw [d1, d2, map_eraseIdx, map_eraseIdx, hB.keys]
      · intro i p q' hp hq
        replace hp : (del B.s n)[i]? = some p := hp
        replace hq : (del A.ses n)[i]? = some q' := hq
        rw [d1, List.getElem?_eraseIdx] at hp
        rw [d2, List.getElem?_eraseIdx] at hq
        split at hp
        · rename_i hij
          rw [if_pos hij] at hq
          exact (hB.at_ i p q' hp hq).kept hoth (fun _ x => x)
        · rename_i hij
          rw [if_neg hij] at hq
          exact (hB.at_ (i + 1) p q' hp hq).kept hoth (fun _ x => x)
      · intro p hp
        exact hB.rng p ((del_sub _ _).subset hp)
    have Hg : Hid (closeR A n = 0) := by show closeR A n = 0; simp [closeR, e2]
    have HA := Lib.hid hA; clear hA
    clear e1 e2 hj1 hj2 hm
    go_enter Try.func23, Try.ntmps23
    go_wp2
    go_ret
    exact ⟨by rw [Hg.out]; rfl, HA.out⟩

def openOk (A : AS) (c : Int) : Bool := isClass c && decide (A.ses.length < 16)
def openR (A : AS) (c : Int) : Int × Int := if openOk A c then (A.opened + 1, 0) else (0, 250)
def openA (A : AS) (c : Int) : AS := if openOk A c then { A with ses := A.ses ++ [(A.opened + 1, c, A.cur c.toNat)], opened := A.opened + 1 } else A

theorem openR_no {A : AS} {c : Int} (h : openOk A c = false) : openR A c = (0, 250) := by unfold openR; rw [if_neg (by simp [h])]
theorem openA_no {A : AS} {c : Int} (h : openOk A c = false) : openA A c = A := by unfold openA; rw [if_neg (by simp [h])]

theorem RepB.lenRun {F : Nat → Prop} {w : World} {s : Nat} {A : AS} {B : Bk} (hB : RepB F w s A B) : ∀ ty, (Builtin.len_ #[51] ty #[.map (some B.m)]).run Try.prog w = .ok (.int .i64 (A.ses.length : Int)) w := fun ty => by
  rw [run_len Try.underlying51 hB.ses]
  have := congrArg List.length hB.keys
  simp only [List.length_map] at this
  rw [this]

theorem open_noclass (F : Nat → Prop) (s : Nat) (A : AS) (c : Int) (w : World) (h : Rep F w s A) (hc : isClass c = false) :
    Calls Try.prog 22 #[ptrV s, .int .i64 c] w fun e w' => e = .returned (.tuple #[.int .i64 (openR A c).1, .int .i64 (openR A c).2]) ∧ After F w s (openA A c) w' := by
  have ho : openOk A c = false := by simp [openOk, hc]
  have HA := Lib.hid (show After F w s (openA A c) w by rw [openA_no ho]; exact After.same h)
  have Hg := Lib.hid (openR_no ho)
  clear ho
  unfold ptrV
  go_enter Try.func22, Try.ntmps22
  go_wp2_with (go_at_call 26; refine (exists_any c _).mono ?_; rintro e w' ⟨rfl, rfl⟩)
  go_ret2
  exact ⟨by rw [Hg.out]; rfl, HA.out⟩

theorem open_full (F : Nat → Prop) (s : Nat) (A : AS) (c : Int) (w : World) (h : Rep F w s A) (hc : isClass c = true) (hf : 16 ≤ A.ses.length) :
    Calls Try.prog 22 #[ptrV s, .int .i64 c] w fun e w' => e = .returned (.tuple #[.int .i64 (openR A c).1, .int .i64 (openR A c).2]) ∧ After F w s (openA A c) w' := by
  have ho : openOk A c = false := by simp [openOk]; omega
  have HA := Lib.hid (show After F w s (openA A c) w by rw [openA_no ho]; exact After.same h)
  have Hg := Lib.hid (openR_no ho)
  obtain ⟨B, hB⟩ := h
  have hlen := hB.lenRun
  have c4 : w.cell? ⟨s, 4, none⟩ = some (.map (some B.m)) := by simp [World.cell?, hB.top]
  clear ho
  unfold ptrV
  go_enter Try.func22, Try.ntmps22
  go_wp2_with (go_at_call 26; refine (exists_any c _).mono ?_; rintro e w' ⟨rfl, rfl⟩)
  go_ret2
  exact ⟨by rw [Hg.out]; rfl, HA.out⟩

theorem open_block (w : World) (s : Nat) (v0 v1 v2 v3 v4 v5 u : Value) (T : TypeId) (h : w.heap[s]? = some (.cells #[v0, v1, v2, v3, v4, v5] T (0, 0))) :
    (w.setCell ⟨s, 5, none⟩ u).heap[s]? = some (.cells #[v0, v1, v2, v3, v4, u] T (0, 0)) := by
  simp only [World.setCell, Array.getElem?_modify, if_true, h, Option.map_some]
  simp

theorem open_ok (F : Nat → Prop) (s : Nat) (A : AS) (c : Int) (w : World) (h : Rep F w s A) (hc : isClass c = true) (hf : A.ses.length < 16) (ho9 : A.opened ≤ 900) :
    ∃ B : Bk, w.cell? ⟨s, 4, none⟩ = some (.map (some B.m)) ∧ w.cell? ⟨s, 5, none⟩ = some (.int .i64 A.opened) ∧ w.cell? ⟨s, c.toNat, none⟩ = some (ptrV (B.c c.toNat)) ∧ w.frozen? ⟨s, 5, none⟩ = false ∧ 0 ≤ A.opened ∧
      ∃ w3 : World, (Instr.mapUpdate 51 (.map (some B.m)) (.int .i64 (A.opened + 1)) (ptrV (B.c c.toNat))).run Try.prog (w.setCell ⟨s, 5, none⟩ (.int .i64 (A.opened + 1))).drew = .ok () w3 ∧ w3.cell? ⟨s, 5, none⟩ = some (.int .i64 (A.opened + 1)) ∧ After F w s (openA A c) w3 := by
  obtain ⟨B, hB⟩ := h
  have hcc := hc
  simp only [isClass, decide_eq_true_eq] at hcc
  obtain ⟨h0, h4⟩ := hcc
  obtain ⟨k, rfl⟩ := Int.eq_ofNat_of_zero_le h0
  have hk : k < 4 := by omega
  have hok : openOk A k = true := by simp [openOk, hc, hf]
  have hop0 := hB.op0
  refine ⟨B, by simp [World.cell?, hB.top], by simp [World.cell?, hB.top, intV], by simpa using hB.curCell k hk, by simp [World.frozen?, hB.top], hB.op0, ?_⟩
  have htop := open_block w s _ _ _ _ _ _ (.int .i64 (A.opened + 1)) 55 hB.top
  generalize hW : w.setCell ⟨s, 5, none⟩ (.int .i64 (A.opened + 1)) = W at htop
  have hoW : ∀ i, i ≠ s → W.heap[i]? = w.heap[i]? := fun i hi => by rw [← hW]; exact Below.heap_setCell w _ _ i hi
  have hzW : W.heap.size = w.heap.size := by rw [← hW]; simp
  have hOnly : Only F w W := by rw [← hW]; exact (Only.refl F w).setCell (fun _ => hB.fs) _
  have hmW : MapIs W.drew B.m intV ptrV B.s := hB.ses.kept (hoW _ hB.ne_m.symm)
  have hnew : asc B.s (A.opened + 1) = none := asc_none.2 fun p hp e => by
    have : p.1 ∈ A.ses.map (·.1) := by rw [← hB.keys]; exact List.mem_map.2 ⟨p, hp, rfl⟩
    obtain ⟨q, hq, e2⟩ := List.mem_map.1 this
    have := hB.rng q hq
    omega
  obtain ⟨o, hupd, hm3⟩ := run_update Try.underlying51 (KeyOk.of_keyed keyed3 W.drew) intV_inj hmW hB.key_ok (x := A.opened + 1) (ok_int (by omega) (by omega)) (B.c k)
  rw [ups_new hnew] at hm3
  have hoth : ∀ i, i ≠ s → i ≠ B.m → (setBlock W.drew B.m o).heap[i]? = w.heap[i]? := fun i h1 h2 => (setBlock_other W.drew _ o h2).trans (hoW i h1)
  have hkept : ∀ i, Sub F s B.m i → (setBlock W.drew B.m o).heap[i]? = w.heap[i]? := fun i hi => hoth i hi.2.1 hi.2.2
  have htop3 : (setBlock W.drew B.m o).heap[s]? = some (.cells #[ptrV (B.c 0), ptrV (B.c 1), ptrV (B.c 2), ptrV (B.c 3), .map (some B.m), intV (A.opened + 1)] 55 (0, 0)) := (setBlock_other W.drew _ o hB.ne_m).trans htop
  refine ⟨setBlock W.drew B.m o, hupd, by simp [World.cell?, htop3, intV], F, ⟨⟨B.c, B.m, B.s ++ [(A.opened + 1, B.c k)]⟩, ?_⟩, hOnly.drew.setBlock (fun _ => hB.fm) o, fun _ _ x => x⟩
  have hA : openA A k = { A with ses := A.ses ++ [(A.opened + 1, (k : Int), A.cur k)], opened := A.opened + 1 } := by unfold openA; rw [if_pos hok]; rfl
  have hlen : B.s.length = A.ses.length := by simpa using congrArg List.length hB.keys
  rw [hA]
  refine ⟨hB.fs, hB.fm, fun i hi => by simpa [ChangeMaps.setBlock, hzW] using hB.lt i hi, htop3, hm3, fun i hi => (hB.cur i hi).kept hkept (fun _ x => x), by simp [hB.keys], ?_, ?_, by show (0 : Int) ≤ A.opened + 1; omega, by show A.opened + 1 ≤ 1000; omega⟩
  · intro j p q hp hq
    replace hp : (B.s ++ [(A.opened + 1, B.c k)])[j]? = some p := hp
    replace hq : (A.ses ++ [(A.opened + 1, (k : Int), A.cur k)])[j]? = some q := hq
    by_cases hj : j < B.s.length
    · rw [List.getElem?_append_left hj] at hp
      rw [List.getElem?_append_left (by omega)] at hq
      exact (hB.at_ j p q hp hq).kept hkept (fun _ x => x)
    · rw [List.getElem?_append_right (by omega)] at hp
      rw [List.getElem?_append_right (by omega)] at hq
      rw [hlen] at hp
      cases hj' : j - A.ses.length with
      | zero =>
        rw [hj'] at hp hq
        simp only [List.getElem?_cons_zero, Option.some.injEq] at hp hq
        subst hp; subst hq
        exact (hB.cur k hk).kept hkept (fun _ x => x)
      | succ n =>
        rw [hj'] at hp
        simp at hp
  · intro p hp
    replace hp : p ∈ A.ses ++ [(A.opened + 1, (k : Int), A.cur k)] := hp
    show 1 ≤ p.1 ∧ p.1 ≤ A.opened + 1
    rcases List.mem_append.1 hp with hp | hp
    · have := hB.rng p hp
      omega
    · simp only [List.mem_singleton] at hp
      subst hp
      simp; omega

set_option maxHeartbeats 1000000 in
theorem open_yes (F : Nat → Prop) (s : Nat) (A : AS) (c : Int) (w : World) (h : Rep F w s A) (hc : isClass c = true) (hf : A.ses.length < 16) (ho9 : A.opened ≤ 900) :
    Calls Try.prog 22 #[ptrV s, .int .i64 c] w fun e w' => e = .returned (.tuple #[.int .i64 (openR A c).1, .int .i64 (openR A c).2]) ∧ After F w s (openA A c) w' := by
  obtain ⟨B, c4, c5, cc, f5, hop, w3, hupd, c53, hA⟩ := open_ok F s A c w h hc hf ho9
  have hg : Hid (openR A c = (A.opened + 1, 0)) := by show openR A c = _; unfold openR; rw [if_pos (by simp [openOk, hc, hf])]
  obtain ⟨B', hB⟩ := h
  have hlen := hB.lenRun
  have hBm : B'.m = B.m := by
    have := hB.top
    have e : w.cell? ⟨s, 4, none⟩ = some (.map (some B'.m)) := by simp [World.cell?, this]
    rw [c4] at e
    simpa using e.symm
  rw [hBm] at hlen
  have hcc := hc
  simp only [isClass, decide_eq_true_eq] at hcc
  obtain ⟨h0, h4⟩ := hcc
  have HA := Lib.hid hA; clear hA hB hBm
  unfold ptrV at cc hupd ⊢
  go_enter Try.func22, Try.ntmps22
  go_wp2_with (go_at_call 26; refine (exists_any c _).mono ?_; rintro e w' ⟨rfl, rfl⟩)
  go_region
  all_goals
    go_wp2
    go_ret2
    exact ⟨by rw [hg.out]; rfl, HA.out⟩

theorem open_any (F : Nat → Prop) (s : Nat) (A : AS) (c : Int) (w : World) (h : Rep F w s A) (ho9 : A.opened ≤ 900) :
    Calls Try.prog 22 #[ptrV s, .int .i64 c] w fun e w' => e = .returned (.tuple #[.int .i64 (openR A c).1, .int .i64 (openR A c).2]) ∧ After F w s (openA A c) w' := by
  cases hc : isClass c with
  | false => exact open_noclass F s A c w h hc
  | true =>
    by_cases hf : A.ses.length < 16
    · exact open_yes F s A c w h hc hf ho9
    · exact open_full F s A c w h hc (by omega)

end Go.Proofs.Ytgheokocdfgjpaa
