/- SiteLimits: the numbers of sessions and snapshots keep within their bounds, sessions are numbered in turn, and a call that is refused changes nothing: for every list of calls the law returns true. -/
import Derived.Test.YtgheokocdfgjpaaTexts
import Derived.Deep.QuietTactic
import Derived.BigQuiet
namespace Go.Proofs.Ytgheokocdfgjpaa
open Go.RowKit Go.MapKept Go.ChangeMaps Go.Maps Go.WideMaps

def LD : List (BA × BA) := [(sa, emptyB), (sa, emptyB)]
theorem ld_no : pubOk 0 LD = false := by kernel_rfl
theorem pub_ld {F : Nat → Prop} {s : Nat} {A : AS} {w : World} (h : Rep F w s A) :
    Calls Try.prog 18 #[.pointer (some ⟨s, 0, none⟩), .int .i64 0, .slice (some ⟨w.heap.size, 0, none⟩) 2 2, .bool true]
      (w.alloc (.cells #[.string ⟨#[97]⟩, .string ⟨#[]⟩, .slice none 0 0, .string ⟨#[97]⟩, .string ⟨#[]⟩, .slice none 0 0] 47)) fun e w' => e = .returned (.int .i64 250) ∧ After F w s A w' := by
  refine (pub_pages F s _ A 0 LD true _ (h.below ((Below.refl _ _).alloc (Nat.le_refl _) _)) (pages_lit2 w sa emptyB sa emptyB (by decide) (by decide) (by decide) (by decide))).mono ?_
  rintro e w' ⟨he, ha⟩
  rw [pub_no_R ld_no] at he
  rw [pub_no_A ld_no] at ha
  exact ⟨he, ha.from ((Below.refl _ _).alloc (Nat.le_refl _) _)⟩

theorem viewL_some (A : AS) (m t : Nat) (h : t < 30 + (m + 2) * 5) : ∃ x, (viewL A m)[t]? = some (.string x) := by
  by_cases h2 : t < 30
  · exact ⟨_, viewL_get A m t h2⟩
  · exact ⟨_, viewL_read A m t (by omega) h⟩

/-- How a call may end. -/
theorem perf_ways (A : AS) (o : OpI) (v opened : Int) :
    (perfR A o v opened = (0, 250) ∧ perfA A o v opened = A) ∨
    (o.k = 2 ∧ perfR A o v opened = (A.opened + 1, 0) ∧ (perfA A o v opened).opened = A.opened + 1 ∧ ((perfA A o v opened).ses.length : Int) = A.ses.length + 1) ∨
    (o.k = 3 ∧ perfR A o v opened = (0, 0) ∧ (perfA A o v opened).opened = A.opened ∧ ((perfA A o v opened).ses.length : Int) = A.ses.length - 1) ∨
    (o.k ≠ 2 ∧ o.k ≠ 3 ∧ perfR A o v opened = (0, 0) ∧ (perfA A o v opened).opened = A.opened ∧ ((perfA A o v opened).ses.length : Int) = A.ses.length) := by
  by_cases h : (perfR A o v opened).2 = 0
  · have hs := perf_sessions A o v opened h
    have hn := perf_number A o v opened
    rcases k_cases o with e | e | e | e
    · refine .inr (.inr (.inr ⟨by omega, by omega, ?_, by rw [perfA_0 e]; exact pubA_opened _ _ _ _, by simpa [e] using hs⟩))
      rw [perfR_0 e] at h ⊢
      exact Prod.ext rfl h
    · refine .inr (.inr (.inr ⟨by omega, by omega, ?_, by rw [perfA_1 e]; exact pubA_opened _ _ _ _, by simpa [e] using hs⟩))
      rw [perfR_1 e] at h ⊢
      exact Prod.ext rfl h
    · refine .inr (.inl ⟨e, ?_, ?_, by simpa [e] using hs⟩)
      · rcases hn with hn | hn
        · rw [perfR_2 e] at h ⊢
          cases ho : openOk A (classI o.cls) with
          | true => rw [openR_yes ho]
          | false => rw [openR_no ho] at h; exact absurd h (by decide)
        · exact hn.2.2
      · rw [perfR_2 e] at h
        rw [perfA_2 e]
        cases ho : openOk A (classI o.cls) with
        | true => rw [openA_yes ho]
        | false => rw [openR_no ho] at h; exact absurd h (by decide)
    · refine .inr (.inr (.inl ⟨e, ?_, by rw [perfA_3 e]; rfl, ?_⟩))
      · rw [perfR_3 e] at h ⊢
        exact Prod.ext rfl h
      · simp [e] at hs
        omega
  · obtain ⟨h1, h2⟩ := perf_refused A o v opened h
    exact .inl ⟨h2, h1⟩

set_option maxRecDepth 100000 in
set_option maxHeartbeats 4000000 in
theorem limits_any (av : Option Addr) (b off n cap : Nat) (L : List OpI) (w : World) (hn : L.length = n) (h0 : av = none → n = 0 ∧ cap = 0) (hnc : n ≤ cap) (hops : OpsAt w av b off L) :
    Calls Try.prog 6 #[.slice av n cap] w (TruePost w) := by
  have Hops := Lib.hid hops; clear hops
  go_enter Try.func6, Try.ntmps6
  go_wp2_with fail
  refine (sane_any w).mono ?_
  rintro e w1 ⟨rfl, hb1⟩
  go_wp2_with fail
  refine (new_any w1).mono ?_
  rintro e w2 ⟨s, F0, rfl, hr, hb2, hF⟩
  have hheld : Held w s A0 F0 w2 := ⟨hr, fun j hj => Nat.le_trans hb1.size (hF j hj), hb1.trans (hb2.mono hb1.size)⟩
  have Hheld := Lib.hid hheld
  clear hheld hr hb2 hF hb1
  unfold ptrV
  go_wp2_with (go_at_call 9; refine (few_gen av n cap _ h0 hnc).mono ?_; rintro e w' ⟨rfl, rfl⟩)
  obtain ⟨n', hn'⟩ : ∃ n', n' = min n 40 := ⟨_, rfl⟩
  rw [← hn']
  have hn40 : n' ≤ 40 := by omega
  have hnL : n' ≤ L.length := by omega
  clear hn'
  go_loopw [6, 7, 8] (fun op se i wr => ∃ (k : Nat) (F : Nat → Prop) (A : AS), i = .int .i64 k ∧ k ≤ n' ∧ op = .int .i64 A.opened ∧ se = .int .i64 (A.ses.length : Int) ∧ Held w s A F wr ∧ 0 ≤ A.opened ∧ A.opened ≤ k ∧ A.ses.length ≤ 16) (fun _ _ i _ => n' - (intOf i).toNat)
  case atStart => exact ⟨0, F0, A0, rfl, Nat.zero_le _, rfl, rfl, Hheld.out, by decide, by decide, by decide⟩
  case round =>
    clear Hheld
    obtain ⟨k, F, A, rfl, hk, rfl, rfl, hh, hop0, hopk, h16⟩ := hrel
    have Hh := Lib.hid hh
    by_cases hlt : k < n'
    · obtain ⟨o, ho⟩ : ∃ o, L[k]? = some o := ⟨_, List.getElem?_eq_getElem (by omega)⟩
      obtain ⟨hok, rfl, hbl, q0, q1, q2⟩ := Hops.out k o ho
      have hpick := Lib.hid (fun W => pick_any o.kind 4 W hok.1.1 hok.1.2 (by omega))
      have Hok := Lib.hid hok
      obtain ⟨m, hm⟩ : ∃ m : Nat, m = A.opened.toNat := ⟨_, rfl⟩
      have hview := fun (F : Nat → Prop) W (h : Rep F W s A) => view_texts F s A m A.opened (by omega) W h (by omega)
      obtain ⟨len, hlen⟩ : ∃ len, len = 30 + (m + 2) * 5 := ⟨_, rfl⟩
      have Hlen := Lib.hid hlen
      have hlen1 : len ≤ 10000 := by omega
      unfold ViewTexts at hview
      rw [← hlen] at hview
      unfold ptrV at hview
      have Hview := Lib.hid hview
      clear hview hm hlen ho hok hh
      go_wp2_with fail
      refine (Hview.out F _ Hh.out.rep).mono ?_
      rintro e w3 ⟨g1, cap1, rfl, hg1, ht1, hb3⟩
      have Hh3 := Lib.hid (Hh.out.more hb3)
      have HF1 : Hid (¬ F g1) := fun hf => by have := Hh.out.rep.lt _ hf; omega
      have Ht1 := Lib.hid ht1
      have q0' : w3.cell? ⟨b, off + k * 3, none⟩ = some (.int .i64 o.kind) := (Hh3.out.below.cell (p := ⟨b, off + k * 3, none⟩) hbl).trans q0
      have q1' : w3.cell? ⟨b, off + k * 3 + 1, none⟩ = some (.int .i64 o.cls) := (Hh3.out.below.cell (p := ⟨b, off + k * 3 + 1, none⟩) hbl).trans q1
      have q2' : w3.cell? ⟨b, off + k * 3 + 2, none⟩ = some (.int .i64 o.n) := (Hh3.out.below.cell (p := ⟨b, off + k * 3 + 2, none⟩) hbl).trans q2
      have hperf := Lib.hid (perform_any F s A o k A.opened _ Hh3.out.rep Hok.out (by omega) (by omega) (by omega) hop0 (by omega))
      have hways := Lib.hid (perf_ways A o k A.opened)
      have h16' := Lib.hid (perf_16 A o k A.opened h16)
      unfold ptrV at hperf
      unfold PerfPost at hperf
      clear hb3 ht1 hg1 Hh
      obtain ⟨R, hR⟩ : ∃ R, R = perfR A o k A.opened := ⟨_, rfl⟩
      obtain ⟨A', hAe⟩ : ∃ A', A' = perfA A o k A.opened := ⟨_, rfl⟩
      rw [← hR, ← hAe] at hperf hways
      rw [← hAe] at h16'
      clear hR hAe
      have h16' := h16'.out
      rcases hways.out with ⟨rfl, hAA⟩ | ⟨hk2, rfl, hop', hse'⟩ | ⟨hk3, rfl, hop', hse'⟩ | ⟨hk2, hk3, rfl, hop', hse'⟩
      · subst hAA
        clear hways
        go_wp2_with fail
        refine hperf.out.mono ?_
        rintro e w4 ⟨rfl, ha⟩
        obtain ⟨F', hh4, hsep⟩ := Hh3.out.after ha
        obtain ⟨hF4, hk4⟩ := hsep g1 Ht1.out.1 HF1.out
        have Ht4 := Lib.hid (Ht1.out.keep hk4)
        have Hh4 := Lib.hid hh4
        clear ha hh4 hF4 hk4 hsep Ht1 HF1 Hh3 hperf q0' q1' q2'
        have q0' : w4.cell? ⟨b, off + k * 3, none⟩ = some (.int .i64 o.kind) := (Hh4.out.below.cell (p := ⟨b, off + k * 3, none⟩) hbl).trans q0
        go_wp2_with (go_at_call 13; refine (hpick.out _).mono ?_; rintro e w' ⟨rfl, rfl⟩)
        refine (Hview.out F' _ Hh4.out.rep).mono ?_
        rintro e w5 ⟨g2, cap2, rfl, hg2, ht2, hb5⟩
        have Hh5 := Lib.hid (Hh4.out.more hb5)
        have Ht5 := Lib.hid (Ht4.out.below hb5)
        have Ht2 := Lib.hid ht2
        clear hb5 ht2 hg2 Hh4 Ht4 q0' Hview hpick q0 q1 q2 Hok
        go_wp2_with fail
        go_loopw [14] (fun j v => ∃ t : Nat, j = .int .i64 t ∧ t ≤ len ∧ Held w s A' F' v ∧ TextsAt v g1 (viewL A' m) ∧ TextsAt v g2 (viewL A' m)) (fun j _ => len - (intOf j).toNat)
        case atStart => exact ⟨0, rfl, by omega, Hh5.out, Ht5.out, Ht2.out⟩
        case round =>
          clear Hh5 Ht5 Ht2
          obtain ⟨t, rfl, ht, hh, t1, t2⟩ := hrel
          by_cases htl : t < len
          · obtain ⟨x, hx⟩ := viewL_some A' m t (by rw [← Hlen.out]; exact htl)
            have c1 := t1.2 t _ hx
            have c2 := t2.2 t _ hx
            have T1 := Lib.hid t1
            have T2 := Lib.hid t2
            have Hh := Lib.hid hh
            have ht0 : (0 : Int) ≤ (t : Int) := by omega
            have htl' : (t : Int) < (len : Int) := by omega
            clear t1 t2 hh ht hx
            go_wp2_with fail
            go_quiet (fail)
            go_wp2
            go_roundw
            case rel => exact ⟨t + 1, by go_num, by omega, Hh.out.drewN _, T1.out, T2.out⟩
            case measure => simp [intOf]; omega
          · have HT := Lib.hid hh
            clear hh t1 t2
            go_wp2_with fail
            refine (pub_ld HT.out.rep).mono ?_
            rintro e w6 ⟨rfl, ha6⟩
            obtain ⟨F6, hh6, _⟩ := HT.out.after ha6
            have Hh6 := Lib.hid hh6
            have hses := Lib.hid (fun W (h : Rep F6 W s A') => sessions_any F6 s A' W h)
            have hcnt := Lib.hid (fun W (h : Rep F6 W s A') => count_any F6 s A' W h)
            unfold ptrV at hses hcnt
            unfold CountPost at hcnt
            clear ha6 hh6 HT
            go_wp2_with (go_at_call 20; refine (hses.out _ Hh6.out.rep).mono ?_; rintro e w' ⟨rfl, rfl⟩)
            refine (hcnt.out _ Hh6.out.rep).mono ?_
            rintro e w7 ⟨n7, rfl, h74, h75, _, hb7⟩
            have Hh7 := Lib.hid (Hh6.out.more hb7)
            clear hb7 Hh6
            go_wp2_with fail
            refine (hcnt.out _ Hh7.out.rep).mono ?_
            rintro e w8 ⟨n8, rfl, h84, h85, _, hb8⟩
            have Hh8 := Lib.hid (Hh7.out.more hb8)
            clear hb8 Hh7
            go_wp2
            go_roundw
            case rel => exact ⟨k + 1, F6, A', by go_num, by omega, rfl, rfl, Hh8.out, by omega, by omega, h16'⟩
            case measure => simp [intOf]; omega
      all_goals
        have Hop' := Lib.hid hop'
        have Hse' := Lib.hid hse'
        have hb2 : (pickI o.kind 4 == 2) = decide (o.k = 2) := by unfold OpI.k; by_cases h : pickI o.kind 4 = 2 <;> simp [h]
        have hb3 : (pickI o.kind 4 == 3) = decide (o.k = 3) := by unfold OpI.k; by_cases h : pickI o.kind 4 = 3 <;> simp [h]
        first
          | rw [show decide (o.k = 2) = true by simpa using hk2] at hb2
          | rw [show decide (o.k = 2) = false by simpa using hk2, show decide (o.k = 3) = false by simpa using hk3] at *
          | rw [show decide (o.k = 2) = false by simp [hk3], show decide (o.k = 3) = true by simpa using hk3] at *
        clear hways hop' hse'
        go_wp2_with fail
        refine hperf.out.mono ?_
        rintro e w4 ⟨rfl, ha⟩
        obtain ⟨F', hh4, _⟩ := Hh3.out.after ha
        have HT := Lib.hid hh4
        clear ha hh4 Ht1 HF1 Hh3 hperf q0' q1' q2' Hview
        have q0' : w4.cell? ⟨b, off + k * 3, none⟩ = some (.int .i64 o.kind) := (HT.out.below.cell (p := ⟨b, off + k * 3, none⟩) hbl).trans q0
        go_wp2_with (go_at_call 13; refine (hpick.out _).mono ?_; rintro e w' ⟨rfl, rfl⟩)
        rw [← Hop'.out, ← Hse'.out]
        have hX0 : 0 ≤ A'.opened := by have := Hop'.out; omega
        have hX1 : A'.opened ≤ k + 1 := by have := Hop'.out; omega
        clear Hop' Hse' hb2 hb3 hpick q0' q0 q1 q2 Hok hop0 hopk h16
        try clear hk2
        try clear hk3
        refine (pub_ld HT.out.rep).mono ?_
        rintro e w6 ⟨rfl, ha6⟩
        obtain ⟨F6, hh6, _⟩ := HT.out.after ha6
        have Hh6 := Lib.hid hh6
        have hses := Lib.hid (fun W (h : Rep F6 W s A') => sessions_any F6 s A' W h)
        have hcnt := Lib.hid (fun W (h : Rep F6 W s A') => count_any F6 s A' W h)
        unfold ptrV at hses hcnt
        unfold CountPost at hcnt
        clear ha6 hh6 HT
        go_wp2_with (go_at_call 20; refine (hses.out _ Hh6.out.rep).mono ?_; rintro e w' ⟨rfl, rfl⟩)
        refine (hcnt.out _ Hh6.out.rep).mono ?_
        rintro e w7 ⟨n7, rfl, h74, h75, _, hb7⟩
        have Hh7 := Lib.hid (Hh6.out.more hb7)
        clear hb7 Hh6
        go_wp2_with fail
        refine (hcnt.out _ Hh7.out.rep).mono ?_
        rintro e w8 ⟨n8, rfl, h84, h85, _, hb8⟩
        have Hh8 := Lib.hid (Hh7.out.more hb8)
        clear hb8 Hh7
        go_wp2
        go_roundw
        case rel => exact ⟨k + 1, F6, A', by go_num, by omega, rfl, rfl, Hh8.out, by omega, by omega, h16'⟩
        case measure => simp [intOf]; omega
    · clear hh
      go_wp2
      go_ret
      exact ⟨rfl, Hh.out.below⟩
end Go.Proofs.Ytgheokocdfgjpaa
