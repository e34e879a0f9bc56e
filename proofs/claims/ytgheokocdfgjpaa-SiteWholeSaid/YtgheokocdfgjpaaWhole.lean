/- SiteWhole: without purges, all texts that a session reads are of one call of Publish: for every list of calls the law returns true. -/
import Derived.Test.YtgheokocdfgjpaaHeld
import Derived.Deep.QuietTactic
import Derived.BigQuiet
namespace Go.Proofs.Ytgheokocdfgjpaa
open Go.RowKit Go.MapKept Go.ChangeMaps Go.Maps Go.WideMaps

theorem mark_cut (m y : BA) (hm : m.size = 2) : (m ++ y).extract 2 (2 + y.size) = y ∧ (m ++ y).extract 0 2 = m := by
  have h1 : m.data.toList.length = 2 := by simpa using hm
  constructor
  · apply ByteArray.ext
    apply Array.toList_inj.1
    rw [ByteArray.data_extract, ByteArray.data_append, Array.toList_extract, Array.toList_append, List.extract_eq_take_drop]
    rw [show 2 + y.size - 2 = y.data.toList.length by simp]
    rw [← h1, List.drop_left, List.take_length]
  · apply ByteArray.ext
    apply Array.toList_inj.1
    rw [ByteArray.data_extract, ByteArray.data_append, Array.toList_extract, Array.toList_append, List.extract_eq_take_drop]
    rw [← h1]
    simp

theorem mark_ne (m : BA) (hm : m.size = 2) : m.toList.isEmpty = false := by
  have h1 : m.data.toList.length = 2 := by simpa using hm
  rw [ByteArray.toList_eq m]
  cases h : m.data.toList with
  | nil => rw [h] at h1; cases h1
  | cons => rfl

set_option maxRecDepth 100000 in
set_option maxHeartbeats 4000000 in
theorem whole_any (av : Option Addr) (b off n cap : Nat) (L : List OpI) (w : World) (hn : L.length = n) (h0 : av = none → n = 0 ∧ cap = 0) (hnc : n ≤ cap) (hops : OpsAt w av b off L) :
    Calls Try.prog 4 #[.slice av n cap] w (TruePost w) := by
  have Hops := Lib.hid hops; clear hops
  go_enter Try.func4, Try.ntmps4
  go_wp2_with fail
  refine (sane_any w).mono ?_
  rintro e w1 ⟨rfl, hb1⟩
  go_wp2_with fail
  refine (new_any w1).mono ?_
  rintro e w2 ⟨s, F0, rfl, hr, hb2, hF⟩
  have hheld : Held w s A0 F0 w2 := ⟨hr, fun j hj => Nat.le_trans hb1.size (hF j hj), hb1.trans (hb2.mono hb1.size)⟩
  have Hheld := Lib.hid hheld
  clear hheld hr hb2 hF hb1
  unfold ptrV
  go_wp2_with (first
    | (go_at_call 9; refine (few_gen av n cap _ h0 hnc).mono ?_; rintro e w' ⟨rfl, rfl⟩)
    | (go_at_call 10; refine (addresses_any _).mono ?_; rintro e w' ⟨rfl, rfl⟩))
  obtain ⟨n', hn'⟩ : ∃ n', n' = min n 40 := ⟨_, rfl⟩
  rw [← hn']
  have hn40 : n' ≤ 40 := by omega
  have hnL : n' ≤ L.length := by omega
  obtain ⟨ab, hab⟩ : ∃ ab, ab = w2.heap.size := ⟨_, rfl⟩
  have hstart : Hid (Held w s A0 F0 (w2.alloc adRow) ∧ ¬ F0 ab ∧ (w2.alloc adRow).heap[ab]? = some adRow) := by
    refine ⟨Hheld.out.more ((Below.refl _ _).alloc (Nat.le_refl _) _), fun hf => ?_, ?_⟩
    · have := Hheld.out.rep.lt _ hf
      omega
    · rw [heap_alloc_eq, if_pos hab]
  rw [← hab]
  clear hn' hab Hheld
  go_loopw [6, 8] (fun op i wr => ∃ (k : Nat) (F : Nat → Prop) (A : AS), i = .int .i64 k ∧ k ≤ n' ∧ op = .int .i64 A.opened ∧ Held w s A F wr ∧ ¬ F ab ∧ wr.heap[ab]? = some adRow ∧ Whole A ∧ 0 ≤ A.opened ∧ A.opened ≤ k) (fun _ i _ => n' - (intOf i).toNat)
  case atStart => exact ⟨0, F0, A0, rfl, Nat.zero_le _, rfl, hstart.out.1, hstart.out.2.1, hstart.out.2.2, whole0, by decide, by decide⟩
  case round =>
    clear hstart
    obtain ⟨k, F, A, rfl, hk, rfl, hh, hfa, hra, hwh, hop0, hopk⟩ := hrel
    have Hh := Lib.hid hh
    have Hfa := Lib.hid hfa
    have Hra := Lib.hid hra
    have Hwh := Lib.hid hwh
    by_cases hlt : k < n'
    · obtain ⟨o, ho⟩ : ∃ o, L[k]? = some o := ⟨_, List.getElem?_eq_getElem (by omega)⟩
      obtain ⟨hok, rfl, hbl, q0, q1, q2⟩ := Hops.out k o ho
      have q0' : wr.cell? ⟨b, off + k * 3, none⟩ = some (.int .i64 o.kind) := (hh.below.cell (p := ⟨b, off + k * 3, none⟩) hbl).trans q0
      have q1' : wr.cell? ⟨b, off + k * 3 + 1, none⟩ = some (.int .i64 o.cls) := (hh.below.cell (p := ⟨b, off + k * 3 + 1, none⟩) hbl).trans q1
      have q2' : wr.cell? ⟨b, off + k * 3 + 2, none⟩ = some (.int .i64 o.n) := (hh.below.cell (p := ⟨b, off + k * 3 + 2, none⟩) hbl).trans q2
      have Hok := Lib.hid hok
      have hpick := Lib.hid (fun W => pick_any o.kind 4 W hok.1.1 hok.1.2 (by omega))
      have hcalls : ∃ o' : OpI, o'.k ≠ 1 ∧ o'.ok ∧ ((pickI o.kind 4 == 1) = false ∧ o' = o ∨ (pickI o.kind 4 == 1) = true ∧ o' = { o with kind := 0 }) := by
        by_cases h1 : o.k = 1
        · have h2 : noPurge o = { o with kind := 0 } := by unfold noPurge; rw [if_pos h1]
          have h3 := noPurge_k o
          have h4 := noPurge_ok hok
          rw [h2] at h3 h4
          exact ⟨_, h3, h4, .inr ⟨by rw [show pickI o.kind 4 = 1 from h1]; rfl, rfl⟩⟩
        · exact ⟨o, h1, hok, .inl ⟨by simpa [OpI.k] using h1, rfl⟩⟩
      obtain ⟨o', ho1, ho2, hcase⟩ := hcalls
      have hbx : Below wr.heap.size wr (wr.alloc (.cells #[.int .i64 o'.kind, .int .i64 o'.cls, .int .i64 o'.n] 35)) := (Below.refl _ _).alloc (Nat.le_refl _) _
      have hperf := Lib.hid (perform_any F s A o' k A.opened _ (hh.more hbx).rep ho2 (by omega) (by omega) (by omega) hop0 (by omega))
      have Hbx := Lib.hid hbx
      have hN := Lib.hid (perf_number A o' k A.opened)
      have hA' := Lib.hid (perf_opened A o' k A.opened hop0)
      have hW' := Lib.hid (whole_perf hwh o' k A.opened ho1)
      have Ho1 := Lib.hid ho1
      unfold ptrV at hperf
      clear hh hfa hra hwh ho hok hbl q0 q1 q2 hbx ho1 ho2
      obtain ⟨N, hNe⟩ : ∃ N : Int, N = (perfR A o' k A.opened).1 := ⟨_, rfl⟩
      obtain ⟨E, hEe⟩ : ∃ E : Int, E = (perfR A o' k A.opened).2 := ⟨_, rfl⟩
      obtain ⟨A', hAe⟩ : ∃ A', A' = perfA A o' k A.opened := ⟨_, rfl⟩
      unfold PerfPost at hperf
      rw [← hNe, ← hEe, ← hAe] at hperf
      rw [← hNe] at hN hA'
      rw [← hAe] at hA' hW'
      have hN2 : Hid (N = 0 ∨ N = A.opened + 1) := by
        rcases hN.out with h | h
        · exact .inl h
        · exact .inr (by rw [hNe, h.2.2])
      obtain ⟨X, hX⟩ : ∃ X : Int, X = A'.opened := ⟨_, rfl⟩
      have HX := Lib.hid hX
      have hX0 : 0 ≤ X := by have := hA'.out; omega
      have hX1 : X ≤ k + 1 := by
        have := hA'.out
        rcases hN2.out with h | h <;> omega
      clear hNe hEe hAe hN Ho1 hX
      rcases hN2.out with hNv | hNv
      all_goals
        have hXv := hA'.out
        rw [← HX.out, hNv] at hXv
        have hXw := Lib.hid hXv
        clear hXv
        rcases hcase with ⟨hb1, rfl⟩ | ⟨hb1, rfl⟩
        all_goals
          go_wp2_with (first
            | (go_at_call 13; refine (hpick.out _).mono ?_; rintro e w' ⟨rfl, rfl⟩)
            | (go_at_call 12; refine hperf.out.mono ?_; rintro e w3 ⟨rfl, ha⟩))
          obtain ⟨F', hh3, hsep⟩ := (Hh.out.more Hbx.out).after ha
          have hab3 := hsep ab (Nat.lt_of_lt_of_le (Array.getElem?_eq_some_iff.1 Hra.out).1 Hbx.out.size) Hfa.out
          have hra3 : w3.heap[ab]? = some adRow := hab3.2.trans (adRow_keep Hbx.out Hra.out)
          have Hh3 := Lib.hid hh3
          have Hra3 := Lib.hid hra3
          have Hfa3 := Lib.hid hab3.1
          clear ha hsep hab3 hra3 hh3 hb1
          first
            | rw [show A.opened + 1 = X from by have := hXw.out; omega]
            | rw [show A.opened = X from by have := hXw.out; omega]
          clear hXw hpick hperf hN2 hA' Hh Hfa Hra Hwh Hbx q0' q1' q2' Hok hNv hop0 hopk
          obtain ⟨v0, hv0⟩ : ∃ v0, v0 = wr := ⟨_, rfl⟩
          rw [← hv0]
          clear hv0
          go_loopw [12] (fun c v => ∃ q : Nat, c = .int .i64 ((q : Int) + 1) ∧ (q : Int) ≤ X ∧ Held w s A' F' v ∧ v.heap[ab]? = some adRow) (fun c _ => (X + 1 - intOf c).toNat)
          case atStart => exact ⟨0, by simp, by omega, Hh3.out, Hra3.out⟩
          case round =>
            clear Hh3 Hra3
            obtain ⟨q, rfl, hq, hh, hra⟩ := hrel
            by_cases hqX : (q : Int) + 1 ≤ X
            · have Hh := Lib.hid hh
              have Hra := Lib.hid hra
              obtain ⟨m, hm2, hmr⟩ := whole_read hW'.out ((q : Int) + 1)
              have Hm2 := Lib.hid hm2
              have Hmr := Lib.hid hmr
              clear hh hra hm2 hmr
              have hd : decide ((q : Int) + 1 ≤ X) = true := by simpa using hqX
              go_wp2_with fail
              clear hd
              obtain ⟨v1, hv1⟩ : ∃ v1, v1 = wr := ⟨_, rfl⟩
              rw [← hv1] at Hh Hra ⊢
              clear hv1
              go_loopw [13, 14] (fun mk j v => ∃ t : Nat, j = .int .i64 t ∧ t ≤ 5 ∧ (mk = .string emptyB ∨ mk = .string m) ∧ Held w s A' F' v ∧ v.heap[ab]? = some adRow) (fun _ j _ => 5 - (intOf j).toNat)
              case atStart => exact ⟨0, rfl, by omega, .inl rfl, Hh.out, Hra.out⟩
              case round =>
                clear Hh Hra
                obtain ⟨t, rfl, ht, hmk, hh, hra⟩ := hrel
                by_cases htl : t < 5
                · have ht0 : (0 : Int) ≤ (t : Int) := by omega
                  have ht5 : (t : Int) < 5 := by omega
                  have q0 := adRow_at hra t htl
                  have hread := Lib.hid (read_any F' s A' ((q : Int) + 1) (ad t) wr hh.rep (by omega) (by omega) (by have := ad_size t; omega))
                  have Hh := Lib.hid hh
                  have Hra := Lib.hid hra
                  clear hh hra
                  unfold ptrV at hread
                  rcases Hmr.out t htl with hne | heq
                  · have hne' : ((readA A' ((q : Int) + 1) (ad t)).2 != 0) = true := by simpa using hne
                    have Hmk := Lib.hid hmk
                    clear hmk hne
                    go_wp2_with (go_at_call 15; refine hread.out.mono ?_; rintro e w' ⟨rfl, rfl⟩)
                    go_roundw
                    case rel => exact ⟨t + 1, by go_num, by omega, Hmk.out, Hh.out, Hra.out⟩
                    case measure => simp [intOf]; omega
                  · rw [heq] at hread
                    rcases hmk with rfl | rfl
                    · go_wp2_with (go_at_call 15; refine hread.out.mono ?_; rintro e w' ⟨rfl, rfl⟩)
                      have hm2 := Hm2.out
                      have hyw : IntKind.i64.wrap (((ad t).size : Int) + 2) = 2 + ((ad t).size : Int) := by rw [IntWalk.i64_in _ (by have := ad_size t; omega)]; omega
                      have hle : (2 : Int) ≤ 2 + ((ad t).size : Int) := by omega
                      obtain ⟨hx1, hx2⟩ := mark_cut m (ad t) hm2
                      have hem : emptyB.toList.isEmpty = true := by decide +kernel
                      go_quiet (fail)
                      clear hyw hle hx1
                      go_wp2
                      go_roundw
                      case rel => exact ⟨t + 1, by go_num, by omega, .inr rfl, Hh.out.drewN _, Hra.out⟩
                      case measure => simp [intOf]; omega
                    · go_wp2_with (go_at_call 15; refine hread.out.mono ?_; rintro e w' ⟨rfl, rfl⟩)
                      have hm2 := Hm2.out
                      have hyw : IntKind.i64.wrap (((ad t).size : Int) + 2) = 2 + ((ad t).size : Int) := by rw [IntWalk.i64_in _ (by have := ad_size t; omega)]; omega
                      have hle : (2 : Int) ≤ 2 + ((ad t).size : Int) := by omega
                      obtain ⟨hx1, hx2⟩ := mark_cut m (ad t) hm2
                      have hem : m.toList.isEmpty = false := mark_ne m hm2
                      go_quiet (fail)
                      clear hyw hle hx1
                      go_wp2
                      go_roundw
                      case rel => exact ⟨t + 1, by go_num, by omega, .inr rfl, Hh.out.drewN _, Hra.out⟩
                      case measure => simp [intOf]; omega
                · clear hmk
                  have Hh := Lib.hid hh
                  have Hra := Lib.hid hra
                  clear hh hra
                  go_wp2
                  go_roundw
                  case rel => exact ⟨q + 1, by go_num, by omega, Hh.out, Hra.out⟩
                  case measure => simp [intOf]; omega
            · have Hh := Lib.hid hh
              have Hra := Lib.hid hra
              clear hh hra
              have hd : decide ((q : Int) + 1 ≤ X) = false := by simpa using hqX
              go_wp2
              go_roundw
              case rel => exact ⟨k + 1, F', A', by go_num, by omega, by rw [HX.out], Hh.out, Hfa3.out, Hra.out, hW'.out, by rw [← HX.out]; exact hX0, by rw [← HX.out]; omega⟩
              case measure => simp [intOf]; omega
    · clear hh hfa hra hwh
      go_wp2
      go_ret
      exact ⟨rfl, Hh.out.below⟩
end Go.Proofs.Ytgheokocdfgjpaa
