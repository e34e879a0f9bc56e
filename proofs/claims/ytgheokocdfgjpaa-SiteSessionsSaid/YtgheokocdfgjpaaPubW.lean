/- The walk of Publish of package site. -/
import Derived.Test.YtgheokocdfgjpaaPub
namespace Go.Proofs.Ytgheokocdfgjpaa
open Go.RowKit Go.MapKept Go.ChangeMaps Go.Maps Go.WideMaps

theorem SMap.len {w : World} {b : Nat} {l : List (BA × BA)} (h : SMap w b l) : ∀ ty, (Builtin.len_ #[56] ty #[.map (some b)]).run Try.prog w = .ok (.int .i64 (l.length : Int)) w := fun _ => run_len Try.underlying56 h.1

/-- The Site when the new snapshot has been stored, and the loop over the sessions begins. -/
theorem PubInv.start {F : Nat → Prop} {w wr : World} {s k : Nat} {A : AS} {B : Bk} {L : List (BA × BA)} (pg : Bool) (hB : RepB F w s A B) (hk : k < 4) {T : Nat} (hT : w.heap.size ≤ T) (hm : SMap wr T (mkm L)) (hbw : Below w.heap.size w wr) (o : Obj) :
    PubInv F w s k A B T wr.heap.size L pg (fun _ => true) (((wr.alloc (.cells #[.int .i64 (k : Int), .map (some T)] 58)).setCell ⟨s, k, none⟩ (.pointer (some ⟨wr.heap.size, 0, none⟩))).alloc o) := by
  have hsl := hB.lt _ hB.fs
  have hsz := hbw.size
  have hTl := hm.1.lt
  have htop : wr.heap[s]? = _ := (hbw.block s hsl).trans hB.top
  have hother : ∀ i, i ≠ s → i < wr.heap.size → (((wr.alloc (.cells #[.int .i64 (k : Int), .map (some T)] 58)).setCell ⟨s, k, none⟩ (.pointer (some ⟨wr.heap.size, 0, none⟩))).alloc o).heap[i]? = wr.heap[i]? := fun i hi hl => by
    rw [Below.heap_alloc _ _ _ (by simp; omega), Below.heap_setCell _ _ _ _ hi, Below.heap_alloc _ _ _ hl]
  have hsub : ∀ {b c f}, SnapAt (Sub F s B.m) w b c f → SnapAt (Sub (fun i => F i ∨ w.heap.size ≤ i) s B.m) (((wr.alloc (.cells #[.int .i64 (k : Int), .map (some T)] 58)).setCell ⟨s, k, none⟩ (.pointer (some ⟨wr.heap.size, 0, none⟩))).alloc o) b c f := fun {b c f} h =>
    h.kept (fun i hi => by
      have := hB.lt i hi.1
      exact (hother i hi.2.1 (by omega)).trans (hbw.block i this)) (fun i hi => ⟨.inl hi.1, hi.2⟩)
  refine ⟨(((Only.of_below hbw F).alloc _).setCell (fun _ => hB.fs) _).alloc _, ?_, ?_, ⟨hm.1.kept (hother T (by omega) hTl), hm.2⟩, hsz, hT, fun i hi _ => hsub (hB.cur i hi), fun j p q hp hq => .inr ⟨hsub (hB.at_ j p q hp hq), rfl⟩⟩
  · rw [Below.heap_alloc _ _ _ (by simp; omega)]
    simp only [World.setCell, Array.getElem?_modify, if_true]
    rw [Below.heap_alloc _ _ _ (by omega), htop]
    match k, hk with
    | 0, _ => simp [ptrV]
    | 1, _ => simp [ptrV]
    | 2, _ => simp [ptrV]
    | 3, _ => simp [ptrV]
  · rw [Below.heap_alloc _ _ _ (by simp), Below.heap_setCell _ _ _ _ (show wr.heap.size ≠ s by omega), heap_alloc_eq, if_pos rfl]
    rfl

/-- What the walk of the first loop's end needs, when the call goes on. -/
theorem pub_go {F : Nat → Prop} {w wr : World} {s k : Nat} {A : AS} {B : Bk} {L : List (BA × BA)} (pg : Bool) (hB : RepB F w s A B) (hk : k < 4) {T : Nat} (hT : w.heap.size ≤ T) (hm : SMap wr T (mkm L)) (hbw : Below w.heap.size w wr) :
    (wr.alloc (.cells #[.int .i64 (k : Int), .map (some T)] 58)).cell? ⟨s, k, none⟩ = some (ptrV (B.c k)) ∧ (wr.alloc (.cells #[.int .i64 (k : Int), .map (some T)] 58)).frozen? ⟨s, k, none⟩ = false ∧
    ((wr.alloc (.cells #[.int .i64 (k : Int), .map (some T)] 58)).setCell ⟨s, k, none⟩ (.pointer (some ⟨wr.heap.size, 0, none⟩))).cell? ⟨s, 4, none⟩ = some (.map (some B.m)) ∧
    ∃ o, (Instr.range 51 (.map (some B.m))).run Try.prog ((wr.alloc (.cells #[.int .i64 (k : Int), .map (some T)] 58)).setCell ⟨s, k, none⟩ (.pointer (some ⟨wr.heap.size, 0, none⟩))) =
      .ok (.pointer (some ⟨wr.heap.size + 1, 0, none⟩)) (((wr.alloc (.cells #[.int .i64 (k : Int), .map (some T)] 58)).setCell ⟨s, k, none⟩ (.pointer (some ⟨wr.heap.size, 0, none⟩))).alloc o) ∧
      PubInv F w s k A B T wr.heap.size L pg (fun _ => true) (((wr.alloc (.cells #[.int .i64 (k : Int), .map (some T)] 58)).setCell ⟨s, k, none⟩ (.pointer (some ⟨wr.heap.size, 0, none⟩))).alloc o) ∧
      Ranging (((wr.alloc (.cells #[.int .i64 (k : Int), .map (some T)] 58)).setCell ⟨s, k, none⟩ (.pointer (some ⟨wr.heap.size, 0, none⟩))).alloc o) B.m (wr.heap.size + 1) intV ptrV B.s (fun _ => true) B.s.length := by
  have hsl := hB.lt _ hB.fs
  have hml := hB.lt _ hB.fm
  have hsz := hbw.size
  refine ⟨(World.cell?_alloc_lt _ _ _ (by dsimp only; omega)).trans ((hbw.cell (p := ⟨s, k, none⟩) hsl).trans (hB.curCell k hk)), by rw [World.frozen?_alloc_old _ _ _ (by dsimp only; omega), hbw.frozen (p := ⟨s, k, none⟩) hsl]; simp [World.frozen?, hB.top], ?_, ?_⟩
  · rw [World.cell?_setCell_other _ _ _ _ (by simp; try omega), World.cell?_alloc_lt _ _ _ (by dsimp only; omega), hbw.cell (p := ⟨s, 4, none⟩) hsl]
    simp [World.cell?, hB.top]
  · have hses : MapIs ((wr.alloc (.cells #[.int .i64 (k : Int), .map (some T)] 58)).setCell ⟨s, k, none⟩ (.pointer (some ⟨wr.heap.size, 0, none⟩))) B.m intV ptrV B.s := hB.ses.kept (by
      rw [Below.heap_setCell _ _ _ _ hB.ne_m.symm, Below.heap_alloc _ _ _ (by omega)]
      exact hbw.block _ hml)
    obtain ⟨o, h1, h2⟩ := run_range (P := Try.prog) Try.underlying51 hses
    have e : ((wr.alloc (.cells #[.int .i64 (k : Int), .map (some T)] 58)).setCell ⟨s, k, none⟩ (.pointer (some ⟨wr.heap.size, 0, none⟩))).heap.size = wr.heap.size + 1 := by simp
    rw [e] at h1 h2
    exact ⟨o, h1, PubInv.start pg hB hk hT hm hbw o, h2⟩

/-- The entry that the iterator hands out: its snapshot's cells. -/
theorem pub_entry {F : Nat → Prop} {w v : World} {s k : Nat} {A : AS} {B : Bk} {L : List (BA × BA)} {pg : Bool} {T nb : Nat} {left : Int → Bool} (hB : RepB F w s A B) (h : PubInv F w s k A B T nb L pg left v) {p : Int × Nat} (hp : p ∈ B.s) :
    ∃ (j : Nat) (q : Int × Int × (BA → Option BA)) (t : Nat) (l : List (BA × BA)), B.s[j]? = some p ∧ A.ses[j]? = some q ∧ v.heap[p.2]? = some (.cells #[intV q.2.1, .map (some t)] 58 (0, 0)) ∧ SMap v t l ∧ SnapAt (Sub (fun i => F i ∨ w.heap.size ≤ i) s B.m) v p.2 q.2.1 (asc l) := by
  obtain ⟨j, hj⟩ := List.getElem?_of_mem hp
  have hlen : B.s.length = A.ses.length := by simpa using congrArg List.length hB.keys
  have hjl : j < A.ses.length := by rw [← hlen]; exact (List.getElem?_eq_some_iff.1 hj).1
  have hq : A.ses[j]? = some A.ses[j] := List.getElem?_eq_getElem hjl
  obtain ⟨f, hf, _⟩ := h.snapOf hj hq
  have hf' := hf
  obtain ⟨t, l, _, _, h1, h2, h3⟩ := hf
  exact ⟨j, A.ses[j], t, l, hj, hq, h1, h2, h3 ▸ hf'⟩

def PubPost (F : Nat → Prop) (w : World) (s : Nat) (A : AS) (c : Int) (L : List (BA × BA)) (pg : Bool) (e : Ending) (w' : World) : Prop := e = .returned (.int .i64 (pubR c L)) ∧ After F w s (pubA A c L pg) w'

theorem PubPost.no {F : Nat → Prop} {w wr : World} {s : Nat} {A : AS} {c : Int} {L : List (BA × BA)} {pg : Bool} (h : Rep F w s A) (hno : pubOk c L = false) (hbw : Below w.heap.size w wr) {v : Value} (hv : v = .int .i64 250) : PubPost F w s A c L pg (.returned v) wr := by
  subst hv
  refine ⟨by rw [pub_no_R hno], ?_⟩
  rw [pub_no_A hno]
  exact ⟨F, h.below hbw, Only.of_below hbw F, fun _ _ x => x⟩

set_option maxHeartbeats 1000000 in
theorem pub_any (F : Nat → Prop) (s g cap : Nat) (av : Option Addr) (A : AS) (c : Int) (L : List (BA × BA)) (pg : Bool) (w : World) (h : Rep F w s A) (hL : L.length ≤ 1000) (hs : ∀ p ∈ L, p.1.size ≤ 1000 ∧ p.2.size ≤ 1000)
    (hc : ∀ (i : Nat) p, L[i]? = some p → av = some ⟨g, 0, none⟩ ∧ g < w.heap.size ∧ w.cell? ⟨g, i * 3, none⟩ = some (.string p.1) ∧ w.cell? ⟨g, i * 3 + 1, none⟩ = some (.string p.2) ∧ ∃ A n c, w.cell? ⟨g, i * 3 + 2, none⟩ = some (.slice A n c)) :
    Calls Try.prog 18 #[ptrV s, .int .i64 c, .slice av L.length cap, .bool pg] w (PubPost F w s A c L pg) := by
  have hmm := @run_makeMap Try.prog
  have Hc := Lib.hid hc; clear hc
  have Hs := Lib.hid hs; clear hs
  unfold ptrV
  go_enter Try.func18, Try.ntmps18
  go_wp2
  clear hmm
  go_loopw [19] (fun i wr => ∃ k : Nat, i = .int .i64 k ∧ k ≤ L.length ∧ SMap wr w.heap.size (mkm (L.take k)) ∧ Below w.heap.size w wr)
    (fun i _ => L.length - (intOf i).toNat)
  case atStart => exact ⟨0, rfl, Nat.zero_le _, ⟨MapIs.made w, by simp [mkm]⟩, (Below.refl _ _).alloc (Nat.le_refl _) _⟩
  case round =>
    obtain ⟨k, rfl, hk, hm, hbw⟩ := hrel
    by_cases hlt : k < L.length
    · obtain ⟨p, hp⟩ : ∃ p, L[k]? = some p := ⟨_, List.getElem?_eq_getElem hlt⟩
      obtain ⟨rfl, hg, q0, q1, AA, nn, cc, q2⟩ := Hc.out k p hp
      have q0' : wr.cell? ⟨g, k * 3, none⟩ = some (.string p.1) := (hbw.cell (p := ⟨g, k * 3, none⟩) hg).trans q0
      have q1' : wr.cell? ⟨g, k * 3 + 1, none⟩ = some (.string p.2) := (hbw.cell (p := ⟨g, k * 3 + 1, none⟩) hg).trans q1
      have q2' : wr.cell? ⟨g, k * 3 + 2, none⟩ = some (.slice AA nn cc) := (hbw.cell (p := ⟨g, k * 3 + 2, none⟩) hg).trans q2
      have hps := Hs.out p (List.mem_of_getElem? hp)
      have hm1 : SMap (wr.alloc (.cells #[.string p.1, .string p.2, .slice AA nn cc] 47)) w.heap.size (mkm (L.take k)) := ⟨hm.1.kept (Below.heap_alloc _ _ _ hm.1.lt), hm.2⟩
      obtain ⟨w2, hupd, hm2, hon2, hsz2⟩ := hm1.update hps.1 hps.2
      have hbw2 : Below w.heap.size w w2 := (hbw.alloc hbw.size (.cells #[.string p.1, .string p.2, .slice AA nn cc] 47)).trans ⟨hon2.os, hon2.tape, hon2.output, hon2.size, fun i hi => hon2.block i (by have := hbw.size; simp; omega) (by omega)⟩
      rw [← mkm_take L k p hp] at hm2
      have hrel := Lib.hid (And.intro hm2 hbw2)
      clear q0 q1 q2 hm hbw hp hps hm1 hm2 hon2 hsz2 hbw2
      go_wp2
      go_roundw
      case rel => exact ⟨k + 1, by go_num, by omega, hrel.out⟩
      case measure => simp [intOf]; omega
    · have hkl : k = L.length := by omega
      have hm' : SMap wr w.heap.size (mkm L) := by rw [hkl, List.take_length] at hm; exact hm
      clear hm
      have hlen := hm'.len
      have Hbw := Lib.hid hbw
      have Hm := Lib.hid hm'
      have Hh := Lib.hid h; clear h
      clear hm' hbw
      cases hcl : isClass c with
      | false =>
        have hno : Hid (pubOk c L = false) := by show pubOk c L = false; simp [pubOk, hcl]
        clear hlen
        go_wp2_with (go_at_call 26; refine (exists_any c _).mono ?_; rintro e w' ⟨rfl, rfl⟩)
        go_ret
        exact PubPost.no Hh.out hno.out Hbw.out rfl
      | true =>
        by_cases hq : (mkm L).length = L.length
        · have hok : Hid (pubOk c L = true) := by show pubOk c L = true; simp [pubOk, hcl, hq]
          have hcc := hcl
          simp only [isClass, decide_eq_true_eq] at hcc
          obtain ⟨h0, h4⟩ := hcc
          obtain ⟨kc, rfl⟩ := Int.eq_ofNat_of_zero_le h0
          have hk4 : kc < 4 := by omega
          obtain ⟨B, hB⟩ := Hh.out
          obtain ⟨g1, g2, g3, o, g4, hinv, hrg⟩ := pub_go pg hB hk4 (Nat.le_refl _) Hm.out Hbw.out
          have Hinv := Lib.hid hinv; clear hinv
          have Hrg := Lib.hid hrg; clear hrg
          have HB := Lib.hid hB; clear hB
          rw [hq] at hlen
          clear hq
          unfold ptrV at g1
          go_wp2_with (go_at_call 26; refine (exists_any kc _).mono ?_; rintro e w' ⟨rfl, rfl⟩)
          obtain ⟨v0, hv0⟩ : ∃ v0, v0 = wr := ⟨_, rfl⟩
          have Hv0 := Lib.hid hv0; clear hv0
          rw [← Hv0.out] at Hinv Hrg ⊢
          have hv0s : v0.heap.size = wr.heap.size := by rw [Hv0.out]
          have hv1 : w.heap.size ≤ v0.heap.size := by rw [Hv0.out]; exact Hbw.out.size
          clear g1 g2 g3 g4 hlen hv0s Hv0 hcl
          go_loopw [13] (fun _ v => ∃ (left : Int → Bool) (cnt : Nat), Ranging v B.m (v0.heap.size + 1) intV ptrV B.s left cnt ∧ PubInv F w s kc A B w.heap.size v0.heap.size L pg left v) (fun _ v => v.rangeLeft B.m (v0.heap.size + 1))
          case atStart => exact ⟨_, _, Hrg.out, Hinv.out⟩
          case round =>
            clear Hinv Hrg
            obtain ⟨left, cnt, hrg, hinv⟩ := hrel
            have Hinv := Lib.hid hinv; clear hinv
            have Hrg := Lib.hid hrg
            rcases run_next (P := Try.prog) hrg 0 with ⟨h0, hall, hnext⟩ | ⟨p, w1, cnt1, hp, hlp, hnext, hrg1, hlt1, hon, hsz, hent⟩
            · have hend := Lib.hid (Hinv.out.done HB.out hk4 hok.out hall Hrg.out.map)
              clear hall hrg
              go_wp2
              go_ret
              exact ⟨by rw [pub_ok_R hok.out]; rfl, hend.out⟩
            · have hsF := HB.out.lt _ HB.out.fs
              have hiter : ∃ m s sn c, wr.heap[v0.heap.size + 1]? = some (.mapIter m s sn c) := by
                obtain ⟨es, clock, since, seen, c0, _, _, _, hr, _⟩ := hrg
                exact ⟨_, _, _, _, hr⟩
              have Hinv1 := Lib.hid (Hinv.out.kept (by omega) hon (by omega) hiter hsF)
              have Hrg1 := Lib.hid hrg1
              have hmeas : Hid (w1.rangeLeft B.m (v0.heap.size + 1) < wr.rangeLeft B.m (v0.heap.size + 1)) := by show w1.rangeLeft B.m (v0.heap.size + 1) < wr.rangeLeft B.m (v0.heap.size + 1); rw [hrg1.left_eq, hrg.left_eq]; exact hlt1
              obtain ⟨j, q, t, l, hj, hq, hcells, hl, hsn⟩ := pub_entry HB.out Hinv1.out hp
              have k0 : w1.cell? ⟨p.2, 0, none⟩ = some (.int .i64 q.2.1) := by simp [World.cell?, hcells, intV]
              have HT := Lib.hid Hinv1.out.txt
              have hnd := Lib.hid HB.out.ses.nodup
              have Hj := Lib.hid hj
              have Hq := Lib.hid hq
              have Hcells := Lib.hid hcells
              have Hl := Lib.hid hl
              have Hsn := Lib.hid hsn
              have Hp := Lib.hid hp
              unfold ptrV intV at hnext hent
              clear hiter hon hsz hrg hrg1 hlt1 hlp hj hq hcells hl hsn hp
              have hskip : (pg && decide (q.2.1 = (kc : Int))) = false → PubInv F w s kc A B w.heap.size v0.heap.size L pg (fun x => left x && !decide (x = p.1)) w1 := fun hno => by
                refine Hinv1.out.skip hnd.out Hp.out (fun i q' hi hq' => ?_)
                have hij := list_nodup_idx (f := (·.1)) hnd.out hi Hj.out rfl
                subst hij
                rw [Hq.out] at hq'
                cases hq'
                exact hno
              have Hskip := Lib.hid hskip; clear hskip
              cases pg with
              | false =>
                have hrel := Lib.hid (Hskip.out (by simp))
                go_wp2
                go_roundw
                case rel => exact ⟨_, _, Hrg1.out, hrel.out⟩
                case measure => exact hmeas.out
              | true =>
                by_cases hcl : q.2.1 = (kc : Int)
                · have hb : (q.2.1 == (kc : Int)) = true := by simpa using hcl
                  have Hcl := Lib.hid hcl
                  have Hcells2 : Hid (w1.heap[p.2]? = some (.cells #[intV kc, .map (some t)] 58 (0, 0))) := by show w1.heap[p.2]? = some (.cells #[intV kc, .map (some t)] 58 (0, 0)); rw [← hcl]; exact Hcells.out
                  clear hcl
                  have HK := Lib.hid (purge_any p.2 t w.heap.size kc l (mkm L) w1 Hcells2.out Hl.out HT.out)
                  unfold ptrV at HK
                  go_wp2_with fail
                  refine HK.out.mono ?_
                  rintro e w2 ⟨rfl, hP⟩
                  have hinv2 := Hinv1.out.purged HB.out Hj.out Hq.out Hcl.out Hsn.out (e := .returned (.tuple #[])) ⟨rfl, hP⟩
                  have hrg2 : Ranging w2 B.m (v0.heap.size + 1) intV ptrV B.s (fun x => left x && !decide (x = p.1)) cnt1 := by
                    obtain ⟨_, _, _, _, _, _, hon2, _⟩ := hP
                    refine Hrg1.out.only hon2 ?_ ?_
                    · intro e1
                      have e2 : B.m = p.2 := e1
                      obtain ⟨es, cl, h4, _⟩ := Hrg1.out.map
                      rw [e2, Hcells.out] at h4
                      cases h4
                    · intro e1
                      obtain ⟨es, clock, since, seen, c0, _, _, _, hr, _⟩ := Hrg1.out
                      have e2 : v0.heap.size + 1 = p.2 := e1
                      rw [e2, Hcells.out] at hr
                      cases hr
                  have hrel := Lib.hid (And.intro hrg2 hinv2)
                  have hmeas2 : Hid (w2.rangeLeft B.m (v0.heap.size + 1) < wr.rangeLeft B.m (v0.heap.size + 1)) := by
                    show w2.rangeLeft B.m (v0.heap.size + 1) < wr.rangeLeft B.m (v0.heap.size + 1)
                    have h1 := hmeas.out
                    rw [Hrg1.out.left_eq] at h1
                    rw [hrg2.left_eq]
                    exact h1
                  clear hP hinv2 hrg2 HK
                  go_wp2
                  go_roundw
                  case rel => exact ⟨_, _, hrel.out⟩
                  case measure => exact hmeas2.out
                · have hrel := Lib.hid (Hskip.out (by simp [hcl]))
                  have hb : (q.2.1 == (kc : Int)) = false := by simpa using hcl
                  go_wp2
                  go_roundw
                  case rel => exact ⟨_, _, Hrg1.out, hrel.out⟩
                  case measure => exact hmeas.out
        · have hno : Hid (pubOk c L = false) := by show pubOk c L = false; simp [pubOk, hq]
          have hq2 : (((mkm L).length : Int) == (L.length : Int)) = false := by simp; omega
          generalize (mkm L).length = nq at hlen hq hq2
          go_wp2_with (go_at_call 26; refine (exists_any c _).mono ?_; rintro e w' ⟨rfl, rfl⟩)
          go_ret
          exact PubPost.no Hh.out hno.out Hbw.out rfl
/-- Publish, for any slice of pages. -/
theorem pub_pages (F : Nat → Prop) (s : Nat) (v : Value) (A : AS) (c : Int) (L : List (BA × BA)) (pg : Bool) (w : World) (h : Rep F w s A) (hv : PagesAt w v L) : Calls Try.prog 18 #[ptrV s, .int .i64 c, v, .bool pg] w (PubPost F w s A c L pg) := by
  obtain ⟨hs, hL, ⟨rfl, rfl⟩ | ⟨g, cap, rfl, hg, hc⟩⟩ := hv
  · exact pub_any F s 0 0 none A c [] pg w h hL hs (fun i p hp => by simp at hp)
  · exact pub_any F s g cap (some ⟨g, 0, none⟩) A c L pg w h hL hs (fun i p hp => ⟨rfl, hg, hc i p hp⟩)

end Go.Proofs.Ytgheokocdfgjpaa
