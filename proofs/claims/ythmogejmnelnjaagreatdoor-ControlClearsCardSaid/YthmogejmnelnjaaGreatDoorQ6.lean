/- A part of a proof over the given seat: how values, memory, calls and regions are told, and the walks of functions, each once. No condition. -/
import Derived.Test.YthmogejmnelnjaaGreatDoorQ5
set_option linter.unusedVariables false
set_option linter.unusedSimpArgs false
namespace Go.Bur
open Go Go.RowKit Go.Proofs
set_option maxHeartbeats 4000000
variable {W0 : World} {V : PH} {w : World} {L : List (Nat × Obj)}
def wipeP (p : GPeer) : GPeer := { p with ring := GRing.zero, hand := GHand.zero }
def wipeS (ss : List GSlot) (p : GPeer) : List GSlot := dropH (dropAll ss (localsR p.ring)) p
def wipeT (ts : List GTimer) (k : GKey) : List GTimer := cancelAll (cancelAll ts k [1]) k [2, 3]
theorem wipeS_len (ss : List GSlot) (p : GPeer) : (wipeS ss p).length ≤ ss.length := Nat.le_trans (dropH_len _ _) (dropAll_len _ _)
theorem wipeT_len (ts : List GTimer) (k : GKey) : (wipeT ts k).length ≤ ts.length := Nat.le_trans (cancelAll_len _ _ _) (cancelAll_len _ _ _)
theorem s_dmwipe {b bp i : Nat} {m : GMach} {ps : List GPeer} {sp : List Value} {ss : List GSlot} {ts : List GTimer} (hs : St W0 V w ((b, blk 192 m) :: (bp, arr 63 ps sp) :: L)) (hi : i < ps.length)
    (hq : Sl V 69 m.daemon.slots.a m.daemon.slots.cap ss) (hql : m.daemon.slots.len = ss.length) (hsn : ss.length < 1000) (ht : Sl V 75 m.daemon.timers.a m.daemon.timers.cap ts) (htl : m.daemon.timers.len = ts.length) (hn : ts.length < 1000) :
    Calls Tryz.prog 161 #[ptr b 0, ptr bp (i * Enc.size GPeer)] w (okR fun _ w' => ∃ (V' : PH) (q3 q4 : GSl), V ≤ V' ∧ Sl V' 69 q3.a q3.cap (wipeS ss ps[i]) ∧ q3.len = (wipeS ss ps[i]).length ∧
      Sl V' 75 q4.a q4.cap (wipeT ts ps[i].pub) ∧ q4.len = (wipeT ts ps[i].pub).length ∧
      St W0 V' w' ((b, blk 192 (m.s_daemon { m.daemon with slots := q3, timers := q4 })) :: (bp, arr 63 (ps.set i (wipeP ps[i])) sp) :: L)) := by
  have hll := localsR_len ps[i].ring
  have hd1 := dropAll_len ss (localsR ps[i].ring)
  have hd3 := cancelAll_len ts ps[i].pub [1]
  refine fn_enter (n := 22) Tryz.func161 rfl rfl rfl ?_
  intro f hf
  have e0 := hf 0
  have e1 := hf 1
  simp only [Array.getD_eq_getD_getElem?, List.getElem?_toArray, List.getElem?_cons_zero, List.getElem?_cons_succ, Option.getD_some] at e0 e1
  clear hf
  refine cw_seq (cw_region ?_)
  refine l_pur (p_move e0) (by decide) ?_
  refine l_pur (p_move e1) (by decide) ?_
  refine l_pur (p_nilCheck rfl) (by decide) ?_
  refine l_pur (p_fieldAddr fo63_13 rfl) (by decide) ?_
  refine l_loadE (α := GPeer) (β := GRing) ty60 rfl rfl GPeer.l_ring (by first | omega | (simp; omega)) hs (List.Mem.tail _ (List.Mem.head _)) (by decide) ?_
  refine l_call1 fn222 (s_rLocals hs) rfl ?_ (by decide)
  clear hs
  intro v w ho
  obtain ⟨V1, a1, c1, hV1, hs, rfl, hl1⟩ := ho.freeze
  refine l_call2 fn221 (s_dmdrop hs (hq.mono hV1) hql hsn hl1 (by omega)) rfl rfl ?_ (by decide)
  clear hs
  rintro _ w ⟨V2, q3, hV2, hs3, hs3l, hs⟩
  refine lw_nil ?_
  refine cw_seq (cw_region ?_)
  refine l_pur (p_move e1) (by decide) ?_
  refine l_pur (p_buildO (α := GRing) Tryz.underlying60 (by kernel_rfl) z60 rfl (.nil _)) (by decide) ?_
  refine l_pur (p_nilCheck rfl) (by decide) ?_
  refine l_pur (p_fieldAddr fo63_13 rfl) (by decide) ?_
  refine l_storeE (α := GPeer) (β := GRing) ty60 rfl rfl rfl GPeer.l_ring (by first | omega | (simp; omega)) hs (Rep.tail Rep.head) ?_; clear hs; intro w hs
  refine lw_nil ?_
  refine cw_seq (cw_region ?_)
  refine l_pur (p_move e0) (by decide) ?_
  refine l_pur (p_move e1) (by decide) ?_
  refine l_call2 fn223 (s_dmforget (ps := ps.set i (GPeer.s_ring ps[i] GRing.zero)) hs (by simpa using hi) hs3 hs3l (by omega) (ht.mono (PH.trans hV1 hV2)) htl hn) rfl rfl ?_ (by decide)
  clear hs
  rintro _ w ⟨V3, q5, q6, hV3, hs5, hs5l, hs6, hs6l, hs⟩
  refine lw_nil ?_
  have eg : (ps.set i (GPeer.s_ring ps[i] GRing.zero))[i]'(by simpa using hi) = GPeer.s_ring ps[i] GRing.zero := by simp
  rw [eg] at hs5 hs5l hs6 hs6l hs
  rw [List.set_set] at hs
  have ew : (({ GPeer.s_ring ps[i] GRing.zero with hand := GHand.zero }) : GPeer) = wipeP ps[i] := rfl
  rw [ew] at hs
  have eh : dropH (dropAll ss (localsR ps[i].ring)) (GPeer.s_ring ps[i] GRing.zero) = wipeS ss ps[i] := rfl
  rw [eh] at hs5 hs5l
  have ep : (GPeer.s_ring ps[i] GRing.zero).pub = ps[i].pub := rfl
  rw [ep] at hs6 hs6l
  refine cw_region ?_
  refine l_pur (p_move e0) (by decide) ?_
  refine l_pur (p_move e1) (by decide) ?_
  refine l_buildSlice2 (α := Int) el305 z3 rfl rfl (by decide) hs (by decide) ?_
  clear hs
  intro b20 w hs
  obtain ⟨V4, a4, c4, hV4, hs, hv4, hl4⟩ := (Own.ofArr hs).freeze
  cases hv4
  refine l_call3 fn162 (s_dmcancel hs (by simpa using hi) (hs6.mono hV4) hs6l (by omega) hl4 (by simp)) rfl rfl rfl ?_ (by decide)
  clear hs
  rintro _ w ⟨V5, q7, hV5, hs7, hs7l, hs⟩
  refine lw_nil ?_
  repeat (with_reducible first | refine tf_exit ?_ | refine ib_exit ?_ | refine ib_norm ?_)
  refine finN ?_
  refine fin0 (fn := Tryz.f161) rfl  ?_
  have epub : ((ps.set i (wipeP ps[i]))[i]'(by simpa using hi)).pub = ps[i].pub := by simp; rfl
  rw [epub] at hs7 hs7l
  exact ⟨V5, q5, q7, PH.trans hV1 (PH.trans hV2 (PH.trans hV3 (PH.trans hV4 hV5))), hs5.mono (PH.trans hV4 hV5), hs5l, hs7, hs7l, hs⟩
theorem findP_idx (ps : List GPeer) (k : GKey) : idxP (fun p => decide (p.pub = k)) ps = findP ps k := rfl
theorem s_dmfind {b bp cap i : Nat} {m : GMach} {ps : List GPeer} {sp : List Value} {k : GKey} (hs : St W0 V w ((b, blk 192 m) :: (bp, arr 63 ps sp) :: L)) (hm : m.daemon.peers = ⟨some ⟨bp, 0, none⟩, ps.length, cap⟩) (hcap : ps.length ≤ cap) (hlen : ps.length < 1000) (hi : i < ps.length) (hf : findP ps k = i) :
    Calls Tryz.prog 160 #[ptr b 0, val k] w (okR fun v w' => v = ptr bp (i * Enc.size GPeer) ∧ St W0 V w' ((b, blk 192 m) :: (bp, arr 63 ps sp) :: L)) := by
  refine fn_enter (n := 22) Tryz.func160 rfl rfl rfl ?_
  intro f hf
  have e0 := hf 0
  have e1 := hf 1
  simp only [Array.getD_eq_getD_getElem?, List.getElem?_toArray, List.getElem?_cons_zero, List.getElem?_cons_succ, Option.getD_some] at e0 e1
  clear hf
  refine cw_seq (cw_region ?_)
  refine l_box (α := (Vec 32 UInt8)) e1 hs (by decide) ?_; clear hs; intro b3 w hs
  refine l_pur (p_assignC) (by decide) ?_
  refine lw_nil ?_
  refine cw_seq (cw_region ?_)
  refine l_pur (p_move e0) (by decide) ?_
  refine l_pur (p_nilCheck rfl) (by decide) ?_
  refine l_pur (p_fieldAddr fo192_0 rfl) (by decide) ?_
  refine l_pur (p_fieldAddr fo35_6 rfl) (by decide) ?_
  refine l_loadO (α := GMach) (β := GSl) ty28 rfl (Lens.comp GMach.l_daemon GDaemon.l_peers) hs (List.Mem.tail _ (List.Mem.head _)) (by decide) ?_
  refine l_pur (p_makeFunc1 rfl) (by decide) ?_
  obtain ⟨hs1, hV1⟩ := hs.freeze
  obtain ⟨hs2, hV2, hback⟩ := hs1.swap.borrow
  have hif := s_ifn_Peer (p := fun p => decide (p.pub = k)) (cl := [ptr b3 0]) hs2 (sl_add hcap) (by omega) fn220 (fun x w L hs => s_key1_PeerD (hV2 _ _ (PH.add_self ..)) hs)
  rw [findP_idx, hf] at hif
  clear hs hs1 hs2
  refine l_call2 fn66 hif (by show val m.daemon.peers = _; rw [hm]; rfl) rfl ?_ (by decide)
  rintro _ w ⟨rfl, hs⟩
  replace hs := (hback _ hs).swap
  refine l_pur (p_assignI rfl) (by decide) ?_
  refine lw_nil ?_
  refine cw_seq ?_
  refine cw_seq (cw_region ?_)
  refine l_pur (p_moveI rfl) (by decide) ?_
  refine l_purIs (c := false) (p_lss rfl rfl) (by exact decide_eq_false (by omega)) (by decide) ?_
  refine lw_nil ?_
  refine cw_false rfl ?_
  refine cw_skip ?_
  refine cw_seq (cw_region ?_)
  refine l_pur (p_move e0) (by decide) ?_
  refine l_pur (p_nilCheck rfl) (by decide) ?_
  refine l_pur (p_fieldAddr fo192_0 rfl) (by decide) ?_
  refine l_pur (p_fieldAddr fo35_6 rfl) (by decide) ?_
  refine l_loadO (α := GMach) (β := GSl) ty28 rfl (Lens.comp GMach.l_daemon GDaemon.l_peers) hs (List.Mem.head _) (by decide) ?_
  refine l_pur (p_moveI rfl) (by decide) ?_
  refine l_pur (p_indexON (l := ps.length) (c := cap) (b := bp) (j := i) el28.sl el28.ty.size (by show val m.daemon.peers = _; rw [hm]; rfl) rfl hi) (by decide) ?_
  refine l_pur (p_assignP rfl) (by decide) ?_
  refine lw_nil ?_
  refine cw_ret ?_
  repeat (with_reducible first | refine tf_ret ?_ | refine ib_ret ?_)
  refine fin1 (fn := Tryz.f160) rfl (rv_tmpP rfl) ?_
  exact ⟨rfl, hs.weaken hV1⟩
theorem s_dwipe {bp cap i : Nat} {d : GDaemon} {ps : List GPeer} {sp : List Value} {ss : List GSlot} {ts : List GTimer} {k : GKey} (hs : St W0 V w ((bp, arr 63 ps sp) :: L)) (hm : d.peers = ⟨some ⟨bp, 0, none⟩, ps.length, cap⟩) (hcap : ps.length ≤ cap) (hlen : ps.length < 1000) (hi : i < ps.length) (hf : findP ps k = i)
    (hq : Sl V 69 d.slots.a d.slots.cap ss) (hql : d.slots.len = ss.length) (hsn : ss.length < 1000) (ht : Sl V 75 d.timers.a d.timers.cap ts) (htl : d.timers.len = ts.length) (hn : ts.length < 1000) :
    Calls Tryz.prog 103 #[val d, val k] w (okR fun v w' => ∃ (V' : PH) (q3 q4 : GSl), V ≤ V' ∧ v = val { d with slots := q3, timers := q4 } ∧ Sl V' 69 q3.a q3.cap (wipeS ss ps[i]) ∧ q3.len = (wipeS ss ps[i]).length ∧
      Sl V' 75 q4.a q4.cap (cancelAll (wipeT ts ps[i].pub) ps[i].pub [5]) ∧ q4.len = (cancelAll (wipeT ts ps[i].pub) ps[i].pub [5]).length ∧ St W0 V' w' ((bp, arr 63 (ps.set i (wipeP ps[i])) sp) :: L)) := by
  have hwl := wipeT_len ts ps[i].pub
  refine fn_enter (n := 26) Tryz.func103 rfl rfl rfl ?_
  intro f hf
  have e0 := hf 0
  have e1 := hf 1
  simp only [Array.getD_eq_getD_getElem?, List.getElem?_toArray, List.getElem?_cons_zero, List.getElem?_cons_succ, Option.getD_some] at e0 e1
  clear hf
  refine cw_seq (cw_region ?_)
  refine l_box (α := GDaemon) e0 hs (by decide) ?_; clear hs; intro b2 w hs
  refine l_box (α := (Vec 32 UInt8)) e1 hs (by decide) ?_; clear hs; intro b3 w hs
  refine l_alloc z35 hs (by decide) ?_; clear hs; intro b4 w hs
  refine lw_nil ?_
  refine cw_seq (cw_region ?_)
  refine l_loadO (α := GDaemon) (β := GDaemon) ty35 rfl (Lens.id GDaemon) hs (List.Mem.tail _ (List.Mem.tail _ (List.Mem.head _))) (by decide) ?_
  refine l_pur (p_buildO (α := GMach) Tryz.underlying192 (by kernel_rfl) z192 rfl (.cons (β := GDaemon) rfl pl192_0 GMach.l_daemon (.nil _))) (by decide) ?_
  refine l_box (α := GMach) rfl hs (by decide) ?_; clear hs; intro b9 w hs
  refine l_pur (p_assignP rfl) (by decide) ?_
  refine lw_nil ?_
  refine cw_seq ?_
  refine cw_seq ?_
  replace hs := hs.rot4.swap
  refine cw_region ?_
  refine l_pur (p_moveP rfl) (by decide) ?_
  refine l_loadO (α := (Vec 32 UInt8)) (β := (Vec 32 UInt8)) ty27 rfl (Lens.id (Vec 32 UInt8)) hs (List.Mem.tail _ (List.Mem.tail _ (List.Mem.tail _ (List.Mem.head _)))) (by decide) ?_
  refine l_call2 fn160 (s_dmfind (ps := ps) (cap := cap) hs hm hcap hlen hi hf) rfl rfl ?_ (by decide)
  clear hs; rintro _ w ⟨rfl, hs⟩
  refine l_pur (p_assignP rfl) (by decide) ?_
  refine lw_nil ?_
  refine cw_seq (cw_region ?_)
  refine l_pur (p_moveP rfl) (by decide) ?_
  refine l_purIs (c := true) (p_neqPtrNil Tryz.underlying129 rfl rfl) (by rfl) (by decide) ?_
  refine lw_nil ?_
  refine cw_true rfl ?_
  refine cw_seq (cw_region ?_)
  refine l_pur (p_moveP rfl) (by decide) ?_
  refine l_pur (p_moveP rfl) (by decide) ?_
  refine l_call2 fn161 (s_dmwipe hs hi hq hql hsn ht htl hn) rfl rfl ?_ (by decide)
  clear hs
  rintro _ w ⟨V1, q3, q4, hV1, hs3, hs3l, hs4, hs4l, hs⟩
  refine lw_nil ?_
  refine cw_region ?_
  refine l_pur (p_moveP rfl) (by decide) ?_
  refine l_pur (p_moveP rfl) (by decide) ?_
  refine l_buildSlice1 (α := Int) el305 z3 rfl (by decide) hs (by decide) ?_; clear hs; intro b20 w hs
  obtain ⟨V4, a4, c4, hV4, hs, hv4, hl4⟩ := (Own.of1 hs).freeze
  cases hv4
  refine l_call3 fn162 (s_dmcancel (ps := ps.set i (wipeP ps[i])) hs (by simpa using hi) (hs4.mono hV4) hs4l (by omega) hl4 (by simp)) rfl rfl rfl ?_ (by decide)
  clear hs
  rintro _ w ⟨V5, q7, hV5, hs7, hs7l, hs⟩
  refine lw_nil ?_
  refine cw_seq (cw_region ?_)
  refine l_pur (p_moveP rfl) (by decide) ?_
  refine l_pur (p_nilCheck rfl) (by decide) ?_
  refine l_pur (p_fieldAddr fo192_0 rfl) (by decide) ?_
  refine l_loadO (α := GMach) (β := GDaemon) ty35 rfl GMach.l_daemon hs (List.Mem.head _) (by decide) ?_
  refine l_store2 (α := GDaemon) (β := GDaemon) ty35 rfl rfl (Lens.id GDaemon) hs ?_; clear hs; intro w hs
  refine lw_nil ?_
  refine cw_ret ?_
  repeat (with_reducible first | refine tf_ret ?_ | refine ib_ret ?_)
  refine fin1 (fn := Tryz.f103) rfl (rv_own (α := GDaemon) ty35 rfl (hs.mem (List.Mem.tail _ (List.Mem.tail _ (List.Mem.head _))))) ?_
  have epub : ((ps.set i (wipeP ps[i]))[i]'(by simpa using hi)).pub = ps[i].pub := by simp; rfl
  rw [epub] at hs7 hs7l
  exact ⟨V5, q3, q7, PH.trans hV1 (PH.trans hV4 hV5), rfl, hs3.mono (PH.trans hV4 hV5), hs3l, hs7, hs7l, hs.drop1.swap.drop1.swap.drop1.swap.drop1⟩
theorem s_ccfind {b bp cap i : Nat} {c : GCall} {ps : List GPeer} {sp : List Value} {k : GKey} (hs : St W0 V w ((b, blk 99 c) :: (bp, arr 63 ps sp) :: L)) (hm : c.daemon.peers = ⟨some ⟨bp, 0, none⟩, ps.length, cap⟩) (hcap : ps.length ≤ cap) (hlen : ps.length < 1000) :
    Calls Tryz.prog 27 #[ptr b 0, val k] w (okR fun v w' => v = vi (findP ps k) ∧ St W0 V w' ((b, blk 99 c) :: (bp, arr 63 ps sp) :: L)) := by
  refine fn_enter (n := 12) Tryz.func27 rfl rfl rfl ?_
  intro f hf
  have e0 := hf 0
  have e1 := hf 1
  simp only [Array.getD_eq_getD_getElem?, List.getElem?_toArray, List.getElem?_cons_zero, List.getElem?_cons_succ, Option.getD_some] at e0 e1
  clear hf
  refine cw_seq (cw_region ?_)
  refine l_box (α := (Vec 32 UInt8)) e1 hs (by decide) ?_; clear hs; intro b3 w hs
  refine l_pur (p_assignC) (by decide) ?_
  refine lw_nil ?_
  refine cw_seq (cw_region ?_)
  refine l_pur (p_move e0) (by decide) ?_
  refine l_pur (p_nilCheck rfl) (by decide) ?_
  refine l_pur (p_fieldAddr fo99_0 rfl) (by decide) ?_
  refine l_pur (p_fieldAddr fo35_6 rfl) (by decide) ?_
  refine l_loadO (α := GCall) (β := GSl) ty28 rfl (Lens.comp GCall.l_daemon GDaemon.l_peers) hs (List.Mem.tail _ (List.Mem.head _)) (by decide) ?_
  refine l_pur (p_makeFunc1 rfl) (by decide) ?_
  obtain ⟨hs1, hV1⟩ := hs.freeze
  obtain ⟨hs2, hV2, hback⟩ := hs1.swap.borrow
  have hif := s_ifn_Peer (p := fun p => decide (p.pub = k)) (cl := [ptr b3 0]) hs2 (sl_add hcap) (by omega) fn67 (fun x w L hs => s_key1_Peer (hV2 _ _ (PH.add_self ..)) hs)
  rw [findP_idx] at hif
  clear hs hs1 hs2
  refine l_call2 fn66 hif (by show val c.daemon.peers = _; rw [hm]; rfl) rfl ?_ (by decide)
  rintro _ w ⟨rfl, hs⟩
  replace hs := (hback _ hs).swap
  refine l_pur (p_assignI rfl) (by decide) ?_
  refine lw_nil ?_
  refine cw_ret ?_
  repeat (with_reducible first | refine tf_ret ?_ | refine ib_ret ?_)
  refine fin1 (fn := Tryz.f27) rfl (rv_tmpI rfl) ?_
  exact ⟨rfl, hs.weaken hV1⟩
theorem s_ccwipe {b bp cap i : Nat} {c : GCall} {ps : List GPeer} {sp : List Value} {ss : List GSlot} {ts : List GTimer} {k : GKey} (hs : St W0 V w ((b, blk 99 c) :: (bp, arr 63 ps sp) :: L)) (hm : c.daemon.peers = ⟨some ⟨bp, 0, none⟩, ps.length, cap⟩) (hcap : ps.length ≤ cap) (hlen : ps.length < 1000) (hi : i < ps.length) (hf : findP ps k = i)
    (hq : Sl V 69 c.daemon.slots.a c.daemon.slots.cap ss) (hql : c.daemon.slots.len = ss.length) (hsn : ss.length < 1000) (ht : Sl V 75 c.daemon.timers.a c.daemon.timers.cap ts) (htl : c.daemon.timers.len = ts.length) (hn : ts.length < 1000) :
    Calls Tryz.prog 64 #[ptr b 0, vi i, val k] w (okR fun v w' => ∃ (V' : PH) (q3 q4 : GSl), V ≤ V' ∧ v = vi 0 ∧ Sl V' 69 q3.a q3.cap (wipeS ss ps[i]) ∧ q3.len = (wipeS ss ps[i]).length ∧
      Sl V' 75 q4.a q4.cap (cancelAll (wipeT ts ps[i].pub) ps[i].pub [5]) ∧ q4.len = (cancelAll (wipeT ts ps[i].pub) ps[i].pub [5]).length ∧ St W0 V' w' ((b, blk 99 (c.s_daemon { c.daemon with slots := q3, timers := q4 })) :: (bp, arr 63 (ps.set i (wipeP ps[i])) sp) :: L)) := by
  refine fn_enter (n := 18) Tryz.func64 rfl rfl rfl ?_
  intro f hf
  have e0 := hf 0
  have e1 := hf 1
  have e2 := hf 2
  simp only [Array.getD_eq_getD_getElem?, List.getElem?_toArray, List.getElem?_cons_zero, List.getElem?_cons_succ, Option.getD_some] at e0 e1 e2
  clear hf
  refine cw_seq (cw_region ?_)
  refine l_box (α := (Vec 32 UInt8)) e2 hs (by decide) ?_; clear hs; intro b5 w hs
  refine l_pur (p_assignC) (by decide) ?_
  refine lw_nil ?_
  refine cw_seq ?_
  refine cw_seq (cw_region ?_)
  refine l_pur (p_move e1) (by decide) ?_
  refine l_purIs (c := false) (p_lss rfl rfl) (by exact decide_eq_false (by omega)) (by decide) ?_
  refine lw_nil ?_
  refine cw_false rfl ?_
  refine cw_skip ?_
  refine cw_seq ?_
  have hS := Hold.cons hs (List.Mem.tail _ (List.Mem.head _)) (Hold.cons hs (List.Mem.head _) (Hold.nil hs (PH.refl _)))
  refine cw_planH (.take 0 (.take 1 (.take 2 (.take 3 (.take 4 (.take 5 (.one 6 (.take 7 (.take 8 (.one 9 .done)))))))))) 63 hmix (by kernel_rfl) (fun _ _ _ h => h) hs hS ?_
  clear hS; clear hs; intro w hs; have hS := Hold.cons hs (List.Mem.tail _ (List.Mem.head _)) (Hold.cons hs (List.Mem.head _) (Hold.nil hs (PH.refl _)))
  refine pw_pur rfl (wt_free rfl) (p_move e0) (by decide) (fun _ => hS) ?_
  refine pw_pur rfl (wt_free rfl) (p_move e0) (by decide) (fun _ => hS) ?_
  refine pw_pur rfl (wt_free rfl) (p_nilCheck rfl) (by decide) (fun _ => hS) ?_
  refine pw_pur rfl (wt_free rfl) (p_fieldAddr fo99_0 rfl) (by decide) (fun _ => hS) ?_
  refine pw_ld rfl (wt_free rfl) (by kernel_rfl) (Hold.runs_loadO (α := GCall) (β := GDaemon) ty35 rfl GCall.l_daemon (List.Mem.head _)) (by decide) hS ?_
  refine pw_ld rfl (wt_free rfl) (by kernel_rfl) (Hold.runs_loadO (α := (Vec 32 UInt8)) (β := (Vec 32 UInt8)) ty27 rfl (Lens.id (Vec 32 UInt8)) (List.Mem.tail _ (List.Mem.head _))) (by decide) hS ?_
  refine pw_one ?_
  refine ow_call2 rfl (wt_free rfl) fn103 (s_dwipe (ps := ps) hs.rot2 hm hcap hlen hi hf hq hql hsn ht htl hn) rfl rfl ?_ (by decide)
  clear hs hS
  rintro _ w ⟨V1, q3, q4, hV1, rfl, hs3, hs3l, hs4, hs4l, hs⟩
  replace hs := hs.unrot2
  refine ⟨fun h => absurd h (by decide), ?_⟩; have hS := True.intro
  refine pw_pur rfl (wt_free rfl) (p_nilCheck rfl) (by decide) (fun h => absurd h (by decide)) ?_
  refine pw_pur rfl (wt_free rfl) (p_fieldAddr fo99_0 rfl) (by decide) (fun h => absurd h (by decide)) ?_
  refine pw_one ?_
  refine ow_store1 (α := GCall) (β := GDaemon) rfl (wt_free rfl) ty35 rfl rfl GCall.l_daemon hs ?_; clear hs; intro w hs
  refine ⟨fun h => absurd h (by decide), ?_⟩; have hS := True.intro
  refine pw_done ?_
  refine cw_seq (cw_region ?_)
  refine l_pur (p_assignC) (by decide) ?_
  refine lw_nil ?_
  refine cw_ret ?_
  repeat (with_reducible first | refine tf_ret ?_ | refine ib_ret ?_)
  refine fin1 (fn := Tryz.f64) rfl (rv_tmpI rfl) ?_
  exact ⟨V1, q3, q4, hV1, rfl, hs3, hs3l, hs4, hs4l, hs.drop1⟩
theorem s_delpeer {bp cap i : Nat} {ps : List GPeer} {sp : List Value} (hs : St W0 V w ((bp, arr 63 ps sp) :: L)) (hcap : ps.length ≤ cap) (hc : sp.length + ps.length * Enc.size GPeer = cap * Enc.size GPeer) (hlen : ps.length < 1000) (hi : i < ps.length) :
    Calls Tryz.prog 90 #[.slice (some ⟨bp, 0, none⟩) ps.length cap, vi i, vi ((i + 1 : Nat) : Int)] w (okR fun v w' => ∃ sp', v = .slice (some ⟨bp, 0, none⟩) (ps.eraseIdx i).length cap ∧ sp'.length + (ps.eraseIdx i).length * Enc.size GPeer = cap * Enc.size GPeer ∧ St W0 V w' ((bp, arr 63 (ps.eraseIdx i) sp') :: L)) := by
  have hel : (ps.eraseIdx i).length = ps.length - 1 := by rw [List.length_eraseIdx, if_pos hi]
  refine fn_enter (n := 33) Tryz.func90 rfl rfl rfl ?_
  intro f hf
  have e0 := hf 0
  have e1 := hf 1
  have e2 := hf 2
  simp only [Array.getD_eq_getD_getElem?, List.getElem?_toArray, List.getElem?_cons_zero, List.getElem?_cons_succ, Option.getD_some] at e0 e1 e2
  clear hf
  refine cw_seq (cw_region ?_)
  refine l_pur (p_assignC) (by decide) ?_
  refine lw_nil ?_
  refine cw_seq (cw_region ?_)
  refine l_pur (p_move e0) (by decide) ?_
  refine l_pur (p_move e1) (by decide) ?_
  refine l_pur (p_move e2) (by decide) ?_
  refine l_pur (p_move e0) (by decide) ?_
  refine l_pur (p_len Tryz.underlying28 rfl) (by decide) ?_
  refine l_pur (p_slice el28.sl el28.ty.size rfl (.at_ _ rfl) (.at_ _ rfl) (.at_ _ rfl) (.inr rfl) (by first | omega | (dsimp only; omega) | (simp; omega))) (by decide) ?_
  refine lw_nil ?_
  refine cw_seq ?_
  refine cw_seq (cw_region ?_)
  refine l_pur (p_move e1) (by decide) ?_
  refine l_pur (p_move e2) (by decide) ?_
  refine l_purIs (c := false) (p_eql rfl rfl) (by exact decide_eq_false (by omega)) (by decide) ?_
  refine lw_nil ?_
  refine cw_false rfl ?_
  refine cw_skip ?_
  refine cw_seq (cw_region ?_)
  refine l_pur (p_move e0) (by decide) ?_
  refine l_pur (p_len Tryz.underlying28 rfl) (by decide) ?_
  refine l_pur (p_assignI rfl) (by decide) ?_
  refine lw_nil ?_
  refine cw_seq ?_
  have hS := Hold.nil hs (PH.refl _)
  refine cw_planH (.take 0 (.take 1 (.take 2 (.take 3 (.take 4 (.take 5 (.one 6 (.take 7 .done)))))))) 0 hmix (by kernel_rfl) (fun _ _ _ h => h) hs hS ?_
  clear hS; clear hs; intro w hs; have hS := Hold.nil hs (PH.refl _)
  refine pw_pur rfl (wt_free rfl) (p_move e0) (by decide) (fun h => absurd h (by decide)) ?_
  refine pw_pur rfl (wt_free rfl) (p_move e1) (by decide) (fun h => absurd h (by decide)) ?_
  refine pw_pur rfl (wt_free rfl) (p_slice el28.sl el28.ty.size rfl (.no _) (.at_ _ rfl) (.no _) (.inl rfl) (by first | omega | (dsimp only; omega) | (simp; omega))) (by decide) (fun h => absurd h (by decide)) ?_
  refine pw_pur rfl (wt_free rfl) (p_move e0) (by decide) (fun h => absurd h (by decide)) ?_
  refine pw_pur rfl (wt_free rfl) (p_move e2) (by decide) (fun h => absurd h (by decide)) ?_
  refine pw_pur rfl (wt_free rfl) (p_slice el28.sl el28.ty.size rfl (.at_ _ rfl) (.no _) (.no _) (.inl rfl) (by first | omega | (dsimp only; omega) | (simp; omega))) (by decide) (fun h => absurd h (by decide)) ?_
  refine pw_one ?_
  obtain ⟨w2, hr, hs2⟩ := run_del (P := Tryz.prog) (ty := 28) (c := cap - (i + 1)) el28 hs hcap hc hi
  refine ow_valC rfl (wt_free rfl) (r_append (by show Value.slice (slA _ _ _ _) _ _ = _; exact sl_front _ _ _ _ _) (by show Value.slice _ _ _ = _; rfl) hr) (by decide) ?_
  clear hs hS
  rename St _ _ _ _ => hs
  refine ⟨fun h => absurd h (by decide), ?_⟩; have hS := True.intro
  refine pw_pur rfl (wt_free rfl) (p_assignL rfl) (by decide) (fun h => absurd h (by decide)) ?_
  refine pw_done ?_
  refine cw_seq ?_
  have hlen1 : ((ps.length - 1 : Nat) : Int) + 1 = ps.length := by omega
  refine cw_region ?_
  refine l_pur (p_moveL rfl) (by decide) ?_
  refine l_pur (p_moveL rfl) (by decide) ?_
  refine l_pur (p_len Tryz.underlying28 rfl) (by decide) ?_
  refine l_pur (p_moveI rfl) (by decide) ?_
  refine l_pur (p_slice (l := ((ps.length - 1 : Nat) : Int)) (h := (ps.length : Int)) (m := (cap : Int)) el28.sl el28.ty.size rfl (.at_ _ rfl) (.at_ _ rfl) (.no _) (.inl rfl) (by omega)) (by decide) ?_
  refine l_clear (α := GPeer) (j := ps.length - 1) (b := bp) (k := 1) (sp := sp) (xs := ps.eraseIdx i ++ ps.drop (ps.length - 1)) el28.sl z63 (by show Value.slice _ (Int.toNat _ - Int.toNat _) _ = _; rw [show (ps.length : Int).toNat - (((ps.length - 1 : Nat) : Int)).toNat = 1 by omega]) (.inr (by unfold slA; rw [if_neg (by omega)]; simp [addr_add])) (by simp [hel]; omega) hs Rep.head ?_ rfl
  clear hs
  intro w hs
  refine lw_nil ?_
  refine cw_seq (cw_region ?_)
  refine l_pur (p_moveL rfl) (by decide) ?_
  refine l_pur (p_assignL rfl) (by decide) ?_
  refine lw_nil ?_
  refine cw_ret ?_
  repeat (with_reducible first | refine tf_ret ?_ | refine ib_ret ?_)
  refine fin1 (fn := Tryz.f90) rfl (rv_tmpL rfl) ?_
  have et : (ps.eraseIdx i ++ ps.drop (ps.length - 1)).take (ps.length - 1) = ps.eraseIdx i := by rw [← hel, List.take_left]
  rw [et, arr_split] at hs
  refine ⟨flat (List.replicate 1 GPeer.zero) ++ sp, by rw [hel], ?_, hs⟩
  rw [List.length_append, flat_length, hel, ← hc, Nat.sub_mul]
  have : 1 * Enc.size GPeer ≤ ps.length * Enc.size GPeer := Nat.mul_le_mul_right _ (by omega)
  simp; omega
end Go.Bur
namespace Go.Bur
open Go Go.RowKit Go.Proofs
set_option maxHeartbeats 4000000
variable {W0 : World} {V : PH} {w : World} {L : List (Nat × Obj)}
theorem mt104 : MapTy Tryz.prog 104 9 102 := ⟨Tryz.underlying104, Tryz.underlying9⟩
def w_get : Str := [103, 101, 116]
def w_bad : Str := [98, 97, 100]
def w_peer : Str := [112, 101, 101, 114]
def w_remove : Str := [114, 101, 109, 111, 118, 101]
def w_endpoint : Str := [101, 110, 100, 112, 111, 105, 110, 116]
def w_keepalive : Str := [107, 101, 101, 112, 97, 108, 105, 118, 101]
def w_allow : Str := [97, 108, 108, 111, 119]
def w_deny : Str := [100, 101, 110, 121]
def w_clear : Str := [99, 108, 101, 97, 114]
def cmds : List (Str × Value) := [(w_get, val (⟨1, false, .fn 56 []⟩ : GCommand)), (w_bad, val (⟨1, false, .fn 57 []⟩ : GCommand)), (w_peer, val (⟨3, false, .fn 58 []⟩ : GCommand)),
  (w_remove, val (⟨2, true, .fn 59 []⟩ : GCommand)), (w_endpoint, val (⟨3, true, .fn 60 []⟩ : GCommand)), (w_keepalive, val (⟨3, true, .fn 61 []⟩ : GCommand)),
  (w_allow, val (⟨3, true, .fn 62 []⟩ : GCommand)), (w_deny, val (⟨2, false, .fn 63 []⟩ : GCommand)), (w_clear, val (⟨2, true, .fn 64 []⟩ : GCommand))]
theorem s_commands (hs : St W0 V w L) : Calls Tryz.prog 25 #[] w (okR fun v w' => ∃ b, v = .map (some b) ∧ St W0 V w' ((b, mapO cmds) :: L)) := by
  refine fn_enter (n := 12) Tryz.func25 rfl rfl rfl ?_
  intro f hf
  clear hf
  refine cw_seq (cw_region ?_)
  refine l_pur (p_assignC) (by decide) ?_
  refine lw_nil ?_
  refine cw_seq (cw_region ?_)
  refine l_makeMap hs (by decide) ?_
  clear hs
  intro bm w hs
  refine l_pur (p_buildO (α := GCommand) Tryz.underlying102 (by kernel_rfl) z102 rfl (.cons (β := Int) rfl pl102_0 GCommand.l_words (.cons (β := GFun) (y := (.fn 56 [] : GFun)) rfl pl102_2 GCommand.l_run (.nil _)))) (by decide) ?_
  refine l_insert (s := w_get) mt104 rfl rfl rfl rfl hs ?_
  clear hs
  intro w hs
  refine l_pur (p_buildO (α := GCommand) Tryz.underlying102 (by kernel_rfl) z102 rfl (.cons (β := Int) rfl pl102_0 GCommand.l_words (.cons (β := GFun) (y := (.fn 57 [] : GFun)) rfl pl102_2 GCommand.l_run (.nil _)))) (by decide) ?_
  refine l_insert (s := w_bad) mt104 rfl rfl rfl rfl hs ?_
  clear hs
  intro w hs
  refine l_pur (p_buildO (α := GCommand) Tryz.underlying102 (by kernel_rfl) z102 rfl (.cons (β := Int) rfl pl102_0 GCommand.l_words (.cons (β := GFun) (y := (.fn 58 [] : GFun)) rfl pl102_2 GCommand.l_run (.nil _)))) (by decide) ?_
  refine l_insert (s := w_peer) mt104 rfl rfl rfl rfl hs ?_
  clear hs
  intro w hs
  refine l_pur (p_buildO (α := GCommand) Tryz.underlying102 (by kernel_rfl) z102 rfl (.cons (β := Int) rfl pl102_0 GCommand.l_words (.cons (β := Bool) rfl pl102_1 GCommand.l_peer (.cons (β := GFun) (y := (.fn 59 [] : GFun)) rfl pl102_2 GCommand.l_run (.nil _))))) (by decide) ?_
  refine l_insert (s := w_remove) mt104 rfl rfl rfl rfl hs ?_
  clear hs
  intro w hs
  refine l_pur (p_buildO (α := GCommand) Tryz.underlying102 (by kernel_rfl) z102 rfl (.cons (β := Int) rfl pl102_0 GCommand.l_words (.cons (β := Bool) rfl pl102_1 GCommand.l_peer (.cons (β := GFun) (y := (.fn 60 [] : GFun)) rfl pl102_2 GCommand.l_run (.nil _))))) (by decide) ?_
  refine l_insert (s := w_endpoint) mt104 rfl rfl rfl rfl hs ?_
  clear hs
  intro w hs
  refine l_pur (p_buildO (α := GCommand) Tryz.underlying102 (by kernel_rfl) z102 rfl (.cons (β := Int) rfl pl102_0 GCommand.l_words (.cons (β := Bool) rfl pl102_1 GCommand.l_peer (.cons (β := GFun) (y := (.fn 61 [] : GFun)) rfl pl102_2 GCommand.l_run (.nil _))))) (by decide) ?_
  refine l_insert (s := w_keepalive) mt104 rfl rfl rfl rfl hs ?_
  clear hs
  intro w hs
  refine l_pur (p_buildO (α := GCommand) Tryz.underlying102 (by kernel_rfl) z102 rfl (.cons (β := Int) rfl pl102_0 GCommand.l_words (.cons (β := Bool) rfl pl102_1 GCommand.l_peer (.cons (β := GFun) (y := (.fn 62 [] : GFun)) rfl pl102_2 GCommand.l_run (.nil _))))) (by decide) ?_
  refine l_insert (s := w_allow) mt104 rfl rfl rfl rfl hs ?_
  clear hs
  intro w hs
  refine l_pur (p_buildO (α := GCommand) Tryz.underlying102 (by kernel_rfl) z102 rfl (.cons (β := Int) rfl pl102_0 GCommand.l_words (.cons (β := GFun) (y := (.fn 63 [] : GFun)) rfl pl102_2 GCommand.l_run (.nil _)))) (by decide) ?_
  refine l_insert (s := w_deny) mt104 rfl rfl rfl rfl hs ?_
  clear hs
  intro w hs
  refine l_pur (p_buildO (α := GCommand) Tryz.underlying102 (by kernel_rfl) z102 rfl (.cons (β := Int) rfl pl102_0 GCommand.l_words (.cons (β := Bool) rfl pl102_1 GCommand.l_peer (.cons (β := GFun) (y := (.fn 64 [] : GFun)) rfl pl102_2 GCommand.l_run (.nil _))))) (by decide) ?_
  refine l_insert (s := w_clear) mt104 rfl rfl rfl rfl hs ?_
  clear hs
  intro w hs
  refine l_pur (p_move (v := .map (some bm)) rfl) (by decide) ?_
  refine l_pur (p_assign (v := .map (some bm)) rfl) (by decide) ?_
  refine lw_nil ?_
  refine cw_ret ?_
  repeat (with_reducible first | refine tf_ret ?_ | refine ib_ret ?_)
  refine fin1 (fn := Tryz.f25) rfl (rv_tmpM rfl) ?_
  exact ⟨bm, rfl, hs⟩
end Go.Bur
namespace Go.Bur
open Go Go.RowKit Go.Proofs
set_option maxHeartbeats 4000000
variable {W0 : World} {V : PH} {w : World} {L : List (Nat × Obj)}
theorem s_ccfindA {b : Nat} {c : GCall} {ps : List GPeer} {A : List (Nat × Obj)} {k : GKey} (hs : St W0 V w ((b, blk 99 c) :: (A ++ L))) (hA : OwnA 63 (val c.daemon.peers) ps A) (hlen : ps.length < 1000) :
    Calls Tryz.prog 27 #[ptr b 0, val k] w (okR fun v w' => v = vi (findP ps k) ∧ St W0 V w' ((b, blk 99 c) :: (A ++ L))) := by
  rcases hA with ⟨h1, rfl, rfl⟩ | ⟨bp, cap, sp, h1, h2, h3, rfl⟩
  · skip
    refine fn_enter (n := 12) Tryz.func27 rfl rfl rfl ?_
    intro f hf
    have e0 := hf 0
    have e1 := hf 1
    simp only [Array.getD_eq_getD_getElem?, List.getElem?_toArray, List.getElem?_cons_zero, List.getElem?_cons_succ, Option.getD_some] at e0 e1
    clear hf
    refine cw_seq (cw_region ?_)
    refine l_box (α := (Vec 32 UInt8)) e1 hs (by decide) ?_; clear hs; intro b3 w hs
    refine l_pur (p_assignC) (by decide) ?_
    refine lw_nil ?_
    refine cw_seq (cw_region ?_)
    refine l_pur (p_move e0) (by decide) ?_
    refine l_pur (p_nilCheck rfl) (by decide) ?_
    refine l_pur (p_fieldAddr fo99_0 rfl) (by decide) ?_
    refine l_pur (p_fieldAddr fo35_6 rfl) (by decide) ?_
    refine l_loadO (α := GCall) (β := GSl) ty28 rfl (Lens.comp GCall.l_daemon GDaemon.l_peers) hs (List.Mem.tail _ (List.Mem.head _)) (by decide) ?_
    refine l_pur (p_makeFunc1 rfl) (by decide) ?_
    obtain ⟨hs1, hV1⟩ := hs.freeze
    have hif := s_ifn_Peer (a := none) (cap := 0) (xs := []) (p := fun p => decide (p.pub = k)) (cl := [ptr b3 0]) hs1 (.inl rfl) (by decide) fn67 (fun x w L hs => s_key1_Peer (PH.add_self ..) hs)
    rw [findP_idx] at hif
    clear hs hs1
    refine l_call2 fn66 hif (by show val c.daemon.peers = _; rw [h1]; rfl) rfl ?_ (by decide)
    rintro _ w ⟨rfl, hs⟩
    refine l_pur (p_assignI rfl) (by decide) ?_
    refine lw_nil ?_
    refine cw_ret ?_
    repeat (with_reducible first | refine tf_ret ?_ | refine ib_ret ?_)
    refine fin1 (fn := Tryz.f27) rfl (rv_tmpI rfl) ?_
    exact ⟨rfl, hs.weaken hV1⟩
  · have hm : c.daemon.peers = ⟨some ⟨bp, 0, none⟩, ps.length, cap⟩ := by
      generalize c.daemon.peers = q at h1 ⊢
      obtain ⟨x, y, z⟩ := q
      injection h1 with h4 h5 h6
      subst h4 h5 h6; rfl
    exact s_ccfind (ps := ps) (i := 0) hs hm h3 hlen
theorem gsl_eta {q : GSl} {a : Option Addr} {l c : Nat} (h : val q = .slice a l c) : q = ⟨a, l, c⟩ := by
  obtain ⟨x, y, z⟩ := q
  injection h with h1 h2 h3
  subst h1 h2 h3; rfl
def CmdOk (V : PH) (W0 : World) (fid : FuncId) (i : Int) (k : GKey) (d : GDaemon) (ws : List Str) (ps : List GPeer) (rs : List GRoute) (ss : List GSlot) (ts : List GTimer) (R : Int → GCall → PH → List (Nat × Obj) → Prop) : Prop :=
  ∀ (V1 : PH) (w : World) (b : Nat) (q1 q2 q3 q4 : GSl) (A L1 : List (Nat × Obj)) (aw : Option Addr) (cw : Nat), V ≤ V1 → OwnA 63 (val q1) ps A → Sl V1 73 q2.a q2.cap rs → q2.len = rs.length → Sl V1 69 q3.a q3.cap ss → q3.len = ss.length → Sl V1 75 q4.a q4.cap ts → q4.len = ts.length →
    Sl V1 9 aw cw ws → St W0 V1 w ((b, blk 99 (⟨{ d with peers := q1, routes := q2, slots := q3, timers := q4 }, ⟨aw, ws.length, cw⟩, []⟩ : GCall)) :: (A ++ L1)) →
    Calls Tryz.prog fid #[ptr b 0, vi i, val k] w (okR fun v w' => ∃ (e : Int) (c' : GCall) (V2 : PH) (A' : List (Nat × Obj)), v = vi e ∧ V1 ≤ V2 ∧ R e c' V2 A' ∧ St W0 V2 w' ((b, blk 99 c') :: (A' ++ L1)))
theorem s_apply {d : GDaemon} {ps : List GPeer} {rs : List GRoute} {ss : List GSlot} {ts : List GTimer} {text : Str} {ws : List Str} {cmd : GCommand} {fid : FuncId} {k0 : GKey} {i0 : Int} {R : Int → GCall → PH → List (Nat × Obj) → Prop}
    (hs : St W0 V w L) (hd : DSl V d ps rs ss ts) (hst : ∀ i (h : i < ps.length), ps[i].staged = ⟨none, 0, 0⟩) (hn : ps.length < 1000) (hrn : rs.length < 1000) (hsn : ss.length < 1000) (htn : ts.length < 1000) (hlen : text.length < 1000000)
    (hw : splitB 32 text = ws) (h0 : 0 < ws.length) (hcmd : kvFind ws[0] cmds = some (val cmd)) (hwn : cmd.words = ws.length) (hrun : cmd.run = .fn fid []) (hfn : FnOk Tryz.prog fid)
    (hpk : cmd.peer = true → ∃ h : 1 < ws.length, parseKey ws[1] = some k0 ∧ ws[1].length < 1000000 ∧ i0 = findP ps k0) (hnp : cmd.peer = false → k0 = Vector.replicate 32 0 ∧ i0 = -1)
    (hcall : CmdOk V W0 fid i0 k0 d ws ps rs ss ts R) :
    Calls Tryz.prog 6 #[val d, vs text] w (okR fun v w' => ∃ (e : Int) (c' : GCall) (V' : PH) (A' : List (Nat × Obj)), V ≤ V' ∧ R e c' V' A' ∧
      v = (if e = 0 then .tuple #[val c'.daemon, vs c'.reply, vi 0] else .tuple #[val GDaemon.zero, vs [], vi e]) ∧ St W0 V' w' (A' ++ L)) := by
  refine fn_enter (n := 82) Tryz.func6 rfl rfl rfl ?_
  intro f hf
  have e0 := hf 0
  have e1 := hf 1
  simp only [Array.getD_eq_getD_getElem?, List.getElem?_toArray, List.getElem?_cons_zero, List.getElem?_cons_succ, Option.getD_some] at e0 e1
  clear hf
  refine cw_seq (cw_region ?_)
  refine l_box (α := GDaemon) e0 hs (by decide) ?_; clear hs; intro b2 w hs
  refine l_alloc z35 hs (by decide) ?_; clear hs; intro b4 w hs
  refine l_pur (p_assignC) (by decide) ?_
  refine l_pur (p_assignC) (by decide) ?_
  refine lw_nil ?_
  refine cw_seq (cw_region ?_)
  refine l_loadO (α := GDaemon) (β := GDaemon) ty35 rfl (Lens.id GDaemon) hs (List.Mem.tail _ (List.Mem.head _)) (by decide) ?_
  refine l_call1 fn23 (s_owndaemon hs hd hst hn hrn hsn htn) rfl ?_ (by decide)
  clear hs
  rintro _ w ⟨V1, q1, q2, q3, q4, A, hV1, rfl, hA, hr1, hr2, hq1, hq2, ht1, ht2, hs⟩
  replace hs := hs.perm (List.perm_append_comm_assoc A [_, _] L)
  refine l_pur (p_move e1) (by decide) ?_
  refine l_call2 fn24 (s_split (c := 32) hs hlen) rfl rfl ?_ (by decide)
  clear hs
  intro v w ho
  obtain ⟨V2, a2, cw2, hV2, hs, rfl, hl2⟩ := ho.freeze
  rw [hw] at hl2 ⊢
  refine l_pur (p_buildO (α := GCall) Tryz.underlying99 (by kernel_rfl) z99 rfl (.cons (β := GDaemon) rfl pl99_0 GCall.l_daemon (.cons (β := GSl) (y := (⟨_, _, _⟩ : GSl)) rfl pl99_1 GCall.l_words (.nil _)))) (by decide) ?_
  refine l_box (α := GCall) rfl hs (by decide) ?_
  clear hs
  intro b20 w hs
  refine l_pur (p_assignP rfl) (by decide) ?_
  refine lw_nil ?_
  refine cw_cut (M := fun f w => ∃ (b8 : Nat), f 4 = ptr b4 0 ∧ f 7 = ptr b20 0 ∧ f 8 = ptr b8 0 ∧ f 9 = .bool true ∧ St W0 V2 w ((b8, blk 102 cmd) :: (b20, blk 99 (⟨{ d with peers := q1, routes := q2, slots := q3, timers := q4 }, ⟨a2, ws.length, cw2⟩, []⟩ : GCall)) :: (b4, blk 35 GDaemon.zero) :: (A ++ L))) ?_ ?_
  · have hcmd' : kvFind (ws[Int.toNat 0]'h0) cmds = some (val cmd) := hcmd
    have hS := Hold.cons hs (List.Mem.head _) (Hold.nil hs (PH.refl _))
    refine cw_planH (.take 1 (.take 2 (.take 3 (.take 4 (.take 5 (.take 6 (.two 0 (.two 7 (.take 8 (.take 9 (.take 10 (.one 11 (.one 12 (.take 13 .done)))))) 11 (.one 7 (.take 8 (.take 9 (.take 10 (.one 12 (.take 13 .done))))))) 11 (.one 0 (.one 7 (.take 8 (.take 9 (.take 10 (.one 12 (.take 13 .done)))))))))))))) 2175 hmix (by kernel_rfl) (fun _ _ _ h => h) hs hS ?_
    clear hS; clear hs; intro w hs; have hS := Hold.cons hs (List.Mem.head _) (Hold.nil hs (PH.refl _))
    refine pw_pur rfl (wt_free rfl) (p_moveP rfl) (by decide) (fun _ => hS) ?_
    refine pw_pur rfl (wt_free rfl) (p_nilCheck rfl) (by decide) (fun _ => hS) ?_
    refine pw_pur rfl (wt_free rfl) (p_fieldAddr fo99_1 rfl) (by decide) (fun _ => hS) ?_
    refine pw_ld rfl (wt_free rfl) (by kernel_rfl) (Hold.runs_loadO (α := GCall) (β := GSl) ty96 rfl GCall.l_words (List.Mem.head _)) (by decide) hS ?_
    refine pw_indexSl (α := Str) rfl (wt_free rfl) el96.sl ty9 rfl rfl rfl (by omega) hl2 (by decide) (fun _ => hS) ?_; intro bb27 oo27 cc27 hb27 ha27
    refine pw_ld rfl (wt_free rfl) (by kernel_rfl) (Hold.runs_loadV (α := Str) ty9 rfl hb27 ha27) (by decide) hS ?_
    refine pw_two ?_ ?_
    · refine ow_call0 rfl (wt_free rfl) fn25 (s_commands hs)  ?_ (by decide)
      clear hs hS
      rintro _ w ⟨bm, rfl, hs⟩
      refine ⟨fun _ => Hold.cons hs (List.Mem.tail _ (List.Mem.head _)) (Hold.nil hs (PH.refl _)), ?_⟩; have hS := Hold.cons hs (List.Mem.tail _ (List.Mem.head _)) (Hold.nil hs (PH.refl _))
      refine pw_two ?_ ?_
      · refine ow_valC rfl (wt_free rfl) (r_lookupS (s := ws[Int.toNat 0]'h0) (u := cmd) mt104 z102 rfl rfl hcmd' (hs.mem (List.Mem.head _))) (by decide) ?_
        refine ⟨fun h => absurd h (by decide), ?_⟩; have hS := True.intro
        refine pw_pur rfl (wt_free rfl) (p_moveT rfl) (by decide) (fun h => absurd h (by decide)) ?_
        refine pw_pur rfl (wt_free rfl) (p_extract rfl rfl) (by decide) (fun h => absurd h (by decide)) ?_
        refine pw_pur rfl (wt_free rfl) (p_extract rfl rfl) (by decide) (fun h => absurd h (by decide)) ?_
        refine pw_one ?_
        refine ow_alloc rfl (wt_free rfl) z102 hs (by decide) ?_; clear hs; intro b8 w hs
        refine ⟨fun _ => Hold.cons hs (List.Mem.tail _ (List.Mem.tail _ (List.Mem.head _))) (Hold.nil hs (PH.refl _)), ?_⟩; have hS := Hold.cons hs (List.Mem.tail _ (List.Mem.tail _ (List.Mem.head _))) (Hold.nil hs (PH.refl _))
        refine pw_one ?_
        refine ow_store0 (α := GCommand) (β := GCommand) rfl (wt_free rfl) ty102 rfl rfl (Lens.id GCommand) hs ?_; clear hs; intro w hs
        refine ⟨fun h => absurd h (by decide), ?_⟩; have hS := True.intro
        refine pw_pur rfl (wt_free rfl) (p_assignB rfl) (by decide) (fun h => absurd h (by decide)) ?_
        refine pw_done ?_
        refine ⟨b8, rfl, rfl, rfl, rfl, hs.sublist ?_⟩
        repeat (first | exact List.Sublist.refl _ | apply List.Sublist.cons_cons | apply List.Sublist.cons)
      · refine ow_alloc rfl (wt_free rfl) z102 hs (by decide) ?_; clear hs; intro b8 w hs
        refine ⟨fun _ => Hold.cons hs (List.Mem.tail _ (List.Mem.tail _ (List.Mem.head _))) (Hold.nil hs (PH.refl _)), ?_⟩; have hS := Hold.cons hs (List.Mem.tail _ (List.Mem.tail _ (List.Mem.head _))) (Hold.nil hs (PH.refl _))
        refine pw_one ?_
        refine ow_valC rfl (wt_free rfl) (r_lookupS (s := ws[Int.toNat 0]'h0) (u := cmd) mt104 z102 rfl rfl hcmd' (hs.mem (List.Mem.tail _ (List.Mem.head _)))) (by decide) ?_
        refine ⟨fun h => absurd h (by decide), ?_⟩; have hS := True.intro
        refine pw_pur rfl (wt_free rfl) (p_moveT rfl) (by decide) (fun h => absurd h (by decide)) ?_
        refine pw_pur rfl (wt_free rfl) (p_extract rfl rfl) (by decide) (fun h => absurd h (by decide)) ?_
        refine pw_pur rfl (wt_free rfl) (p_extract rfl rfl) (by decide) (fun h => absurd h (by decide)) ?_
        refine pw_one ?_
        refine ow_store0 (α := GCommand) (β := GCommand) rfl (wt_free rfl) ty102 rfl rfl (Lens.id GCommand) hs ?_; clear hs; intro w hs
        refine ⟨fun h => absurd h (by decide), ?_⟩; have hS := True.intro
        refine pw_pur rfl (wt_free rfl) (p_assignB rfl) (by decide) (fun h => absurd h (by decide)) ?_
        refine pw_done ?_
        refine ⟨b8, rfl, rfl, rfl, rfl, hs.sublist ?_⟩
        repeat (first | exact List.Sublist.refl _ | apply List.Sublist.cons_cons | apply List.Sublist.cons)
    · refine ow_alloc rfl (wt_free rfl) z102 hs (by decide) ?_; clear hs; intro b8 w hs
      refine ⟨fun _ => Hold.cons hs (List.Mem.tail _ (List.Mem.head _)) (Hold.nil hs (PH.refl _)), ?_⟩; have hS := Hold.cons hs (List.Mem.tail _ (List.Mem.head _)) (Hold.nil hs (PH.refl _))
      refine pw_one ?_
      refine ow_call0 rfl (wt_free rfl) fn25 (s_commands hs)  ?_ (by decide)
      clear hs hS
      rintro _ w ⟨bm, rfl, hs⟩
      refine ⟨fun _ => Hold.cons hs (List.Mem.tail _ (List.Mem.tail _ (List.Mem.head _))) (Hold.nil hs (PH.refl _)), ?_⟩; have hS := Hold.cons hs (List.Mem.tail _ (List.Mem.tail _ (List.Mem.head _))) (Hold.nil hs (PH.refl _))
      refine pw_one ?_
      refine ow_valC rfl (wt_free rfl) (r_lookupS (s := ws[Int.toNat 0]'h0) (u := cmd) mt104 z102 rfl rfl hcmd' (hs.mem (List.Mem.head _))) (by decide) ?_
      refine ⟨fun h => absurd h (by decide), ?_⟩; have hS := True.intro
      refine pw_pur rfl (wt_free rfl) (p_moveT rfl) (by decide) (fun h => absurd h (by decide)) ?_
      refine pw_pur rfl (wt_free rfl) (p_extract rfl rfl) (by decide) (fun h => absurd h (by decide)) ?_
      refine pw_pur rfl (wt_free rfl) (p_extract rfl rfl) (by decide) (fun h => absurd h (by decide)) ?_
      refine pw_one ?_
      refine ow_store1 (α := GCommand) (β := GCommand) rfl (wt_free rfl) ty102 rfl rfl (Lens.id GCommand) hs ?_; clear hs; intro w hs
      refine ⟨fun h => absurd h (by decide), ?_⟩; have hS := True.intro
      refine pw_pur rfl (wt_free rfl) (p_assignB rfl) (by decide) (fun h => absurd h (by decide)) ?_
      refine pw_done ?_
      refine ⟨b8, rfl, rfl, rfl, rfl, hs.sublist ?_⟩
      repeat (first | exact List.Sublist.refl _ | apply List.Sublist.cons_cons | apply List.Sublist.cons)
  · clear hs
    intro f w hI
    obtain ⟨b8, e4, e7, e8, e9, hs⟩ := hI
    refine cw_seq ?_
    refine cw_seq ?_
    have hS := Hold.cons hs (List.Mem.head _) (Hold.cons hs (List.Mem.tail _ (List.Mem.head _)) (Hold.cons hs (List.Mem.tail _ (List.Mem.tail _ (List.Mem.head _))) (Hold.nil hs (PH.refl _))))
    refine cw_planH (.take 0 (.take 1 (.take 2 (.take 3 (.take 4 (.take 5 (.take 6 (.take 7 (.take 8 (.take 9 (.take 10 (.take 11 .done)))))))))))) 1023 hmix (by kernel_rfl) (fun _ _ _ h => h) hs hS ?_
    clear hS; clear hs; intro w hs; have hS := Hold.cons hs (List.Mem.head _) (Hold.cons hs (List.Mem.tail _ (List.Mem.head _)) (Hold.cons hs (List.Mem.tail _ (List.Mem.tail _ (List.Mem.head _))) (Hold.nil hs (PH.refl _))))
    refine pw_pur rfl (wt_free rfl) (p_move e9) (by decide) (fun _ => hS) ?_
    refine pw_purIs (c := false) rfl (wt_free rfl) (p_not rfl) (by rfl) (by decide) (fun _ => hS) ?_
    refine pw_pur rfl (wt_free rfl) (p_moveB rfl) (by decide) (fun _ => hS) ?_
    refine pw_pur rfl (wt_yes rfl rfl rfl rfl) (p_move e7) (by decide) (fun _ => hS) ?_
    refine pw_pur rfl (wt_yes rfl rfl rfl rfl) (p_nilCheck rfl) (by decide) (fun _ => hS) ?_
    refine pw_pur rfl (wt_yes rfl rfl rfl rfl) (p_fieldAddr fo99_1 rfl) (by decide) (fun _ => hS) ?_
    refine pw_ld rfl (wt_yes rfl rfl rfl rfl) (by kernel_rfl) (Hold.runs_loadO (α := GCall) (β := GSl) ty96 rfl GCall.l_words (List.Mem.tail _ (List.Mem.head _))) (by decide) hS ?_
    refine pw_pur rfl (wt_yes rfl rfl rfl rfl) (p_len Tryz.underlying96 rfl) (by decide) (fun _ => hS) ?_
    refine pw_pur rfl (wt_yes rfl rfl rfl rfl) (p_fieldAddr fo102_0 e8) (by decide) (fun _ => hS) ?_
    refine pw_ld rfl (wt_yes rfl rfl rfl rfl) (by kernel_rfl) (Hold.runs_loadO (α := GCommand) (β := Int) ty3 rfl GCommand.l_words (List.Mem.head _)) (by decide) hS ?_
    refine pw_purIs (c := false) rfl (wt_yes rfl rfl rfl rfl) (p_neq rfl rfl) (by show (((ws.length : Nat) : Int) != cmd.words) = false; rw [hwn]; simp) (by decide) (fun h => absurd h (by decide)) ?_
    refine pw_pur rfl (wt_free rfl) (p_pickF rfl rfl) (by decide) (fun h => absurd h (by decide)) ?_
    refine pw_done ?_
    refine cw_false rfl ?_
    refine cw_skip ?_
    refine cw_seq (cw_region ?_)
    refine l_pur (p_assignC) (by decide) ?_
    refine lw_nil ?_
    refine cw_seq (cw_region ?_)
    refine l_alloc z27 hs (by decide) ?_; clear hs; intro b11 w hs
    refine lw_nil ?_
    refine cw_cut (M := fun f w => ∃ (b11 : Nat), f 4 = ptr b4 0 ∧ f 7 = ptr b20 0 ∧ f 8 = ptr b8 0 ∧ f 10 = vi i0 ∧ f 11 = ptr b11 0 ∧ St W0 V2 w ((b11, blk 27 k0) :: (b8, blk 102 cmd) :: (b20, blk 99 (⟨{ d with peers := q1, routes := q2, slots := q3, timers := q4 }, ⟨a2, ws.length, cw2⟩, []⟩ : GCall)) :: (b4, blk 35 GDaemon.zero) :: (A ++ L))) ?_ ?_
    · refine cw_seq (cw_region ?_)
      refine l_pur (p_fieldAddr fo102_1 e8) (by decide) ?_
      refine l_loadO (α := GCommand) (β := Bool) ty4 rfl GCommand.l_peer hs (List.Mem.tail _ (List.Mem.head _)) (by decide) ?_
      refine lw_nil ?_
      refine cw_cond _ rfl (fun hc1 => ?_) (fun hc1 => ?_)
      · obtain ⟨h1, hp1, hp2, hp3⟩ := hpk hc1
        refine cw_seq (cw_region ?_)
        refine l_pur (p_move e7) (by decide) ?_
        refine l_pur (p_nilCheck rfl) (by decide) ?_
        refine l_pur (p_fieldAddr fo99_1 rfl) (by decide) ?_
        refine l_loadO (α := GCall) (β := GSl) ty96 rfl GCall.l_words hs (List.Mem.tail _ (List.Mem.tail _ (List.Mem.head _))) (by decide) ?_
        refine l_indexSlI (α := Str) el96.sl ty9 rfl rfl rfl (by omega) hl2 (by decide) ?_; intro bb52 oo52 cc52 hb52 ha52
        refine l_loadV (α := Str) ty9 rfl hs hb52 ha52 (by decide) ?_
        refine l_call1 fn26 (s_parsekey (s := ws[Int.toNat 1]'h1) hs hp2) rfl ?_ (by decide)
        clear hs
        rintro _ w ⟨rfl, hs⟩
        rw [show parseKey (ws[Int.toNat 1]'h1) = some k0 from hp1]
        refine l_pur (p_moveT rfl) (by decide) ?_
        refine l_pur (p_extract rfl rfl) (by decide) ?_
        refine l_pur (p_extract rfl rfl) (by decide) ?_
        refine l_alloc z27 hs (by decide) ?_; clear hs; intro b12 w hs
        refine l_store0 (α := (Vec 32 UInt8)) (β := (Vec 32 UInt8)) ty27 rfl rfl (Lens.id (Vec 32 UInt8)) hs ?_; clear hs; intro w hs
        refine l_pur (p_assignI rfl) (by decide) ?_
        refine lw_nil ?_
        refine cw_seq ?_
        refine cw_seq (cw_region ?_)
        refine l_pur (p_moveI rfl) (by decide) ?_
        refine l_purIs (c := false) (p_neq rfl rfl) (by rfl) (by decide) ?_
        refine lw_nil ?_
        refine cw_false rfl ?_
        refine cw_skip ?_
        have hS := Hold.cons hs (List.Mem.head _) (Hold.nil hs (PH.refl _))
        refine cw_planH (.take 0 (.take 1 (.take 2 (.one 3 (.one 4 (.take 5 .done)))))) 15 hmix (by kernel_rfl) (fun _ _ _ h => h) hs hS ?_
        clear hS; clear hs; intro w hs; have hS := Hold.cons hs (List.Mem.head _) (Hold.nil hs (PH.refl _))
        refine pw_ld rfl (wt_free rfl) (by kernel_rfl) (Hold.runs_loadO (α := (Vec 32 UInt8)) (β := (Vec 32 UInt8)) ty27 rfl (Lens.id (Vec 32 UInt8)) (List.Mem.head _)) (by decide) hS ?_
        refine pw_pur rfl (wt_free rfl) (p_move e7) (by decide) (fun _ => hS) ?_
        refine pw_ld rfl (wt_free rfl) (by kernel_rfl) (Hold.runs_loadO (α := (Vec 32 UInt8)) (β := (Vec 32 UInt8)) ty27 rfl (Lens.id (Vec 32 UInt8)) (List.Mem.head _)) (by decide) hS ?_
        refine pw_one ?_
        refine ow_call2 rfl (wt_free rfl) fn27 (s_ccfindA (L := (b12, blk 27 k0) :: (b11, blk 27 (Vector.replicate 32 0 : GKey)) :: (b8, blk 102 cmd) :: (b4, blk 35 GDaemon.zero) :: L) (hs.rot3.perm (List.Perm.cons _ (List.perm_append_comm_assoc [_, _, _, _] A L))) hA hn) rfl rfl ?_ (by decide)
        clear hs hS
        rintro _ w ⟨rfl, hs⟩
        replace hs := (hs.perm (List.Perm.cons _ (List.perm_append_comm_assoc A [_, _, _, _] L))).unrot3
        refine ⟨fun _ => Hold.cons hs (List.Mem.head _) (Hold.nil hs (PH.refl _)), ?_⟩; have hS := Hold.cons hs (List.Mem.head _) (Hold.nil hs (PH.refl _))
        refine pw_one ?_
        refine ow_store1 (α := (Vec 32 UInt8)) (β := (Vec 32 UInt8)) rfl (wt_free rfl) ty27 rfl rfl (Lens.id (Vec 32 UInt8)) hs ?_; clear hs; intro w hs
        refine ⟨fun h => absurd h (by decide), ?_⟩; have hS := True.intro
        refine pw_pur rfl (wt_free rfl) (p_assignI rfl) (by decide) (fun h => absurd h (by decide)) ?_
        refine pw_done ?_
        first
        | exact ⟨_, e4, e7, e8, by rw [hp3]; rfl, rfl, hs.drop1⟩
        | exact ⟨_, e4, e7, e8, by rw [hp3]; rfl, rfl, by rw [hp1]; exact hs⟩
      · obtain ⟨hp1, hp3⟩ := hnp hc1
        refine cw_skip ?_
        first
        | exact ⟨_, e4, e7, e8, by rw [hp3]; rfl, rfl, hs.drop1⟩
        | exact ⟨_, e4, e7, e8, by rw [hp3]; rfl, rfl, by rw [hp1]; exact hs⟩
    · clear hs
      intro f w hI
      obtain ⟨b11, e4, e7, e8, e10, e11, hs⟩ := hI
      refine cw_seq (cw_region ?_)
      refine l_pur (p_fieldAddr fo102_2 e8) (by decide) ?_
      refine l_loadO (α := GCommand) (β := GFun) ty100 rfl GCommand.l_run hs (List.Mem.tail _ (List.Mem.head _)) (by decide) ?_
      refine l_pur (p_move e7) (by decide) ?_
      refine l_pur (p_move e10) (by decide) ?_
      refine l_loadO (α := (Vec 32 UInt8)) (β := (Vec 32 UInt8)) ty27 e11 (Lens.id (Vec 32 UInt8)) hs (List.Mem.head _) (by decide) ?_
      refine l_callF3 (cl := []) (by show val cmd.run = _; rw [hrun]; rfl) hfn (hcall V2 _ b20 q1 q2 q3 q4 A ((b11, blk 27 k0) :: (b8, blk 102 cmd) :: (b4, blk 35 GDaemon.zero) :: L) a2 cw2 (PH.trans hV1 hV2) hA (hr1.mono hV2) hr2 (hq1.mono hV2) hq2 (ht1.mono hV2) ht2 hl2 (hs.rot2.perm (List.Perm.cons _ (List.perm_append_comm_assoc [_, _, _] A L)))) rfl rfl rfl ?_ (by decide)
      clear hs
      rintro _ w ⟨e, c', V3, A', rfl, hV3, hR, hs⟩
      replace hs := (hs.perm (List.Perm.cons _ (List.perm_append_comm_assoc A' [_, _, _] L))).unrot2
      refine l_pur (p_assignI rfl) (by decide) ?_
      refine lw_nil ?_
      refine cw_seq ?_
      refine cw_seq (cw_region ?_)
      refine l_pur (p_moveI rfl) (by decide) ?_
      refine l_pur (p_neq rfl rfl) (by decide) ?_
      refine lw_nil ?_
      refine cw_cond _ rfl (fun hc3 => ?_) (fun hc3 => ?_)
      · have hne : e ≠ 0 := by simpa using hc3
        refine cw_seq (cw_region ?_)
        refine l_pur (p_buildO (α := GDaemon) Tryz.underlying35 (by kernel_rfl) z35 rfl (.nil _)) (by decide) ?_
        refine l_pur (p_moveI rfl) (by decide) ?_
        refine l_store3 (α := GDaemon) (β := GDaemon) ty35 e4 rfl (Lens.id GDaemon) hs ?_; clear hs; intro w hs
        refine l_pur (p_assignC) (by decide) ?_
        refine l_pur (p_assignI rfl) (by decide) ?_
        refine lw_nil ?_
        refine cw_ret ?_
        repeat (with_reducible first | refine tf_ret ?_ | refine ib_ret ?_)
        refine fin3 (fn := Tryz.f6) rfl (rv_own (α := GDaemon) ty35 e4 (hs.mem (List.Mem.tail _ (List.Mem.tail _ (List.Mem.tail _ (List.Mem.head _)))))) (rv_tmpS rfl) (rv_tmpI rfl) ?_
        first
        | exact ⟨e, c', V3, A', PH.trans hV1 (PH.trans hV2 hV3), hR, (if_neg hne).symm, hs.drop1.drop1.drop1.drop1⟩
        | exact ⟨0, c', V3, A', PH.trans hV1 (PH.trans hV2 hV3), hR, (if_pos rfl).symm, hs.drop1.drop1.drop1.drop1⟩
      · have heq : e = 0 := by simpa using hc3
        subst heq
        refine cw_skip ?_
        refine cw_seq ?_
        have hS := Hold.cons hs (List.Mem.tail _ (List.Mem.tail _ (List.Mem.head _))) (Hold.nil hs (PH.refl _))
        refine cw_planH (.take 0 (.take 1 (.take 2 (.take 3 (.take 4 (.take 5 (.take 6 (.take 7 (.one 8 (.take 9 (.take 10 .done))))))))))) 511 hmix (by kernel_rfl) (fun _ _ _ h => h) hs hS ?_
        clear hS; clear hs; intro w hs; have hS := Hold.cons hs (List.Mem.tail _ (List.Mem.tail _ (List.Mem.head _))) (Hold.nil hs (PH.refl _))
        refine pw_pur rfl (wt_free rfl) (p_move e7) (by decide) (fun _ => hS) ?_
        refine pw_pur rfl (wt_free rfl) (p_nilCheck rfl) (by decide) (fun _ => hS) ?_
        refine pw_pur rfl (wt_free rfl) (p_fieldAddr fo99_0 rfl) (by decide) (fun _ => hS) ?_
        refine pw_ld rfl (wt_free rfl) (by kernel_rfl) (Hold.runs_loadO (α := GCall) (β := GDaemon) ty35 rfl GCall.l_daemon (List.Mem.head _)) (by decide) hS ?_
        refine pw_pur rfl (wt_free rfl) (p_move e7) (by decide) (fun _ => hS) ?_
        refine pw_pur rfl (wt_free rfl) (p_nilCheck rfl) (by decide) (fun _ => hS) ?_
        refine pw_pur rfl (wt_free rfl) (p_fieldAddr fo99_2 rfl) (by decide) (fun _ => hS) ?_
        refine pw_ld rfl (wt_free rfl) (by kernel_rfl) (Hold.runs_loadO (α := GCall) (β := Str) ty9 rfl GCall.l_reply (List.Mem.head _)) (by decide) hS ?_
        refine pw_one ?_
        refine ow_store3 (α := GDaemon) (β := GDaemon) rfl (wt_free rfl) ty35 e4 rfl (Lens.id GDaemon) hs ?_; clear hs; intro w hs
        refine ⟨fun _ => Hold.cons hs (List.Mem.tail _ (List.Mem.tail _ (List.Mem.head _))) (Hold.nil hs (PH.refl _)), ?_⟩; have hS := Hold.cons hs (List.Mem.tail _ (List.Mem.tail _ (List.Mem.head _))) (Hold.nil hs (PH.refl _))
        refine pw_pur rfl (wt_free rfl) (p_assignS rfl) (by decide) (fun h => absurd h (by decide)) ?_
        refine pw_pur rfl (wt_free rfl) (p_assignC) (by decide) (fun h => absurd h (by decide)) ?_
        refine pw_done ?_
        refine cw_ret ?_
        repeat (with_reducible first | refine tf_ret ?_ | refine ib_ret ?_)
        refine fin3 (fn := Tryz.f6) rfl (rv_own (α := GDaemon) ty35 e4 (hs.mem (List.Mem.tail _ (List.Mem.tail _ (List.Mem.tail _ (List.Mem.head _)))))) (rv_tmpS rfl) (rv_tmpI rfl) ?_
        first
        | exact ⟨e, c', V3, A', PH.trans hV1 (PH.trans hV2 hV3), hR, (if_neg hne).symm, hs.drop1.drop1.drop1.drop1⟩
        | exact ⟨0, c', V3, A', PH.trans hV1 (PH.trans hV2 hV3), hR, (if_pos rfl).symm, hs.drop1.drop1.drop1.drop1⟩
end Go.Bur
namespace Go.Bur
open Go Go.RowKit Go.Proofs
set_option maxHeartbeats 4000000
variable {W0 : World} {V : PH} {w : World} {L : List (Nat × Obj)}
def Left (d : GDaemon) (ps : List GPeer) (rs : List GRoute) (ss : List GSlot) (ts : List GTimer) (rep : Str) (e : Int) (c' : GCall) (V' : PH) (A' : List (Nat × Obj)) : Prop :=
  e = 0 ∧ c'.reply = rep ∧ ∃ q1 q2 q3 q4 : GSl, c'.daemon = { d with peers := q1, routes := q2, slots := q3, timers := q4 } ∧ OwnA 63 (val q1) ps A' ∧ Sl V' 73 q2.a q2.cap rs ∧ q2.len = rs.length ∧ Sl V' 69 q3.a q3.cap ss ∧ q3.len = ss.length ∧ Sl V' 75 q4.a q4.cap ts ∧ q4.len = ts.length
theorem Left.done {d : GDaemon} {ps : List GPeer} {rs : List GRoute} {ss : List GSlot} {ts : List GTimer} {rep : Str} {e : Int} {c' : GCall} {V' : PH} {A' : List (Nat × Obj)} (h : Left d ps rs ss ts rep e c' V' A') (hs : St W0 V' w (A' ++ L)) (hre : d.recent = ⟨none, 0, 0⟩) (hbu : d.buckets = ⟨none, 0, 0⟩) :
    ∃ (V2 : PH) (q1 q2 q3 q4 : GSl), V' ≤ V2 ∧ c'.daemon = { d with peers := q1, routes := q2, slots := q3, timers := q4 } ∧ DSl V2 { d with peers := q1, routes := q2, slots := q3, timers := q4 } ps rs ss ts ∧ St W0 V2 w L := by
  obtain ⟨_, _, q1, q2, q3, q4, hd, hA, h1, h2, h3, h4, h5, h6⟩ := h
  obtain ⟨V2, a, cp, hV, hs2, hq, hl⟩ := (hA.close0 hs).freeze
  have := gsl_eta hq
  subst this
  exact ⟨V2, _, q2, q3, q4, hV, hd, ⟨hl, rfl, h1.mono hV, h2, h3.mono hV, h4, h5.mono hV, h6, hre, hbu⟩, hs2⟩
theorem c_clear {d : GDaemon} {ws : List Str} {ps : List GPeer} {rs : List GRoute} {ss : List GSlot} {ts : List GTimer} {i : Nat} {k : GKey} (hi : i < ps.length) (hf : findP ps k = i) (hk : ps[i].pub = k) (hn : ps.length < 1000) (hsn : ss.length < 1000) (htn : ts.length < 1000) :
    CmdOk V W0 64 i k d ws ps rs ss ts (Left d (ps.set i (wipeP ps[i])) rs (wipeS ss ps[i]) (cancelAll (wipeT ts k) k [5]) []) := by
  intro V1 w b q1 q2 q3 q4 A L1 aw cw hV hA hr hrl hq hql ht htl hws hs
  obtain ⟨bp, cap, sp, h1, h2, h3, rfl⟩ := hA.blk (by omega)
  have hm := gsl_eta h1
  refine (s_ccwipe (ps := ps) (cap := cap) (ss := ss) (ts := ts) hs hm h3 hn hi hf hq hql hsn ht htl htn).mono ?_
  rintro e w' ⟨v, rfl, V2, q5, q6, hV2, rfl, h5, h5l, h6, h6l, hs2⟩
  rw [hk] at h6 h6l
  refine ⟨_, rfl, 0, _, V2, [(bp, arr 63 (ps.set i (wipeP ps[i])) sp)], rfl, hV2, ⟨rfl, rfl, q1, q2, q5, q6, rfl, ?_, hr.mono hV2, hrl, h5, h5l, h6, h6l⟩, hs2⟩
  rw [hm]
  have := OwnA.mk (T := 63) (b := bp) (cap := cap) (xs := ps.set i (wipeP ps[i])) (sp := sp) (by rw [List.length_set]; exact h2) (by rw [List.length_set]; exact h3)
  rw [List.length_set] at this
  exact this
def dropPS (ss : List GSlot) (k : GKey) (j : Nat) : List GSlot := (ss.take j).foldl (fun acc s => if s.peer = k then dropS acc s.index else acc) ss
theorem dropPS_snoc {ss : List GSlot} {k : GKey} {j : Nat} (h : j < ss.length) : dropPS ss k (j + 1) = if ss[j].peer = k then dropS (dropPS ss k j) ss[j].index else dropPS ss k j := by
  unfold dropPS
  rw [List.take_succ_eq_append_getElem h, List.foldl_append]; rfl
theorem dropPS_len (ss : List GSlot) (k : GKey) (j : Nat) : (dropPS ss k j).length ≤ ss.length := by
  induction j with
  | zero => exact Nat.le_refl _
  | succ j ih =>
    by_cases h : j < ss.length
    · rw [dropPS_snoc h]; split
      · exact Nat.le_trans (dropS_len _ _) ih
      · exact ih
    · have : dropPS ss k (j + 1) = dropPS ss k j := by unfold dropPS; rw [List.take_of_length_le (by omega), List.take_of_length_le (by omega)]
      rw [this]; exact ih
theorem s_remove {b bp cap i : Nat} {c : GCall} {ps : List GPeer} {sp : List Value} {rs : List GRoute} {ss : List GSlot} {ts : List GTimer} {k : GKey} (hs : St W0 V w ((b, blk 99 c) :: (bp, arr 63 ps sp) :: L)) (hm : c.daemon.peers = ⟨some ⟨bp, 0, none⟩, ps.length, cap⟩) (hcap : ps.length ≤ cap) (hcs : sp.length + ps.length * Enc.size GPeer = cap * Enc.size GPeer) (hlen : ps.length < 1000) (hi : i < ps.length)
    (hr : Sl V 73 c.daemon.routes.a c.daemon.routes.cap rs) (hrl : c.daemon.routes.len = rs.length) (hrn : rs.length < 1000) (hq : Sl V 69 c.daemon.slots.a c.daemon.slots.cap ss) (hql : c.daemon.slots.len = ss.length) (hsn : ss.length < 1000) (ht : Sl V 75 c.daemon.timers.a c.daemon.timers.cap ts) (htl : c.daemon.timers.len = ts.length) (hn : ts.length < 1000) :
    Calls Tryz.prog 59 #[ptr b 0, vi i, val k] w (okR fun v w' => ∃ (V' : PH) (q2 q3 q4 : GSl) (sp' : List Value), V ≤ V' ∧ v = vi 0 ∧ sp'.length + (ps.eraseIdx i).length * Enc.size GPeer = cap * Enc.size GPeer ∧ Sl V' 73 q2.a q2.cap (removePR rs k) ∧ q2.len = (removePR rs k).length ∧ Sl V' 69 q3.a q3.cap (dropPS ss k ss.length) ∧ q3.len = (dropPS ss k ss.length).length ∧
      Sl V' 75 q4.a q4.cap (cancelPT ts k) ∧ q4.len = (cancelPT ts k).length ∧ St W0 V' w' ((b, blk 99 (c.s_daemon { c.daemon with peers := ⟨some ⟨bp, 0, none⟩, (ps.eraseIdx i).length, cap⟩, routes := q2, slots := q3, timers := q4 })) :: (bp, arr 63 (ps.eraseIdx i) sp') :: L)) := by
  have hrr := fun (w : World) (L : List (Nat × Obj)) (hs : St W0 V w L) => s_removep (k := k) hs hr (by omega)
  rw [← hrl] at hrr
  refine fn_enter (n := 74) Tryz.func59 rfl rfl rfl ?_
  intro f hf
  have e0 := hf 0
  have e1 := hf 1
  have e2 := hf 2
  simp only [Array.getD_eq_getD_getElem?, List.getElem?_toArray, List.getElem?_cons_zero, List.getElem?_cons_succ, Option.getD_some] at e0 e1 e2
  clear hf
  refine cw_seq (cw_region ?_)
  refine l_box (α := (Vec 32 UInt8)) e2 hs (by decide) ?_; clear hs; intro b5 w hs
  refine l_pur (p_assignC) (by decide) ?_
  refine lw_nil ?_
  refine cw_seq ?_
  refine cw_seq (cw_region ?_)
  refine l_pur (p_move e1) (by decide) ?_
  refine l_purIs (c := false) (p_lss rfl rfl) (by exact decide_eq_false (by omega)) (by decide) ?_
  refine lw_nil ?_
  refine cw_false rfl ?_
  refine cw_skip ?_
  refine cw_seq (cw_region ?_)
  refine l_pur (p_move e0) (by decide) ?_
  refine l_pur (p_move e0) (by decide) ?_
  refine l_pur (p_nilCheck rfl) (by decide) ?_
  refine l_pur (p_fieldAddr fo99_0 rfl) (by decide) ?_
  refine l_pur (p_fieldAddr fo35_6 rfl) (by decide) ?_
  refine l_loadO (α := GCall) (β := GSl) ty28 rfl (Lens.comp GCall.l_daemon GDaemon.l_peers) hs (List.Mem.tail _ (List.Mem.head _)) (by decide) ?_
  refine l_pur (p_move e1) (by decide) ?_
  refine l_pur (p_move e1) (by decide) ?_
  refine l_pur (p_add64 rfl rfl (by first | omega | (dsimp only; omega) | (simp; omega))) (by decide) ?_
  refine l_call3 fn90 (s_delpeer (ps := ps) hs.rot2 hcap hcs hlen hi) (by show val c.daemon.peers = _; rw [hm]; rfl) rfl rfl ?_ (by decide)
  clear hs
  rintro _ w ⟨sp', rfl, hcs', hs⟩
  replace hs := hs.unrot2
  refine l_pur (p_nilCheck rfl) (by decide) ?_
  refine l_pur (p_fieldAddr fo99_0 rfl) (by decide) ?_
  refine l_pur (p_fieldAddr fo35_6 rfl) (by decide) ?_
  refine l_store1 (α := GCall) (β := GSl) (z := (⟨_, _, _⟩ : GSl)) ty28 rfl rfl (Lens.comp GCall.l_daemon GDaemon.l_peers) hs ?_; clear hs; intro w hs
  refine lw_nil ?_
  refine cw_seq ?_
  have hS := Hold.cons hs (List.Mem.tail _ (List.Mem.head _)) (Hold.cons hs (List.Mem.head _) (Hold.nil hs (PH.refl _)))
  refine cw_planH (.take 0 (.take 1 (.take 2 (.take 3 (.take 4 (.take 5 (.take 6 (.one 7 (.take 8 (.take 9 (.take 10 (.one 11 .done)))))))))))) 127 hmix (by kernel_rfl) (fun _ _ _ h => h) hs hS ?_
  clear hS; clear hs; intro w hs; have hS := Hold.cons hs (List.Mem.tail _ (List.Mem.head _)) (Hold.cons hs (List.Mem.head _) (Hold.nil hs (PH.refl _)))
  refine pw_pur rfl (wt_free rfl) (p_move e0) (by decide) (fun _ => hS) ?_
  refine pw_pur rfl (wt_free rfl) (p_move e0) (by decide) (fun _ => hS) ?_
  refine pw_pur rfl (wt_free rfl) (p_nilCheck rfl) (by decide) (fun _ => hS) ?_
  refine pw_pur rfl (wt_free rfl) (p_fieldAddr fo99_0 rfl) (by decide) (fun _ => hS) ?_
  refine pw_pur rfl (wt_free rfl) (p_fieldAddr fo35_7 rfl) (by decide) (fun _ => hS) ?_
  refine pw_ld rfl (wt_free rfl) (by kernel_rfl) (Hold.runs_loadO (α := GCall) (β := GSl) ty29 rfl (Lens.comp GCall.l_daemon GDaemon.l_routes) (List.Mem.head _)) (by decide) hS ?_
  refine pw_ld rfl (wt_free rfl) (by kernel_rfl) (Hold.runs_loadO (α := (Vec 32 UInt8)) (β := (Vec 32 UInt8)) ty27 rfl (Lens.id (Vec 32 UInt8)) (List.Mem.tail _ (List.Mem.head _))) (by decide) hS ?_
  refine pw_one ?_
  refine ow_call2 rfl (wt_free rfl) fn91 (hrr _ _ hs) rfl rfl ?_ (by decide)
  clear hs hS
  intro v w ho
  obtain ⟨V1, a1, c1, hV1, hs, rfl, hl1⟩ := ho.freeze
  refine ⟨fun h => absurd h (by decide), ?_⟩; have hS := True.intro
  refine pw_pur rfl (wt_free rfl) (p_nilCheck rfl) (by decide) (fun h => absurd h (by decide)) ?_
  refine pw_pur rfl (wt_free rfl) (p_fieldAddr fo99_0 rfl) (by decide) (fun h => absurd h (by decide)) ?_
  refine pw_pur rfl (wt_free rfl) (p_fieldAddr fo35_7 rfl) (by decide) (fun h => absurd h (by decide)) ?_
  refine pw_one ?_
  refine ow_store1 (α := GCall) (β := GSl) (z := (⟨_, _, _⟩ : GSl)) rfl (wt_free rfl) ty29 rfl rfl (Lens.comp GCall.l_daemon GDaemon.l_routes) hs ?_; clear hs; intro w hs
  refine ⟨fun h => absurd h (by decide), ?_⟩; have hS := True.intro
  refine pw_done ?_
  refine cw_seq ?_
  have htt := fun (w : World) (L : List (Nat × Obj)) (hs : St W0 V1 w L) => s_wcancelp (k := k) hs (ht.mono hV1) (by omega)
  rw [← htl] at htt
  have hS := Hold.cons hs (List.Mem.tail _ (List.Mem.head _)) (Hold.cons hs (List.Mem.head _) (Hold.nil hs (PH.refl _)))
  refine cw_planH (.take 0 (.take 1 (.take 2 (.take 3 (.take 4 (.take 5 (.take 6 (.one 7 (.take 8 (.take 9 (.take 10 (.one 11 .done)))))))))))) 127 hmix (by kernel_rfl) (fun _ _ _ h => h) hs hS ?_
  clear hS; clear hs; intro w hs; have hS := Hold.cons hs (List.Mem.tail _ (List.Mem.head _)) (Hold.cons hs (List.Mem.head _) (Hold.nil hs (PH.refl _)))
  refine pw_pur rfl (wt_free rfl) (p_move e0) (by decide) (fun _ => hS) ?_
  refine pw_pur rfl (wt_free rfl) (p_move e0) (by decide) (fun _ => hS) ?_
  refine pw_pur rfl (wt_free rfl) (p_nilCheck rfl) (by decide) (fun _ => hS) ?_
  refine pw_pur rfl (wt_free rfl) (p_fieldAddr fo99_0 rfl) (by decide) (fun _ => hS) ?_
  refine pw_pur rfl (wt_free rfl) (p_fieldAddr fo35_9 rfl) (by decide) (fun _ => hS) ?_
  refine pw_ld rfl (wt_free rfl) (by kernel_rfl) (Hold.runs_loadO (α := GCall) (β := GSl) ty31 rfl (Lens.comp GCall.l_daemon GDaemon.l_timers) (List.Mem.head _)) (by decide) hS ?_
  refine pw_ld rfl (wt_free rfl) (by kernel_rfl) (Hold.runs_loadO (α := (Vec 32 UInt8)) (β := (Vec 32 UInt8)) ty27 rfl (Lens.id (Vec 32 UInt8)) (List.Mem.tail _ (List.Mem.head _))) (by decide) hS ?_
  refine pw_one ?_
  refine ow_call2 rfl (wt_free rfl) fn92 (htt _ _ hs) rfl rfl ?_ (by decide)
  clear hs hS
  intro v w ho
  obtain ⟨V2, a2, c2, hV2, hs, rfl, hl2⟩ := ho.freeze
  refine ⟨fun h => absurd h (by decide), ?_⟩; have hS := True.intro
  refine pw_pur rfl (wt_free rfl) (p_nilCheck rfl) (by decide) (fun h => absurd h (by decide)) ?_
  refine pw_pur rfl (wt_free rfl) (p_fieldAddr fo99_0 rfl) (by decide) (fun h => absurd h (by decide)) ?_
  refine pw_pur rfl (wt_free rfl) (p_fieldAddr fo35_9 rfl) (by decide) (fun h => absurd h (by decide)) ?_
  refine pw_one ?_
  refine ow_store1 (α := GCall) (β := GSl) (z := (⟨_, _, _⟩ : GSl)) rfl (wt_free rfl) ty31 rfl rfl (Lens.comp GCall.l_daemon GDaemon.l_timers) hs ?_; clear hs; intro w hs
  refine ⟨fun h => absurd h (by decide), ?_⟩; have hS := True.intro
  refine pw_done ?_
  refine cw_seq ?_
  refine cw_seq ?_
  have hV12 := PH.trans hV1 hV2
  have hss := fun (w : World) (L : List (Nat × Obj)) (hs : St W0 V2 w L) => s_clone_Slot hs (hq.mono hV12) (by omega)
  rw [← hql] at hss
  refine cw_region ?_
  refine l_pur (p_move e0) (by decide) ?_
  refine l_pur (p_nilCheck rfl) (by decide) ?_
  refine l_pur (p_fieldAddr fo99_0 rfl) (by decide) ?_
  refine l_pur (p_fieldAddr fo35_8 rfl) (by decide) ?_
  refine l_loadO (α := GCall) (β := GSl) ty30 rfl (Lens.comp GCall.l_daemon GDaemon.l_slots) hs (List.Mem.tail _ (List.Mem.head _)) (by decide) ?_
  refine l_call1 fn51 (hss _ _ hs) rfl ?_ (by decide)
  clear hs
  intro v w ho
  obtain ⟨V3, a3, c3, hV3, hs, rfl, hl3⟩ := ho.freeze
  refine l_pur (p_len Tryz.underlying30 rfl) (by decide) ?_
  refine l_pur (p_moveC) (by decide) ?_
  refine lw_nil ?_
  refine cw_block ?_
  refine cw_loop (fun q f w => ∃ (j : Nat) (V' : PH) (q3 : GSl), q = ss.length - j ∧ j ≤ ss.length ∧ f 53 = vi j ∧ f 51 = .slice a3 ss.length c3 ∧ f 52 = vi ss.length ∧ f 0 = ptr b 0 ∧ f 5 = ptr b5 0 ∧ V3 ≤ V' ∧ Sl V' 69 q3.a q3.cap (dropPS ss k j) ∧ q3.len = (dropPS ss k j).length ∧ St W0 V' w ((b5, blk 27 k) :: (b, blk 99 (c.s_daemon { c.daemon with peers := ⟨some ⟨bp, 0, none⟩, (ps.eraseIdx i).length, cap⟩, routes := ⟨a1, (removePR rs k).length, c1⟩, slots := q3, timers := ⟨a2, (cancelPT ts k).length, c2⟩ })) :: (bp, arr 63 (ps.eraseIdx i) sp') :: L)) (ss.length) ?_ ?_
  · exact ⟨0, V3, c.daemon.slots, rfl, Nat.zero_le _, rfl, rfl, rfl, e0, rfl, PH.refl _, hq.mono (PH.trans hV12 hV3), hql, hs⟩
  · intro q f w hI
    clear hs
    obtain ⟨j, V', q3, rfl, hj, e53, e51, e52, e0, e5, hV', hq3, hq3l, hs⟩ := hI
    have hl3' := hl3.mono hV'
    refine cw_seq (cw_region ?_)
    refine l_pur (p_lss e53 e52) (by decide) ?_
    refine lw_nil ?_
    refine cw_seq ?_
    refine cw_cond _ rfl (fun hc1 => ?_) (fun hc1 => ?_)
    · have hlt : j < ss.length := by have := of_decide_eq_true hc1; omega
      have hpl := dropPS_len ss k j
      have hsn' := dropPS_snoc (k := k) hlt
      refine cw_skip ?_
      refine cw_seq ?_
      refine cw_block ?_
      refine cw_seq (cw_region ?_)
      refine l_indexSl (α := GSlot) el30.sl ty69 e51 rfl e53 (by first | omega | (dsimp only; omega) | (simp; omega)) hl3' (by decide) ?_; intro bb55 oo55 cc55 hb55 ha55
      refine l_loadV (α := GSlot) ty69 rfl hs hb55 ha55 (by decide) ?_
      refine l_alloc z69 hs (by decide) ?_; clear hs; intro b8 w hs
      refine l_store0 (α := GSlot) (β := GSlot) ty69 rfl rfl (Lens.id GSlot) hs ?_; clear hs; intro w hs
      refine lw_nil ?_
      refine cw_seq (cw_region ?_)
      refine l_pur (p_fieldAddr fo69_1 rfl) (by decide) ?_
      refine l_loadO (α := GSlot) (β := (Vec 32 UInt8)) ty27 rfl GSlot.l_peer hs (List.Mem.head _) (by decide) ?_
      refine l_loadO (α := (Vec 32 UInt8)) (β := (Vec 32 UInt8)) ty27 e5 (Lens.id (Vec 32 UInt8)) hs (List.Mem.tail _ (List.Mem.head _)) (by decide) ?_
      refine l_pur (p_eqlS eq27 rfl rfl) (by decide) ?_
      refine lw_nil ?_
      refine cw_cond _ rfl (fun hc2 => ?_) (fun hc2 => ?_)
      · try simp only [decide_eq_true_eq, decide_eq_false_iff_not, Bool.not_eq_true', Bool.not_eq_false', beq_iff_eq, bne_iff_ne, beq_eq_false_iff_ne, bne_eq_false_iff_eq] at hc2
        have hdd := fun (w : World) (L : List (Nat × Obj)) (hs : St W0 V' w L) => s_idrop (k := ss[j].index) hs hq3 (by omega)
        rw [← hq3l] at hdd
        have hS := Hold.cons hs (List.Mem.tail _ (List.Mem.tail _ (List.Mem.head _))) (Hold.cons hs (List.Mem.head _) (Hold.nil hs (PH.refl _)))
        refine cw_planH (.take 0 (.take 1 (.take 2 (.take 3 (.take 4 (.take 5 (.take 6 (.take 7 (.one 8 (.take 9 (.take 10 (.take 11 (.one 12 .done))))))))))))) 255 hmix (by kernel_rfl) (fun _ _ _ h => h) hs hS ?_
        clear hS; clear hs; intro w hs; have hS := Hold.cons hs (List.Mem.tail _ (List.Mem.tail _ (List.Mem.head _))) (Hold.cons hs (List.Mem.head _) (Hold.nil hs (PH.refl _)))
        refine pw_pur rfl (wt_free rfl) (p_move e0) (by decide) (fun _ => hS) ?_
        refine pw_pur rfl (wt_free rfl) (p_move e0) (by decide) (fun _ => hS) ?_
        refine pw_pur rfl (wt_free rfl) (p_nilCheck rfl) (by decide) (fun _ => hS) ?_
        refine pw_pur rfl (wt_free rfl) (p_fieldAddr fo99_0 rfl) (by decide) (fun _ => hS) ?_
        refine pw_pur rfl (wt_free rfl) (p_fieldAddr fo35_8 rfl) (by decide) (fun _ => hS) ?_
        refine pw_ld rfl (wt_free rfl) (by kernel_rfl) (Hold.runs_loadO (α := GCall) (β := GSl) ty30 rfl (Lens.comp GCall.l_daemon GDaemon.l_slots) (List.Mem.head _)) (by decide) hS ?_
        refine pw_pur rfl (wt_free rfl) (p_fieldAddr fo69_0 rfl) (by decide) (fun _ => hS) ?_
        refine pw_ld rfl (wt_free rfl) (by kernel_rfl) (Hold.runs_loadO (α := GSlot) (β := UInt32) ty46 rfl GSlot.l_index (List.Mem.tail _ (List.Mem.head _))) (by decide) hS ?_
        refine pw_one ?_
        refine ow_call2 rfl (wt_free rfl) fn93 (hdd _ _ hs) rfl rfl ?_ (by decide)
        clear hs hS
        intro v w ho
        obtain ⟨V5, a5, c5, hV5, hs, rfl, hl5⟩ := ho.freeze
        refine ⟨fun h => absurd h (by decide), ?_⟩; have hS := True.intro
        refine pw_pur rfl (wt_free rfl) (p_nilCheck rfl) (by decide) (fun h => absurd h (by decide)) ?_
        refine pw_pur rfl (wt_free rfl) (p_fieldAddr fo99_0 rfl) (by decide) (fun h => absurd h (by decide)) ?_
        refine pw_pur rfl (wt_free rfl) (p_fieldAddr fo35_8 rfl) (by decide) (fun h => absurd h (by decide)) ?_
        refine pw_one ?_
        refine ow_store2 (α := GCall) (β := GSl) (z := (⟨_, _, _⟩ : GSl)) rfl (wt_free rfl) ty30 rfl rfl (Lens.comp GCall.l_daemon GDaemon.l_slots) hs ?_; clear hs; intro w hs
        refine ⟨fun h => absurd h (by decide), ?_⟩; have hS := True.intro
        refine pw_done ?_
        refine cw_region ?_
        refine l_pur (p_add64 e53 rfl (by first | omega | (dsimp only; omega) | (simp; omega))) (by decide) ?_
        refine l_pur (p_moveI rfl) (by decide) ?_
        refine lw_nil ?_
        first
        | (rw [if_pos hc2] at hsn'
           exact ⟨_, by omega, j + 1, V5, _, rfl, hlt, rfl, e51, e52, e0, e5, PH.trans hV' hV5, by rw [hsn']; exact hl5, by rw [hsn'], hs.drop1⟩)
        | (rw [if_neg hc2] at hsn'
           exact ⟨_, by omega, j + 1, V', q3, rfl, hlt, rfl, e51, e52, e0, e5, hV', by rw [hsn']; exact hq3, by rw [hsn']; exact hq3l, hs.drop1⟩)
      · try simp only [decide_eq_true_eq, decide_eq_false_iff_not, Bool.not_eq_true', Bool.not_eq_false', beq_iff_eq, bne_iff_ne, beq_eq_false_iff_ne, bne_eq_false_iff_eq] at hc2
        refine cw_skip ?_
        refine cw_region ?_
        refine l_pur (p_add64 e53 rfl (by first | omega | (dsimp only; omega) | (simp; omega))) (by decide) ?_
        refine l_pur (p_moveI rfl) (by decide) ?_
        refine lw_nil ?_
        first
        | (rw [if_pos hc2] at hsn'
           exact ⟨_, by omega, j + 1, V5, _, rfl, hlt, rfl, e51, e52, e0, e5, PH.trans hV' hV5, by rw [hsn']; exact hl5, by rw [hsn'], hs.drop1⟩)
        | (rw [if_neg hc2] at hsn'
           exact ⟨_, by omega, j + 1, V', q3, rfl, hlt, rfl, e51, e52, e0, e5, hV', by rw [hsn']; exact hq3, by rw [hsn']; exact hq3l, hs.drop1⟩)
    · try simp only [decide_eq_true_eq, decide_eq_false_iff_not, Bool.not_eq_true', Bool.not_eq_false', beq_iff_eq, bne_iff_ne, beq_eq_false_iff_ne, bne_eq_false_iff_eq] at hc1
      refine cw_exit ?_
      refine cw_seq (cw_region ?_)
      refine l_pur (p_assignC) (by decide) ?_
      refine lw_nil ?_
      refine cw_ret ?_
      repeat (with_reducible first | refine tf_ret ?_ | refine ib_ret ?_)
      refine fin1 (fn := Tryz.f59) rfl (rv_tmpI rfl) ?_
      have hjj : j = ss.length := by omega
      subst hjj
      exact ⟨V', ⟨a1, _, c1⟩, q3, ⟨a2, _, c2⟩, sp', PH.trans hV12 (PH.trans hV3 hV'), rfl, hcs', hl1.mono (PH.trans hV2 (PH.trans hV3 hV')), rfl, hq3, hq3l, hl2.mono (PH.trans hV3 hV'), rfl, hs.drop1⟩
theorem c_remove {d : GDaemon} {ws : List Str} {ps : List GPeer} {rs : List GRoute} {ss : List GSlot} {ts : List GTimer} {i : Nat} {k : GKey} (hi : i < ps.length) (hn : ps.length < 1000) (hrn : rs.length < 1000) (hsn : ss.length < 1000) (htn : ts.length < 1000) :
    CmdOk V W0 59 i k d ws ps rs ss ts (Left d (ps.eraseIdx i) (removePR rs k) (dropPS ss k ss.length) (cancelPT ts k) []) := by
  intro V1 w b q1 q2 q3 q4 A L1 aw cw hV hA hr hrl hq hql ht htl hws hs
  obtain ⟨bp, cap, sp, h1, h2, h3, rfl⟩ := hA.blk (by omega)
  have hm := gsl_eta h1
  refine (s_remove (ps := ps) (cap := cap) (rs := rs) (ss := ss) (ts := ts) hs hm h3 h2 hn hi hr hrl hrn hq hql hsn ht htl htn).mono ?_
  rintro e w' ⟨v, rfl, V2, q5, q6, q7, sp', hV2, rfl, hcs, h5, h5l, h6, h6l, h7, h7l, hs2⟩
  refine ⟨_, rfl, 0, _, V2, [(bp, arr 63 (ps.eraseIdx i) sp')], rfl, hV2, ⟨rfl, rfl, _, q5, q6, q7, rfl, ?_, h5, h5l, h6, h6l, h7, h7l⟩, hs2⟩
  have hel : (ps.eraseIdx i).length = ps.length - 1 := by rw [List.length_eraseIdx, if_pos hi]
  exact OwnA.mk (T := 63) (b := bp) (cap := cap) (xs := ps.eraseIdx i) (sp := sp') hcs (by omega)
end Go.Bur
namespace Go.Bur
open Go Go.RowKit Go.Proofs
set_option maxHeartbeats 4000000
variable {W0 : World} {V : PH} {w : World} {L : List (Nat × Obj)}
def decFold : Str → Int → Option Int
  | [], n => some n
  | c :: l, n => if c < 48 ∨ c > 57 then none else decFold l (10 * n + ((c - 48).toNat : Nat))
def decBad (s : Str) : Bool := decide (s.length = 0 ∨ 10 < s.length ∨ (1 < s.length ∧ s.getD 0 0 = 48))
def decP (s : Str) (limit : Int) : Int × Bool := if decBad s then (0, false) else match decFold s 0 with
  | none => (0, false)
  | some n => (n, decide (n ≤ limit))
theorem decFold_step {s : Str} {i : Nat} (h : i < s.length) (n : Int) : decFold (s.drop i) n = if s[i] < 48 ∨ s[i] > 57 then none else decFold (s.drop (i + 1)) (10 * n + ((s[i] - 48).toNat : Nat)) := by
  rw [List.drop_eq_getElem_cons h]; rfl
theorem u8_digit {c : UInt8} (h1 : ¬ c < 48) (h2 : ¬ c > 57) : (c - 48).toNat ≤ 9 := by
  have a1 : (48 : UInt8) ≤ c := UInt8.not_lt.1 h1
  have a2 : c ≤ 57 := UInt8.not_lt.1 h2
  rw [UInt8.toNat_sub_of_le _ _ a1]
  have := UInt8.le_iff_toNat_le.1 a2
  have e : (57 : UInt8).toNat = 57 := rfl
  have e2 : (48 : UInt8).toNat = 48 := rfl
  omega
theorem s_decimalp {s : Str} {lim : Int} (hs : St W0 V w L) : Calls Tryz.prog 141 #[vs s, vi lim] w (okR fun v w' => v = .tuple #[vi (decP s lim).1, .bool (decP s lim).2] ∧ St W0 V w' L) := by
  by_cases hbad : s.length = 0 ∨ 10 < s.length ∨ (1 < s.length ∧ s.getD 0 0 = 48)
  · have hres : decP s lim = (0, false) := by unfold decP; rw [if_pos (by unfold decBad; exact decide_eq_true hbad)]
    rw [hres]
    refine fn_enter (n := 54) Tryz.func141 rfl rfl rfl ?_
    intro f hf
    have e0 := hf 0
    have e1 := hf 1
    simp only [Array.getD_eq_getD_getElem?, List.getElem?_toArray, List.getElem?_cons_zero, List.getElem?_cons_succ, Option.getD_some] at e0 e1
    clear hf
    refine cw_seq (cw_region ?_)
    refine l_pur (p_assignC) (by decide) ?_
    refine l_pur (p_assignC) (by decide) ?_
    refine lw_nil ?_
    refine cw_seq ?_
    refine cw_seq (cw_region ?_)
    refine l_pur (p_move e0) (by decide) ?_
    refine l_pur (p_lenStr Tryz.underlying9 rfl) (by decide) ?_
    refine l_purB (p_eql rfl rfl) (by decide) (fun hg2 => ?_) (fun hg2 => ?_)
    · have hg : s.length = 0 := by simp at hg2; simp [hg2]
      refine l_pur (p_moveB rfl) (by decide) ?_
      refine lw_pass rfl rfl rfl rfl rfl rfl (by decide) ?_
      refine lw_pass rfl rfl rfl rfl rfl rfl (by decide) ?_
      refine lw_pass rfl rfl rfl rfl rfl rfl (by decide) ?_
      refine l_pur (p_pickT rfl rfl) (by decide) ?_
      refine l_pur (p_moveB rfl) (by decide) ?_
      refine lw_pass rfl rfl rfl rfl rfl rfl (by decide) ?_
      refine lw_pass rfl rfl rfl rfl rfl rfl (by decide) ?_
      refine lw_pass rfl rfl rfl rfl rfl rfl (by decide) ?_
      refine lw_pass rfl rfl rfl rfl rfl rfl (by decide) ?_
      refine lw_passU rfl rfl rfl rfl rfl (by decide) ?_
      refine lw_passU rfl rfl rfl rfl rfl (by decide) ?_
      refine lw_passU rfl rfl rfl rfl rfl (by decide) ?_
      refine lw_pass rfl rfl rfl rfl rfl rfl (by decide) ?_
      refine l_pur (p_pickT rfl rfl) (by decide) ?_
      refine lw_nil ?_
      refine cw_true rfl ?_
      refine cw_seq (cw_region ?_)
      refine l_pur (p_assignC) (by decide) ?_
      refine l_pur (p_assignC) (by decide) ?_
      refine lw_nil ?_
      refine cw_ret ?_
      repeat (with_reducible first | refine tf_ret ?_ | refine ib_ret ?_)
      refine fin2 (fn := Tryz.f141) rfl (rv_tmpI rfl) (rv_tmpB rfl) ?_
      exact ⟨rfl, hs⟩
    · have hg : ¬ s.length = 0 := by simp at hg2; simp [hg2]
      refine l_pur (p_moveB rfl) (by decide) ?_
      refine lw_do rfl rfl rfl ?_
      refine l_pur (p_move e0) (by decide) ?_
      refine lw_do rfl rfl rfl ?_
      refine l_pur (p_lenStr Tryz.underlying9 rfl) (by decide) ?_
      refine lw_do rfl rfl rfl ?_
      refine l_purB (p_gtr rfl rfl) (by decide) (fun hg6 => ?_) (fun hg6 => ?_)
      · have hgb : 10 < s.length := by have := of_decide_eq_true hg6; omega
        refine l_pur (p_pickF rfl rfl) (by decide) ?_
        refine l_pur (p_moveB rfl) (by decide) ?_
        refine lw_pass rfl rfl rfl rfl rfl rfl (by decide) ?_
        refine lw_pass rfl rfl rfl rfl rfl rfl (by decide) ?_
        refine lw_pass rfl rfl rfl rfl rfl rfl (by decide) ?_
        refine lw_pass rfl rfl rfl rfl rfl rfl (by decide) ?_
        refine lw_passU rfl rfl rfl rfl rfl (by decide) ?_
        refine lw_passU rfl rfl rfl rfl rfl (by decide) ?_
        refine lw_passU rfl rfl rfl rfl rfl (by decide) ?_
        refine lw_pass rfl rfl rfl rfl rfl rfl (by decide) ?_
        refine l_pur (p_pickT rfl rfl) (by decide) ?_
        refine lw_nil ?_
        refine cw_true rfl ?_
        refine cw_seq (cw_region ?_)
        refine l_pur (p_assignC) (by decide) ?_
        refine l_pur (p_assignC) (by decide) ?_
        refine lw_nil ?_
        refine cw_ret ?_
        repeat (with_reducible first | refine tf_ret ?_ | refine ib_ret ?_)
        refine fin2 (fn := Tryz.f141) rfl (rv_tmpI rfl) (rv_tmpB rfl) ?_
        exact ⟨rfl, hs⟩
      · have hgb : ¬ 10 < s.length := by have := of_decide_eq_false hg6; omega
        refine l_pur (p_pickF rfl rfl) (by decide) ?_
        refine l_pur (p_moveB rfl) (by decide) ?_
        refine lw_do rfl rfl rfl ?_
        refine l_pur (p_move e0) (by decide) ?_
        refine lw_do rfl rfl rfl ?_
        refine l_pur (p_lenStr Tryz.underlying9 rfl) (by decide) ?_
        refine lw_do rfl rfl rfl ?_
        refine l_purB (p_gtr rfl rfl) (by decide) (fun hg11 => ?_) (fun hg11 => ?_)
        · have hgc : 1 < s.length := by have := of_decide_eq_true hg11; omega
          refine lw_do rfl rfl rfl ?_
          refine l_pur (p_moveB rfl) (by decide) ?_
          refine lw_do rfl rfl rfl ?_
          refine l_pur (p_move e0) (by decide) ?_
          refine lw_do rfl rfl rfl ?_
          refine l_pur (p_indexStr Tryz.underlying9 rfl rfl (by first | omega | (dsimp only; omega) | (simp; omega))) (by decide) ?_
          refine lw_do rfl rfl rfl ?_
          refine l_purB (p_eql_u8 (b := (48 : UInt8)) rfl rfl) (by decide) (fun hg15 => ?_) (fun hg15 => ?_)
          · try simp only [decide_eq_true_eq, decide_eq_false_iff_not, Bool.not_eq_true', Bool.not_eq_false', beq_iff_eq, bne_iff_ne, beq_eq_false_iff_ne, bne_eq_false_iff_eq] at hg15
            refine lw_do rfl rfl rfl ?_
            refine l_pur (p_pickT rfl rfl) (by decide) ?_
            refine l_pur (p_pickF rfl rfl) (by decide) ?_
            refine lw_nil ?_
            refine cw_true rfl ?_
            refine cw_seq (cw_region ?_)
            refine l_pur (p_assignC) (by decide) ?_
            refine l_pur (p_assignC) (by decide) ?_
            refine lw_nil ?_
            refine cw_ret ?_
            repeat (with_reducible first | refine tf_ret ?_ | refine ib_ret ?_)
            refine fin2 (fn := Tryz.f141) rfl (rv_tmpI rfl) (rv_tmpB rfl) ?_
            exact ⟨rfl, hs⟩
          · refine absurd hbad ?_
            have h00 : s.getD 0 0 = s[0]'(by omega) := by simp [List.getD, List.getElem?_eq_getElem (show 0 < s.length by omega)]
            rintro (h | h | ⟨_, h⟩)
            · exact hg h
            · exact hgb h
            · rw [h00] at h
              exact of_decide_eq_false hg15 h
        · exact absurd hbad (by have := of_decide_eq_false hg11; omega)
  · have h0 : ¬ s.length = 0 := fun h => hbad (.inl h)
    have h10 : s.length ≤ 10 := by omega
    have hres : decP s lim = match decFold s 0 with | none => (0, false) | some n => (n, decide (n ≤ lim)) := by unfold decP; rw [if_neg (by unfold decBad; simpa using hbad)]
    have h00 : s.getD 0 0 = s[0]'(by omega) := by simp [List.getD, List.getElem?_eq_getElem (show 0 < s.length by omega)]
    refine fn_enter (n := 54) Tryz.func141 rfl rfl rfl ?_
    intro f hf
    have e0 := hf 0
    have e1 := hf 1
    simp only [Array.getD_eq_getD_getElem?, List.getElem?_toArray, List.getElem?_cons_zero, List.getElem?_cons_succ, Option.getD_some] at e0 e1
    clear hf
    refine cw_seq (cw_region ?_)
    refine l_pur (p_assignC) (by decide) ?_
    refine l_pur (p_assignC) (by decide) ?_
    refine lw_nil ?_
    refine cw_seq ?_
    refine cw_seq (cw_region ?_)
    refine l_pur (p_move e0) (by decide) ?_
    refine l_pur (p_lenStr Tryz.underlying9 rfl) (by decide) ?_
    refine l_purIs (c := false) (p_eql rfl rfl) (by simpa using h0) (by decide) ?_
    refine l_pur (p_moveB rfl) (by decide) ?_
    refine lw_do rfl rfl rfl ?_
    refine l_pur (p_move e0) (by decide) ?_
    refine lw_do rfl rfl rfl ?_
    refine l_pur (p_lenStr Tryz.underlying9 rfl) (by decide) ?_
    refine lw_do rfl rfl rfl ?_
    refine l_purIs (c := false) (p_gtr rfl rfl) (by exact decide_eq_false (by omega)) (by decide) ?_
    refine l_pur (p_pickF rfl rfl) (by decide) ?_
    refine l_pur (p_moveB rfl) (by decide) ?_
    refine lw_do rfl rfl rfl ?_
    refine l_pur (p_move e0) (by decide) ?_
    refine lw_do rfl rfl rfl ?_
    refine l_pur (p_lenStr Tryz.underlying9 rfl) (by decide) ?_
    refine lw_do rfl rfl rfl ?_
    refine l_purB (p_gtr rfl rfl) (by decide) (fun hg11 => ?_) (fun hg11 => ?_)
    · have hgc : 1 < s.length := by have := of_decide_eq_true hg11; omega
      refine lw_do rfl rfl rfl ?_
      refine l_pur (p_moveB rfl) (by decide) ?_
      refine lw_do rfl rfl rfl ?_
      refine l_pur (p_move e0) (by decide) ?_
      refine lw_do rfl rfl rfl ?_
      refine l_pur (p_indexStr Tryz.underlying9 rfl rfl (by first | omega | (dsimp only; omega) | (simp; omega))) (by decide) ?_
      refine lw_do rfl rfl rfl ?_
      refine l_purIs (c := false) (p_eql_u8 (b := (48 : UInt8)) rfl rfl) (by exact decide_eq_false (fun h => hbad (.inr (.inr ⟨hgc, by rw [h00]; exact h⟩)))) (by decide) ?_
      refine lw_do rfl rfl rfl ?_
      refine l_pur (p_pickT rfl rfl) (by decide) ?_
      refine l_pur (p_pickF rfl rfl) (by decide) ?_
      refine lw_nil ?_
      refine cw_false rfl ?_
      refine cw_skip ?_
      refine cw_seq (cw_region ?_)
      refine l_pur (p_assignC) (by decide) ?_
      refine lw_nil ?_
      refine cw_seq ?_
      refine cw_seq (cw_region ?_)
      refine l_pur (p_move e0) (by decide) ?_
      refine l_pur (p_lenStr Tryz.underlying9 rfl) (by decide) ?_
      refine l_pur (p_moveC) (by decide) ?_
      refine lw_nil ?_
      refine cw_block ?_
      refine cw_loop (fun q f w => ∃ (i : Nat) (n : Int), q = s.length - i ∧ i ≤ s.length ∧ f 28 = vi (i : Nat) ∧ f 27 = vi (s.length : Nat) ∧ f 0 = vs s ∧ f 1 = vi lim ∧ f 6 = vi n ∧ 0 ≤ n ∧ n < ((10 ^ i : Nat) : Int) ∧ decFold (s.drop i) n = decFold s 0 ∧ St W0 V w L) (s.length) ?_ ?_
      · exact ⟨0, 0, rfl, Nat.zero_le _, rfl, rfl, e0, e1, rfl, by decide, by decide, rfl, hs⟩
      · intro q f w hI
        clear hs
        obtain ⟨i, n, rfl, hi, e28, e27, e0, e1, e6, hn0, hn1, hdf, hs⟩ := hI
        refine cw_seq (cw_region ?_)
        refine l_pur (p_lss e28 e27) (by decide) ?_
        refine lw_nil ?_
        refine cw_seq ?_
        refine cw_cond _ rfl (fun hc1 => ?_) (fun hc1 => ?_)
        · have hlt : i < s.length := by have := of_decide_eq_true hc1; omega
          have hst := decFold_step hlt n
          have hnb : n < 10000000000 := by
            have : 10 ^ i ≤ 10 ^ 10 := Nat.pow_le_pow_right (by decide) (show i ≤ 10 by omega)
            omega
          refine cw_skip ?_
          refine cw_seq ?_
          refine cw_block ?_
          refine cw_seq (cw_region ?_)
          refine l_pur (p_move e28) (by decide) ?_
          refine l_pur (p_assignI rfl) (by decide) ?_
          refine lw_nil ?_
          refine cw_seq ?_
          refine cw_seq (cw_region ?_)
          refine l_pur (p_move e0) (by decide) ?_
          refine l_pur (p_moveI rfl) (by decide) ?_
          refine l_pur (p_indexStr Tryz.underlying9 rfl rfl (by first | omega | (dsimp only; omega) | (simp; omega))) (by decide) ?_
          refine l_purB (p_lss_u8 (b := (48 : UInt8)) rfl rfl) (by decide) (fun hg3 => ?_) (fun hg3 => ?_)
          · have hb1 : s[i] < 48 := of_decide_eq_true hg3
            rw [if_pos (.inl hb1)] at hst
            refine l_pur (p_moveB rfl) (by decide) ?_
            refine lw_pass rfl rfl rfl rfl rfl rfl (by decide) ?_
            refine lw_pass rfl rfl rfl rfl rfl rfl (by decide) ?_
            refine lw_pass rfl rfl rfl rfl rfl rfl (by decide) ?_
            refine lw_pass rfl rfl rfl rfl rfl rfl (by decide) ?_
            refine l_pur (p_pickT rfl rfl) (by decide) ?_
            refine lw_nil ?_
            refine cw_true rfl ?_
            refine cw_seq (cw_region ?_)
            refine l_pur (p_assignC) (by decide) ?_
            refine l_pur (p_assignC) (by decide) ?_
            refine lw_nil ?_
            refine cw_ret ?_
            repeat (with_reducible first | refine tf_ret ?_ | refine ib_ret ?_)
            refine fin2 (fn := Tryz.f141) rfl (rv_tmpI rfl) (rv_tmpB rfl) ?_
            first
            | (rw [hst] at hdf
               exact ⟨by rw [hres, ← hdf], hs⟩)
            | (have hge : i = s.length := by omega
               subst hge
               rw [List.drop_length] at hdf
               exact ⟨by rw [hres, ← hdf]; rfl, hs⟩)
          · have hb1 : ¬ s[i] < 48 := of_decide_eq_false hg3
            refine l_pur (p_moveB rfl) (by decide) ?_
            refine lw_do rfl rfl rfl ?_
            refine l_pur (p_move e0) (by decide) ?_
            refine lw_do rfl rfl rfl ?_
            refine l_pur (p_moveI rfl) (by decide) ?_
            refine lw_do rfl rfl rfl ?_
            refine l_pur (p_indexStr Tryz.underlying9 rfl rfl (by first | omega | (dsimp only; omega) | (simp; omega))) (by decide) ?_
            refine lw_do rfl rfl rfl ?_
            refine l_purB (p_gtr_u8 (b := (57 : UInt8)) rfl rfl) (by decide) (fun hg8 => ?_) (fun hg8 => ?_)
            · have hb2 : s[i] > 57 := of_decide_eq_true hg8
              rw [if_pos (.inr hb2)] at hst
              refine l_pur (p_pickF rfl rfl) (by decide) ?_
              refine lw_nil ?_
              refine cw_true rfl ?_
              refine cw_seq (cw_region ?_)
              refine l_pur (p_assignC) (by decide) ?_
              refine l_pur (p_assignC) (by decide) ?_
              refine lw_nil ?_
              refine cw_ret ?_
              repeat (with_reducible first | refine tf_ret ?_ | refine ib_ret ?_)
              refine fin2 (fn := Tryz.f141) rfl (rv_tmpI rfl) (rv_tmpB rfl) ?_
              first
              | (rw [hst] at hdf
                 exact ⟨by rw [hres, ← hdf], hs⟩)
              | (have hge : i = s.length := by omega
                 subst hge
                 rw [List.drop_length] at hdf
                 exact ⟨by rw [hres, ← hdf]; rfl, hs⟩)
            · have hb2 : ¬ s[i] > 57 := of_decide_eq_false hg8
              rw [if_neg (by rintro (h | h); exact hb1 h; exact hb2 h)] at hst
              have hd9 := u8_digit hb1 hb2
              refine l_pur (p_pickF rfl rfl) (by decide) ?_
              refine lw_nil ?_
              refine cw_false rfl ?_
              refine cw_skip ?_
              refine cw_region ?_
              refine l_pur (p_move e6) (by decide) ?_
              refine l_pur (p_mul64 rfl rfl (by first | omega | (dsimp only; omega) | (simp; omega))) (by decide) ?_
              refine l_pur (p_move e0) (by decide) ?_
              refine l_pur (p_moveI rfl) (by decide) ?_
              refine l_pur (p_indexStr Tryz.underlying9 rfl rfl (by first | omega | (dsimp only; omega) | (simp; omega))) (by decide) ?_
              refine l_pur (p_sub_u8 (b := (48 : UInt8)) rfl rfl) (by decide) ?_
              refine l_pur (p_conv_u8_i Tryz.underlying5 Tryz.underlying2 rfl) (by decide) ?_
              refine l_pur (p_add64 rfl rfl (by first | omega | (dsimp only; omega) | (simp; omega))) (by decide) ?_
              refine l_pur (p_assignI rfl) (by decide) ?_
              refine lw_nil ?_
              refine cw_region ?_
              refine l_pur (p_add64 e28 rfl (by first | omega | (dsimp only; omega) | (simp; omega))) (by decide) ?_
              refine l_pur (p_moveI rfl) (by decide) ?_
              refine lw_nil ?_
              refine ⟨_, by omega, i + 1, 10 * n + ((s[i] - 48).toNat : Nat), rfl, hlt, rfl, e27, e0, e1, rfl, by omega, ?_, by rw [← hst]; exact hdf, hs⟩
              rw [Nat.pow_succ]; omega
        · try simp only [decide_eq_true_eq, decide_eq_false_iff_not, Bool.not_eq_true', Bool.not_eq_false', beq_iff_eq, bne_iff_ne, beq_eq_false_iff_ne, bne_eq_false_iff_eq] at hc1
          refine cw_exit ?_
          refine cw_seq (cw_region ?_)
          refine l_pur (p_move e6) (by decide) ?_
          refine l_pur (p_move e6) (by decide) ?_
          refine l_pur (p_move e1) (by decide) ?_
          refine l_pur (p_leq rfl rfl) (by decide) ?_
          refine l_pur (p_assignI rfl) (by decide) ?_
          refine l_pur (p_assignB rfl) (by decide) ?_
          refine lw_nil ?_
          refine cw_ret ?_
          repeat (with_reducible first | refine tf_ret ?_ | refine ib_ret ?_)
          refine fin2 (fn := Tryz.f141) rfl (rv_tmpI rfl) (rv_tmpB rfl) ?_
          first
          | (rw [hst] at hdf
             exact ⟨by rw [hres, ← hdf], hs⟩)
          | (have hge : i = s.length := by omega
             subst hge
             rw [List.drop_length] at hdf
             exact ⟨by rw [hres, ← hdf]; rfl, hs⟩)
    · try simp only [decide_eq_true_eq, decide_eq_false_iff_not, Bool.not_eq_true', Bool.not_eq_false', beq_iff_eq, bne_iff_ne, beq_eq_false_iff_ne, bne_eq_false_iff_eq] at hg11
      refine lw_do rfl rfl rfl ?_
      refine l_pur (p_moveB rfl) (by decide) ?_
      refine lw_pass rfl rfl rfl rfl rfl rfl (by decide) ?_
      refine lw_pass rfl rfl rfl rfl rfl rfl (by decide) ?_
      refine lw_pass rfl rfl rfl rfl rfl rfl (by decide) ?_
      refine lw_do rfl rfl rfl ?_
      refine l_pur (p_pickF rfl rfl) (by decide) ?_
      refine l_pur (p_pickF rfl rfl) (by decide) ?_
      refine lw_nil ?_
      refine cw_false rfl ?_
      refine cw_skip ?_
      refine cw_seq (cw_region ?_)
      refine l_pur (p_assignC) (by decide) ?_
      refine lw_nil ?_
      refine cw_seq ?_
      refine cw_seq (cw_region ?_)
      refine l_pur (p_move e0) (by decide) ?_
      refine l_pur (p_lenStr Tryz.underlying9 rfl) (by decide) ?_
      refine l_pur (p_moveC) (by decide) ?_
      refine lw_nil ?_
      refine cw_block ?_
      refine cw_loop (fun q f w => ∃ (i : Nat) (n : Int), q = s.length - i ∧ i ≤ s.length ∧ f 28 = vi (i : Nat) ∧ f 27 = vi (s.length : Nat) ∧ f 0 = vs s ∧ f 1 = vi lim ∧ f 6 = vi n ∧ 0 ≤ n ∧ n < ((10 ^ i : Nat) : Int) ∧ decFold (s.drop i) n = decFold s 0 ∧ St W0 V w L) (s.length) ?_ ?_
      · exact ⟨0, 0, rfl, Nat.zero_le _, rfl, rfl, e0, e1, rfl, by decide, by decide, rfl, hs⟩
      · intro q f w hI
        clear hs
        obtain ⟨i, n, rfl, hi, e28, e27, e0, e1, e6, hn0, hn1, hdf, hs⟩ := hI
        refine cw_seq (cw_region ?_)
        refine l_pur (p_lss e28 e27) (by decide) ?_
        refine lw_nil ?_
        refine cw_seq ?_
        refine cw_cond _ rfl (fun hc1 => ?_) (fun hc1 => ?_)
        · have hlt : i < s.length := by have := of_decide_eq_true hc1; omega
          have hst := decFold_step hlt n
          have hnb : n < 10000000000 := by
            have : 10 ^ i ≤ 10 ^ 10 := Nat.pow_le_pow_right (by decide) (show i ≤ 10 by omega)
            omega
          refine cw_skip ?_
          refine cw_seq ?_
          refine cw_block ?_
          refine cw_seq (cw_region ?_)
          refine l_pur (p_move e28) (by decide) ?_
          refine l_pur (p_assignI rfl) (by decide) ?_
          refine lw_nil ?_
          refine cw_seq ?_
          refine cw_seq (cw_region ?_)
          refine l_pur (p_move e0) (by decide) ?_
          refine l_pur (p_moveI rfl) (by decide) ?_
          refine l_pur (p_indexStr Tryz.underlying9 rfl rfl (by first | omega | (dsimp only; omega) | (simp; omega))) (by decide) ?_
          refine l_purB (p_lss_u8 (b := (48 : UInt8)) rfl rfl) (by decide) (fun hg3 => ?_) (fun hg3 => ?_)
          · have hb1 : s[i] < 48 := of_decide_eq_true hg3
            rw [if_pos (.inl hb1)] at hst
            refine l_pur (p_moveB rfl) (by decide) ?_
            refine lw_pass rfl rfl rfl rfl rfl rfl (by decide) ?_
            refine lw_pass rfl rfl rfl rfl rfl rfl (by decide) ?_
            refine lw_pass rfl rfl rfl rfl rfl rfl (by decide) ?_
            refine lw_pass rfl rfl rfl rfl rfl rfl (by decide) ?_
            refine l_pur (p_pickT rfl rfl) (by decide) ?_
            refine lw_nil ?_
            refine cw_true rfl ?_
            refine cw_seq (cw_region ?_)
            refine l_pur (p_assignC) (by decide) ?_
            refine l_pur (p_assignC) (by decide) ?_
            refine lw_nil ?_
            refine cw_ret ?_
            repeat (with_reducible first | refine tf_ret ?_ | refine ib_ret ?_)
            refine fin2 (fn := Tryz.f141) rfl (rv_tmpI rfl) (rv_tmpB rfl) ?_
            first
            | (rw [hst] at hdf
               exact ⟨by rw [hres, ← hdf], hs⟩)
            | (have hge : i = s.length := by omega
               subst hge
               rw [List.drop_length] at hdf
               exact ⟨by rw [hres, ← hdf]; rfl, hs⟩)
          · have hb1 : ¬ s[i] < 48 := of_decide_eq_false hg3
            refine l_pur (p_moveB rfl) (by decide) ?_
            refine lw_do rfl rfl rfl ?_
            refine l_pur (p_move e0) (by decide) ?_
            refine lw_do rfl rfl rfl ?_
            refine l_pur (p_moveI rfl) (by decide) ?_
            refine lw_do rfl rfl rfl ?_
            refine l_pur (p_indexStr Tryz.underlying9 rfl rfl (by first | omega | (dsimp only; omega) | (simp; omega))) (by decide) ?_
            refine lw_do rfl rfl rfl ?_
            refine l_purB (p_gtr_u8 (b := (57 : UInt8)) rfl rfl) (by decide) (fun hg8 => ?_) (fun hg8 => ?_)
            · have hb2 : s[i] > 57 := of_decide_eq_true hg8
              rw [if_pos (.inr hb2)] at hst
              refine l_pur (p_pickF rfl rfl) (by decide) ?_
              refine lw_nil ?_
              refine cw_true rfl ?_
              refine cw_seq (cw_region ?_)
              refine l_pur (p_assignC) (by decide) ?_
              refine l_pur (p_assignC) (by decide) ?_
              refine lw_nil ?_
              refine cw_ret ?_
              repeat (with_reducible first | refine tf_ret ?_ | refine ib_ret ?_)
              refine fin2 (fn := Tryz.f141) rfl (rv_tmpI rfl) (rv_tmpB rfl) ?_
              first
              | (rw [hst] at hdf
                 exact ⟨by rw [hres, ← hdf], hs⟩)
              | (have hge : i = s.length := by omega
                 subst hge
                 rw [List.drop_length] at hdf
                 exact ⟨by rw [hres, ← hdf]; rfl, hs⟩)
            · have hb2 : ¬ s[i] > 57 := of_decide_eq_false hg8
              rw [if_neg (by rintro (h | h); exact hb1 h; exact hb2 h)] at hst
              have hd9 := u8_digit hb1 hb2
              refine l_pur (p_pickF rfl rfl) (by decide) ?_
              refine lw_nil ?_
              refine cw_false rfl ?_
              refine cw_skip ?_
              refine cw_region ?_
              refine l_pur (p_move e6) (by decide) ?_
              refine l_pur (p_mul64 rfl rfl (by first | omega | (dsimp only; omega) | (simp; omega))) (by decide) ?_
              refine l_pur (p_move e0) (by decide) ?_
              refine l_pur (p_moveI rfl) (by decide) ?_
              refine l_pur (p_indexStr Tryz.underlying9 rfl rfl (by first | omega | (dsimp only; omega) | (simp; omega))) (by decide) ?_
              refine l_pur (p_sub_u8 (b := (48 : UInt8)) rfl rfl) (by decide) ?_
              refine l_pur (p_conv_u8_i Tryz.underlying5 Tryz.underlying2 rfl) (by decide) ?_
              refine l_pur (p_add64 rfl rfl (by first | omega | (dsimp only; omega) | (simp; omega))) (by decide) ?_
              refine l_pur (p_assignI rfl) (by decide) ?_
              refine lw_nil ?_
              refine cw_region ?_
              refine l_pur (p_add64 e28 rfl (by first | omega | (dsimp only; omega) | (simp; omega))) (by decide) ?_
              refine l_pur (p_moveI rfl) (by decide) ?_
              refine lw_nil ?_
              refine ⟨_, by omega, i + 1, 10 * n + ((s[i] - 48).toNat : Nat), rfl, hlt, rfl, e27, e0, e1, rfl, by omega, ?_, by rw [← hst]; exact hdf, hs⟩
              rw [Nat.pow_succ]; omega
        · try simp only [decide_eq_true_eq, decide_eq_false_iff_not, Bool.not_eq_true', Bool.not_eq_false', beq_iff_eq, bne_iff_ne, beq_eq_false_iff_ne, bne_eq_false_iff_eq] at hc1
          refine cw_exit ?_
          refine cw_seq (cw_region ?_)
          refine l_pur (p_move e6) (by decide) ?_
          refine l_pur (p_move e6) (by decide) ?_
          refine l_pur (p_move e1) (by decide) ?_
          refine l_pur (p_leq rfl rfl) (by decide) ?_
          refine l_pur (p_assignI rfl) (by decide) ?_
          refine l_pur (p_assignB rfl) (by decide) ?_
          refine lw_nil ?_
          refine cw_ret ?_
          repeat (with_reducible first | refine tf_ret ?_ | refine ib_ret ?_)
          refine fin2 (fn := Tryz.f141) rfl (rv_tmpI rfl) (rv_tmpB rfl) ?_
          first
          | (rw [hst] at hdf
             exact ⟨by rw [hres, ← hdf], hs⟩)
          | (have hge : i = s.length := by omega
             subst hge
             rw [List.drop_length] at hdf
             exact ⟨by rw [hres, ← hdf]; rfl, hs⟩)
def pa4 : List Str → Nat → GAddr → Option GAddr
  | [], _, a => some a
  | x :: l, i, a => if (decP x 255).2 then pa4 l (i + 1) (if h : i < 16 then { a with ip := a.ip.set i (UInt8.ofInt (decP x 255).1) } else a) else none
def addrRes (o : Option GAddr) : Value := .tuple #[val (o.getD GAddr.zero), vi (if o.isSome then 0 else 5)]
theorem pa4_step {l : List Str} {i : Nat} (h : i < l.length) (a : GAddr) (hi : i < 16) : pa4 (l.drop i) i a = if (decP l[i] 255).2 then pa4 (l.drop (i + 1)) (i + 1) { a with ip := a.ip.set i (UInt8.ofInt (decP l[i] 255).1) } else none := by
  rw [List.drop_eq_getElem_cons h]
  show (if _ then pa4 _ _ (dite _ _ _) else none) = _
  rw [dif_pos hi]
theorem s_parseaddr4 {s : Str} (hs : St W0 V w L) (hlen : s.length < 1000000) (h4 : (splitB 46 s).length = 4) : Calls Tryz.prog 144 #[vs s] w (okR fun v w' => v = addrRes (pa4 (splitB 46 s) 0 GAddr.zero) ∧ St W0 V w' L) := by
  refine fn_enter (n := 80) Tryz.func144 rfl rfl rfl ?_
  intro f hf
  have e0 := hf 0
  simp only [Array.getD_eq_getD_getElem?, List.getElem?_toArray, List.getElem?_cons_zero, List.getElem?_cons_succ, Option.getD_some] at e0
  clear hf
  refine cw_seq (cw_region ?_)
  refine l_alloc z41 hs (by decide) ?_; clear hs; intro b2 w hs
  refine l_pur (p_assignC) (by decide) ?_
  refine lw_nil ?_
  refine cw_seq (cw_region ?_)
  refine l_alloc z41 hs (by decide) ?_; clear hs; intro b4 w hs
  refine lw_nil ?_
  refine cw_seq ?_
  refine cw_seq (cw_region ?_)
  refine l_pur (p_move e0) (by decide) ?_
  refine l_call2 fn24 (s_split (c := 46) hs hlen) rfl rfl ?_ (by decide)
  clear hs
  intro v w ho
  obtain ⟨V2, a2, cw2, hV2, hs, rfl, hl2⟩ := ho.freeze
  refine l_pur (p_assignL rfl) (by decide) ?_
  refine lw_nil ?_
  refine cw_seq (cw_region ?_)
  refine l_pur (p_moveL rfl) (by decide) ?_
  refine l_pur (p_len Tryz.underlying96 rfl) (by decide) ?_
  refine l_purIs (c := true) (p_eql rfl rfl) (by rw [h4]; rfl) (by decide) ?_
  refine lw_nil ?_
  refine cw_true rfl ?_
  refine cw_seq ?_
  refine cw_seq (cw_region ?_)
  refine l_pur (p_moveL rfl) (by decide) ?_
  refine l_pur (p_len Tryz.underlying96 rfl) (by decide) ?_
  refine l_pur (p_moveC) (by decide) ?_
  refine lw_nil ?_
  refine cw_block ?_
  refine cw_loop (fun q f w => ∃ (i : Nat) (a : GAddr), q = 4 - i ∧ i ≤ 4 ∧ f 22 = vi (i : Nat) ∧ f 20 = .slice a2 (splitB 46 s).length cw2 ∧ f 21 = vi 4 ∧ f 2 = ptr b2 0 ∧ f 4 = ptr b4 0 ∧ pa4 ((splitB 46 s).drop i) i a = pa4 (splitB 46 s) 0 GAddr.zero ∧ St W0 V2 w ((b4, blk 41 a) :: (b2, blk 41 GAddr.zero) :: L)) (4) ?_ ?_
  · exact ⟨0, _, rfl, by omega, rfl, rfl, by show vi ((splitB 46 s).length : Nat) = _; rw [h4]; rfl, rfl, rfl, rfl, hs⟩
  · intro q f w hI
    clear hs
    obtain ⟨i, a, rfl, hi, e22, e20, e21, e2, e4, hpa, hs⟩ := hI
    refine cw_seq (cw_region ?_)
    refine l_pur (p_lss e22 e21) (by decide) ?_
    refine lw_nil ?_
    refine cw_seq ?_
    refine cw_cond _ rfl (fun hc1 => ?_) (fun hc1 => ?_)
    · have hlt : i < 4 := by have := of_decide_eq_true hc1; omega
      have hl4 : i < (splitB 46 s).length := by omega
      have hst := pa4_step hl4 a (by omega)
      refine cw_skip ?_
      refine cw_seq ?_
      refine cw_block ?_
      refine cw_seq (cw_region ?_)
      refine l_pur (p_move e22) (by decide) ?_
      refine l_indexSl (α := Str) el96.sl ty9 e20 rfl e22 (by first | omega | (dsimp only; omega) | (simp; omega)) hl2 (by decide) ?_; intro bb25 oo25 cc25 hb25 ha25
      refine l_loadV (α := Str) ty9 rfl hs hb25 ha25 (by decide) ?_
      refine l_pur (p_assignI rfl) (by decide) ?_
      refine l_pur (p_assignS rfl) (by decide) ?_
      refine lw_nil ?_
      refine cw_seq (cw_region ?_)
      refine l_pur (p_moveS rfl) (by decide) ?_
      refine l_call2 fn141 (s_decimalp hs) rfl rfl ?_ (by decide)
      clear hs; rintro _ w ⟨rfl, hs⟩
      refine l_pur (p_moveT rfl) (by decide) ?_
      refine l_pur (p_extract rfl rfl) (by decide) ?_
      refine l_pur (p_extract rfl rfl) (by decide) ?_
      refine l_pur (p_assignI rfl) (by decide) ?_
      refine l_pur (p_assignB rfl) (by decide) ?_
      refine lw_nil ?_
      refine cw_seq ?_
      refine cw_seq (cw_region ?_)
      refine l_pur (p_moveB rfl) (by decide) ?_
      refine l_pur (p_not rfl) (by decide) ?_
      refine lw_nil ?_
      refine cw_cond _ rfl (fun hc2 => ?_) (fun hc2 => ?_)
      · have hno : (decP ((splitB 46 s)[i]) 255).2 = false := by simpa using hc2
        rw [if_neg (by rw [hno]; decide)] at hst
        refine cw_seq (cw_region ?_)
        refine l_pur (p_buildO (α := GAddr) Tryz.underlying41 (by kernel_rfl) z41 rfl (.nil _)) (by decide) ?_
        refine l_store1 (α := GAddr) (β := GAddr) ty41 e2 rfl (Lens.id GAddr) hs ?_; clear hs; intro w hs
        refine l_pur (p_assignC) (by decide) ?_
        refine lw_nil ?_
        refine cw_ret ?_
        repeat (with_reducible first | refine tf_ret ?_ | refine ib_ret ?_)
        refine fin2 (fn := Tryz.f144) rfl (rv_own (α := GAddr) ty41 e2 (hs.mem (List.Mem.tail _ (List.Mem.head _)))) (rv_tmpI rfl) ?_
        first
        | exact ⟨by rw [← hpa, hst]; rfl, (hs.weaken hV2).drop1.drop1⟩
        | (have hi4 : i = 4 := by omega
           subst hi4
           rw [List.drop_of_length_le (by omega)] at hpa
           exact ⟨by rw [← hpa]; rfl, (hs.weaken hV2).drop1.drop1⟩)
      · have hyes : (decP ((splitB 46 s)[i]) 255).2 = true := by simpa using hc2
        rw [if_pos hyes] at hst
        refine cw_skip ?_
        refine cw_region ?_
        refine l_pur (p_moveI rfl) (by decide) ?_
        refine l_pur (p_moveI rfl) (by decide) ?_
        refine l_pur (p_conv_u8 Tryz.underlying2 Tryz.underlying5 rfl) (by decide) ?_
        refine l_pur (p_fieldAddr fo41_1 e4) (by decide) ?_
        refine l_pur (p_indexArr Tryz.underlying39 ty5.size rfl rfl (by (first | omega | decide | (dsimp only; omega) | (simp; omega)))) (by decide) ?_
        refine l_store0 (α := GAddr) (β := UInt8) ty5 rfl rfl (Lens.comp GAddr.l_ip (Lens.idx (α := UInt8) (n := 16) _ (by first | omega | decide | (simp; omega) | simp | exact umod4n _))) hs ?_; clear hs; intro w hs
        refine lw_nil ?_
        refine cw_region ?_
        refine l_pur (p_add64 e22 rfl (by first | omega | (dsimp only; omega) | (simp; omega))) (by decide) ?_
        refine l_pur (p_moveI rfl) (by decide) ?_
        refine lw_nil ?_
        exact ⟨_, by omega, i + 1, _, rfl, hlt, rfl, e20, e21, e2, e4, hst.symm.trans hpa, hs⟩
    · try simp only [decide_eq_true_eq, decide_eq_false_iff_not, Bool.not_eq_true', Bool.not_eq_false', beq_iff_eq, bne_iff_ne, beq_eq_false_iff_ne, bne_eq_false_iff_eq] at hc1
      refine cw_exit ?_
      refine cw_seq (cw_region ?_)
      refine l_loadO (α := GAddr) (β := GAddr) ty41 e4 (Lens.id GAddr) hs (List.Mem.head _) (by decide) ?_
      refine l_store1 (α := GAddr) (β := GAddr) ty41 e2 rfl (Lens.id GAddr) hs ?_; clear hs; intro w hs
      refine l_pur (p_assignC) (by decide) ?_
      refine lw_nil ?_
      refine cw_ret ?_
      repeat (with_reducible first | refine tf_ret ?_ | refine ib_ret ?_)
      refine fin2 (fn := Tryz.f144) rfl (rv_own (α := GAddr) ty41 e2 (hs.mem (List.Mem.tail _ (List.Mem.head _)))) (rv_tmpI rfl) ?_
      first
      | exact ⟨by rw [← hpa, hst]; rfl, (hs.weaken hV2).drop1.drop1⟩
      | (have hi4 : i = 4 := by omega
         subst hi4
         rw [List.drop_of_length_le (by omega)] at hpa
         exact ⟨by rw [← hpa]; rfl, (hs.weaken hV2).drop1.drop1⟩)
def ivalA (a : GAddr) : Bool := if a.six then true else decide (a = a.s_ip (vclr a.ip 4 0))
theorem s_ivalid {a : GAddr} (hs : St W0 V w L) : Calls Tryz.prog 215 #[val a] w (okR fun v w' => v = .bool (ivalA a) ∧ St W0 V w' L) := by
  refine fn_enter (n := 14) Tryz.func215 rfl rfl rfl ?_
  intro f hf
  have e0 := hf 0
  simp only [Array.getD_eq_getD_getElem?, List.getElem?_toArray, List.getElem?_cons_zero, List.getElem?_cons_succ, Option.getD_some] at e0
  clear hf
  refine cw_seq (cw_region ?_)
  refine l_box (α := GAddr) e0 hs (by decide) ?_; clear hs; intro b1 w hs
  refine l_pur (p_assignC) (by decide) ?_
  refine lw_nil ?_
  refine cw_seq (cw_region ?_)
  refine l_loadO (α := GAddr) (β := GAddr) ty41 rfl (Lens.id GAddr) hs (List.Mem.head _) (by decide) ?_
  refine l_alloc z41 hs (by decide) ?_; clear hs; intro b3 w hs
  refine l_store0 (α := GAddr) (β := GAddr) ty41 rfl rfl (Lens.id GAddr) hs ?_; clear hs; intro w hs
  refine lw_nil ?_
  refine cw_seq (cw_region ?_)
  refine l_pur (p_fieldAddr fo41_1 rfl) (by decide) ?_
  refine l_pur (p_sliceArr Tryz.underlying39 ty5.size rfl (.at_ _ rfl) (.no _) (by decide)) (by decide) ?_
  refine l_clearV (α := GAddr) (β := UInt8) (j := 4) (k2 := 12) el22.sl z5 rfl rfl (by decide) GAddr.l_ip hs Rep.head ?_ rfl
  clear hs
  intro w hs
  refine lw_nil ?_
  refine cw_seq (cw_region ?_)
  refine l_pur (p_fieldAddr fo41_0 rfl) (by decide) ?_
  refine l_loadO (α := GAddr) (β := Bool) ty4 rfl GAddr.l_six hs (List.Mem.tail _ (List.Mem.head _)) (by decide) ?_
  refine l_purB (p_moveB rfl) (by decide) (fun hg2 => ?_) (fun hg2 => ?_)
  · try simp only [decide_eq_true_eq, decide_eq_false_iff_not, Bool.not_eq_true', Bool.not_eq_false', beq_iff_eq, bne_iff_ne, beq_eq_false_iff_ne, bne_eq_false_iff_eq] at hg2
    refine lw_pass rfl rfl rfl rfl rfl rfl (by decide) ?_
    refine lw_pass rfl rfl rfl rfl rfl rfl (by decide) ?_
    refine lw_pass rfl rfl rfl rfl rfl rfl (by decide) ?_
    refine l_pur (p_pickT rfl rfl) (by decide) ?_
    refine l_pur (p_assignB rfl) (by decide) ?_
    refine lw_nil ?_
    refine cw_ret ?_
    repeat (with_reducible first | refine tf_ret ?_ | refine ib_ret ?_)
    refine fin1 (fn := Tryz.f215) rfl (rv_tmpB rfl) ?_
    first
    | exact ⟨congrArg Value.bool (if_pos hg2).symm, hs.drop1.drop1⟩
    | exact ⟨congrArg Value.bool (if_neg (ne_true_of_eq_false hg2)).symm, hs.drop1.drop1⟩
  · try simp only [decide_eq_true_eq, decide_eq_false_iff_not, Bool.not_eq_true', Bool.not_eq_false', beq_iff_eq, bne_iff_ne, beq_eq_false_iff_ne, bne_eq_false_iff_eq] at hg2
    refine lw_do rfl rfl rfl ?_
    refine l_loadO (α := GAddr) (β := GAddr) ty41 rfl (Lens.id GAddr) hs (List.Mem.tail _ (List.Mem.head _)) (by decide) ?_
    refine lw_do rfl rfl rfl ?_
    refine l_loadO (α := GAddr) (β := GAddr) ty41 rfl (Lens.id GAddr) hs (List.Mem.head _) (by decide) ?_
    refine lw_do rfl rfl rfl ?_
    refine l_pur (p_eqlS eq41 rfl rfl) (by decide) ?_
    refine l_pur (p_pickF rfl rfl) (by decide) ?_
    refine l_pur (p_assignB rfl) (by decide) ?_
    refine lw_nil ?_
    refine cw_ret ?_
    repeat (with_reducible first | refine tf_ret ?_ | refine ib_ret ?_)
    refine fin1 (fn := Tryz.f215) rfl (rv_tmpB rfl) ?_
    first
    | exact ⟨congrArg Value.bool (if_pos hg2).symm, hs.drop1.drop1⟩
    | exact ⟨congrArg Value.bool (if_neg (ne_true_of_eq_false hg2)).symm, hs.drop1.drop1⟩
def cutLeft (n : Int) (i : Nat) : Nat := (min (max (n - 8 * i) 0) 8).toNat
def cutF (n : Int) : Nat → Vec 16 UInt8 → Vec 16 UInt8
  | 0, v => v
  | f + 1, v => cutF n f (if h : 15 - f < 16 then v.set (15 - f) (v[15 - f] &&& ~~~ (shr8 255 (cutLeft n (15 - f)))) else v)
def icutA (a : GAddr) (n : Int) : GAddr := { a with ip := cutF n 16 a.ip }
theorem s_icut {a : GAddr} {n : Int} (hs : St W0 V w L) (hn : -1000000 ≤ n ∧ n ≤ 1000000) : Calls Tryz.prog 216 #[val a, vi n] w (okR fun v w' => v = val (icutA a n) ∧ St W0 V w' L) := by
  refine fn_enter (n := 28) Tryz.func216 rfl rfl rfl ?_
  intro f hf
  have e0 := hf 0
  have e1 := hf 1
  simp only [Array.getD_eq_getD_getElem?, List.getElem?_toArray, List.getElem?_cons_zero, List.getElem?_cons_succ, Option.getD_some] at e0 e1
  clear hf
  refine cw_seq (cw_region ?_)
  refine l_box (α := GAddr) e0 hs (by decide) ?_; clear hs; intro b2 w hs
  refine l_alloc z41 hs (by decide) ?_; clear hs; intro b4 w hs
  refine lw_nil ?_
  refine cw_seq ?_
  refine cw_seq (cw_region ?_)
  refine l_pur (p_moveC) (by decide) ?_
  refine lw_nil ?_
  refine cw_block ?_
  refine cw_loop (fun q f w => ∃ (i : Nat) (u : Vec 16 UInt8), q = 16 - i ∧ i ≤ 16 ∧ f 7 = vi (i : Nat) ∧ f 1 = vi n ∧ f 2 = ptr b2 0 ∧ f 4 = ptr b4 0 ∧ cutF n (16 - i) u = cutF n 16 a.ip ∧ St W0 V w ((b4, blk 41 GAddr.zero) :: (b2, blk 41 { a with ip := u }) :: L)) (16) ?_ ?_
  · exact ⟨0, a.ip, rfl, by omega, rfl, e1, rfl, rfl, rfl, hs⟩
  · intro q f w hI
    clear hs
    obtain ⟨i, u, rfl, hi, e7, e1, e2, e4, hcu, hs⟩ := hI
    refine cw_seq (cw_region ?_)
    refine l_pur (p_lss e7 rfl) (by decide) ?_
    refine lw_nil ?_
    refine cw_seq ?_
    refine cw_cond _ rfl (fun hc0 => ?_) (fun hc0 => ?_)
    · have hlt : i < 16 := by have := of_decide_eq_true hc0; omega
      have e1' : 16 - i = (16 - (i + 1)) + 1 := by omega
      have e2' : 15 - (16 - (i + 1)) = i := by omega
      rw [e1'] at hcu
      unfold cutF at hcu
      simp only [e2'] at hcu
      rw [dif_pos hlt] at hcu
      have ecl : min (max (n - 8 * (i : Int)) 0) 8 = ((cutLeft n i : Nat) : Int) := by unfold cutLeft; omega
      refine cw_skip ?_
      refine cw_seq ?_
      refine cw_block ?_
      refine cw_seq (cw_region ?_)
      refine l_pur (p_move e7) (by decide) ?_
      refine l_pur (p_assignI rfl) (by decide) ?_
      refine lw_nil ?_
      refine cw_seq (cw_region ?_)
      refine l_pur (p_move e1) (by decide) ?_
      refine l_pur (p_moveI rfl) (by decide) ?_
      refine l_pur (p_mul64 rfl rfl (by first | omega | (dsimp only; omega) | (simp; omega))) (by decide) ?_
      refine l_pur (p_sub64 rfl rfl (by first | omega | (dsimp only; omega) | (simp; omega))) (by decide) ?_
      refine l_pur (p_max rfl rfl) (by decide) ?_
      refine l_pur (p_min rfl rfl) (by decide) ?_
      rw [ecl]
      refine l_pur (p_assignI rfl) (by decide) ?_
      refine lw_nil ?_
      have hS := Hold.cons hs (List.Mem.head _) (Hold.cons hs (List.Mem.tail _ (List.Mem.head _)) (Hold.nil hs (PH.refl _)))
      refine cw_planH (.take 0 (.take 1 (.take 2 (.take 3 (.take 4 (.take 5 (.take 6 (.take 7 (.take 8 (.take 9 (.one 10 .done))))))))))) 383 hmix (by kernel_rfl) (fun _ _ _ h => h) hs hS ?_
      clear hS; clear hs; intro w hs; have hS := Hold.cons hs (List.Mem.head _) (Hold.cons hs (List.Mem.tail _ (List.Mem.head _)) (Hold.nil hs (PH.refl _)))
      refine pw_pur rfl (wt_free rfl) (p_moveI rfl) (by decide) (fun _ => hS) ?_
      refine pw_pur rfl (wt_free rfl) (p_fieldAddr fo41_1 e2) (by decide) (fun _ => hS) ?_
      refine pw_pur rfl (wt_free rfl) (p_indexArr Tryz.underlying39 ty5.size rfl rfl (by (first | omega | decide | (dsimp only; omega) | (simp; omega)))) (by decide) (fun _ => hS) ?_
      refine pw_ld rfl (wt_free rfl) (by kernel_rfl) (Hold.runs_loadO (α := GAddr) (β := UInt8) ty5 rfl (Lens.comp GAddr.l_ip (Lens.idx (α := UInt8) (n := 16) _ (by first | omega | decide | (simp; omega) | simp | exact umod4n _))) (List.Mem.tail _ (List.Mem.head _))) (by decide) hS ?_
      refine pw_pur rfl (wt_free rfl) (p_moveI rfl) (by decide) (fun _ => hS) ?_
      refine pw_pur rfl (wt_free rfl) (p_shr_u8g (a := (255 : UInt8)) rfl rfl) (by decide) (fun _ => hS) ?_
      refine pw_pur rfl (wt_free rfl) (p_compl_u8 rfl) (by decide) (fun _ => hS) ?_
      refine pw_pur rfl (wt_free rfl) (p_and_u8 rfl rfl) (by decide) (fun h => absurd h (by decide)) ?_
      refine pw_pur rfl (wt_free rfl) (p_fieldAddr fo41_1 e2) (by decide) (fun _ => hS) ?_
      refine pw_pur rfl (wt_free rfl) (p_indexArr Tryz.underlying39 ty5.size rfl rfl (by (first | omega | decide | (dsimp only; omega) | (simp; omega)))) (by decide) (fun h => absurd h (by decide)) ?_
      refine pw_one ?_
      refine ow_store1 (α := GAddr) (β := UInt8) rfl (wt_free rfl) ty5 rfl rfl (Lens.comp GAddr.l_ip (Lens.idx (α := UInt8) (n := 16) _ (by first | omega | decide | (simp; omega) | simp | exact umod4n _))) hs ?_; clear hs; intro w hs
      refine ⟨fun h => absurd h (by decide), ?_⟩; have hS := True.intro
      refine pw_done ?_
      refine cw_region ?_
      refine l_pur (p_add64 e7 rfl (by first | omega | (dsimp only; omega) | (simp; omega))) (by decide) ?_
      refine l_pur (p_moveI rfl) (by decide) ?_
      refine lw_nil ?_
      exact ⟨_, by omega, i + 1, _, rfl, hlt, rfl, e1, e2, e4, hcu, hs⟩
    · try simp only [decide_eq_true_eq, decide_eq_false_iff_not, Bool.not_eq_true', Bool.not_eq_false', beq_iff_eq, bne_iff_ne, beq_eq_false_iff_ne, bne_eq_false_iff_eq] at hc0
      refine cw_exit ?_
      refine cw_seq (cw_region ?_)
      refine l_loadO (α := GAddr) (β := GAddr) ty41 e2 (Lens.id GAddr) hs (List.Mem.tail _ (List.Mem.head _)) (by decide) ?_
      refine l_store0 (α := GAddr) (β := GAddr) ty41 e4 rfl (Lens.id GAddr) hs ?_; clear hs; intro w hs
      refine lw_nil ?_
      refine cw_ret ?_
      repeat (with_reducible first | refine tf_ret ?_ | refine ib_ret ?_)
      refine fin1 (fn := Tryz.f216) rfl (rv_own (α := GAddr) ty41 e4 (hs.mem (List.Mem.head _))) ?_
      have hi16 : i = 16 := by omega
      subst hi16
      have e : u = cutF n 16 a.ip := hcu
      subst e
      exact ⟨rfl, hs.drop1.drop1⟩
def iValidP (p : GPrefix) : Bool := if ivalA p.addr then (if p.bits ≥ 0 then (if p.bits ≤ (if p.addr.six then 128 else 32) then decide (icutA p.addr p.bits = p.addr) else false) else false) else false
theorem s_iValid {p : GPrefix} (hs : St W0 V w L) : Calls Tryz.prog 153 #[val p] w (okR fun v w' => v = .bool (iValidP p) ∧ St W0 V w' L) := by
  refine fn_enter (n := 31) Tryz.func153 rfl rfl rfl ?_
  intro f hf
  have e0 := hf 0
  simp only [Array.getD_eq_getD_getElem?, List.getElem?_toArray, List.getElem?_cons_zero, List.getElem?_cons_succ, Option.getD_some] at e0
  clear hf
  refine cw_seq (cw_region ?_)
  refine l_box (α := GPrefix) e0 hs (by decide) ?_; clear hs; intro b1 w hs
  refine l_pur (p_assignC) (by decide) ?_
  refine lw_nil ?_
  refine cw_seq (cw_region ?_)
  refine l_pur (p_assignC) (by decide) ?_
  refine lw_nil ?_
  refine cw_cut (M := fun f w => f 1 = ptr b1 0 ∧ f 3 = vi (if p.addr.six then 128 else 32) ∧ St W0 V w ((b1, blk 71 p) :: L)) ?_ ?_
  · refine cw_seq (cw_region ?_)
    refine l_pur (p_fieldAddr fo71_0 rfl) (by decide) ?_
    refine l_pur (p_fieldAddr fo41_0 rfl) (by decide) ?_
    refine l_loadO (α := GPrefix) (β := Bool) ty4 rfl (Lens.comp GPrefix.l_addr GAddr.l_six) hs (List.Mem.head _) (by decide) ?_
    refine lw_nil ?_
    refine cw_cond _ rfl (fun hc0 => ?_) (fun hc0 => ?_)
    · have h6 : p.addr.six = true := by simpa using hc0
      refine cw_region ?_
      refine l_pur (p_assignC) (by decide) ?_
      refine lw_nil ?_
      exact ⟨rfl, by rw [h6]; rfl, hs⟩
    · have h6 : p.addr.six = false := by simpa using hc0
      refine cw_skip ?_
      exact ⟨rfl, by rw [h6]; rfl, hs⟩
  · clear hs
    intro f w hI
    obtain ⟨e1, e3, hs⟩ := hI
    refine cw_seq ?_
    have hS := Hold.cons hs (List.Mem.head _) (Hold.nil hs (PH.refl _))
    refine cw_planH (.take 0 (.take 1 (.one 2 (.take 3 (.take 4 (.take 5 (.take 6 (.take 7 (.take 8 (.take 9 (.take 10 (.take 11 (.take 12 (.take 13 (.take 14 (.take 15 (.take 16 (.take 17 (.take 18 (.take 20 (.take 21 (.one 19 (.take 22 (.take 23 (.take 24 .done))))))))))))))))))))))))) 4194303 hmix (by kernel_rfl) (fun _ _ _ h => h) hs hS ?_
    clear hS; clear hs; intro w hs; have hS := Hold.cons hs (List.Mem.head _) (Hold.nil hs (PH.refl _))
    refine pw_pur rfl (wt_free rfl) (p_fieldAddr fo71_0 e1) (by decide) (fun _ => hS) ?_
    refine pw_ld rfl (wt_free rfl) (by kernel_rfl) (Hold.runs_loadO (α := GPrefix) (β := GAddr) ty41 rfl GPrefix.l_addr (List.Mem.head _)) (by decide) hS ?_
    refine pw_one ?_
    refine ow_call1 rfl (wt_free rfl) fn215 (s_ivalid hs) rfl ?_ (by decide)
    clear hs hS
    rintro _ w ⟨rfl, hs⟩
    refine ⟨fun _ => Hold.cons hs (List.Mem.head _) (Hold.nil hs (PH.refl _)), ?_⟩; have hS := Hold.cons hs (List.Mem.head _) (Hold.nil hs (PH.refl _))
    refine pw_purB rfl (wt_free rfl) (p_moveB rfl) (by decide) (fun _ => hS) (fun hg3 => ?_) (fun hg3 => ?_)
    · try simp only [decide_eq_true_eq, decide_eq_false_iff_not, Bool.not_eq_true', Bool.not_eq_false', beq_iff_eq, bne_iff_ne, beq_eq_false_iff_ne, bne_eq_false_iff_eq] at hg3
      refine pw_pur rfl (wt_yes rfl rfl rfl rfl) (p_fieldAddr fo71_1 e1) (by decide) (fun _ => hS) ?_
      refine pw_ld rfl (wt_yes rfl rfl rfl rfl) (by kernel_rfl) (Hold.runs_loadO (α := GPrefix) (β := Int) ty3 rfl GPrefix.l_bits (List.Mem.head _)) (by decide) hS ?_
      refine pw_purB rfl (wt_yes rfl rfl rfl rfl) (p_geq rfl rfl) (by decide) (fun _ => hS) (fun hg6 => ?_) (fun hg6 => ?_)
      · skip
        refine pw_pur rfl (wt_free rfl) (p_pickT rfl rfl) (by decide) (fun _ => hS) ?_
        refine pw_pur rfl (wt_free rfl) (p_moveB rfl) (by decide) (fun _ => hS) ?_
        refine pw_pur rfl (wt_yes rfl rfl rfl rfl) (p_fieldAddr fo71_1 e1) (by decide) (fun _ => hS) ?_
        refine pw_ld rfl (wt_yes rfl rfl rfl rfl) (by kernel_rfl) (Hold.runs_loadO (α := GPrefix) (β := Int) ty3 rfl GPrefix.l_bits (List.Mem.head _)) (by decide) hS ?_
        refine pw_pur rfl (wt_yes rfl rfl rfl rfl) (p_move e3) (by decide) (fun _ => hS) ?_
        refine pw_purB rfl (wt_yes rfl rfl rfl rfl) (p_leq rfl rfl) (by decide) (fun _ => hS) (fun hg12 => ?_) (fun hg12 => ?_)
        · skip
          refine pw_pur rfl (wt_free rfl) (p_pickT rfl rfl) (by decide) (fun _ => hS) ?_
          refine pw_pur rfl (wt_free rfl) (p_moveB rfl) (by decide) (fun _ => hS) ?_
          refine pw_pur rfl (wt_yes rfl rfl rfl rfl) (p_fieldAddr fo71_0 e1) (by decide) (fun _ => hS) ?_
          refine pw_ld rfl (wt_yes rfl rfl rfl rfl) (by kernel_rfl) (Hold.runs_loadO (α := GPrefix) (β := GAddr) ty41 rfl GPrefix.l_addr (List.Mem.head _)) (by decide) hS ?_
          refine pw_pur rfl (wt_yes rfl rfl rfl rfl) (p_fieldAddr fo71_1 e1) (by decide) (fun _ => hS) ?_
          refine pw_ld rfl (wt_yes rfl rfl rfl rfl) (by kernel_rfl) (Hold.runs_loadO (α := GPrefix) (β := Int) ty3 rfl GPrefix.l_bits (List.Mem.head _)) (by decide) hS ?_
          refine pw_pur rfl (wt_yes rfl rfl rfl rfl) (p_fieldAddr fo71_0 e1) (by decide) (fun _ => hS) ?_
          refine pw_ld rfl (wt_yes rfl rfl rfl rfl) (by kernel_rfl) (Hold.runs_loadO (α := GPrefix) (β := GAddr) ty41 rfl GPrefix.l_addr (List.Mem.head _)) (by decide) hS ?_
          refine pw_one ?_
          refine ow_call2 rfl (wt_yes rfl rfl rfl rfl) fn216 (s_icut hs (by have h1 := of_decide_eq_true hg6; have h2 := of_decide_eq_true hg12; split at h2 <;> omega)) rfl rfl ?_ (by decide)
          clear hs hS
          rintro _ w ⟨rfl, hs⟩
          refine ⟨fun _ => Hold.cons hs (List.Mem.head _) (Hold.nil hs (PH.refl _)), ?_⟩; have hS := Hold.cons hs (List.Mem.head _) (Hold.nil hs (PH.refl _))
          refine pw_pur rfl (wt_yes rfl rfl rfl rfl) (p_eqlS eq41 rfl rfl) (by decide) (fun h => absurd h (by decide)) ?_
          refine pw_pur rfl (wt_free rfl) (p_pickT rfl rfl) (by decide) (fun h => absurd h (by decide)) ?_
          refine pw_pur rfl (wt_free rfl) (p_assignB rfl) (by decide) (fun h => absurd h (by decide)) ?_
          refine pw_done ?_
          refine cw_ret ?_
          repeat (with_reducible first | refine tf_ret ?_ | refine ib_ret ?_)
          refine fin1 (fn := Tryz.f153) rfl (rv_tmpB rfl) ?_
          first
          | exact ⟨congrArg Value.bool ((if_pos hg3).trans ((if_pos (of_decide_eq_true hg6)).trans (if_pos (of_decide_eq_true hg12)))).symm, hs.drop1⟩
          | exact ⟨congrArg Value.bool ((if_pos hg3).trans ((if_pos (of_decide_eq_true hg6)).trans (if_neg (of_decide_eq_false hg12)))).symm, hs.drop1⟩
          | exact ⟨congrArg Value.bool ((if_pos hg3).trans (if_neg (of_decide_eq_false hg6))).symm, hs.drop1⟩
          | exact ⟨congrArg Value.bool (if_neg (ne_true_of_eq_false hg3)).symm, hs.drop1⟩
        · skip
          refine pw_pur rfl (wt_free rfl) (p_pickT rfl rfl) (by decide) (fun _ => hS) ?_
          refine pw_pur rfl (wt_free rfl) (p_moveB rfl) (by decide) (fun _ => hS) ?_
          refine pw_pass rfl (wt_no rfl rfl rfl rfl rfl) (by decide) (fun _ => hS) ?_
          refine pw_pass rfl (wt_no rfl rfl rfl rfl rfl) (by decide) (fun _ => hS) ?_
          refine pw_pass rfl (wt_no rfl rfl rfl rfl rfl) (by decide) (fun _ => hS) ?_
          refine pw_pass rfl (wt_no rfl rfl rfl rfl rfl) (by decide) (fun _ => hS) ?_
          refine pw_pass rfl (wt_no rfl rfl rfl rfl rfl) (by decide) (fun _ => hS) ?_
          refine pw_pass rfl (wt_no rfl rfl rfl rfl rfl) (by decide) (fun _ => hS) ?_
          refine pw_one ?_
          refine ow_pass rfl (wt_no rfl rfl rfl rfl rfl) (by decide) (fun _ => hS) ?_
          refine pw_pass rfl (wt_no rfl rfl rfl rfl rfl) (by decide) (fun h => absurd h (by decide)) ?_
          refine pw_pur rfl (wt_free rfl) (p_pickF rfl rfl) (by decide) (fun h => absurd h (by decide)) ?_
          refine pw_pur rfl (wt_free rfl) (p_assignB rfl) (by decide) (fun h => absurd h (by decide)) ?_
          refine pw_done ?_
          refine cw_ret ?_
          repeat (with_reducible first | refine tf_ret ?_ | refine ib_ret ?_)
          refine fin1 (fn := Tryz.f153) rfl (rv_tmpB rfl) ?_
          first
          | exact ⟨congrArg Value.bool ((if_pos hg3).trans ((if_pos (of_decide_eq_true hg6)).trans (if_pos (of_decide_eq_true hg12)))).symm, hs.drop1⟩
          | exact ⟨congrArg Value.bool ((if_pos hg3).trans ((if_pos (of_decide_eq_true hg6)).trans (if_neg (of_decide_eq_false hg12)))).symm, hs.drop1⟩
          | exact ⟨congrArg Value.bool ((if_pos hg3).trans (if_neg (of_decide_eq_false hg6))).symm, hs.drop1⟩
          | exact ⟨congrArg Value.bool (if_neg (ne_true_of_eq_false hg3)).symm, hs.drop1⟩
      · skip
        refine pw_pur rfl (wt_free rfl) (p_pickT rfl rfl) (by decide) (fun _ => hS) ?_
        refine pw_pur rfl (wt_free rfl) (p_moveB rfl) (by decide) (fun _ => hS) ?_
        refine pw_pass rfl (wt_no rfl rfl rfl rfl rfl) (by decide) (fun _ => hS) ?_
        refine pw_pass rfl (wt_no rfl rfl rfl rfl rfl) (by decide) (fun _ => hS) ?_
        refine pw_pass rfl (wt_no rfl rfl rfl rfl rfl) (by decide) (fun _ => hS) ?_
        refine pw_pass rfl (wt_no rfl rfl rfl rfl rfl) (by decide) (fun _ => hS) ?_
        refine pw_pur rfl (wt_free rfl) (p_pickF rfl rfl) (by decide) (fun _ => hS) ?_
        refine pw_pur rfl (wt_free rfl) (p_moveB rfl) (by decide) (fun _ => hS) ?_
        refine pw_pass rfl (wt_no rfl rfl rfl rfl rfl) (by decide) (fun _ => hS) ?_
        refine pw_pass rfl (wt_no rfl rfl rfl rfl rfl) (by decide) (fun _ => hS) ?_
        refine pw_pass rfl (wt_no rfl rfl rfl rfl rfl) (by decide) (fun _ => hS) ?_
        refine pw_pass rfl (wt_no rfl rfl rfl rfl rfl) (by decide) (fun _ => hS) ?_
        refine pw_pass rfl (wt_no rfl rfl rfl rfl rfl) (by decide) (fun _ => hS) ?_
        refine pw_pass rfl (wt_no rfl rfl rfl rfl rfl) (by decide) (fun _ => hS) ?_
        refine pw_one ?_
        refine ow_pass rfl (wt_no rfl rfl rfl rfl rfl) (by decide) (fun _ => hS) ?_
        refine pw_pass rfl (wt_no rfl rfl rfl rfl rfl) (by decide) (fun h => absurd h (by decide)) ?_
        refine pw_pur rfl (wt_free rfl) (p_pickF rfl rfl) (by decide) (fun h => absurd h (by decide)) ?_
        refine pw_pur rfl (wt_free rfl) (p_assignB rfl) (by decide) (fun h => absurd h (by decide)) ?_
        refine pw_done ?_
        refine cw_ret ?_
        repeat (with_reducible first | refine tf_ret ?_ | refine ib_ret ?_)
        refine fin1 (fn := Tryz.f153) rfl (rv_tmpB rfl) ?_
        first
        | exact ⟨congrArg Value.bool ((if_pos hg3).trans ((if_pos (of_decide_eq_true hg6)).trans (if_pos (of_decide_eq_true hg12)))).symm, hs.drop1⟩
        | exact ⟨congrArg Value.bool ((if_pos hg3).trans ((if_pos (of_decide_eq_true hg6)).trans (if_neg (of_decide_eq_false hg12)))).symm, hs.drop1⟩
        | exact ⟨congrArg Value.bool ((if_pos hg3).trans (if_neg (of_decide_eq_false hg6))).symm, hs.drop1⟩
        | exact ⟨congrArg Value.bool (if_neg (ne_true_of_eq_false hg3)).symm, hs.drop1⟩
    · try simp only [decide_eq_true_eq, decide_eq_false_iff_not, Bool.not_eq_true', Bool.not_eq_false', beq_iff_eq, bne_iff_ne, beq_eq_false_iff_ne, bne_eq_false_iff_eq] at hg3
      refine pw_pass rfl (wt_no rfl rfl rfl rfl rfl) (by decide) (fun _ => hS) ?_
      refine pw_pass rfl (wt_no rfl rfl rfl rfl rfl) (by decide) (fun _ => hS) ?_
      refine pw_pass rfl (wt_no rfl rfl rfl rfl rfl) (by decide) (fun _ => hS) ?_
      refine pw_pur rfl (wt_free rfl) (p_pickF rfl rfl) (by decide) (fun _ => hS) ?_
      refine pw_pur rfl (wt_free rfl) (p_moveB rfl) (by decide) (fun _ => hS) ?_
      refine pw_pass rfl (wt_no rfl rfl rfl rfl rfl) (by decide) (fun _ => hS) ?_
      refine pw_pass rfl (wt_no rfl rfl rfl rfl rfl) (by decide) (fun _ => hS) ?_
      refine pw_pass rfl (wt_no rfl rfl rfl rfl rfl) (by decide) (fun _ => hS) ?_
      refine pw_pass rfl (wt_no rfl rfl rfl rfl rfl) (by decide) (fun _ => hS) ?_
      refine pw_pur rfl (wt_free rfl) (p_pickF rfl rfl) (by decide) (fun _ => hS) ?_
      refine pw_pur rfl (wt_free rfl) (p_moveB rfl) (by decide) (fun _ => hS) ?_
      refine pw_pass rfl (wt_no rfl rfl rfl rfl rfl) (by decide) (fun _ => hS) ?_
      refine pw_pass rfl (wt_no rfl rfl rfl rfl rfl) (by decide) (fun _ => hS) ?_
      refine pw_pass rfl (wt_no rfl rfl rfl rfl rfl) (by decide) (fun _ => hS) ?_
      refine pw_pass rfl (wt_no rfl rfl rfl rfl rfl) (by decide) (fun _ => hS) ?_
      refine pw_pass rfl (wt_no rfl rfl rfl rfl rfl) (by decide) (fun _ => hS) ?_
      refine pw_pass rfl (wt_no rfl rfl rfl rfl rfl) (by decide) (fun _ => hS) ?_
      refine pw_one ?_
      refine ow_pass rfl (wt_no rfl rfl rfl rfl rfl) (by decide) (fun _ => hS) ?_
      refine pw_pass rfl (wt_no rfl rfl rfl rfl rfl) (by decide) (fun h => absurd h (by decide)) ?_
      refine pw_pur rfl (wt_free rfl) (p_pickF rfl rfl) (by decide) (fun h => absurd h (by decide)) ?_
      refine pw_pur rfl (wt_free rfl) (p_assignB rfl) (by decide) (fun h => absurd h (by decide)) ?_
      refine pw_done ?_
      refine cw_ret ?_
      repeat (with_reducible first | refine tf_ret ?_ | refine ib_ret ?_)
      refine fin1 (fn := Tryz.f153) rfl (rv_tmpB rfl) ?_
      first
      | exact ⟨congrArg Value.bool ((if_pos hg3).trans ((if_pos (of_decide_eq_true hg6)).trans (if_pos (of_decide_eq_true hg12)))).symm, hs.drop1⟩
      | exact ⟨congrArg Value.bool ((if_pos hg3).trans ((if_pos (of_decide_eq_true hg6)).trans (if_neg (of_decide_eq_false hg12)))).symm, hs.drop1⟩
      | exact ⟨congrArg Value.bool ((if_pos hg3).trans (if_neg (of_decide_eq_false hg6))).symm, hs.drop1⟩
      | exact ⟨congrArg Value.bool (if_neg (ne_true_of_eq_false hg3)).symm, hs.drop1⟩
end Go.Bur
namespace Go.Bur
open Go Go.RowKit Go.Proofs
set_option maxHeartbeats 4000000
variable {W0 : World} {V : PH} {w : World} {L : List (Nat × Obj)}
theorem s_parseprefix4 {s t l : Str} {b : Bool} {a : GAddr} {n : Int} (hs : St W0 V w L) (hlen : s.length < 1000000) (hc : cutB 47 s = (t, l, b)) (h4 : (splitB 46 t).length = 4) (htl : t.length < 1000000) (ha : pa4 (splitB 46 t) 0 GAddr.zero = some a) (hn : decP l 128 = (n, true)) (hv : iValidP ⟨a, n⟩ = true) :
    Calls Tryz.prog 98 #[vs s] w (okR fun v w' => v = .tuple #[val (⟨a, n⟩ : GPrefix), vi 0] ∧ St W0 V w' L) := by
  refine fn_enter (n := 44) Tryz.func98 rfl rfl rfl ?_
  intro f hf
  have e0 := hf 0
  simp only [Array.getD_eq_getD_getElem?, List.getElem?_toArray, List.getElem?_cons_zero, List.getElem?_cons_succ, Option.getD_some] at e0
  clear hf
  refine cw_seq (cw_region ?_)
  refine l_alloc z71 hs (by decide) ?_; clear hs; intro b2 w hs
  refine l_pur (p_assignC) (by decide) ?_
  refine lw_nil ?_
  refine cw_seq (cw_region ?_)
  refine l_pur (p_move e0) (by decide) ?_
  refine l_call2 fn152 (s_cut hs hlen) rfl rfl ?_ (by decide)
  clear hs
  rintro _ w ⟨rfl, hs⟩
  rw [hc]
  refine l_pur (p_moveT rfl) (by decide) ?_
  refine l_pur (p_extract rfl rfl) (by decide) ?_
  refine l_pur (p_extract rfl rfl) (by decide) ?_
  refine l_pur (p_extract rfl rfl) (by decide) ?_
  refine l_pur (p_assignS rfl) (by decide) ?_
  refine l_pur (p_assignS rfl) (by decide) ?_
  refine l_pur (p_assignB rfl) (by decide) ?_
  refine lw_nil ?_
  refine cw_seq (cw_region ?_)
  refine l_pur (p_moveS rfl) (by decide) ?_
  refine l_call1 fn144 (s_parseaddr4 hs htl h4) rfl ?_ (by decide)
  clear hs
  rintro _ w ⟨rfl, hs⟩
  rw [ha]
  refine l_pur (p_moveT rfl) (by decide) ?_
  refine l_pur (p_extract rfl rfl) (by decide) ?_
  refine l_pur (p_extract rfl rfl) (by decide) ?_
  refine l_alloc z41 hs (by decide) ?_; clear hs; intro b7 w hs
  refine l_store0 (α := GAddr) (β := GAddr) ty41 rfl rfl (Lens.id GAddr) hs ?_; clear hs; intro w hs
  refine l_pur (p_assignI rfl) (by decide) ?_
  refine lw_nil ?_
  refine cw_seq (cw_region ?_)
  refine l_pur (p_moveS rfl) (by decide) ?_
  refine l_call2 fn141 (s_decimalp hs) rfl rfl ?_ (by decide)
  clear hs
  rintro _ w ⟨rfl, hs⟩
  rw [hn]
  refine l_pur (p_moveT rfl) (by decide) ?_
  refine l_pur (p_extract rfl rfl) (by decide) ?_
  refine l_pur (p_extract rfl rfl) (by decide) ?_
  refine l_pur (p_assignI rfl) (by decide) ?_
  refine l_pur (p_assignB rfl) (by decide) ?_
  refine lw_nil ?_
  refine cw_seq (cw_region ?_)
  refine l_loadO (α := GAddr) (β := GAddr) ty41 rfl (Lens.id GAddr) hs (List.Mem.head _) (by decide) ?_
  refine l_pur (p_moveI rfl) (by decide) ?_
  refine l_pur (p_buildO (α := GPrefix) Tryz.underlying71 (by kernel_rfl) z71 rfl (.cons (β := GAddr) rfl pl71_0 GPrefix.l_addr (.cons (β := Int) rfl pl71_1 GPrefix.l_bits (.nil _)))) (by decide) ?_
  refine l_alloc z71 hs (by decide) ?_; clear hs; intro b11 w hs
  refine l_store0 (α := GPrefix) (β := GPrefix) ty71 rfl rfl (Lens.id GPrefix) hs ?_; clear hs; intro w hs
  refine lw_nil ?_
  refine cw_seq ?_
  refine cw_seq (cw_region ?_)
  refine l_pur (p_moveI rfl) (by decide) ?_
  refine l_purIs (c := false) (p_neq rfl rfl) (by rfl) (by decide) ?_
  refine l_pur (p_moveB rfl) (by decide) ?_
  refine lw_do rfl rfl rfl ?_
  refine l_pur (p_moveB rfl) (by decide) ?_
  refine lw_do rfl rfl rfl ?_
  refine l_purIs (c := false) (p_not rfl) (by rfl) (by decide) ?_
  refine l_pur (p_pickF rfl rfl) (by decide) ?_
  refine l_pur (p_moveB rfl) (by decide) ?_
  refine lw_do rfl rfl rfl ?_
  refine l_loadO (α := GPrefix) (β := GPrefix) ty71 rfl (Lens.id GPrefix) hs (List.Mem.head _) (by decide) ?_
  refine lw_do rfl rfl rfl ?_
  refine l_call1 fn153 (s_iValid hs) rfl ?_ (by decide)
  clear hs; rintro _ w ⟨rfl, hs⟩
  refine lw_do rfl rfl rfl ?_
  refine l_purIs (c := false) (p_not rfl) (by show (!iValidP ⟨a, n⟩) = false; rw [hv]; rfl) (by decide) ?_
  refine l_pur (p_pickF rfl rfl) (by decide) ?_
  refine lw_nil ?_
  refine cw_false rfl ?_
  refine cw_skip ?_
  refine cw_seq (cw_region ?_)
  refine l_loadO (α := GPrefix) (β := GPrefix) ty71 rfl (Lens.id GPrefix) hs (List.Mem.head _) (by decide) ?_
  refine l_store2 (α := GPrefix) (β := GPrefix) ty71 rfl rfl (Lens.id GPrefix) hs ?_; clear hs; intro w hs
  refine l_pur (p_assignC) (by decide) ?_
  refine lw_nil ?_
  refine cw_ret ?_
  repeat (with_reducible first | refine tf_ret ?_ | refine ib_ret ?_)
  refine fin2 (fn := Tryz.f98) rfl (rv_own (α := GPrefix) ty71 rfl (hs.mem (List.Mem.tail _ (List.Mem.tail _ (List.Mem.head _))))) (rv_tmpI rfl) ?_
  exact ⟨rfl, hs.drop1.drop1.drop1⟩
theorem c_allow0 {d : GDaemon} {ws : List Str} {ps : List GPeer} {rs : List GRoute} {ss : List GSlot} {ts : List GTimer} {k : GKey} {t l : Str} {b : Bool} {a : GAddr} {n : Int} (hw : ws.length = 3) (hlen : (ws[2]'(by omega)).length < 1000000)
    (hc : cutB 47 (ws[2]'(by omega)) = (t, l, b)) (h4 : (splitB 46 t).length = 4) (htl : t.length < 1000000) (ha : pa4 (splitB 46 t) 0 GAddr.zero = some a) (hn : decP l 128 = (n, true)) (hv : iValidP ⟨a, n⟩ = true) :
    CmdOk V W0 62 (-1) k d ws ps rs ss ts (fun e _ _ _ => e = 8) := by
  intro V1 w b0 q1 q2 q3 q4 A L1 aw cw hV hA hr hrl hq hql ht htl2 hws hs
  have hgo : Calls Tryz.prog 62 #[ptr b0 0, vi (-1), val k] w (okR fun v w' => v = vi 8 ∧ St W0 V1 w' ((b0, blk 99 (⟨{ d with peers := q1, routes := q2, slots := q3, timers := q4 }, ⟨aw, ws.length, cw⟩, []⟩ : GCall)) :: (A ++ L1))) := by
    refine fn_enter (n := 42) Tryz.func62 rfl rfl rfl ?_
    intro f hf
    have e0 := hf 0
    have e1 := hf 1
    have e2 := hf 2
    simp only [Array.getD_eq_getD_getElem?, List.getElem?_toArray, List.getElem?_cons_zero, List.getElem?_cons_succ, Option.getD_some] at e0 e1 e2
    clear hf
    refine cw_seq (cw_region ?_)
    refine l_box (α := (Vec 32 UInt8)) e2 hs (by decide) ?_; clear hs; intro b5 w hs
    refine l_pur (p_assignC) (by decide) ?_
    refine lw_nil ?_
    refine cw_seq (cw_region ?_)
    refine l_pur (p_move e0) (by decide) ?_
    refine l_pur (p_nilCheck rfl) (by decide) ?_
    refine l_pur (p_fieldAddr fo99_1 rfl) (by decide) ?_
    refine l_loadO (α := GCall) (β := GSl) ty96 rfl GCall.l_words hs (List.Mem.tail _ (List.Mem.head _)) (by decide) ?_
    refine l_indexSlI (α := Str) el96.sl ty9 rfl rfl rfl (by omega) hws (by decide) ?_; intro bb15 oo15 cc15 hb15 ha15
    refine l_loadV (α := Str) ty9 rfl hs hb15 ha15 (by decide) ?_
    refine l_call1 fn98 (s_parseprefix4 (s := ws[Int.toNat 2]'(by show 2 < ws.length; omega)) hs hlen hc h4 htl ha hn hv) rfl ?_ (by decide)
    clear hs
    rintro _ w ⟨rfl, hs⟩
    refine l_pur (p_moveT rfl) (by decide) ?_
    refine l_pur (p_extract rfl rfl) (by decide) ?_
    refine l_pur (p_extract rfl rfl) (by decide) ?_
    refine l_alloc z71 hs (by decide) ?_; clear hs; intro b7 w hs
    refine l_store0 (α := GPrefix) (β := GPrefix) ty71 rfl rfl (Lens.id GPrefix) hs ?_; clear hs; intro w hs
    refine l_pur (p_assignI rfl) (by decide) ?_
    refine lw_nil ?_
    refine cw_seq ?_
    refine cw_seq (cw_region ?_)
    refine l_pur (p_moveI rfl) (by decide) ?_
    refine l_purIs (c := false) (p_neq rfl rfl) (by rfl) (by decide) ?_
    refine lw_nil ?_
    refine cw_false rfl ?_
    refine cw_skip ?_
    refine cw_seq ?_
    refine cw_seq (cw_region ?_)
    refine l_pur (p_move e1) (by decide) ?_
    refine l_purIs (c := true) (p_lss rfl rfl) (by rfl) (by decide) ?_
    refine lw_nil ?_
    refine cw_true rfl ?_
    refine cw_seq (cw_region ?_)
    refine l_pur (p_assignC) (by decide) ?_
    refine lw_nil ?_
    refine cw_ret ?_
    repeat (with_reducible first | refine tf_ret ?_ | refine ib_ret ?_)
    refine fin1 (fn := Tryz.f62) rfl (rv_tmpI rfl) ?_
    exact ⟨rfl, hs.drop1.drop1⟩
  refine hgo.mono ?_
  rintro e w' ⟨v, rfl, rfl, hs2⟩
  exact ⟨_, rfl, 8, _, V1, A, rfl, PH.refl _, rfl, hs2⟩
theorem s_itoa8 (hs : St W0 V w L) : Calls Tryz.prog 69 #[vi 8] w (okR fun v w' => v = vs [56] ∧ St W0 V w' L) := by
  have h1 : ∀ (w : World) (L : List (Nat × Obj)), St W0 V w L → Calls Tryz.prog 278 #[vi 8] w (okR fun v w' => v = vs [56] ∧ St W0 V w' L) := by
    intro w L hs
    refine fn_enter (n := 15) Tryz.func278 rfl rfl rfl ?_
    intro f hf
    have e0 := hf 0
    simp only [Array.getD_eq_getD_getElem?, List.getElem?_toArray, List.getElem?_cons_zero, List.getElem?_cons_succ, Option.getD_some] at e0
    clear hf
    refine cw_seq (cw_region ?_)
    refine l_pur (p_assignC) (by decide) ?_
    refine lw_nil ?_
    refine cw_seq ?_
    refine cw_seq (cw_region ?_)
    refine l_pur (p_move e0) (by decide) ?_
    refine l_purIs (c := true) (p_lss rfl rfl) (by rfl) (by decide) ?_
    refine lw_nil ?_
    refine cw_true rfl ?_
    refine cw_seq (cw_region ?_)
    refine l_pur (p_move e0) (by decide) ?_
    refine l_pur (p_move e0) (by decide) ?_
    refine l_pur (p_add64 rfl rfl (by first | omega | (dsimp only; omega) | (simp; omega))) (by decide) ?_
    refine l_pur (p_sliceStr Tryz.underlying9 rfl (.at_ _ rfl) (.at_ _ rfl) (by decide)) (by decide) ?_
    refine l_pur (p_assignS rfl) (by decide) ?_
    refine lw_nil ?_
    refine cw_ret ?_
    repeat (with_reducible first | refine tf_ret ?_ | refine ib_ret ?_)
    refine fin1 (fn := Tryz.f278) rfl (rv_tmpS rfl) ?_
    exact ⟨rfl, hs⟩
  have h2 : ∀ (w : World) (L : List (Nat × Obj)), St W0 V w L → Calls Tryz.prog 180 #[vi 8, vi 10] w (okR fun v w' => v = vs [56] ∧ St W0 V w' L) := by
    intro w L hs
    refine fn_enter (n := 54) Tryz.func180 rfl rfl rfl ?_
    intro f hf
    have e0 := hf 0
    have e1 := hf 1
    simp only [Array.getD_eq_getD_getElem?, List.getElem?_toArray, List.getElem?_cons_zero, List.getElem?_cons_succ, Option.getD_some] at e0 e1
    clear hf
    refine cw_seq (cw_region ?_)
    refine l_pur (p_assignC) (by decide) ?_
    refine lw_nil ?_
    refine cw_seq ?_
    refine cw_seq (cw_region ?_)
    refine l_pur (p_move e1) (by decide) ?_
    refine l_purIs (c := true) (p_eql rfl rfl) (by rfl) (by decide) ?_
    refine lw_nil ?_
    refine cw_true rfl ?_
    refine cw_seq ?_
    refine cw_seq (cw_region ?_)
    refine l_pur (p_move e0) (by decide) ?_
    refine l_purIs (c := true) (p_leq rfl rfl) (by rfl) (by decide) ?_
    refine l_pur (p_moveB rfl) (by decide) ?_
    refine lw_do rfl rfl rfl ?_
    refine l_pur (p_move e0) (by decide) ?_
    refine lw_do rfl rfl rfl ?_
    refine l_purIs (c := true) (p_lss rfl rfl) (by rfl) (by decide) ?_
    refine l_pur (p_pickT rfl rfl) (by decide) ?_
    refine lw_nil ?_
    refine cw_true rfl ?_
    refine cw_seq (cw_region ?_)
    refine l_pur (p_move e0) (by decide) ?_
    refine l_call1 fn278 (h1 _ _ hs) rfl ?_ (by decide)
    clear hs; rintro _ w ⟨rfl, hs⟩
    refine l_pur (p_assignS rfl) (by decide) ?_
    refine lw_nil ?_
    refine cw_ret ?_
    repeat (with_reducible first | refine tf_ret ?_ | refine ib_ret ?_)
    refine fin1 (fn := Tryz.f180) rfl (rv_tmpS rfl) ?_
    exact ⟨rfl, hs⟩
  have h3 : ∀ (w : World) (L : List (Nat × Obj)), St W0 V w L → Calls Tryz.prog 108 #[vi 8] w (okR fun v w' => v = vs [56] ∧ St W0 V w' L) := by
    intro w L hs
    refine fn_enter (n := 5) Tryz.func108 rfl rfl rfl ?_
    intro f hf
    have e0 := hf 0
    simp only [Array.getD_eq_getD_getElem?, List.getElem?_toArray, List.getElem?_cons_zero, List.getElem?_cons_succ, Option.getD_some] at e0
    clear hf
    refine cw_seq (cw_region ?_)
    refine l_pur (p_assignC) (by decide) ?_
    refine lw_nil ?_
    refine cw_seq (cw_region ?_)
    refine l_pur (p_move e0) (by decide) ?_
    refine l_call2 fn180 (h2 _ _ hs) rfl rfl ?_ (by decide)
    clear hs; rintro _ w ⟨rfl, hs⟩
    refine l_pur (p_assignS rfl) (by decide) ?_
    refine lw_nil ?_
    refine cw_ret ?_
    repeat (with_reducible first | refine tf_ret ?_ | refine ib_ret ?_)
    refine fin1 (fn := Tryz.f108) rfl (rv_tmpS rfl) ?_
    exact ⟨rfl, hs⟩
  refine fn_enter (n := 5) Tryz.func69 rfl rfl rfl ?_
  intro f hf
  have e0 := hf 0
  simp only [Array.getD_eq_getD_getElem?, List.getElem?_toArray, List.getElem?_cons_zero, List.getElem?_cons_succ, Option.getD_some] at e0
  clear hf
  refine cw_seq (cw_region ?_)
  refine l_pur (p_assignC) (by decide) ?_
  refine lw_nil ?_
  refine cw_seq (cw_region ?_)
  refine l_pur (p_move e0) (by decide) ?_
  refine l_call1 fn108 (h3 _ _ hs) rfl ?_ (by decide)
  clear hs; rintro _ w ⟨rfl, hs⟩
  refine l_pur (p_assignS rfl) (by decide) ?_
  refine lw_nil ?_
  refine cw_ret ?_
  repeat (with_reducible first | refine tf_ret ?_ | refine ib_ret ?_)
  refine fin1 (fn := Tryz.f69) rfl (rv_tmpS rfl) ?_
  exact ⟨rfl, hs⟩
def key1 : GKey := (Vector.replicate 32 0 : GKey).set 0 1
def pfxT : Str := [49, 48, 46, 48, 46, 48, 46, 48, 47, 56]
def text0 : Str := ([97, 108, 108, 111, 119, 32] ++ textK key1) ++ ([32, 49, 48, 46, 48, 46, 48, 46, 48, 47, 56] : Str)
def a10 : GAddr := { GAddr.zero with ip := (Vector.replicate 16 0 : Vec 16 UInt8).set 0 10 }
theorem t0_split : splitB 32 text0 = [w_allow, textK key1, pfxT] := by decide +kernel
theorem t0_key : parseKey (textK key1) = some key1 := by decide +kernel
theorem t0_len : text0.length < 1000000 ∧ (textK key1).length < 1000000 := by decide +kernel
theorem t0_cut : cutB 47 pfxT = ([49, 48, 46, 48, 46, 48, 46, 48], [56], true) := by decide +kernel
theorem t0_four : (splitB 46 [49, 48, 46, 48, 46, 48, 46, 48]).length = 4 := by decide +kernel
theorem t0_addr : pa4 (splitB 46 [49, 48, 46, 48, 46, 48, 46, 48]) 0 GAddr.zero = some a10 := by decide +kernel
theorem t0_dec : decP [56] 128 = (8, true) := by decide +kernel
theorem t0_valid : iValidP ⟨a10, 8⟩ = true := by decide +kernel
def d0 : GDaemon := { GDaemon.zero with rules := usualR }
theorem d0_sl (V : PH) : DSl V d0 [] [] [] [] := ⟨.inl rfl, rfl, .inl rfl, rfl, .inl rfl, rfl, .inl rfl, rfl, rfl, rfl⟩
theorem s_allow8 (hs : St W0 V w L) : Calls Tryz.prog 6 #[val d0, vs text0] w (okR fun v w' => ∃ V', V ≤ V' ∧ v = .tuple #[val GDaemon.zero, vs [], vi 8] ∧ St W0 V' w' L) := by
  refine (s_apply (ws := [w_allow, textK key1, pfxT]) (cmd := ⟨3, true, .fn 62 []⟩) (fid := 62) (k0 := key1) (i0 := -1) (R := fun e _ _ _ => e = 8) hs (d0_sl V) (fun i h => by simp at h) (by decide) (by decide) (by decide) (by decide) t0_len.1
    t0_split (by decide) rfl rfl rfl fn62 (fun _ => ⟨by decide, t0_key, t0_len.2, rfl⟩) (fun h => by cases h) (c_allow0 rfl (by decide) t0_cut t0_four (by decide) t0_addr t0_dec t0_valid)).mono ?_
  rintro e w' ⟨v, rfl, e, c', V', A', hV', rfl, hv, hs2⟩
  rw [if_neg (by decide)] at hv
  exact ⟨v, rfl, V', hV', hv, hs2.dropL⟩
end Go.Bur
namespace Go.Bur
open Go Go.RowKit Go.Proofs
set_option maxHeartbeats 4000000
variable {W0 : World} {V : PH} {w : World} {L : List (Nat × Obj)}
theorem s_allow8v (hs : St W0 V w L) : Calls Tryz.prog 6 #[val d0, vs text0] w (okR fun v w' => v = .tuple #[val GDaemon.zero, vs [], vi 8] ∧ St W0 V w' L) := by
  refine (s_allow8 hs).mono ?_
  rintro e w' ⟨v, rfl, V', hV', hv, hs2⟩
  exact ⟨v, rfl, hv, hs2.weaken hV'⟩
def ev0 : GEvent := { GEvent.zero with kind := 5, text := text0 }
def err8 : Str := [101, 114, 114, 111, 114, 32, 56, 10]
def out8 : GOutput := { GOutput.zero with kind := 3, text := err8 }
theorem s_step8 (hs : St W0 V w L) : Calls Tryz.prog 29 #[val d0, val ev0] w (okR fun v w' => ∃ (x : GDaemon) (b : Nat), v = .tuple #[val x, .slice (some ⟨b, 0, none⟩) 1 1] ∧ St W0 V w' ((b, arr 115 [out8] []) :: L)) := by
  refine fn_enter (n := 37) Tryz.func29 rfl rfl rfl ?_
  intro f hf
  have e0 := hf 0
  have e1 := hf 1
  simp only [Array.getD_eq_getD_getElem?, List.getElem?_toArray, List.getElem?_cons_zero, List.getElem?_cons_succ, Option.getD_some] at e0 e1
  clear hf
  refine cw_seq (cw_region ?_)
  refine l_box (α := GDaemon) e0 hs (by decide) ?_; clear hs; intro b2 w hs
  refine l_box (α := GEvent) e1 hs (by decide) ?_; clear hs; intro b3 w hs
  refine l_alloc z35 hs (by decide) ?_; clear hs; intro b4 w hs
  refine l_pur (p_assignC) (by decide) ?_
  refine lw_nil ?_
  refine cw_seq ?_
  refine cw_seq (cw_region ?_)
  refine l_pur (p_fieldAddr fo113_0 rfl) (by decide) ?_
  refine l_loadO (α := GEvent) (β := Int) ty3 rfl GEvent.l_kind hs (List.Mem.tail _ (List.Mem.head _)) (by decide) ?_
  refine l_purIs (c := false) (p_neq rfl rfl) (by rfl) (by decide) ?_
  refine lw_nil ?_
  refine cw_false rfl ?_
  refine cw_skip ?_
  refine cw_seq (cw_region ?_)
  refine l_loadO (α := GDaemon) (β := GDaemon) ty35 rfl (Lens.id GDaemon) hs (List.Mem.tail _ (List.Mem.tail _ (List.Mem.head _))) (by decide) ?_
  refine l_pur (p_fieldAddr fo113_4 rfl) (by decide) ?_
  refine l_loadO (α := GEvent) (β := Str) ty9 rfl GEvent.l_text hs (List.Mem.tail _ (List.Mem.head _)) (by decide) ?_
  refine l_call2 fn6 (s_allow8v hs) rfl rfl ?_ (by decide)
  clear hs
  rintro _ w ⟨rfl, hs⟩
  refine l_pur (p_moveT rfl) (by decide) ?_
  refine l_pur (p_extract rfl rfl) (by decide) ?_
  refine l_pur (p_extract rfl rfl) (by decide) ?_
  refine l_pur (p_extract rfl rfl) (by decide) ?_
  refine l_alloc z35 hs (by decide) ?_; clear hs; intro b6 w hs
  refine l_store0 (α := GDaemon) (β := GDaemon) ty35 rfl rfl (Lens.id GDaemon) hs ?_; clear hs; intro w hs
  refine l_pur (p_assignS rfl) (by decide) ?_
  refine l_pur (p_assignI rfl) (by decide) ?_
  refine lw_nil ?_
  refine cw_seq ?_
  refine cw_seq (cw_region ?_)
  refine l_pur (p_moveI rfl) (by decide) ?_
  refine l_purIs (c := true) (p_neq rfl rfl) (by rfl) (by decide) ?_
  refine lw_nil ?_
  refine cw_true rfl ?_
  refine cw_region ?_
  refine l_loadO (α := GDaemon) (β := GDaemon) ty35 rfl (Lens.id GDaemon) hs (List.Mem.tail _ (List.Mem.tail _ (List.Mem.tail _ (List.Mem.head _)))) (by decide) ?_
  refine l_call1 fn23 (s_owndaemon hs (d0_sl V) (fun i h => by simp at h) (by decide) (by decide) (by decide) (by decide)) rfl ?_ (by decide)
  clear hs
  rintro _ w ⟨V1, q1, q2, q3, q4, A, hV1, rfl, -, -, -, -, -, -, -, hs⟩
  replace hs := hs.dropL.weaken hV1
  refine l_pur (p_moveI rfl) (by decide) ?_
  refine l_call1 fn69 (s_itoa8 hs) rfl ?_ (by decide)
  clear hs; rintro _ w ⟨rfl, hs⟩
  refine l_pur (p_addStr rfl rfl (by first | omega | (dsimp only; omega) | (simp <;> omega))) (by decide) ?_
  refine l_pur (p_addStr rfl rfl (by first | omega | (dsimp only; omega) | (simp <;> omega))) (by decide) ?_
  refine l_store0 (α := GDaemon) (β := GDaemon) ty35 rfl rfl (Lens.id GDaemon) hs ?_; clear hs; intro w hs
  refine l_pur (p_assignS rfl) (by decide) ?_
  refine lw_nil ?_
  refine cw_seq (cw_region ?_)
  refine l_loadO (α := GDaemon) (β := GDaemon) ty35 rfl (Lens.id GDaemon) hs (List.Mem.head _) (by decide) ?_
  refine l_pur (p_moveS rfl) (by decide) ?_
  refine l_pur (p_buildO (α := GOutput) Tryz.underlying115 (by kernel_rfl) z115 rfl (.cons (β := Int) rfl pl115_0 GOutput.l_kind (.cons (β := Str) rfl pl115_6 GOutput.l_text (.nil _)))) (by decide) ?_
  refine l_buildSlice1 (α := GOutput) el109 z115 rfl (by decide) hs (by decide) ?_; clear hs; intro b36 w hs
  refine l_store2 (α := GDaemon) (β := GDaemon) ty35 rfl rfl (Lens.id GDaemon) hs ?_; clear hs; intro w hs
  refine l_pur (p_assignL rfl) (by decide) ?_
  refine lw_nil ?_
  refine cw_ret ?_
  repeat (with_reducible first | refine tf_ret ?_ | refine ib_ret ?_)
  refine fin2 (fn := Tryz.f29) rfl (rv_own (α := GDaemon) ty35 rfl (hs.mem (List.Mem.tail _ (List.Mem.tail _ (List.Mem.head _))))) (rv_tmpL rfl) ?_
  refine ⟨_, _, rfl, hs.sublist ?_⟩
  repeat (first | exact List.Sublist.refl _ | apply List.Sublist.cons_cons | apply List.Sublist.cons)
theorem s_begun (hs : St W0 V w L) : Calls Tryz.prog 9 #[] w (okR fun v w' => v = .bool true ∧ St W0 V w' L) := by
  refine fn_enter (n := 50) Tryz.func9 rfl rfl rfl ?_
  intro f hf
  clear hf
  refine cw_seq (cw_region ?_)
  refine l_pur (p_assignC) (by decide) ?_
  refine lw_nil ?_
  refine cw_seq (cw_region ?_)
  refine l_call0 fn28 (s_usual hs)  ?_ (by decide)
  clear hs; rintro _ w ⟨rfl, hs⟩
  refine l_pur (p_buildO (α := GDaemon) Tryz.underlying35 (by kernel_rfl) z35 rfl (.cons (β := GRules) rfl pl35_0 GDaemon.l_rules (.nil _))) (by decide) ?_
  refine l_alloc z35 hs (by decide) ?_; clear hs; intro b1 w hs
  refine l_store0 (α := GDaemon) (β := GDaemon) ty35 rfl rfl (Lens.id GDaemon) hs ?_; clear hs; intro w hs
  refine lw_nil ?_
  refine cw_cut (M := fun f w => ∃ (b2 : Nat), f 1 = ptr b1 0 ∧ f 4 = vi 8 ∧ St W0 V w ((b2, blk 35 GDaemon.zero) :: (b1, blk 35 d0) :: L)) ?_ ?_
  · have htl : (textK ((Vector.replicate 32 0 : GKey).set 0 1)).length < 1000000 := t0_len.2
    have hS := Hold.cons hs (List.Mem.head _) (Hold.nil hs (PH.refl _))
    refine cw_planH (.take 0 (.take 1 (.two 2 (.take 3 (.take 4 (.two 5 (.take 6 (.take 7 (.take 8 (.take 9 (.one 10 (.one 11 (.take 12 (.take 13 .done)))))))) 10 (.one 5 (.take 6 (.take 7 (.take 8 (.take 9 (.one 11 (.take 12 (.take 13 .done))))))))))) 10 (.one 2 (.take 3 (.take 4 (.one 5 (.take 6 (.take 7 (.take 8 (.take 9 (.one 11 (.take 12 (.take 13 .done)))))))))))))) 1055 hmix (by kernel_rfl) (fun _ _ _ h => h) hs hS ?_
    clear hS; clear hs; intro w hs; have hS := Hold.cons hs (List.Mem.head _) (Hold.nil hs (PH.refl _))
    refine pw_ld rfl (wt_free rfl) (by kernel_rfl) (Hold.runs_loadO (α := GDaemon) (β := GDaemon) ty35 rfl (Lens.id GDaemon) (List.Mem.head _)) (by decide) hS ?_
    refine pw_pur rfl (wt_free rfl) (p_buildA (α := UInt8) Tryz.underlying27 ty5 z27 (.cons (k := 0) (y := (1 : UInt8)) (by decide) rfl (.nil _))) (by decide) (fun _ => hS) ?_
    refine pw_two ?_ ?_
    · refine ow_call1 rfl (wt_free rfl) fn7 (s_text01 hs) rfl ?_ (by decide)
      clear hs hS
      rintro _ w ⟨rfl, hs⟩
      refine ⟨fun _ => Hold.cons hs (List.Mem.head _) (Hold.nil hs (PH.refl _)), ?_⟩; have hS := Hold.cons hs (List.Mem.head _) (Hold.nil hs (PH.refl _))
      refine pw_pur rfl (wt_free rfl) (p_addStr rfl rfl (by first | omega | (dsimp only; omega) | (simp <;> omega))) (by decide) (fun _ => hS) ?_
      refine pw_pur rfl (wt_free rfl) (p_addStr rfl rfl (by first | omega | (dsimp only; omega) | (simp <;> omega))) (by decide) (fun _ => hS) ?_
      refine pw_two ?_ ?_
      · refine ow_call2 rfl (wt_free rfl) fn6 (s_allow8v hs) rfl rfl ?_ (by decide)
        clear hs hS
        rintro _ w ⟨rfl, hs⟩
        refine ⟨fun h => absurd h (by decide), ?_⟩; have hS := True.intro
        refine pw_pur rfl (wt_free rfl) (p_moveT rfl) (by decide) (fun h => absurd h (by decide)) ?_
        refine pw_pur rfl (wt_free rfl) (p_extract rfl rfl) (by decide) (fun h => absurd h (by decide)) ?_
        refine pw_pur rfl (wt_free rfl) (p_extract rfl rfl) (by decide) (fun h => absurd h (by decide)) ?_
        refine pw_pur rfl (wt_free rfl) (p_extract rfl rfl) (by decide) (fun h => absurd h (by decide)) ?_
        refine pw_one ?_
        refine ow_alloc rfl (wt_free rfl) z35 hs (by decide) ?_; clear hs; intro b2 w hs
        refine ⟨fun _ => Hold.cons hs (List.Mem.tail _ (List.Mem.head _)) (Hold.nil hs (PH.refl _)), ?_⟩; have hS := Hold.cons hs (List.Mem.tail _ (List.Mem.head _)) (Hold.nil hs (PH.refl _))
        refine pw_one ?_
        refine ow_store0 (α := GDaemon) (β := GDaemon) rfl (wt_free rfl) ty35 rfl rfl (Lens.id GDaemon) hs ?_; clear hs; intro w hs
        refine ⟨fun h => absurd h (by decide), ?_⟩; have hS := True.intro
        refine pw_pur rfl (wt_free rfl) (p_assignS rfl) (by decide) (fun h => absurd h (by decide)) ?_
        refine pw_pur rfl (wt_free rfl) (p_assignI rfl) (by decide) (fun h => absurd h (by decide)) ?_
        refine pw_done ?_
        exact ⟨_, rfl, rfl, hs⟩
      · refine ow_alloc rfl (wt_free rfl) z35 hs (by decide) ?_; clear hs; intro b2 w hs
        refine ⟨fun _ => Hold.cons hs (List.Mem.tail _ (List.Mem.head _)) (Hold.nil hs (PH.refl _)), ?_⟩; have hS := Hold.cons hs (List.Mem.tail _ (List.Mem.head _)) (Hold.nil hs (PH.refl _))
        refine pw_one ?_
        refine ow_call2 rfl (wt_free rfl) fn6 (s_allow8v hs) rfl rfl ?_ (by decide)
        clear hs hS
        rintro _ w ⟨rfl, hs⟩
        refine ⟨fun h => absurd h (by decide), ?_⟩; have hS := True.intro
        refine pw_pur rfl (wt_free rfl) (p_moveT rfl) (by decide) (fun h => absurd h (by decide)) ?_
        refine pw_pur rfl (wt_free rfl) (p_extract rfl rfl) (by decide) (fun h => absurd h (by decide)) ?_
        refine pw_pur rfl (wt_free rfl) (p_extract rfl rfl) (by decide) (fun h => absurd h (by decide)) ?_
        refine pw_pur rfl (wt_free rfl) (p_extract rfl rfl) (by decide) (fun h => absurd h (by decide)) ?_
        refine pw_one ?_
        refine ow_store0 (α := GDaemon) (β := GDaemon) rfl (wt_free rfl) ty35 rfl rfl (Lens.id GDaemon) hs ?_; clear hs; intro w hs
        refine ⟨fun h => absurd h (by decide), ?_⟩; have hS := True.intro
        refine pw_pur rfl (wt_free rfl) (p_assignS rfl) (by decide) (fun h => absurd h (by decide)) ?_
        refine pw_pur rfl (wt_free rfl) (p_assignI rfl) (by decide) (fun h => absurd h (by decide)) ?_
        refine pw_done ?_
        exact ⟨_, rfl, rfl, hs⟩
    · refine ow_alloc rfl (wt_free rfl) z35 hs (by decide) ?_; clear hs; intro b2 w hs
      refine ⟨fun _ => Hold.cons hs (List.Mem.tail _ (List.Mem.head _)) (Hold.nil hs (PH.refl _)), ?_⟩; have hS := Hold.cons hs (List.Mem.tail _ (List.Mem.head _)) (Hold.nil hs (PH.refl _))
      refine pw_one ?_
      refine ow_call1 rfl (wt_free rfl) fn7 (s_text01 hs) rfl ?_ (by decide)
      clear hs hS
      rintro _ w ⟨rfl, hs⟩
      refine ⟨fun _ => Hold.cons hs (List.Mem.tail _ (List.Mem.head _)) (Hold.nil hs (PH.refl _)), ?_⟩; have hS := Hold.cons hs (List.Mem.tail _ (List.Mem.head _)) (Hold.nil hs (PH.refl _))
      refine pw_pur rfl (wt_free rfl) (p_addStr rfl rfl (by first | omega | (dsimp only; omega) | (simp <;> omega))) (by decide) (fun _ => hS) ?_
      refine pw_pur rfl (wt_free rfl) (p_addStr rfl rfl (by first | omega | (dsimp only; omega) | (simp <;> omega))) (by decide) (fun _ => hS) ?_
      refine pw_one ?_
      refine ow_call2 rfl (wt_free rfl) fn6 (s_allow8v hs) rfl rfl ?_ (by decide)
      clear hs hS
      rintro _ w ⟨rfl, hs⟩
      refine ⟨fun h => absurd h (by decide), ?_⟩; have hS := True.intro
      refine pw_pur rfl (wt_free rfl) (p_moveT rfl) (by decide) (fun h => absurd h (by decide)) ?_
      refine pw_pur rfl (wt_free rfl) (p_extract rfl rfl) (by decide) (fun h => absurd h (by decide)) ?_
      refine pw_pur rfl (wt_free rfl) (p_extract rfl rfl) (by decide) (fun h => absurd h (by decide)) ?_
      refine pw_pur rfl (wt_free rfl) (p_extract rfl rfl) (by decide) (fun h => absurd h (by decide)) ?_
      refine pw_one ?_
      refine ow_store0 (α := GDaemon) (β := GDaemon) rfl (wt_free rfl) ty35 rfl rfl (Lens.id GDaemon) hs ?_; clear hs; intro w hs
      refine ⟨fun h => absurd h (by decide), ?_⟩; have hS := True.intro
      refine pw_pur rfl (wt_free rfl) (p_assignS rfl) (by decide) (fun h => absurd h (by decide)) ?_
      refine pw_pur rfl (wt_free rfl) (p_assignI rfl) (by decide) (fun h => absurd h (by decide)) ?_
      refine pw_done ?_
      exact ⟨_, rfl, rfl, hs⟩
  · clear hs
    intro f w hI
    obtain ⟨b2, e1, e4, hs⟩ := hI
    refine cw_cut (M := fun f w => ∃ (b : Nat), f 4 = vi 8 ∧ f 6 = .slice (some ⟨b, 0, none⟩) 1 1 ∧ St W0 V w ((b, arr 115 [out8] []) :: L)) ?_ ?_
    · have htl : (textK ((Vector.replicate 32 0 : GKey).set 0 1)).length < 1000000 := t0_len.2
      have hS := Hold.cons hs (List.Mem.tail _ (List.Mem.head _)) (Hold.nil hs (PH.refl _))
      refine cw_planH (.take 0 (.take 1 (.two 2 (.take 3 (.take 4 (.take 5 (.two 6 (.take 7 (.take 8 (.take 9 (.one 10 (.one 11 (.take 12 .done)))))) 10 (.one 6 (.take 7 (.take 8 (.take 9 (.one 11 (.take 12 .done)))))))))) 10 (.one 2 (.take 3 (.take 4 (.take 5 (.one 6 (.take 7 (.take 8 (.take 9 (.one 11 (.take 12 .done))))))))))))) 1087 hmix (by kernel_rfl) (fun _ _ _ h => h) hs hS ?_
      clear hS; clear hs; intro w hs; have hS := Hold.cons hs (List.Mem.tail _ (List.Mem.head _)) (Hold.nil hs (PH.refl _))
      refine pw_ld rfl (wt_free rfl) (by kernel_rfl) (Hold.runs_loadO (α := GDaemon) (β := GDaemon) ty35 e1 (Lens.id GDaemon) (List.Mem.head _)) (by decide) hS ?_
      refine pw_pur rfl (wt_free rfl) (p_buildA (α := UInt8) Tryz.underlying27 ty5 z27 (.cons (k := 0) (y := (1 : UInt8)) (by decide) rfl (.nil _))) (by decide) (fun _ => hS) ?_
      refine pw_two ?_ ?_
      · refine ow_call1 rfl (wt_free rfl) fn7 (s_text01 hs) rfl ?_ (by decide)
        clear hs hS
        rintro _ w ⟨rfl, hs⟩
        refine ⟨fun _ => Hold.cons hs (List.Mem.tail _ (List.Mem.head _)) (Hold.nil hs (PH.refl _)), ?_⟩; have hS := Hold.cons hs (List.Mem.tail _ (List.Mem.head _)) (Hold.nil hs (PH.refl _))
        refine pw_pur rfl (wt_free rfl) (p_addStr rfl rfl (by first | omega | (dsimp only; omega) | (simp <;> omega))) (by decide) (fun _ => hS) ?_
        refine pw_pur rfl (wt_free rfl) (p_addStr rfl rfl (by first | omega | (dsimp only; omega) | (simp <;> omega))) (by decide) (fun _ => hS) ?_
        refine pw_pur rfl (wt_free rfl) (p_buildO (α := GEvent) Tryz.underlying113 (by kernel_rfl) z113 rfl (.cons (β := Int) rfl pl113_0 GEvent.l_kind (.cons (β := Str) rfl pl113_4 GEvent.l_text (.nil _)))) (by decide) (fun _ => hS) ?_
        refine pw_two ?_ ?_
        · refine ow_call2 rfl (wt_free rfl) fn29 (s_step8 hs) rfl rfl ?_ (by decide)
          clear hs hS
          rintro _ w ⟨x, b, rfl, hs⟩
          refine ⟨fun h => absurd h (by decide), ?_⟩; have hS := True.intro
          refine pw_pur rfl (wt_free rfl) (p_moveT rfl) (by decide) (fun h => absurd h (by decide)) ?_
          refine pw_pur rfl (wt_free rfl) (p_extract rfl rfl) (by decide) (fun h => absurd h (by decide)) ?_
          refine pw_pur rfl (wt_free rfl) (p_extract rfl rfl) (by decide) (fun h => absurd h (by decide)) ?_
          refine pw_one ?_
          refine ow_alloc rfl (wt_free rfl) z35 hs (by decide) ?_; clear hs; intro b5 w hs
          refine ⟨fun _ => Hold.cons hs (List.Mem.tail _ (List.Mem.tail _ (List.Mem.tail _ (List.Mem.head _)))) (Hold.nil hs (PH.refl _)), ?_⟩; have hS := Hold.cons hs (List.Mem.tail _ (List.Mem.tail _ (List.Mem.tail _ (List.Mem.head _)))) (Hold.nil hs (PH.refl _))
          refine pw_one ?_
          refine ow_store0 (α := GDaemon) (β := GDaemon) rfl (wt_free rfl) ty35 rfl rfl (Lens.id GDaemon) hs ?_; clear hs; intro w hs
          refine ⟨fun h => absurd h (by decide), ?_⟩; have hS := True.intro
          refine pw_pur rfl (wt_free rfl) (p_assignL rfl) (by decide) (fun h => absurd h (by decide)) ?_
          refine pw_done ?_
          refine ⟨_, e4, rfl, hs.sublist ?_⟩
          repeat (first | exact List.Sublist.refl _ | apply List.Sublist.cons_cons | apply List.Sublist.cons)
        · refine ow_alloc rfl (wt_free rfl) z35 hs (by decide) ?_; clear hs; intro b5 w hs
          refine ⟨fun _ => Hold.cons hs (List.Mem.tail _ (List.Mem.tail _ (List.Mem.head _))) (Hold.nil hs (PH.refl _)), ?_⟩; have hS := Hold.cons hs (List.Mem.tail _ (List.Mem.tail _ (List.Mem.head _))) (Hold.nil hs (PH.refl _))
          refine pw_one ?_
          refine ow_call2 rfl (wt_free rfl) fn29 (s_step8 hs) rfl rfl ?_ (by decide)
          clear hs hS
          rintro _ w ⟨x, b, rfl, hs⟩
          refine ⟨fun h => absurd h (by decide), ?_⟩; have hS := True.intro
          refine pw_pur rfl (wt_free rfl) (p_moveT rfl) (by decide) (fun h => absurd h (by decide)) ?_
          refine pw_pur rfl (wt_free rfl) (p_extract rfl rfl) (by decide) (fun h => absurd h (by decide)) ?_
          refine pw_pur rfl (wt_free rfl) (p_extract rfl rfl) (by decide) (fun h => absurd h (by decide)) ?_
          refine pw_one ?_
          refine ow_store1 (α := GDaemon) (β := GDaemon) rfl (wt_free rfl) ty35 rfl rfl (Lens.id GDaemon) hs ?_; clear hs; intro w hs
          refine ⟨fun h => absurd h (by decide), ?_⟩; have hS := True.intro
          refine pw_pur rfl (wt_free rfl) (p_assignL rfl) (by decide) (fun h => absurd h (by decide)) ?_
          refine pw_done ?_
          refine ⟨_, e4, rfl, hs.sublist ?_⟩
          repeat (first | exact List.Sublist.refl _ | apply List.Sublist.cons_cons | apply List.Sublist.cons)
      · refine ow_alloc rfl (wt_free rfl) z35 hs (by decide) ?_; clear hs; intro b5 w hs
        refine ⟨fun _ => Hold.cons hs (List.Mem.tail _ (List.Mem.tail _ (List.Mem.head _))) (Hold.nil hs (PH.refl _)), ?_⟩; have hS := Hold.cons hs (List.Mem.tail _ (List.Mem.tail _ (List.Mem.head _))) (Hold.nil hs (PH.refl _))
        refine pw_one ?_
        refine ow_call1 rfl (wt_free rfl) fn7 (s_text01 hs) rfl ?_ (by decide)
        clear hs hS
        rintro _ w ⟨rfl, hs⟩
        refine ⟨fun _ => Hold.cons hs (List.Mem.tail _ (List.Mem.tail _ (List.Mem.head _))) (Hold.nil hs (PH.refl _)), ?_⟩; have hS := Hold.cons hs (List.Mem.tail _ (List.Mem.tail _ (List.Mem.head _))) (Hold.nil hs (PH.refl _))
        refine pw_pur rfl (wt_free rfl) (p_addStr rfl rfl (by first | omega | (dsimp only; omega) | (simp <;> omega))) (by decide) (fun _ => hS) ?_
        refine pw_pur rfl (wt_free rfl) (p_addStr rfl rfl (by first | omega | (dsimp only; omega) | (simp <;> omega))) (by decide) (fun _ => hS) ?_
        refine pw_pur rfl (wt_free rfl) (p_buildO (α := GEvent) Tryz.underlying113 (by kernel_rfl) z113 rfl (.cons (β := Int) rfl pl113_0 GEvent.l_kind (.cons (β := Str) rfl pl113_4 GEvent.l_text (.nil _)))) (by decide) (fun _ => hS) ?_
        refine pw_one ?_
        refine ow_call2 rfl (wt_free rfl) fn29 (s_step8 hs) rfl rfl ?_ (by decide)
        clear hs hS
        rintro _ w ⟨x, b, rfl, hs⟩
        refine ⟨fun h => absurd h (by decide), ?_⟩; have hS := True.intro
        refine pw_pur rfl (wt_free rfl) (p_moveT rfl) (by decide) (fun h => absurd h (by decide)) ?_
        refine pw_pur rfl (wt_free rfl) (p_extract rfl rfl) (by decide) (fun h => absurd h (by decide)) ?_
        refine pw_pur rfl (wt_free rfl) (p_extract rfl rfl) (by decide) (fun h => absurd h (by decide)) ?_
        refine pw_one ?_
        refine ow_store1 (α := GDaemon) (β := GDaemon) rfl (wt_free rfl) ty35 rfl rfl (Lens.id GDaemon) hs ?_; clear hs; intro w hs
        refine ⟨fun h => absurd h (by decide), ?_⟩; have hS := True.intro
        refine pw_pur rfl (wt_free rfl) (p_assignL rfl) (by decide) (fun h => absurd h (by decide)) ?_
        refine pw_done ?_
        refine ⟨_, e4, rfl, hs.sublist ?_⟩
        repeat (first | exact List.Sublist.refl _ | apply List.Sublist.cons_cons | apply List.Sublist.cons)
    · clear hs
      intro f w hI
      obtain ⟨b, e4, e6, hs⟩ := hI
      refine cw_seq (cw_region ?_)
      refine l_pur (p_move e4) (by decide) ?_
      refine l_purIs (c := true) (p_eql rfl rfl) (by rfl) (by decide) ?_
      refine l_pur (p_moveB rfl) (by decide) ?_
      refine lw_do rfl rfl rfl ?_
      refine l_pur (p_move e6) (by decide) ?_
      refine lw_do rfl rfl rfl ?_
      refine l_pur (p_len Tryz.underlying109 rfl) (by decide) ?_
      refine lw_do rfl rfl rfl ?_
      refine l_purIs (c := true) (p_eql rfl rfl) (by rfl) (by decide) ?_
      refine l_pur (p_pickT rfl rfl) (by decide) ?_
      refine l_pur (p_moveB rfl) (by decide) ?_
      refine lw_do rfl rfl rfl ?_
      refine l_pur (p_move e6) (by decide) ?_
      refine lw_do rfl rfl rfl ?_
      refine l_pur (p_indexO el109.sl el109.ty.size rfl rfl (by decide)) (by decide) ?_
      refine lw_do rfl rfl rfl ?_
      refine l_pur (p_fieldAddr fo115_6 rfl) (by decide) ?_
      refine lw_do rfl rfl rfl ?_
      refine l_loadE (α := GOutput) (β := Str) ty9 rfl rfl GOutput.l_text (by first | omega | (simp <;> omega)) hs (List.Mem.head _) (by decide) ?_
      refine lw_do rfl rfl rfl ?_
      refine l_purIs (c := true) (p_eqlStr rfl rfl) (by rfl) (by decide) ?_
      refine l_pur (p_pickT rfl rfl) (by decide) ?_
      refine l_pur (p_moveB rfl) (by decide) ?_
      refine lw_do rfl rfl rfl ?_
      refine l_pur (p_move e6) (by decide) ?_
      refine lw_do rfl rfl rfl ?_
      refine l_pur (p_indexO el109.sl el109.ty.size rfl rfl (by decide)) (by decide) ?_
      refine lw_do rfl rfl rfl ?_
      refine l_pur (p_fieldAddr fo115_0 rfl) (by decide) ?_
      refine lw_do rfl rfl rfl ?_
      refine l_loadE (α := GOutput) (β := Int) ty3 rfl rfl GOutput.l_kind (by first | omega | (simp <;> omega)) hs (List.Mem.head _) (by decide) ?_
      refine lw_do rfl rfl rfl ?_
      refine l_purIs (c := true) (p_eql rfl rfl) (by rfl) (by decide) ?_
      refine l_pur (p_pickT rfl rfl) (by decide) ?_
      refine l_pur (p_assignB rfl) (by decide) ?_
      refine lw_nil ?_
      refine cw_ret ?_
      repeat (with_reducible first | refine tf_ret ?_ | refine ib_ret ?_)
      refine fin1 (fn := Tryz.f9) rfl (rv_tmpB rfl) ?_
      exact ⟨rfl, hs.drop1⟩
end Go.Bur
namespace Go.Bur
open Go Go.RowKit Go.Proofs
set_option maxHeartbeats 4000000
variable {W0 : World} {V : PH} {w : World} {L : List (Nat × Obj)}
theorem s_samepeer {p : GPeer} (hs : St W0 V w L) (hp : p.staged = ⟨none, 0, 0⟩) : Calls Tryz.prog 8 #[val p, val p] w (okR fun v w' => v = .bool true ∧ St W0 V w' L) := by
  refine fn_enter (n := 131) Tryz.func8 rfl rfl rfl ?_
  intro f hf
  have e0 := hf 0
  have e1 := hf 1
  simp only [Array.getD_eq_getD_getElem?, List.getElem?_toArray, List.getElem?_cons_zero, List.getElem?_cons_succ, Option.getD_some] at e0 e1
  clear hf
  refine cw_seq (cw_region ?_)
  refine l_box (α := GPeer) e0 hs (by decide) ?_; clear hs; intro b2 w hs
  refine l_box (α := GPeer) e1 hs (by decide) ?_; clear hs; intro b3 w hs
  refine l_pur (p_assignC) (by decide) ?_
  refine lw_nil ?_
  refine cw_seq ?_
  refine cw_seq (cw_region ?_)
  refine l_pur (p_fieldAddr fo63_0 rfl) (by decide) ?_
  refine l_loadO (α := GPeer) (β := (Vec 32 UInt8)) ty27 rfl GPeer.l_pub hs (List.Mem.tail _ (List.Mem.head _)) (by decide) ?_
  refine l_pur (p_fieldAddr fo63_0 rfl) (by decide) ?_
  refine l_loadO (α := GPeer) (β := (Vec 32 UInt8)) ty27 rfl GPeer.l_pub hs (List.Mem.head _) (by decide) ?_
  refine l_purIs (c := false) (p_neqS eq27 rfl rfl) (by simp) (by decide) ?_
  refine l_pur (p_moveB rfl) (by decide) ?_
  refine lw_do rfl rfl rfl ?_
  refine l_pur (p_fieldAddr fo63_1 rfl) (by decide) ?_
  refine lw_do rfl rfl rfl ?_
  refine l_loadO (α := GPeer) (β := (Vec 32 UInt8)) ty27 rfl GPeer.l_shared hs (List.Mem.tail _ (List.Mem.head _)) (by decide) ?_
  refine lw_do rfl rfl rfl ?_
  refine l_pur (p_fieldAddr fo63_1 rfl) (by decide) ?_
  refine lw_do rfl rfl rfl ?_
  refine l_loadO (α := GPeer) (β := (Vec 32 UInt8)) ty27 rfl GPeer.l_shared hs (List.Mem.head _) (by decide) ?_
  refine lw_do rfl rfl rfl ?_
  refine l_purIs (c := false) (p_neqS eq27 rfl rfl) (by simp) (by decide) ?_
  refine l_pur (p_pickF rfl rfl) (by decide) ?_
  refine l_pur (p_moveB rfl) (by decide) ?_
  refine lw_do rfl rfl rfl ?_
  refine l_pur (p_fieldAddr fo63_2 rfl) (by decide) ?_
  refine lw_do rfl rfl rfl ?_
  refine l_loadO (α := GPeer) (β := Bool) ty4 rfl GPeer.l_hasEndpoint hs (List.Mem.tail _ (List.Mem.head _)) (by decide) ?_
  refine lw_do rfl rfl rfl ?_
  refine l_pur (p_fieldAddr fo63_2 rfl) (by decide) ?_
  refine lw_do rfl rfl rfl ?_
  refine l_loadO (α := GPeer) (β := Bool) ty4 rfl GPeer.l_hasEndpoint hs (List.Mem.head _) (by decide) ?_
  refine lw_do rfl rfl rfl ?_
  refine l_purIs (c := false) (p_neqB Tryz.underlying4 rfl rfl) (by simp) (by decide) ?_
  refine l_pur (p_pickF rfl rfl) (by decide) ?_
  refine l_pur (p_moveB rfl) (by decide) ?_
  refine lw_do rfl rfl rfl ?_
  refine l_pur (p_fieldAddr fo63_3 rfl) (by decide) ?_
  refine lw_do rfl rfl rfl ?_
  refine l_loadO (α := GPeer) (β := GEndpoint) ty43 rfl GPeer.l_endpoint hs (List.Mem.tail _ (List.Mem.head _)) (by decide) ?_
  refine lw_do rfl rfl rfl ?_
  refine l_pur (p_fieldAddr fo63_3 rfl) (by decide) ?_
  refine lw_do rfl rfl rfl ?_
  refine l_loadO (α := GPeer) (β := GEndpoint) ty43 rfl GPeer.l_endpoint hs (List.Mem.head _) (by decide) ?_
  refine lw_do rfl rfl rfl ?_
  refine l_purIs (c := false) (p_neqS eq43 rfl rfl) (by simp) (by decide) ?_
  refine l_pur (p_pickF rfl rfl) (by decide) ?_
  refine l_pur (p_moveB rfl) (by decide) ?_
  refine lw_do rfl rfl rfl ?_
  refine l_pur (p_fieldAddr fo63_4 rfl) (by decide) ?_
  refine lw_do rfl rfl rfl ?_
  refine l_loadO (α := GPeer) (β := Int) ty2 rfl GPeer.l_keepalive hs (List.Mem.tail _ (List.Mem.head _)) (by decide) ?_
  refine lw_do rfl rfl rfl ?_
  refine l_pur (p_fieldAddr fo63_4 rfl) (by decide) ?_
  refine lw_do rfl rfl rfl ?_
  refine l_loadO (α := GPeer) (β := Int) ty2 rfl GPeer.l_keepalive hs (List.Mem.head _) (by decide) ?_
  refine lw_do rfl rfl rfl ?_
  refine l_purIs (c := false) (p_neq rfl rfl) (by simp) (by decide) ?_
  refine l_pur (p_pickF rfl rfl) (by decide) ?_
  refine l_pur (p_moveB rfl) (by decide) ?_
  refine lw_do rfl rfl rfl ?_
  refine l_pur (p_fieldAddr fo63_5 rfl) (by decide) ?_
  refine lw_do rfl rfl rfl ?_
  refine l_loadO (α := GPeer) (β := (Vec 12 UInt8)) ty45 rfl GPeer.l_greatest hs (List.Mem.tail _ (List.Mem.head _)) (by decide) ?_
  refine lw_do rfl rfl rfl ?_
  refine l_pur (p_fieldAddr fo63_5 rfl) (by decide) ?_
  refine lw_do rfl rfl rfl ?_
  refine l_loadO (α := GPeer) (β := (Vec 12 UInt8)) ty45 rfl GPeer.l_greatest hs (List.Mem.head _) (by decide) ?_
  refine lw_do rfl rfl rfl ?_
  refine l_purIs (c := false) (p_neqS eq45 rfl rfl) (by simp) (by decide) ?_
  refine l_pur (p_pickF rfl rfl) (by decide) ?_
  refine l_pur (p_moveB rfl) (by decide) ?_
  refine lw_do rfl rfl rfl ?_
  refine l_pur (p_fieldAddr fo63_6 rfl) (by decide) ?_
  refine lw_do rfl rfl rfl ?_
  refine l_loadO (α := GPeer) (β := Bool) ty4 rfl GPeer.l_hasInit hs (List.Mem.tail _ (List.Mem.head _)) (by decide) ?_
  refine lw_do rfl rfl rfl ?_
  refine l_pur (p_fieldAddr fo63_6 rfl) (by decide) ?_
  refine lw_do rfl rfl rfl ?_
  refine l_loadO (α := GPeer) (β := Bool) ty4 rfl GPeer.l_hasInit hs (List.Mem.head _) (by decide) ?_
  refine lw_do rfl rfl rfl ?_
  refine l_purIs (c := false) (p_neqB Tryz.underlying4 rfl rfl) (by simp) (by decide) ?_
  refine l_pur (p_pickF rfl rfl) (by decide) ?_
  refine l_pur (p_moveB rfl) (by decide) ?_
  refine lw_do rfl rfl rfl ?_
  refine l_pur (p_fieldAddr fo63_7 rfl) (by decide) ?_
  refine lw_do rfl rfl rfl ?_
  refine l_loadO (α := GPeer) (β := Int) ty2 rfl GPeer.l_initAt hs (List.Mem.tail _ (List.Mem.head _)) (by decide) ?_
  refine lw_do rfl rfl rfl ?_
  refine l_pur (p_fieldAddr fo63_7 rfl) (by decide) ?_
  refine lw_do rfl rfl rfl ?_
  refine l_loadO (α := GPeer) (β := Int) ty2 rfl GPeer.l_initAt hs (List.Mem.head _) (by decide) ?_
  refine lw_do rfl rfl rfl ?_
  refine l_purIs (c := false) (p_neq rfl rfl) (by simp) (by decide) ?_
  refine l_pur (p_pickF rfl rfl) (by decide) ?_
  refine l_pur (p_moveB rfl) (by decide) ?_
  refine lw_do rfl rfl rfl ?_
  refine l_pur (p_fieldAddr fo63_8 rfl) (by decide) ?_
  refine lw_do rfl rfl rfl ?_
  refine l_loadO (α := GPeer) (β := GHand) ty50 rfl GPeer.l_hand hs (List.Mem.tail _ (List.Mem.head _)) (by decide) ?_
  refine lw_do rfl rfl rfl ?_
  refine l_pur (p_fieldAddr fo63_8 rfl) (by decide) ?_
  refine lw_do rfl rfl rfl ?_
  refine l_loadO (α := GPeer) (β := GHand) ty50 rfl GPeer.l_hand hs (List.Mem.head _) (by decide) ?_
  refine lw_do rfl rfl rfl ?_
  refine l_purIs (c := false) (p_neqS eq50 rfl rfl) (by simp) (by decide) ?_
  refine l_pur (p_pickF rfl rfl) (by decide) ?_
  refine l_pur (p_moveB rfl) (by decide) ?_
  refine lw_do rfl rfl rfl ?_
  refine l_pur (p_fieldAddr fo63_9 rfl) (by decide) ?_
  refine lw_do rfl rfl rfl ?_
  refine l_loadO (α := GPeer) (β := Bool) ty4 rfl GPeer.l_hasCookie hs (List.Mem.tail _ (List.Mem.head _)) (by decide) ?_
  refine lw_do rfl rfl rfl ?_
  refine l_pur (p_fieldAddr fo63_9 rfl) (by decide) ?_
  refine lw_do rfl rfl rfl ?_
  refine l_loadO (α := GPeer) (β := Bool) ty4 rfl GPeer.l_hasCookie hs (List.Mem.head _) (by decide) ?_
  refine lw_do rfl rfl rfl ?_
  refine l_purIs (c := false) (p_neqB Tryz.underlying4 rfl rfl) (by simp) (by decide) ?_
  refine l_pur (p_pickF rfl rfl) (by decide) ?_
  refine l_pur (p_moveB rfl) (by decide) ?_
  refine lw_do rfl rfl rfl ?_
  refine l_pur (p_fieldAddr fo63_10 rfl) (by decide) ?_
  refine lw_do rfl rfl rfl ?_
  refine l_loadO (α := GPeer) (β := (Vec 16 UInt8)) ty51 rfl GPeer.l_cookie hs (List.Mem.tail _ (List.Mem.head _)) (by decide) ?_
  refine lw_do rfl rfl rfl ?_
  refine l_pur (p_fieldAddr fo63_10 rfl) (by decide) ?_
  refine lw_do rfl rfl rfl ?_
  refine l_loadO (α := GPeer) (β := (Vec 16 UInt8)) ty51 rfl GPeer.l_cookie hs (List.Mem.head _) (by decide) ?_
  refine lw_do rfl rfl rfl ?_
  refine l_purIs (c := false) (p_neqS eq51 rfl rfl) (by simp) (by decide) ?_
  refine l_pur (p_pickF rfl rfl) (by decide) ?_
  refine l_pur (p_moveB rfl) (by decide) ?_
  refine lw_do rfl rfl rfl ?_
  refine l_pur (p_fieldAddr fo63_11 rfl) (by decide) ?_
  refine lw_do rfl rfl rfl ?_
  refine l_loadO (α := GPeer) (β := Int) ty2 rfl GPeer.l_cookieAt hs (List.Mem.tail _ (List.Mem.head _)) (by decide) ?_
  refine lw_do rfl rfl rfl ?_
  refine l_pur (p_fieldAddr fo63_11 rfl) (by decide) ?_
  refine lw_do rfl rfl rfl ?_
  refine l_loadO (α := GPeer) (β := Int) ty2 rfl GPeer.l_cookieAt hs (List.Mem.head _) (by decide) ?_
  refine lw_do rfl rfl rfl ?_
  refine l_purIs (c := false) (p_neq rfl rfl) (by simp) (by decide) ?_
  refine l_pur (p_pickF rfl rfl) (by decide) ?_
  refine l_pur (p_moveB rfl) (by decide) ?_
  refine lw_do rfl rfl rfl ?_
  refine l_pur (p_fieldAddr fo63_12 rfl) (by decide) ?_
  refine lw_do rfl rfl rfl ?_
  refine l_loadO (α := GPeer) (β := (Vec 16 UInt8)) ty51 rfl GPeer.l_lastMac hs (List.Mem.tail _ (List.Mem.head _)) (by decide) ?_
  refine lw_do rfl rfl rfl ?_
  refine l_pur (p_fieldAddr fo63_12 rfl) (by decide) ?_
  refine lw_do rfl rfl rfl ?_
  refine l_loadO (α := GPeer) (β := (Vec 16 UInt8)) ty51 rfl GPeer.l_lastMac hs (List.Mem.head _) (by decide) ?_
  refine lw_do rfl rfl rfl ?_
  refine l_purIs (c := false) (p_neqS eq51 rfl rfl) (by simp) (by decide) ?_
  refine l_pur (p_pickF rfl rfl) (by decide) ?_
  refine l_pur (p_moveB rfl) (by decide) ?_
  refine lw_do rfl rfl rfl ?_
  refine l_pur (p_fieldAddr fo63_13 rfl) (by decide) ?_
  refine lw_do rfl rfl rfl ?_
  refine l_loadO (α := GPeer) (β := GRing) ty60 rfl GPeer.l_ring hs (List.Mem.tail _ (List.Mem.head _)) (by decide) ?_
  refine lw_do rfl rfl rfl ?_
  refine l_pur (p_fieldAddr fo63_13 rfl) (by decide) ?_
  refine lw_do rfl rfl rfl ?_
  refine l_loadO (α := GPeer) (β := GRing) ty60 rfl GPeer.l_ring hs (List.Mem.head _) (by decide) ?_
  refine lw_do rfl rfl rfl ?_
  refine l_purIs (c := false) (p_neqS eq60 rfl rfl) (by simp) (by decide) ?_
  refine l_pur (p_pickF rfl rfl) (by decide) ?_
  refine l_pur (p_moveB rfl) (by decide) ?_
  refine lw_do rfl rfl rfl ?_
  refine l_pur (p_fieldAddr fo63_14 rfl) (by decide) ?_
  refine lw_do rfl rfl rfl ?_
  refine l_loadO (α := GPeer) (β := GSl) ty61 rfl GPeer.l_staged hs (List.Mem.tail _ (List.Mem.head _)) (by decide) ?_
  refine lw_do rfl rfl rfl ?_
  refine l_pur (p_len Tryz.underlying61 rfl) (by decide) ?_
  refine lw_do rfl rfl rfl ?_
  refine l_pur (p_fieldAddr fo63_14 rfl) (by decide) ?_
  refine lw_do rfl rfl rfl ?_
  refine l_loadO (α := GPeer) (β := GSl) ty61 rfl GPeer.l_staged hs (List.Mem.head _) (by decide) ?_
  refine lw_do rfl rfl rfl ?_
  refine l_pur (p_len Tryz.underlying61 rfl) (by decide) ?_
  refine lw_do rfl rfl rfl ?_
  refine l_purIs (c := false) (p_neq rfl rfl) (by simp) (by decide) ?_
  refine l_pur (p_pickF rfl rfl) (by decide) ?_
  refine lw_nil ?_
  refine cw_false rfl ?_
  refine cw_skip ?_
  refine cw_seq ?_
  refine cw_seq (cw_region ?_)
  refine l_pur (p_fieldAddr fo63_14 rfl) (by decide) ?_
  refine l_loadO (α := GPeer) (β := GSl) ty61 rfl GPeer.l_staged hs (List.Mem.tail _ (List.Mem.head _)) (by decide) ?_
  refine l_pur (p_len Tryz.underlying61 rfl) (by decide) ?_
  refine l_pur (p_moveC) (by decide) ?_
  refine lw_nil ?_
  refine cw_block ?_
  refine cw_loop (fun q f w => f 114 = vi 0 ∧ f 113 = vi 0 ∧ St W0 V w L) (0) ?_ ?_
  · exact ⟨rfl, by show vi (p.staged.len : Nat) = _; rw [hp]; rfl, hs.drop1.drop1⟩
  · intro q f w hI
    clear hs
    obtain ⟨e114, e113, hs⟩ := hI
    refine cw_seq (cw_region ?_)
    refine l_pur (p_lss e114 e113) (by decide) ?_
    refine lw_nil ?_
    refine cw_seq ?_
    refine cw_cond _ rfl (fun hc1 => ?_) (fun hc1 => ?_)
    · exact absurd hc1 (by decide)
    · try simp only [decide_eq_true_eq, decide_eq_false_iff_not, Bool.not_eq_true', Bool.not_eq_false', beq_iff_eq, bne_iff_ne, beq_eq_false_iff_ne, bne_eq_false_iff_eq] at hc1
      refine cw_exit ?_
      refine cw_seq (cw_region ?_)
      refine l_pur (p_assignC) (by decide) ?_
      refine lw_nil ?_
      refine cw_ret ?_
      repeat (with_reducible first | refine tf_ret ?_ | refine ib_ret ?_)
      refine fin1 (fn := Tryz.f8) rfl (rv_tmpB rfl) ?_
      exact ⟨rfl, hs⟩
end Go.Bur
namespace Go.Bur
open Go Go.RowKit Go.Proofs
set_option maxHeartbeats 4000000
theorem pub_ne {d : GDaemon} {n : Nat} {ps : List GPeer} {ss : List GSlot} {ts : List GTimer} {i k : Nat} (h : Inv d n ps ss ts i k) {a b : Nat} (ha : a < ps.length) (hb : b < ps.length) (e : ps[a].pub = ps[b].pub) : a = b := by
  rw [h.pp a ha, h.pp b hb] at e
  have hn := h.n2
  have hl := h.pl
  exact peerK_inj a b (by omega) (by omega) e
theorem dropH_none {ss : List GSlot} {p : GPeer} (h : p.hand = GHand.zero) : dropH ss p = ss := by
  unfold dropH
  rw [h, if_neg (by decide)]
theorem wipeS_peer {d : GDaemon} {n : Nat} {ps : List GPeer} {ss : List GSlot} {ts : List GTimer} (h : Inv d n ps ss ts n 3) {i : Nat} (hi : i < ps.length) : ∀ s ∈ wipeS ss ps[i], s.peer ≠ ps[i].pub := by
  intro s hs e
  unfold wipeS at hs
  rw [dropH_none (h.pk i hi).hand] at hs
  obtain ⟨h1, h2⟩ := mem_dropAll.1 hs
  obtain ⟨_, j, hj, h3, h4⟩ := (h.mem s).1 h1
  have := pub_ne h hi hj (e ▸ h3)
  subst this
  exact h2 h4
theorem mem_dropPS {ss : List GSlot} {k : GKey} : ∀ {l : List GSlot} {acc : List GSlot} {s : GSlot}, s ∈ l.foldl (fun acc s => if s.peer = k then dropS acc s.index else acc) acc → s ∈ acc ∧ ∀ t ∈ l, t.peer = k → s.index ≠ t.index
  | [], acc, s, h => ⟨h, fun t ht => (by cases ht)⟩
  | x :: l, acc, s, h => by
    rw [List.foldl_cons] at h
    obtain ⟨h1, h2⟩ := mem_dropPS (ss := ss) h
    by_cases hx : x.peer = k
    · rw [if_pos hx] at h1
      unfold dropS at h1
      obtain ⟨h3, h4⟩ := List.mem_filter.1 h1
      refine ⟨h3, fun t ht htk => ?_⟩
      rcases List.mem_cons.1 ht with rfl | ht
      · exact of_decide_eq_true h4
      · exact h2 t ht htk
    · rw [if_neg hx] at h1
      refine ⟨h1, fun t ht htk => ?_⟩
      rcases List.mem_cons.1 ht with rfl | ht
      · exact absurd htk hx
      · exact h2 t ht htk
theorem dropPS_peer {ss : List GSlot} {k : GKey} : ∀ s ∈ dropPS ss k ss.length, s.peer ≠ k := by
  intro s hs e
  unfold dropPS at hs
  rw [List.take_length] at hs
  obtain ⟨h1, h2⟩ := mem_dropPS (ss := ss) hs
  exact h2 s h1 e rfl
theorem removePR_peer {rs : List GRoute} {k : GKey} : ∀ s ∈ removePR rs k, s.peer ≠ k := by
  intro s hs
  have := (List.mem_filter.1 hs).2
  simpa using this
theorem cancelPT_peer {rs : List GTimer} {k : GKey} : ∀ s ∈ cancelPT rs k, s.peer ≠ k := by
  intro s hs
  have := (List.mem_filter.1 hs).2
  simpa using this
def t_clear : Str := [99, 108, 101, 97, 114, 32]
def t_remove : Str := [114, 101, 109, 111, 118, 101, 32]
theorem t_split : ∀ i : Nat, i < 3 → splitB 32 (t_clear ++ textK (peerK (i : Nat))) = [w_clear, textK (peerK (i : Nat))] ∧ splitB 32 (t_remove ++ textK (peerK (i : Nat))) = [w_remove, textK (peerK (i : Nat))] ∧ (textK (peerK (i : Nat))).length < 1000 := by decide +kernel
structure Short (s : Str) : Prop where
  h : s.length < 1000
theorem law_facts {d : GDaemon} {n : Nat} {ps : List GPeer} {ss : List GSlot} {ts : List GTimer} (h : Inv d n ps ss ts n 3) {i : Nat} (hi : i < ps.length) :
    ∃ k : GKey, ps[i].pub = k ∧ findP ps k = i ∧ splitB 32 (t_clear ++ textK k) = [w_clear, textK k] ∧ splitB 32 (t_remove ++ textK k) = [w_remove, textK k] ∧ Short (textK k) ∧ parseKey (textK k) = some k ∧ (∀ s ∈ wipeS ss ps[i], s.peer ≠ k) := by
  have hpk := h.pp i hi
  have hn := h.n2
  have hl := h.pl
  obtain ⟨hx1, hx2, hx3⟩ := t_split i (by omega)
  exact ⟨peerK (i : Nat), hpk, findP_pub hl hn.2 h.pp (by omega), hx1, hx2, ⟨hx3⟩, parse_peer i (by omega), hpk ▸ wipeS_peer h hi⟩
theorem law_set {ps : List GPeer} {i : Nat} (hi : i < ps.length) : ∀ j (h : j < ps.length), j ≠ i → (ps.set i (wipeP ps[i]))[j]'(by rw [List.length_set]; exact h) = ps[j] := fun j h hj => List.getElem_set_ne (fun e => hj e.symm) _
theorem law_set0 {ps : List GPeer} {i : Nat} (hi : i < ps.length) : ∀ j (h : j < ps.length), j = i → ((ps.set i (wipeP ps[i]))[j]'(by rw [List.length_set]; exact h)).ring = GRing.zero := fun j h hj => by
  subst hj
  rw [List.getElem_set_self]; rfl
theorem removePR_len (rs : List GRoute) (k : GKey) : (removePR rs k).length ≤ rs.length := List.length_filter_le ..
theorem cancelPT_len (ts : List GTimer) (k : GKey) : (cancelPT ts k).length ≤ ts.length := List.length_filter_le ..
end Go.Bur
namespace Go.Bur
open Go Go.RowKit Go.Proofs
set_option maxHeartbeats 4000000
variable {W0 : World} {V : PH} {w : World} {L : List (Nat × Obj)}
def cmdC : GCommand := ⟨2, true, .fn 64 []⟩
def cmdR : GCommand := ⟨2, true, .fn 59 []⟩
theorem k_clear : kvFind w_clear cmds = some (val cmdC) := rfl
theorem k_remove : kvFind w_remove cmds = some (val cmdR) := rfl
theorem s_clear0 {d : GDaemon} {ps : List GPeer} {rs : List GRoute} {ss : List GSlot} {ts : List GTimer} {i : Nat} {k : GKey} {t : Str} (hs : St W0 V w L) (hd : DSl V d ps rs ss ts) (hst : ∀ j (h : j < ps.length), ps[j].staged = ⟨none, 0, 0⟩) (hi : i < ps.length) (hn : ps.length < 1000) (hrn : rs.length < 1000) (hsn : ss.length < 1000) (htn : ts.length < 1000)
    (hf : findP ps k = i) (hk : ps[i].pub = k) (h1 : splitB 32 (t_clear ++ t) = [w_clear, t]) (h2 : (t).length < 1000) (h3 : parseKey (t) = some k) :
    Calls Tryz.prog 6 #[val d, vs (t_clear ++ t)] w (okR fun v w' => ∃ (V2 : PH) (d2 : GDaemon) (ts2 : List GTimer), V ≤ V2 ∧ v = .tuple #[val d2, vs [], vi 0] ∧ DSl V2 d2 (ps.set i (wipeP ps[i])) rs (wipeS ss ps[i]) ts2 ∧ St W0 V2 w' L) := by
  have hlen : (t_clear ++ t).length < 1000000 := by rw [List.length_append]; have : t_clear.length = 6 := rfl; omega
  have h4 : (t).length < 1000000 := by omega
  have h0 : 0 < [w_clear, t].length := Nat.zero_lt_succ _
  have h01 : 1 < [w_clear, t].length := Nat.succ_lt_succ (Nat.zero_lt_succ _)
  refine (s_apply (cmd := cmdC) (i0 := i) hs hd hst hn hrn hsn htn hlen h1 h0 k_clear rfl rfl fn64 (fun _ => ⟨h01, h3, h4, hf.symm⟩) (fun h => Bool.noConfusion h) (c_clear hi hf hk hn hsn htn)).mono ?_
  rintro e w' ⟨v, rfl, e, c', V', A', hV', hR, hv, hs2⟩
  obtain ⟨V2, q1, q2, q3, q4, hV2, hd2, hD, hs3⟩ := hR.done hs2 hd.re hd.bu
  obtain ⟨rfl, hrep, -⟩ := hR
  rw [if_pos rfl, hd2, hrep] at hv
  exact ⟨v, rfl, V2, _, _, PH.trans hV' hV2, hv, hD, hs3⟩
theorem s_remove0 {d : GDaemon} {ps : List GPeer} {rs : List GRoute} {ss : List GSlot} {ts : List GTimer} {i : Nat} {k : GKey} {t : Str} (hs : St W0 V w L) (hd : DSl V d ps rs ss ts) (hst : ∀ j (h : j < ps.length), ps[j].staged = ⟨none, 0, 0⟩) (hi : i < ps.length) (hn : ps.length < 1000) (hrn : rs.length < 1000) (hsn : ss.length < 1000) (htn : ts.length < 1000)
    (hf : findP ps k = i) (h1 : splitB 32 (t_remove ++ t) = [w_remove, t]) (h2 : (t).length < 1000) (h3 : parseKey (t) = some k) :
    Calls Tryz.prog 6 #[val d, vs (t_remove ++ t)] w (okR fun v w' => ∃ (V2 : PH) (d2 : GDaemon), V ≤ V2 ∧ v = .tuple #[val d2, vs [], vi 0] ∧ DSl V2 d2 (ps.eraseIdx i) (removePR rs k) (dropPS ss k ss.length) (cancelPT ts k) ∧ St W0 V2 w' L) := by
  have hlen : (t_remove ++ t).length < 1000000 := by rw [List.length_append]; have : t_remove.length = 7 := rfl; omega
  have h4 : (t).length < 1000000 := by omega
  have h0 : 0 < [w_remove, t].length := Nat.zero_lt_succ _
  have h01 : 1 < [w_remove, t].length := Nat.succ_lt_succ (Nat.zero_lt_succ _)
  refine (s_apply (cmd := cmdR) (i0 := i) hs hd hst hn hrn hsn htn hlen h1 h0 k_remove rfl rfl fn59 (fun _ => ⟨h01, h3, h4, hf.symm⟩) (fun h => Bool.noConfusion h) (c_remove hi hn hrn hsn htn)).mono ?_
  rintro e w' ⟨v, rfl, e, c', V', A', hV', hR, hv, hs2⟩
  obtain ⟨V2, q1, q2, q3, q4, hV2, hd2, hD, hs3⟩ := hR.done hs2 hd.re hd.bu
  obtain ⟨rfl, hrep, -⟩ := hR
  rw [if_pos rfl, hd2, hrep] at hv
  exact ⟨v, rfl, V2, _, PH.trans hV' hV2, hv, hD, hs3⟩
end Go.Bur
namespace Go.Bur
open Go Go.RowKit Go.Proofs
set_option maxHeartbeats 4000000
variable {W0 : World} {V : PH} {w : World} {L : List (Nat × Obj)}
theorem s_samepeer2 {p q : GPeer} (hs : St W0 V w L) (hp : p.staged = ⟨none, 0, 0⟩) (e : q = p) : Calls Tryz.prog 8 #[val q, val p] w (okR fun v w' => v = .bool true ∧ St W0 V w' L) := by
  subst e
  exact s_samepeer hs hp
theorem s_law {a : Option Addr} {cap : Nat} {xs : List UInt8} {which : UInt8} (hs : St W0 V w L) (hl : SlG V a cap xs) (hcap : xs.length ≤ cap) (hlen : xs.length < 9223372036854775808) :
    Calls Tryz.prog 3 #[.slice a xs.length cap, val which] w (okR fun v w' => v = .bool true ∧ St W0 V w' L) := by
  refine fn_enter (n := 160) Tryz.func3 rfl rfl rfl ?_
  intro f hf
  have e0 := hf 0
  have e1 := hf 1
  simp only [Array.getD_eq_getD_getElem?, List.getElem?_toArray, List.getElem?_cons_zero, List.getElem?_cons_succ, Option.getD_some] at e0 e1
  clear hf
  refine cw_seq (cw_region ?_)
  refine l_pur (p_assignC) (by decide) ?_
  refine lw_nil ?_
  refine cw_seq (cw_region ?_)
  refine l_pur (p_move e0) (by decide) ?_
  refine l_call2 fn5 (s_new hs hl (by decide) hcap hlen) rfl rfl ?_ (by decide)
  clear hs
  rintro _ w ⟨b, c, rfl, hc, hs⟩
  refine l_call1 fn4 (s_daemon hs hc) rfl ?_ (by decide)
  clear hs
  rintro _ w ⟨V1, d, n, ps, ss, ts, c', hV1, rfl, hinv, hd, hc', hs⟩
  replace hs := hs.drop1
  have hn2 := hinv.n2
  have hpl := hinv.pl
  have hok := hinv.ok hn2.2
  have hsn : ss.length ≤ 32 := hok.so.n
  have htn := hok.tn
  have hdl := hd.pl
  have hrn := rsOf_len n
  refine l_alloc z35 hs (by decide) ?_; clear hs; intro b5 w hs
  refine l_store0 (α := GDaemon) (β := GDaemon) ty35 rfl rfl (Lens.id GDaemon) hs ?_; clear hs; intro w hs
  refine lw_nil ?_
  refine cw_cut (M := fun f w => ∃ (i : Nat), i < ps.length ∧ f 5 = ptr b5 0 ∧ f 6 = vi (i : Nat) ∧ St W0 V1 w ((b5, blk 35 d) :: L)) ?_ ?_
  · refine cw_region ?_
    refine l_pur (p_move e1) (by decide) ?_
    refine l_pur (p_conv_u8_i Tryz.underlying5 Tryz.underlying3 rfl) (by decide) ?_
    refine l_pur (p_fieldAddr fo35_6 rfl) (by decide) ?_
    refine l_loadO (α := GDaemon) (β := GSl) ty28 rfl GDaemon.l_peers hs (List.Mem.head _) (by decide) ?_
    refine l_pur (p_len Tryz.underlying28 rfl) (by decide) ?_
    refine l_pur (p_remK (a := which.toNat) (b := d.peers.len) rfl rfl (by omega)) (by decide) ?_
    refine l_pur (p_assignI rfl) (by decide) ?_
    refine lw_nil ?_
    exact ⟨which.toNat % d.peers.len, by rw [← hdl]; exact Nat.mod_lt _ (by omega), rfl, rfl, hs⟩
  · clear hs
    intro f w hI
    obtain ⟨i, hi, e5, e6, hs⟩ := hI
    obtain ⟨k, hk, hf, hx1, hx2, hx3, hx4, hno1⟩ := law_facts hinv hi
    have hst := fun j (h : j < ps.length) => (hinv.pk j h).staged
    have hno2 : ∀ s ∈ dropPS ss k ss.length, s.peer ≠ k := dropPS_peer
    have hno3 : ∀ s ∈ removePR (rsOf n) k, s.peer ≠ k := removePR_peer
    have hno4 : ∀ s ∈ cancelPT ts k, s.peer ≠ k := cancelPT_peer
    have hset := law_set hi
    have hset0 := law_set0 hi
    have hwl := wipeS_len ss ps[i]
    have hdl2 := dropPS_len ss k ss.length
    have hrl := removePR_len (rsOf n) k
    have htl := cancelPT_len ts k
    refine cw_cut (M := fun f w => ∃ (b7 : Nat), f 5 = ptr b5 0 ∧ f 6 = vi (i : Nat) ∧ f 7 = ptr b7 0 ∧ St W0 V1 w ((b7, blk 27 k) :: (b5, blk 35 d) :: L)) ?_ ?_
    · refine cw_region ?_
      refine l_pur (p_fieldAddr fo35_6 e5) (by decide) ?_
      refine l_loadO (α := GDaemon) (β := GSl) ty28 rfl GDaemon.l_peers hs (List.Mem.head _) (by decide) ?_
      refine l_pur (p_move e6) (by decide) ?_
      refine l_indexSl (α := GPeer) el28.sl ty63 rfl hdl rfl (by first | omega | (dsimp only; omega) | (simp <;> omega)) hd.p (by decide) ?_; intro bb34 oo34 cc34 hb34 ha34
      refine l_pur (p_fieldAddr fo63_0 rfl) (by decide) ?_
      refine l_loadV (α := (Vec 32 UInt8)) ty27 rfl hs hb34 (ha34.lens GPeer.l_pub) (by decide) ?_
      refine l_alloc z27 hs (by decide) ?_; clear hs; intro b7 w hs
      refine l_store0 (α := (Vec 32 UInt8)) (β := (Vec 32 UInt8)) ty27 rfl rfl (Lens.id (Vec 32 UInt8)) hs ?_; clear hs; intro w hs
      refine lw_nil ?_
      rw [hk] at hs
      exact ⟨_, e5, e6, rfl, hs⟩
    · clear hs
      intro f w hI
      obtain ⟨b7, e5, e6, e7, hs⟩ := hI
      refine cw_cut (M := fun f w => ∃ (V2 : PH) (d2 : GDaemon) (ts2 : List GTimer) (b8 : Nat), f 5 = ptr b5 0 ∧ f 6 = vi (i : Nat) ∧ f 7 = ptr b7 0 ∧ f 8 = ptr b8 0 ∧ f 9 = vs [] ∧ f 10 = vi 0 ∧ V1 ≤ V2 ∧ DSl V2 d2 (ps.set i (wipeP ps[i])) (rsOf n) (wipeS ss ps[i]) ts2 ∧ St W0 V2 w ((b8, blk 35 d2) :: (b7, blk 27 k) :: (b5, blk 35 d) :: L)) ?_ ?_
      · have hxl := hx3.h
        have hS := Hold.cons hs (List.Mem.head _) (Hold.cons hs (List.Mem.tail _ (List.Mem.head _)) (Hold.nil hs (PH.refl _)))
        refine cw_planH (.take 0 (.take 1 (.two 2 (.take 3 (.two 4 (.take 5 (.take 6 (.take 7 (.take 8 (.one 9 (.one 10 (.take 11 (.take 12 .done)))))))) 9 (.one 4 (.take 5 (.take 6 (.take 7 (.take 8 (.one 10 (.take 11 (.take 12 .done)))))))))) 9 (.one 2 (.take 3 (.one 4 (.take 5 (.take 6 (.take 7 (.take 8 (.one 10 (.take 11 (.take 12 .done))))))))))))) 527 hmix (by kernel_rfl) (fun _ _ _ h => h) hs hS ?_
        clear hS; clear hs; intro w hs; have hS := Hold.cons hs (List.Mem.head _) (Hold.cons hs (List.Mem.tail _ (List.Mem.head _)) (Hold.nil hs (PH.refl _)))
        refine pw_ld rfl (wt_free rfl) (by kernel_rfl) (Hold.runs_loadO (α := GDaemon) (β := GDaemon) ty35 e5 (Lens.id GDaemon) (List.Mem.tail _ (List.Mem.head _))) (by decide) hS ?_
        refine pw_ld rfl (wt_free rfl) (by kernel_rfl) (Hold.runs_loadO (α := (Vec 32 UInt8)) (β := (Vec 32 UInt8)) ty27 e7 (Lens.id (Vec 32 UInt8)) (List.Mem.head _)) (by decide) hS ?_
        refine pw_two ?_ ?_
        · refine ow_call1 rfl (wt_free rfl) fn7 (s_text01 hs) rfl ?_ (by decide)
          clear hs hS
          rintro _ w ⟨rfl, hs⟩
          refine ⟨fun _ => Hold.cons hs (List.Mem.head _) (Hold.cons hs (List.Mem.tail _ (List.Mem.head _)) (Hold.nil hs (PH.refl _))), ?_⟩; have hS := Hold.cons hs (List.Mem.head _) (Hold.cons hs (List.Mem.tail _ (List.Mem.head _)) (Hold.nil hs (PH.refl _)))
          refine pw_pur rfl (wt_free rfl) (p_addStr rfl rfl (by first | omega | (dsimp only; omega) | (simp <;> omega))) (by decide) (fun _ => hS) ?_
          refine pw_two ?_ ?_
          · refine ow_call2 rfl (wt_free rfl) fn6 (s_clear0 hs hd hst hi (by omega) (by omega) (by omega) htn hf hk hx1 hx3.h hx4) rfl rfl ?_ (by decide)
            clear hs hS
            rintro _ w ⟨V2, d2, ts2, hV2, rfl, hd2, hs⟩
            refine ⟨fun h => absurd h (by decide), ?_⟩; have hS := True.intro
            refine pw_pur rfl (wt_free rfl) (p_moveT rfl) (by decide) (fun h => absurd h (by decide)) ?_
            refine pw_pur rfl (wt_free rfl) (p_extract rfl rfl) (by decide) (fun h => absurd h (by decide)) ?_
            refine pw_pur rfl (wt_free rfl) (p_extract rfl rfl) (by decide) (fun h => absurd h (by decide)) ?_
            refine pw_pur rfl (wt_free rfl) (p_extract rfl rfl) (by decide) (fun h => absurd h (by decide)) ?_
            refine pw_one ?_
            refine ow_alloc rfl (wt_free rfl) z35 hs (by decide) ?_; clear hs; intro b8 w hs
            refine ⟨fun _ => Hold.cons hs (List.Mem.tail _ (List.Mem.head _)) (Hold.cons hs (List.Mem.tail _ (List.Mem.tail _ (List.Mem.head _))) (Hold.nil hs hV2)), ?_⟩; have hS := Hold.cons hs (List.Mem.tail _ (List.Mem.head _)) (Hold.cons hs (List.Mem.tail _ (List.Mem.tail _ (List.Mem.head _))) (Hold.nil hs hV2))
            refine pw_one ?_
            refine ow_store0 (α := GDaemon) (β := GDaemon) rfl (wt_free rfl) ty35 rfl rfl (Lens.id GDaemon) hs ?_; clear hs; intro w hs
            refine ⟨fun h => absurd h (by decide), ?_⟩; have hS := True.intro
            refine pw_pur rfl (wt_free rfl) (p_assignS rfl) (by decide) (fun h => absurd h (by decide)) ?_
            refine pw_pur rfl (wt_free rfl) (p_assignI rfl) (by decide) (fun h => absurd h (by decide)) ?_
            refine pw_done ?_
            exact ⟨V2, d2, ts2, _, e5, e6, e7, rfl, rfl, rfl, hV2, hd2, hs⟩
          · refine ow_alloc rfl (wt_free rfl) z35 hs (by decide) ?_; clear hs; intro b8 w hs
            refine ⟨fun _ => Hold.cons hs (List.Mem.tail _ (List.Mem.head _)) (Hold.cons hs (List.Mem.tail _ (List.Mem.tail _ (List.Mem.head _))) (Hold.nil hs (PH.refl _))), ?_⟩; have hS := Hold.cons hs (List.Mem.tail _ (List.Mem.head _)) (Hold.cons hs (List.Mem.tail _ (List.Mem.tail _ (List.Mem.head _))) (Hold.nil hs (PH.refl _)))
            refine pw_one ?_
            refine ow_call2 rfl (wt_free rfl) fn6 (s_clear0 hs hd hst hi (by omega) (by omega) (by omega) htn hf hk hx1 hx3.h hx4) rfl rfl ?_ (by decide)
            clear hs hS
            rintro _ w ⟨V2, d2, ts2, hV2, rfl, hd2, hs⟩
            refine ⟨fun h => absurd h (by decide), ?_⟩; have hS := True.intro
            refine pw_pur rfl (wt_free rfl) (p_moveT rfl) (by decide) (fun h => absurd h (by decide)) ?_
            refine pw_pur rfl (wt_free rfl) (p_extract rfl rfl) (by decide) (fun h => absurd h (by decide)) ?_
            refine pw_pur rfl (wt_free rfl) (p_extract rfl rfl) (by decide) (fun h => absurd h (by decide)) ?_
            refine pw_pur rfl (wt_free rfl) (p_extract rfl rfl) (by decide) (fun h => absurd h (by decide)) ?_
            refine pw_one ?_
            refine ow_store0 (α := GDaemon) (β := GDaemon) rfl (wt_free rfl) ty35 rfl rfl (Lens.id GDaemon) hs ?_; clear hs; intro w hs
            refine ⟨fun h => absurd h (by decide), ?_⟩; have hS := True.intro
            refine pw_pur rfl (wt_free rfl) (p_assignS rfl) (by decide) (fun h => absurd h (by decide)) ?_
            refine pw_pur rfl (wt_free rfl) (p_assignI rfl) (by decide) (fun h => absurd h (by decide)) ?_
            refine pw_done ?_
            exact ⟨V2, d2, ts2, _, e5, e6, e7, rfl, rfl, rfl, hV2, hd2, hs⟩
        · refine ow_alloc rfl (wt_free rfl) z35 hs (by decide) ?_; clear hs; intro b8 w hs
          refine ⟨fun _ => Hold.cons hs (List.Mem.tail _ (List.Mem.head _)) (Hold.cons hs (List.Mem.tail _ (List.Mem.tail _ (List.Mem.head _))) (Hold.nil hs (PH.refl _))), ?_⟩; have hS := Hold.cons hs (List.Mem.tail _ (List.Mem.head _)) (Hold.cons hs (List.Mem.tail _ (List.Mem.tail _ (List.Mem.head _))) (Hold.nil hs (PH.refl _)))
          refine pw_one ?_
          refine ow_call1 rfl (wt_free rfl) fn7 (s_text01 hs) rfl ?_ (by decide)
          clear hs hS
          rintro _ w ⟨rfl, hs⟩
          refine ⟨fun _ => Hold.cons hs (List.Mem.tail _ (List.Mem.head _)) (Hold.cons hs (List.Mem.tail _ (List.Mem.tail _ (List.Mem.head _))) (Hold.nil hs (PH.refl _))), ?_⟩; have hS := Hold.cons hs (List.Mem.tail _ (List.Mem.head _)) (Hold.cons hs (List.Mem.tail _ (List.Mem.tail _ (List.Mem.head _))) (Hold.nil hs (PH.refl _)))
          refine pw_pur rfl (wt_free rfl) (p_addStr rfl rfl (by first | omega | (dsimp only; omega) | (simp <;> omega))) (by decide) (fun _ => hS) ?_
          refine pw_one ?_
          refine ow_call2 rfl (wt_free rfl) fn6 (s_clear0 hs hd hst hi (by omega) (by omega) (by omega) htn hf hk hx1 hx3.h hx4) rfl rfl ?_ (by decide)
          clear hs hS
          rintro _ w ⟨V2, d2, ts2, hV2, rfl, hd2, hs⟩
          refine ⟨fun h => absurd h (by decide), ?_⟩; have hS := True.intro
          refine pw_pur rfl (wt_free rfl) (p_moveT rfl) (by decide) (fun h => absurd h (by decide)) ?_
          refine pw_pur rfl (wt_free rfl) (p_extract rfl rfl) (by decide) (fun h => absurd h (by decide)) ?_
          refine pw_pur rfl (wt_free rfl) (p_extract rfl rfl) (by decide) (fun h => absurd h (by decide)) ?_
          refine pw_pur rfl (wt_free rfl) (p_extract rfl rfl) (by decide) (fun h => absurd h (by decide)) ?_
          refine pw_one ?_
          refine ow_store0 (α := GDaemon) (β := GDaemon) rfl (wt_free rfl) ty35 rfl rfl (Lens.id GDaemon) hs ?_; clear hs; intro w hs
          refine ⟨fun h => absurd h (by decide), ?_⟩; have hS := True.intro
          refine pw_pur rfl (wt_free rfl) (p_assignS rfl) (by decide) (fun h => absurd h (by decide)) ?_
          refine pw_pur rfl (wt_free rfl) (p_assignI rfl) (by decide) (fun h => absurd h (by decide)) ?_
          refine pw_done ?_
          exact ⟨V2, d2, ts2, _, e5, e6, e7, rfl, rfl, rfl, hV2, hd2, hs⟩
      · clear hs
        intro f w hI
        obtain ⟨V2, d2, ts2, b8, e5, e6, e7, e8, e9, e10, hV2, hd2, hs⟩ := hI
        replace hd := hd.mono hV2
        refine cw_cut (M := fun f w => ∃ (V3 : PH) (d3 : GDaemon) (b11 : Nat), f 5 = ptr b5 0 ∧ f 6 = vi (i : Nat) ∧ f 7 = ptr b7 0 ∧ f 8 = ptr b8 0 ∧ f 9 = vs [] ∧ f 10 = vi 0 ∧ f 11 = ptr b11 0 ∧ f 12 = vs [] ∧ f 13 = vi 0 ∧ V2 ≤ V3 ∧ DSl V3 d3 (ps.eraseIdx i) (removePR (rsOf n) k) (dropPS ss k ss.length) (cancelPT ts k) ∧ St W0 V3 w ((b11, blk 35 d3) :: (b8, blk 35 d2) :: (b7, blk 27 k) :: (b5, blk 35 d) :: L)) ?_ ?_
        · have hxl := hx3.h
          have hS := Hold.cons hs (List.Mem.tail _ (List.Mem.head _)) (Hold.cons hs (List.Mem.tail _ (List.Mem.tail _ (List.Mem.head _))) (Hold.nil hs (PH.refl _)))
          refine cw_planH (.take 0 (.take 1 (.two 2 (.take 3 (.two 4 (.take 5 (.take 6 (.take 7 (.take 8 (.one 9 (.one 10 (.take 11 (.take 12 .done)))))))) 9 (.one 4 (.take 5 (.take 6 (.take 7 (.take 8 (.one 10 (.take 11 (.take 12 .done)))))))))) 9 (.one 2 (.take 3 (.one 4 (.take 5 (.take 6 (.take 7 (.take 8 (.one 10 (.take 11 (.take 12 .done))))))))))))) 527 hmix (by kernel_rfl) (fun _ _ _ h => h) hs hS ?_
          clear hS; clear hs; intro w hs; have hS := Hold.cons hs (List.Mem.tail _ (List.Mem.head _)) (Hold.cons hs (List.Mem.tail _ (List.Mem.tail _ (List.Mem.head _))) (Hold.nil hs (PH.refl _)))
          refine pw_ld rfl (wt_free rfl) (by kernel_rfl) (Hold.runs_loadO (α := GDaemon) (β := GDaemon) ty35 e5 (Lens.id GDaemon) (List.Mem.tail _ (List.Mem.head _))) (by decide) hS ?_
          refine pw_ld rfl (wt_free rfl) (by kernel_rfl) (Hold.runs_loadO (α := (Vec 32 UInt8)) (β := (Vec 32 UInt8)) ty27 e7 (Lens.id (Vec 32 UInt8)) (List.Mem.head _)) (by decide) hS ?_
          refine pw_two ?_ ?_
          · refine ow_call1 rfl (wt_free rfl) fn7 (s_text01 hs) rfl ?_ (by decide)
            clear hs hS
            rintro _ w ⟨rfl, hs⟩
            refine ⟨fun _ => Hold.cons hs (List.Mem.tail _ (List.Mem.head _)) (Hold.cons hs (List.Mem.tail _ (List.Mem.tail _ (List.Mem.head _))) (Hold.nil hs (PH.refl _))), ?_⟩; have hS := Hold.cons hs (List.Mem.tail _ (List.Mem.head _)) (Hold.cons hs (List.Mem.tail _ (List.Mem.tail _ (List.Mem.head _))) (Hold.nil hs (PH.refl _)))
            refine pw_pur rfl (wt_free rfl) (p_addStr rfl rfl (by first | omega | (dsimp only; omega) | (simp <;> omega))) (by decide) (fun _ => hS) ?_
            refine pw_two ?_ ?_
            · refine ow_call2 rfl (wt_free rfl) fn6 (s_remove0 hs hd hst hi (by omega) (by omega) (by omega) htn hf hx2 hx3.h hx4) rfl rfl ?_ (by decide)
              clear hs hS
              rintro _ w ⟨V3, d3, hV3, rfl, hd3, hs⟩
              refine ⟨fun h => absurd h (by decide), ?_⟩; have hS := True.intro
              refine pw_pur rfl (wt_free rfl) (p_moveT rfl) (by decide) (fun h => absurd h (by decide)) ?_
              refine pw_pur rfl (wt_free rfl) (p_extract rfl rfl) (by decide) (fun h => absurd h (by decide)) ?_
              refine pw_pur rfl (wt_free rfl) (p_extract rfl rfl) (by decide) (fun h => absurd h (by decide)) ?_
              refine pw_pur rfl (wt_free rfl) (p_extract rfl rfl) (by decide) (fun h => absurd h (by decide)) ?_
              refine pw_one ?_
              refine ow_alloc rfl (wt_free rfl) z35 hs (by decide) ?_; clear hs; intro b11 w hs
              refine ⟨fun _ => Hold.cons hs (List.Mem.tail _ (List.Mem.tail _ (List.Mem.head _))) (Hold.cons hs (List.Mem.tail _ (List.Mem.tail _ (List.Mem.tail _ (List.Mem.head _)))) (Hold.nil hs hV3)), ?_⟩; have hS := Hold.cons hs (List.Mem.tail _ (List.Mem.tail _ (List.Mem.head _))) (Hold.cons hs (List.Mem.tail _ (List.Mem.tail _ (List.Mem.tail _ (List.Mem.head _)))) (Hold.nil hs hV3))
              refine pw_one ?_
              refine ow_store0 (α := GDaemon) (β := GDaemon) rfl (wt_free rfl) ty35 rfl rfl (Lens.id GDaemon) hs ?_; clear hs; intro w hs
              refine ⟨fun h => absurd h (by decide), ?_⟩; have hS := True.intro
              refine pw_pur rfl (wt_free rfl) (p_assignS rfl) (by decide) (fun h => absurd h (by decide)) ?_
              refine pw_pur rfl (wt_free rfl) (p_assignI rfl) (by decide) (fun h => absurd h (by decide)) ?_
              refine pw_done ?_
              exact ⟨V3, d3, _, e5, e6, e7, e8, e9, e10, rfl, rfl, rfl, hV3, hd3, hs⟩
            · refine ow_alloc rfl (wt_free rfl) z35 hs (by decide) ?_; clear hs; intro b11 w hs
              refine ⟨fun _ => Hold.cons hs (List.Mem.tail _ (List.Mem.tail _ (List.Mem.head _))) (Hold.cons hs (List.Mem.tail _ (List.Mem.tail _ (List.Mem.tail _ (List.Mem.head _)))) (Hold.nil hs (PH.refl _))), ?_⟩; have hS := Hold.cons hs (List.Mem.tail _ (List.Mem.tail _ (List.Mem.head _))) (Hold.cons hs (List.Mem.tail _ (List.Mem.tail _ (List.Mem.tail _ (List.Mem.head _)))) (Hold.nil hs (PH.refl _)))
              refine pw_one ?_
              refine ow_call2 rfl (wt_free rfl) fn6 (s_remove0 hs hd hst hi (by omega) (by omega) (by omega) htn hf hx2 hx3.h hx4) rfl rfl ?_ (by decide)
              clear hs hS
              rintro _ w ⟨V3, d3, hV3, rfl, hd3, hs⟩
              refine ⟨fun h => absurd h (by decide), ?_⟩; have hS := True.intro
              refine pw_pur rfl (wt_free rfl) (p_moveT rfl) (by decide) (fun h => absurd h (by decide)) ?_
              refine pw_pur rfl (wt_free rfl) (p_extract rfl rfl) (by decide) (fun h => absurd h (by decide)) ?_
              refine pw_pur rfl (wt_free rfl) (p_extract rfl rfl) (by decide) (fun h => absurd h (by decide)) ?_
              refine pw_pur rfl (wt_free rfl) (p_extract rfl rfl) (by decide) (fun h => absurd h (by decide)) ?_
              refine pw_one ?_
              refine ow_store0 (α := GDaemon) (β := GDaemon) rfl (wt_free rfl) ty35 rfl rfl (Lens.id GDaemon) hs ?_; clear hs; intro w hs
              refine ⟨fun h => absurd h (by decide), ?_⟩; have hS := True.intro
              refine pw_pur rfl (wt_free rfl) (p_assignS rfl) (by decide) (fun h => absurd h (by decide)) ?_
              refine pw_pur rfl (wt_free rfl) (p_assignI rfl) (by decide) (fun h => absurd h (by decide)) ?_
              refine pw_done ?_
              exact ⟨V3, d3, _, e5, e6, e7, e8, e9, e10, rfl, rfl, rfl, hV3, hd3, hs⟩
          · refine ow_alloc rfl (wt_free rfl) z35 hs (by decide) ?_; clear hs; intro b11 w hs
            refine ⟨fun _ => Hold.cons hs (List.Mem.tail _ (List.Mem.tail _ (List.Mem.head _))) (Hold.cons hs (List.Mem.tail _ (List.Mem.tail _ (List.Mem.tail _ (List.Mem.head _)))) (Hold.nil hs (PH.refl _))), ?_⟩; have hS := Hold.cons hs (List.Mem.tail _ (List.Mem.tail _ (List.Mem.head _))) (Hold.cons hs (List.Mem.tail _ (List.Mem.tail _ (List.Mem.tail _ (List.Mem.head _)))) (Hold.nil hs (PH.refl _)))
            refine pw_one ?_
            refine ow_call1 rfl (wt_free rfl) fn7 (s_text01 hs) rfl ?_ (by decide)
            clear hs hS
            rintro _ w ⟨rfl, hs⟩
            refine ⟨fun _ => Hold.cons hs (List.Mem.tail _ (List.Mem.tail _ (List.Mem.head _))) (Hold.cons hs (List.Mem.tail _ (List.Mem.tail _ (List.Mem.tail _ (List.Mem.head _)))) (Hold.nil hs (PH.refl _))), ?_⟩; have hS := Hold.cons hs (List.Mem.tail _ (List.Mem.tail _ (List.Mem.head _))) (Hold.cons hs (List.Mem.tail _ (List.Mem.tail _ (List.Mem.tail _ (List.Mem.head _)))) (Hold.nil hs (PH.refl _)))
            refine pw_pur rfl (wt_free rfl) (p_addStr rfl rfl (by first | omega | (dsimp only; omega) | (simp <;> omega))) (by decide) (fun _ => hS) ?_
            refine pw_one ?_
            refine ow_call2 rfl (wt_free rfl) fn6 (s_remove0 hs hd hst hi (by omega) (by omega) (by omega) htn hf hx2 hx3.h hx4) rfl rfl ?_ (by decide)
            clear hs hS
            rintro _ w ⟨V3, d3, hV3, rfl, hd3, hs⟩
            refine ⟨fun h => absurd h (by decide), ?_⟩; have hS := True.intro
            refine pw_pur rfl (wt_free rfl) (p_moveT rfl) (by decide) (fun h => absurd h (by decide)) ?_
            refine pw_pur rfl (wt_free rfl) (p_extract rfl rfl) (by decide) (fun h => absurd h (by decide)) ?_
            refine pw_pur rfl (wt_free rfl) (p_extract rfl rfl) (by decide) (fun h => absurd h (by decide)) ?_
            refine pw_pur rfl (wt_free rfl) (p_extract rfl rfl) (by decide) (fun h => absurd h (by decide)) ?_
            refine pw_one ?_
            refine ow_store0 (α := GDaemon) (β := GDaemon) rfl (wt_free rfl) ty35 rfl rfl (Lens.id GDaemon) hs ?_; clear hs; intro w hs
            refine ⟨fun h => absurd h (by decide), ?_⟩; have hS := True.intro
            refine pw_pur rfl (wt_free rfl) (p_assignS rfl) (by decide) (fun h => absurd h (by decide)) ?_
            refine pw_pur rfl (wt_free rfl) (p_assignI rfl) (by decide) (fun h => absurd h (by decide)) ?_
            refine pw_done ?_
            exact ⟨V3, d3, _, e5, e6, e7, e8, e9, e10, rfl, rfl, rfl, hV3, hd3, hs⟩
        · clear hs
          intro f w hI
          obtain ⟨V3, d3, b11, e5, e6, e7, e8, e9, e10, e11, e12, e13, hV3, hd3, hs⟩ := hI
          replace hd := hd.mono hV3
          replace hd2 := hd2.mono hV3
          have hl2 : d2.peers.len = d.peers.len := by rw [hd2.pl, hdl, List.length_set]
          have hl3 : ((d3.peers.len : Nat) : Int) = (d.peers.len : Int) - 1 := by rw [hd3.pl, hdl, List.length_eraseIdx, if_pos hi]; omega
          have hl4 : d2.peers.len = (ps.set i (wipeP ps[i])).length := hd2.pl
          have hsl2 := hd2.sl
          have hsl3 := hd3.sl
          refine cw_seq ?_
          refine cw_seq (cw_region ?_)
          refine l_pur (p_move e10) (by decide) ?_
          refine l_purIs (c := false) (p_neq rfl rfl) (by rfl) (by decide) ?_
          refine l_pur (p_moveB rfl) (by decide) ?_
          refine lw_do rfl rfl rfl ?_
          refine l_pur (p_move e13) (by decide) ?_
          refine lw_do rfl rfl rfl ?_
          refine l_purIs (c := false) (p_neq rfl rfl) (by rfl) (by decide) ?_
          refine l_pur (p_pickF rfl rfl) (by decide) ?_
          refine l_pur (p_moveB rfl) (by decide) ?_
          refine lw_do rfl rfl rfl ?_
          refine l_pur (p_move e9) (by decide) ?_
          refine lw_do rfl rfl rfl ?_
          refine l_pur (p_move e12) (by decide) ?_
          refine lw_do rfl rfl rfl ?_
          refine l_pur (p_addStr rfl rfl (by first | omega | (dsimp only; omega) | (simp <;> omega))) (by decide) ?_
          refine lw_do rfl rfl rfl ?_
          refine l_purIs (c := false) (p_neqStr rfl rfl) (by rfl) (by decide) ?_
          refine l_pur (p_pickF rfl rfl) (by decide) ?_
          refine l_pur (p_moveB rfl) (by decide) ?_
          refine lw_do rfl rfl rfl ?_
          refine l_pur (p_fieldAddr fo35_6 e8) (by decide) ?_
          refine lw_do rfl rfl rfl ?_
          refine l_loadO (α := GDaemon) (β := GSl) ty28 rfl GDaemon.l_peers hs (List.Mem.tail _ (List.Mem.head _)) (by decide) ?_
          refine lw_do rfl rfl rfl ?_
          refine l_pur (p_len Tryz.underlying28 rfl) (by decide) ?_
          refine lw_do rfl rfl rfl ?_
          refine l_pur (p_fieldAddr fo35_6 e5) (by decide) ?_
          refine lw_do rfl rfl rfl ?_
          refine l_loadO (α := GDaemon) (β := GSl) ty28 rfl GDaemon.l_peers hs (List.Mem.tail _ (List.Mem.tail _ (List.Mem.tail _ (List.Mem.head _)))) (by decide) ?_
          refine lw_do rfl rfl rfl ?_
          refine l_pur (p_len Tryz.underlying28 rfl) (by decide) ?_
          refine lw_do rfl rfl rfl ?_
          refine l_purIs (c := false) (p_neq rfl rfl) (by rw [hl2]; simp) (by decide) ?_
          refine l_pur (p_pickF rfl rfl) (by decide) ?_
          refine l_pur (p_moveB rfl) (by decide) ?_
          refine lw_do rfl rfl rfl ?_
          refine l_pur (p_fieldAddr fo35_6 e11) (by decide) ?_
          refine lw_do rfl rfl rfl ?_
          refine l_loadO (α := GDaemon) (β := GSl) ty28 rfl GDaemon.l_peers hs (List.Mem.head _) (by decide) ?_
          refine lw_do rfl rfl rfl ?_
          refine l_pur (p_len Tryz.underlying28 rfl) (by decide) ?_
          refine lw_do rfl rfl rfl ?_
          refine l_pur (p_fieldAddr fo35_6 e5) (by decide) ?_
          refine lw_do rfl rfl rfl ?_
          refine l_loadO (α := GDaemon) (β := GSl) ty28 rfl GDaemon.l_peers hs (List.Mem.tail _ (List.Mem.tail _ (List.Mem.tail _ (List.Mem.head _)))) (by decide) ?_
          refine lw_do rfl rfl rfl ?_
          refine l_pur (p_len Tryz.underlying28 rfl) (by decide) ?_
          refine lw_do rfl rfl rfl ?_
          refine l_pur (p_sub64 rfl rfl (by first | omega | (dsimp only; omega) | (simp <;> omega))) (by decide) ?_
          refine lw_do rfl rfl rfl ?_
          refine l_purIs (c := false) (p_neq rfl rfl) (by rw [hl3]; simp) (by decide) ?_
          refine l_pur (p_pickF rfl rfl) (by decide) ?_
          refine lw_nil ?_
          refine cw_false rfl ?_
          refine cw_skip ?_
          refine cw_seq ?_
          refine cw_cut (M := fun f w => ∃ (V4 : PH) (a4 : Option Addr) (c4 : Nat), V3 ≤ V4 ∧ f 5 = ptr b5 0 ∧ f 6 = vi (i : Nat) ∧ f 7 = ptr b7 0 ∧ f 8 = ptr b8 0 ∧ f 11 = ptr b11 0 ∧ f 93 = vi 0 ∧ f 92 = vi ((wipeS ss ps[i] ++ dropPS ss k ss.length).length : Nat) ∧ f 91 = .slice a4 (wipeS ss ps[i] ++ dropPS ss k ss.length).length c4 ∧ Sl V4 69 a4 c4 (wipeS ss ps[i] ++ dropPS ss k ss.length) ∧ St W0 V4 w ((b11, blk 35 d3) :: (b8, blk 35 d2) :: (b7, blk 27 k) :: (b5, blk 35 d) :: L)) ?_ ?_
          · have hS := Hold.cons hs (List.Mem.head _) (Hold.cons hs (List.Mem.tail _ (List.Mem.head _)) (Hold.nil hs (PH.refl _)))
            refine cw_planH (.take 0 (.take 1 (.take 3 (.take 4 (.take 7 (.one 2 (.one 5 (.take 6 .done)))))))) 159 hmix (by kernel_rfl) (fun _ _ _ h => h) hs hS ?_
            clear hS; clear hs; intro w hs; have hS := Hold.cons hs (List.Mem.head _) (Hold.cons hs (List.Mem.tail _ (List.Mem.head _)) (Hold.nil hs (PH.refl _)))
            refine pw_pur rfl (wt_free rfl) (p_fieldAddr fo35_8 e8) (by decide) (fun _ => hS) ?_
            refine pw_ld rfl (wt_free rfl) (by kernel_rfl) (Hold.runs_loadO (α := GDaemon) (β := GSl) ty30 rfl GDaemon.l_slots (List.Mem.tail _ (List.Mem.head _))) (by decide) hS ?_
            refine pw_pur rfl (wt_free rfl) (p_fieldAddr fo35_8 e11) (by decide) (fun _ => hS) ?_
            refine pw_ld rfl (wt_free rfl) (by kernel_rfl) (Hold.runs_loadO (α := GDaemon) (β := GSl) ty30 rfl GDaemon.l_slots (List.Mem.head _)) (by decide) hS ?_
            refine pw_pur rfl (wt_free rfl) (p_moveC) (by decide) (fun _ => hS) ?_
            refine pw_one ?_
            refine ow_appendNil rfl (wt_free rfl) el30 rfl rfl hs (hd2.s.src hs) hsl2 (by rw [hsl2]; omega) (by rw [hsl2]; omega) (by decide) ?_
            clear hs hS
            intro v w ho
            obtain ⟨A, hs, hA⟩ := ho.open'
            replace hs := hs.perm (List.perm_append_comm_assoc A [_, _, _, _] L)
            refine ⟨fun _ => Hold.cons hs (List.Mem.head _) (Hold.cons hs (List.Mem.tail _ (List.Mem.head _)) (Hold.nil hs (PH.refl _))), ?_⟩; have hS := Hold.cons hs (List.Mem.head _) (Hold.cons hs (List.Mem.tail _ (List.Mem.head _)) (Hold.nil hs (PH.refl _)))
            refine pw_one ?_
            refine ow_appendO rfl (wt_free rfl) el30 rfl rfl (hA.close (X := [_, _, _, _]) hs) (hd3.s.src hs) hsl3 (by rw [hsl3]; omega) (by rw [hsl3]; omega) (by decide) ?_
            clear hs hS
            intro v2 w ho2
            obtain ⟨V4, a4, c4, hV4, hs, rfl, hla⟩ := ho2.freeze
            refine ⟨fun h => absurd h (by decide), ?_⟩; have hS := True.intro
            refine pw_pur rfl (wt_free rfl) (p_len Tryz.underlying30 rfl) (by decide) (fun h => absurd h (by decide)) ?_
            refine pw_done ?_
            exact ⟨V4, a4, c4, hV4, e5, e6, e7, e8, e11, rfl, rfl, rfl, hla, hs⟩
          · clear hs
            intro f w hI
            obtain ⟨V4, a4, c4, hV4, e5, e6, e7, e8, e11, e93, e92, e91, hla, hs⟩ := hI
            have hnoA : ∀ s ∈ wipeS ss ps[i] ++ dropPS ss k ss.length, s.peer ≠ k := fun s hs => (List.mem_append.1 hs).elim (hno1 s) (hno2 s)
            have hnl : (wipeS ss ps[i] ++ dropPS ss k ss.length).length ≤ 64 := by rw [List.length_append]; omega
            replace hd := hd.mono hV4
            replace hd2 := hd2.mono hV4
            replace hd3 := hd3.mono hV4
            generalize wipeS ss ps[i] ++ dropPS ss k ss.length = sa at *
            refine cw_block ?_
            refine cw_loop (fun q f w => ∃ (j : Nat), q = sa.length - j ∧ j ≤ sa.length ∧ f 93 = vi (j : Nat) ∧ f 92 = vi (sa.length : Nat) ∧ f 91 = .slice a4 sa.length c4 ∧ f 5 = ptr b5 0 ∧ f 6 = vi (i : Nat) ∧ f 7 = ptr b7 0 ∧ f 8 = ptr b8 0 ∧ f 11 = ptr b11 0 ∧ St W0 V4 w ((b11, blk 35 d3) :: (b8, blk 35 d2) :: (b7, blk 27 k) :: (b5, blk 35 d) :: L)) (sa.length) ?_ ?_
            · exact ⟨0, rfl, Nat.zero_le _, e93, e92, e91, e5, e6, e7, e8, e11, hs⟩
            · intro q f w hI
              clear hs
              obtain ⟨j, rfl, hj, e93, e92, e91, e5, e6, e7, e8, e11, hs⟩ := hI
              refine cw_seq (cw_region ?_)
              refine l_pur (p_lss e93 e92) (by decide) ?_
              refine lw_nil ?_
              refine cw_seq ?_
              refine cw_cond _ rfl (fun hc1 => ?_) (fun hc1 => ?_)
              · have hlt : j < sa.length := by have := of_decide_eq_true hc1; omega
                refine cw_skip ?_
                refine cw_seq ?_
                refine cw_block ?_
                refine cw_seq (cw_region ?_)
                refine l_indexSl (α := GSlot) el30.sl ty69 e91 rfl e93 (by first | omega | (dsimp only; omega) | (simp <;> omega)) hla (by decide) ?_; intro bb95 oo95 cc95 hb95 ha95
                refine l_loadV (α := GSlot) ty69 rfl hs hb95 ha95 (by decide) ?_
                refine l_alloc z69 hs (by decide) ?_; clear hs; intro b15 w hs
                refine l_store0 (α := GSlot) (β := GSlot) ty69 rfl rfl (Lens.id GSlot) hs ?_; clear hs; intro w hs
                refine lw_nil ?_
                refine cw_seq (cw_region ?_)
                refine l_pur (p_fieldAddr fo69_1 rfl) (by decide) ?_
                refine l_loadO (α := GSlot) (β := (Vec 32 UInt8)) ty27 rfl GSlot.l_peer hs (List.Mem.head _) (by decide) ?_
                refine l_loadO (α := (Vec 32 UInt8)) (β := (Vec 32 UInt8)) ty27 e7 (Lens.id (Vec 32 UInt8)) hs (List.Mem.tail _ (List.Mem.tail _ (List.Mem.tail _ (List.Mem.head _)))) (by decide) ?_
                refine l_purIs (c := false) (p_eqlS eq27 rfl rfl) (by exact decide_eq_false (hnoA _ (List.getElem_mem hlt))) (by decide) ?_
                refine lw_nil ?_
                refine cw_false rfl ?_
                refine cw_skip ?_
                refine cw_region ?_
                refine l_pur (p_add64 e93 rfl (by first | omega | (dsimp only; omega) | (simp <;> omega))) (by decide) ?_
                refine l_pur (p_moveI rfl) (by decide) ?_
                refine lw_nil ?_
                exact ⟨_, by omega, j + 1, rfl, hlt, rfl, e92, e91, e5, e6, e7, e8, e11, hs.drop1⟩
              · try simp only [decide_eq_true_eq, decide_eq_false_iff_not, Bool.not_eq_true', Bool.not_eq_false', beq_iff_eq, bne_iff_ne, beq_eq_false_iff_ne, bne_eq_false_iff_eq] at hc1
                refine cw_exit ?_
                refine cw_seq ?_
                refine cw_seq (cw_region ?_)
                refine l_pur (p_fieldAddr fo35_7 e11) (by decide) ?_
                refine l_loadO (α := GDaemon) (β := GSl) ty29 rfl GDaemon.l_routes hs (List.Mem.head _) (by decide) ?_
                refine l_pur (p_len Tryz.underlying29 rfl) (by decide) ?_
                refine l_pur (p_moveC) (by decide) ?_
                refine lw_nil ?_
                refine cw_block ?_
                refine cw_loop (fun q f w => ∃ (j : Nat), q = (removePR (rsOf n) k).length - j ∧ j ≤ (removePR (rsOf n) k).length ∧ f 105 = vi (j : Nat) ∧ f 104 = vi ((removePR (rsOf n) k).length : Nat) ∧ f 103 = .slice d3.routes.a d3.routes.len d3.routes.cap ∧ f 5 = ptr b5 0 ∧ f 6 = vi (i : Nat) ∧ f 7 = ptr b7 0 ∧ f 8 = ptr b8 0 ∧ f 11 = ptr b11 0 ∧ St W0 V4 w ((b11, blk 35 d3) :: (b8, blk 35 d2) :: (b7, blk 27 k) :: (b5, blk 35 d) :: L)) ((removePR (rsOf n) k).length) ?_ ?_
                · exact ⟨0, rfl, Nat.zero_le _, rfl, congrArg (fun q : Nat => vi (q : Int)) hd3.rl, rfl, e5, e6, e7, e8, e11, hs⟩
                · intro q f w hI
                  clear hs
                  obtain ⟨j, rfl, hj, e105, e104, e103, e5, e6, e7, e8, e11, hs⟩ := hI
                  have hlr := hd3.r
                  have hlrl := hd3.rl
                  refine cw_seq (cw_region ?_)
                  refine l_pur (p_lss e105 e104) (by decide) ?_
                  refine lw_nil ?_
                  refine cw_seq ?_
                  refine cw_cond _ rfl (fun hc3 => ?_) (fun hc3 => ?_)
                  · have hlt : j < (removePR (rsOf n) k).length := by have := of_decide_eq_true hc3; omega
                    refine cw_skip ?_
                    refine cw_seq ?_
                    refine cw_block ?_
                    refine cw_seq (cw_region ?_)
                    refine l_indexSl (α := GRoute) el29.sl ty73 e103 hlrl e105 (by first | omega | (dsimp only; omega) | (simp <;> omega)) hlr (by decide) ?_; intro bb107 oo107 cc107 hb107 ha107
                    refine l_loadV (α := GRoute) ty73 rfl hs hb107 ha107 (by decide) ?_
                    refine l_alloc z73 hs (by decide) ?_; clear hs; intro b17 w hs
                    refine l_store0 (α := GRoute) (β := GRoute) ty73 rfl rfl (Lens.id GRoute) hs ?_; clear hs; intro w hs
                    refine lw_nil ?_
                    refine cw_seq (cw_region ?_)
                    refine l_pur (p_fieldAddr fo73_1 rfl) (by decide) ?_
                    refine l_loadO (α := GRoute) (β := (Vec 32 UInt8)) ty27 rfl GRoute.l_peer hs (List.Mem.head _) (by decide) ?_
                    refine l_loadO (α := (Vec 32 UInt8)) (β := (Vec 32 UInt8)) ty27 e7 (Lens.id (Vec 32 UInt8)) hs (List.Mem.tail _ (List.Mem.tail _ (List.Mem.tail _ (List.Mem.head _)))) (by decide) ?_
                    refine l_purIs (c := false) (p_eqlS eq27 rfl rfl) (by exact decide_eq_false (hno3 _ (List.getElem_mem hlt))) (by decide) ?_
                    refine lw_nil ?_
                    refine cw_false rfl ?_
                    refine cw_skip ?_
                    refine cw_region ?_
                    refine l_pur (p_add64 e105 rfl (by first | omega | (dsimp only; omega) | (simp <;> omega))) (by decide) ?_
                    refine l_pur (p_moveI rfl) (by decide) ?_
                    refine lw_nil ?_
                    exact ⟨_, by omega, j + 1, rfl, hlt, rfl, e104, e103, e5, e6, e7, e8, e11, hs.drop1⟩
                  · try simp only [decide_eq_true_eq, decide_eq_false_iff_not, Bool.not_eq_true', Bool.not_eq_false', beq_iff_eq, bne_iff_ne, beq_eq_false_iff_ne, bne_eq_false_iff_eq] at hc3
                    refine cw_exit ?_
                    refine cw_seq ?_
                    refine cw_seq (cw_region ?_)
                    refine l_pur (p_fieldAddr fo35_9 e11) (by decide) ?_
                    refine l_loadO (α := GDaemon) (β := GSl) ty31 rfl GDaemon.l_timers hs (List.Mem.head _) (by decide) ?_
                    refine l_pur (p_len Tryz.underlying31 rfl) (by decide) ?_
                    refine l_pur (p_moveC) (by decide) ?_
                    refine lw_nil ?_
                    refine cw_block ?_
                    refine cw_loop (fun q f w => ∃ (j : Nat), q = (cancelPT ts k).length - j ∧ j ≤ (cancelPT ts k).length ∧ f 117 = vi (j : Nat) ∧ f 116 = vi ((cancelPT ts k).length : Nat) ∧ f 115 = .slice d3.timers.a d3.timers.len d3.timers.cap ∧ f 5 = ptr b5 0 ∧ f 6 = vi (i : Nat) ∧ f 7 = ptr b7 0 ∧ f 8 = ptr b8 0 ∧ f 11 = ptr b11 0 ∧ St W0 V4 w ((b11, blk 35 d3) :: (b8, blk 35 d2) :: (b7, blk 27 k) :: (b5, blk 35 d) :: L)) ((cancelPT ts k).length) ?_ ?_
                    · exact ⟨0, rfl, Nat.zero_le _, rfl, congrArg (fun q : Nat => vi (q : Int)) hd3.tl, rfl, e5, e6, e7, e8, e11, hs⟩
                    · intro q f w hI
                      clear hs
                      obtain ⟨j, rfl, hj, e117, e116, e115, e5, e6, e7, e8, e11, hs⟩ := hI
                      have hlt1 := hd3.t
                      have hltl := hd3.tl
                      refine cw_seq (cw_region ?_)
                      refine l_pur (p_lss e117 e116) (by decide) ?_
                      refine lw_nil ?_
                      refine cw_seq ?_
                      refine cw_cond _ rfl (fun hc5 => ?_) (fun hc5 => ?_)
                      · have hlt : j < (cancelPT ts k).length := by have := of_decide_eq_true hc5; omega
                        refine cw_skip ?_
                        refine cw_seq ?_
                        refine cw_block ?_
                        refine cw_seq (cw_region ?_)
                        refine l_indexSl (α := GTimer) el31.sl ty75 e115 hltl e117 (by first | omega | (dsimp only; omega) | (simp <;> omega)) hlt1 (by decide) ?_; intro bb119 oo119 cc119 hb119 ha119
                        refine l_loadV (α := GTimer) ty75 rfl hs hb119 ha119 (by decide) ?_
                        refine l_alloc z75 hs (by decide) ?_; clear hs; intro b19 w hs
                        refine l_store0 (α := GTimer) (β := GTimer) ty75 rfl rfl (Lens.id GTimer) hs ?_; clear hs; intro w hs
                        refine lw_nil ?_
                        refine cw_seq (cw_region ?_)
                        refine l_pur (p_fieldAddr fo75_1 rfl) (by decide) ?_
                        refine l_loadO (α := GTimer) (β := (Vec 32 UInt8)) ty27 rfl GTimer.l_peer hs (List.Mem.head _) (by decide) ?_
                        refine l_loadO (α := (Vec 32 UInt8)) (β := (Vec 32 UInt8)) ty27 e7 (Lens.id (Vec 32 UInt8)) hs (List.Mem.tail _ (List.Mem.tail _ (List.Mem.tail _ (List.Mem.head _)))) (by decide) ?_
                        refine l_purIs (c := false) (p_eqlS eq27 rfl rfl) (by exact decide_eq_false (hno4 _ (List.getElem_mem hlt))) (by decide) ?_
                        refine lw_nil ?_
                        refine cw_false rfl ?_
                        refine cw_skip ?_
                        refine cw_region ?_
                        refine l_pur (p_add64 e117 rfl (by first | omega | (dsimp only; omega) | (simp <;> omega))) (by decide) ?_
                        refine l_pur (p_moveI rfl) (by decide) ?_
                        refine lw_nil ?_
                        exact ⟨_, by omega, j + 1, rfl, hlt, rfl, e116, e115, e5, e6, e7, e8, e11, hs.drop1⟩
                      · try simp only [decide_eq_true_eq, decide_eq_false_iff_not, Bool.not_eq_true', Bool.not_eq_false', beq_iff_eq, bne_iff_ne, beq_eq_false_iff_ne, bne_eq_false_iff_eq] at hc5
                        refine cw_exit ?_
                        refine cw_seq ?_
                        refine cw_seq (cw_region ?_)
                        refine l_pur (p_fieldAddr fo35_6 e8) (by decide) ?_
                        refine l_loadO (α := GDaemon) (β := GSl) ty28 rfl GDaemon.l_peers hs (List.Mem.tail _ (List.Mem.head _)) (by decide) ?_
                        refine l_pur (p_len Tryz.underlying28 rfl) (by decide) ?_
                        refine l_pur (p_moveC) (by decide) ?_
                        refine lw_nil ?_
                        refine cw_block ?_
                        refine cw_loop (fun q f w => ∃ (j : Nat), q = ps.length - j ∧ j ≤ ps.length ∧ f 129 = vi (j : Nat) ∧ f 128 = vi (ps.length : Nat) ∧ f 127 = .slice d2.peers.a d2.peers.len d2.peers.cap ∧ f 5 = ptr b5 0 ∧ f 6 = vi (i : Nat) ∧ f 7 = ptr b7 0 ∧ f 8 = ptr b8 0 ∧ f 11 = ptr b11 0 ∧ St W0 V4 w ((b11, blk 35 d3) :: (b8, blk 35 d2) :: (b7, blk 27 k) :: (b5, blk 35 d) :: L)) (ps.length) ?_ ?_
                        · exact ⟨0, rfl, Nat.zero_le _, rfl, congrArg (fun q : Nat => vi (q : Int)) (hl2.trans hdl), rfl, e5, e6, e7, e8, e11, hs⟩
                        · intro q f w hI
                          clear hs
                          obtain ⟨j, rfl, hj, e129, e128, e127, e5, e6, e7, e8, e11, hs⟩ := hI
                          have hlp := hd2.p
                          refine cw_seq (cw_region ?_)
                          refine l_pur (p_lss e129 e128) (by decide) ?_
                          refine lw_nil ?_
                          refine cw_seq ?_
                          refine cw_cond _ rfl (fun hc7 => ?_) (fun hc7 => ?_)
                          · have hlt : j < ps.length := by have := of_decide_eq_true hc7; omega
                            have hlt' : j < (ps.set i (wipeP ps[i])).length := by rw [List.length_set]; exact hlt
                            refine cw_skip ?_
                            refine cw_seq ?_
                            refine cw_block ?_
                            refine cw_seq (cw_region ?_)
                            refine l_pur (p_move e129) (by decide) ?_
                            refine l_indexSl (α := GPeer) el28.sl ty63 e127 hl4 e129 (by first | omega | (dsimp only; omega) | (simp <;> omega)) hlp (by decide) ?_; intro bb132 oo132 cc132 hb132 ha132
                            refine l_loadV (α := GPeer) ty63 rfl hs hb132 ha132 (by decide) ?_
                            refine l_alloc z63 hs (by decide) ?_; clear hs; intro b21 w hs
                            refine l_pur (p_assignI rfl) (by decide) ?_
                            refine l_store0 (α := GPeer) (β := GPeer) ty63 rfl rfl (Lens.id GPeer) hs ?_; clear hs; intro w hs
                            refine lw_nil ?_
                            refine cw_seq ?_
                            have hS := Hold.cons hs (List.Mem.head _) (Hold.cons hs (List.Mem.tail _ (List.Mem.tail _ (List.Mem.tail _ (List.Mem.tail _ (List.Mem.head _))))) (Hold.nil hs (PH.refl _)))
                            refine cw_planH (.take 0 (.take 1 (.take 2 (.take 3 (.take 4 (.take 5 (.take 6 (.take 7 (.take 8 (.take 9 (.one 10 (.take 11 (.take 12 (.take 13 (.take 14 (.take 15 (.take 16 (.take 17 (.take 18 (.take 19 (.take 20 (.take 21 (.take 22 (.take 23 .done)))))))))))))))))))))))) 2097151 hmix (by kernel_rfl) (fun _ _ _ h => h) hs hS ?_
                            clear hS; clear hs; intro w hs; have hS := Hold.cons hs (List.Mem.head _) (Hold.cons hs (List.Mem.tail _ (List.Mem.tail _ (List.Mem.tail _ (List.Mem.tail _ (List.Mem.head _))))) (Hold.nil hs (PH.refl _)))
                            refine pw_pur rfl (wt_free rfl) (p_moveI rfl) (by decide) (fun _ => hS) ?_
                            refine pw_pur rfl (wt_free rfl) (p_move e6) (by decide) (fun _ => hS) ?_
                            refine pw_purB rfl (wt_free rfl) (p_neq rfl rfl) (by decide) (fun _ => hS) (fun hg2 => ?_) (fun hg2 => ?_)
                            · try simp only [decide_eq_true_eq, decide_eq_false_iff_not, Bool.not_eq_true', Bool.not_eq_false', beq_iff_eq, bne_iff_ne, beq_eq_false_iff_ne, bne_eq_false_iff_eq] at hg2
                              refine pw_pur rfl (wt_free rfl) (p_moveB rfl) (by decide) (fun _ => hS) ?_
                              refine pw_ld rfl (wt_yes rfl rfl rfl rfl) (by kernel_rfl) (Hold.runs_loadO (α := GPeer) (β := GPeer) ty63 rfl (Lens.id GPeer) (List.Mem.head _)) (by decide) hS ?_
                              refine pw_pur rfl (wt_yes rfl rfl rfl rfl) (p_fieldAddr fo35_6 e5) (by decide) (fun _ => hS) ?_
                              refine pw_ld rfl (wt_yes rfl rfl rfl rfl) (by kernel_rfl) (Hold.runs_loadO (α := GDaemon) (β := GSl) ty28 rfl GDaemon.l_peers (List.Mem.tail _ (List.Mem.head _))) (by decide) hS ?_
                              refine pw_pur rfl (wt_yes rfl rfl rfl rfl) (p_moveI rfl) (by decide) (fun _ => hS) ?_
                              refine pw_indexSlN (α := GPeer) rfl (wt_yes rfl rfl rfl rfl) el28.sl ty63 rfl hdl rfl (by first | omega | (dsimp only; omega) | (simp <;> omega)) hd.p (by decide) (fun _ => hS) ?_; intro bb142 oo142 cc142 hb142 ha142
                              refine pw_ld rfl (wt_yes rfl rfl rfl rfl) (by kernel_rfl) (Hold.runs_loadV (α := GPeer) ty63 rfl hb142 ha142) (by decide) hS ?_
                              refine pw_one ?_
                              refine ow_call2 rfl (wt_yes rfl rfl rfl rfl) fn8 (s_samepeer2 hs (hst j hlt) (hset j hlt (by intro e; subst e; simp at hg2))) rfl rfl ?_ (by decide)
                              clear hs hS
                              rintro _ w ⟨rfl, hs⟩
                              refine ⟨fun _ => Hold.cons hs (List.Mem.head _) (Hold.cons hs (List.Mem.tail _ (List.Mem.tail _ (List.Mem.tail _ (List.Mem.tail _ (List.Mem.head _))))) (Hold.nil hs (PH.refl _))), ?_⟩; have hS := Hold.cons hs (List.Mem.head _) (Hold.cons hs (List.Mem.tail _ (List.Mem.tail _ (List.Mem.tail _ (List.Mem.tail _ (List.Mem.head _))))) (Hold.nil hs (PH.refl _)))
                              refine pw_purIs (c := false) rfl (wt_yes rfl rfl rfl rfl) (p_not rfl) (by rfl) (by decide) (fun _ => hS) ?_
                              refine pw_pur rfl (wt_free rfl) (p_pickT rfl rfl) (by decide) (fun _ => hS) ?_
                              refine pw_pur rfl (wt_free rfl) (p_moveB rfl) (by decide) (fun _ => hS) ?_
                              refine pw_pur rfl (wt_yes rfl rfl rfl rfl) (p_moveI rfl) (by decide) (fun _ => hS) ?_
                              refine pw_pur rfl (wt_yes rfl rfl rfl rfl) (p_move e6) (by decide) (fun _ => hS) ?_
                              refine pw_purIs (c := false) rfl (wt_yes rfl rfl rfl rfl) (p_eql rfl rfl) (by simpa using hg2) (by decide) (fun _ => hS) ?_
                              refine pw_pur rfl (wt_yes rfl rfl rfl rfl) (p_moveB rfl) (by decide) (fun _ => hS) ?_
                              refine pw_pass rfl (wt_no rfl rfl rfl rfl rfl) (by decide) (fun _ => hS) ?_
                              refine pw_pass rfl (wt_no rfl rfl rfl rfl rfl) (by decide) (fun _ => hS) ?_
                              refine pw_pass rfl (wt_no rfl rfl rfl rfl rfl) (by decide) (fun _ => hS) ?_
                              refine pw_pass rfl (wt_no rfl rfl rfl rfl rfl) (by decide) (fun h => absurd h (by decide)) ?_
                              refine pw_pur rfl (wt_yes rfl rfl rfl rfl) (p_pickF rfl rfl) (by decide) (fun h => absurd h (by decide)) ?_
                              refine pw_pur rfl (wt_free rfl) (p_pickF rfl rfl) (by decide) (fun h => absurd h (by decide)) ?_
                              refine pw_done ?_
                              refine cw_false rfl ?_
                              refine cw_skip ?_
                              refine cw_region ?_
                              refine l_pur (p_add64 e129 rfl (by first | omega | (dsimp only; omega) | (simp <;> omega))) (by decide) ?_
                              refine l_pur (p_moveI rfl) (by decide) ?_
                              refine lw_nil ?_
                              exact ⟨_, by omega, j + 1, rfl, hlt, rfl, e128, e127, e5, e6, e7, e8, e11, hs.drop1⟩
                            · try simp only [decide_eq_true_eq, decide_eq_false_iff_not, Bool.not_eq_true', Bool.not_eq_false', beq_iff_eq, bne_iff_ne, beq_eq_false_iff_ne, bne_eq_false_iff_eq] at hg2
                              refine pw_pur rfl (wt_free rfl) (p_moveB rfl) (by decide) (fun _ => hS) ?_
                              refine pw_pass rfl (wt_no rfl rfl rfl rfl rfl) (by decide) (fun _ => hS) ?_
                              refine pw_pass rfl (wt_no rfl rfl rfl rfl rfl) (by decide) (fun _ => hS) ?_
                              refine pw_pass rfl (wt_no rfl rfl rfl rfl rfl) (by decide) (fun _ => hS) ?_
                              refine pw_pass rfl (wt_no rfl rfl rfl rfl rfl) (by decide) (fun _ => hS) ?_
                              refine pw_pass rfl (wt_no rfl rfl rfl rfl rfl) (by decide) (fun _ => hS) ?_
                              refine pw_pass rfl (wt_no rfl rfl rfl rfl rfl) (by decide) (fun _ => hS) ?_
                              refine pw_one ?_
                              refine ow_pass rfl (wt_no rfl rfl rfl rfl rfl) (by decide) (fun _ => hS) ?_
                              refine pw_pass rfl (wt_no rfl rfl rfl rfl rfl) (by decide) (fun _ => hS) ?_
                              refine pw_pur rfl (wt_free rfl) (p_pickF rfl rfl) (by decide) (fun _ => hS) ?_
                              refine pw_pur rfl (wt_free rfl) (p_moveB rfl) (by decide) (fun _ => hS) ?_
                              refine pw_pur rfl (wt_yes rfl rfl rfl rfl) (p_moveI rfl) (by decide) (fun _ => hS) ?_
                              refine pw_pur rfl (wt_yes rfl rfl rfl rfl) (p_move e6) (by decide) (fun _ => hS) ?_
                              refine pw_purIs (c := true) rfl (wt_yes rfl rfl rfl rfl) (p_eql rfl rfl) (by simpa using hg2) (by decide) (fun _ => hS) ?_
                              refine pw_pur rfl (wt_yes rfl rfl rfl rfl) (p_moveB rfl) (by decide) (fun _ => hS) ?_
                              refine pw_pur rfl (wt_yes rfl rfl rfl rfl) (p_fieldAddr fo63_13 rfl) (by decide) (fun _ => hS) ?_
                              refine pw_ld rfl (wt_yes rfl rfl rfl rfl) (by kernel_rfl) (Hold.runs_loadO (α := GPeer) (β := GRing) ty60 rfl GPeer.l_ring (List.Mem.head _)) (by decide) hS ?_
                              refine pw_pur rfl (wt_yes rfl rfl rfl rfl) (p_buildO (α := GRing) Tryz.underlying60 (by kernel_rfl) z60 rfl (.nil _)) (by decide) (fun _ => hS) ?_
                              refine pw_purIs (c := false) rfl (wt_yes rfl rfl rfl rfl) (p_neqS eq60 rfl rfl) (by rw [hset0 j hlt (Int.ofNat_inj.1 hg2)]; simp) (by decide) (fun h => absurd h (by decide)) ?_
                              refine pw_pur rfl (wt_yes rfl rfl rfl rfl) (p_pickT rfl rfl) (by decide) (fun h => absurd h (by decide)) ?_
                              refine pw_pur rfl (wt_free rfl) (p_pickF rfl rfl) (by decide) (fun h => absurd h (by decide)) ?_
                              refine pw_done ?_
                              refine cw_false rfl ?_
                              refine cw_skip ?_
                              refine cw_region ?_
                              refine l_pur (p_add64 e129 rfl (by first | omega | (dsimp only; omega) | (simp <;> omega))) (by decide) ?_
                              refine l_pur (p_moveI rfl) (by decide) ?_
                              refine lw_nil ?_
                              exact ⟨_, by omega, j + 1, rfl, hlt, rfl, e128, e127, e5, e6, e7, e8, e11, hs.drop1⟩
                          · try simp only [decide_eq_true_eq, decide_eq_false_iff_not, Bool.not_eq_true', Bool.not_eq_false', beq_iff_eq, bne_iff_ne, beq_eq_false_iff_ne, bne_eq_false_iff_eq] at hc7
                            refine cw_exit ?_
                            refine cw_seq (cw_region ?_)
                            refine l_call0 fn9 (s_begun hs)  ?_ (by decide)
                            clear hs; rintro _ w ⟨rfl, hs⟩
                            refine l_pur (p_assignB rfl) (by decide) ?_
                            refine lw_nil ?_
                            refine cw_ret ?_
                            repeat (with_reducible first | refine tf_ret ?_ | refine ib_ret ?_)
                            refine fin1 (fn := Tryz.f3) rfl (rv_tmpB rfl) ?_
                            exact ⟨rfl, (hs.drop1.drop1.drop1.drop1).weaken (PH.trans hV1 (PH.trans hV2 (PH.trans hV3 hV4)))⟩
end Go.Bur
