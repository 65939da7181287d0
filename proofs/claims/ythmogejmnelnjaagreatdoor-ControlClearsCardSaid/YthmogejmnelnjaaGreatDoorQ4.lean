/- A part of a proof over the given seat: how values, memory, calls and regions are told, and the walks of functions, each once. No condition. -/
import Derived.Test.YthmogejmnelnjaaGreatDoorQ3
set_option linter.unusedVariables false
set_option linter.unusedSimpArgs false
namespace Go.Bur
open Go Go.RowKit Go.Proofs
set_option maxHeartbeats 4000000
variable {W0 : World} {V : PH} {w : World} {L : List (Nat × Obj)}
theorem s_fmtaddr {a : GAddr} (hs : St W0 V w L) (h4 : a.six = false) (hso : soundA a = true) :
    Calls Tryz.prog 364 #[val a] w (okR fun v w' => ∃ s : Str, v = vs s ∧ 1 ≤ s.length ∧ s.length ≤ 1000 ∧ St W0 V w' L) := by
  refine fn_enter (n := 52) Tryz.func364 rfl rfl rfl ?_
  intro f hf
  have e0 := hf 0
  simp only [Array.getD_eq_getD_getElem?, List.getElem?_toArray, List.getElem?_cons_zero, List.getElem?_cons_succ, Option.getD_some] at e0
  clear hf
  refine cw_seq (cw_region ?_)
  refine l_box (α := GAddr) e0 hs (by decide) ?_; clear hs; intro b1 w hs
  refine l_pur (p_assignC) (by decide) ?_
  refine lw_nil ?_
  refine cw_seq ?_
  refine cw_seq (cw_region ?_)
  refine l_loadO (α := GAddr) (β := GAddr) ty41 rfl (Lens.id GAddr) hs (List.Mem.head _) (by decide) ?_
  refine l_call1 fn70 (s_sound hs) rfl ?_ (by decide)
  clear hs
  rintro _ w ⟨rfl, hs⟩
  refine l_purIs (c := false) (p_not rfl) (by rw [hso]; rfl) (by decide) ?_
  refine lw_nil ?_
  refine cw_false rfl ?_
  refine cw_skip ?_
  refine cw_seq (cw_region ?_)
  refine l_pur (p_assignC) (by decide) ?_
  refine lw_nil ?_
  refine cw_seq ?_
  refine cw_seq (cw_region ?_)
  refine l_pur (p_fieldAddr fo41_0 rfl) (by decide) ?_
  refine l_loadO (α := GAddr) (β := Bool) ty4 rfl GAddr.l_six hs (List.Mem.head _) (by decide) ?_
  refine l_purIs (c := true) (p_not rfl) (by rw [h4]; rfl) (by decide) ?_
  refine lw_nil ?_
  refine cw_true rfl ?_
  refine cw_seq ?_
  refine cw_seq (cw_region ?_)
  refine l_pur (p_assignC) (by decide) ?_
  refine lw_nil ?_
  refine cw_block ?_
  refine cw_loop (fun q f w => ∃ (i : Nat) (s : Str), q = 4 - i ∧ i ≤ 4 ∧ f 4 = vi i ∧ f 3 = vs s ∧ f 1 = ptr b1 0 ∧ 2 * i ≤ s.length ∧ s.length ≤ 20 * i ∧ St W0 V w ((b1, blk 41 a) :: L)) (4) ?_ ?_
  · exact ⟨0, [], rfl, by omega, rfl, rfl, rfl, by simp, by simp, hs⟩
  · intro q f w hI
    obtain ⟨i, s, rfl, hi, e4, e3, e1, hl1, hl2, hs⟩ := hI
    refine cw_seq ?_
    refine cw_seq (cw_region ?_)
    refine l_pur (p_move e4) (by decide) ?_
    refine l_pur (p_lss rfl rfl) (by decide) ?_
    refine lw_nil ?_
    refine cw_cond _ rfl (fun hc2 => ?_) (fun hc2 => ?_)
    · have hlt : i < 4 := by have := of_decide_eq_true hc2; omega
      refine cw_skip ?_
      refine cw_seq ?_
      refine cw_block ?_
      refine cw_region ?_
      refine l_pur (p_move e3) (by decide) ?_
      refine l_pur (p_move e4) (by decide) ?_
      refine l_pur (p_fieldAddr fo41_1 e1) (by decide) ?_
      refine l_pur (p_indexArr Tryz.underlying39 ty5.size rfl rfl (by (first | omega | decide | (dsimp only; omega) | (simp; omega)))) (by decide) ?_
      refine l_loadO (α := GAddr) (β := UInt8) ty5 rfl (Lens.comp GAddr.l_ip (Lens.idx (α := UInt8) (n := 16) _ (by first | omega | decide | (simp; omega) | simp | exact umod4n _))) hs (List.Mem.head _) (by decide) ?_
      refine l_pur (p_conv_u8_i Tryz.underlying5 Tryz.underlying2 rfl) (by decide) ?_
      refine l_call1 fn365 (s_decimal 2 _ (by omega) (Nat.lt_trans (UInt8.toNat_lt _) (by decide)) hs) rfl ?_ (by decide)
      clear hs
      rintro _ w ⟨t, rfl, ht1, ht2, hs⟩
      refine l_pur (p_addStr rfl rfl (by simp; omega)) (by decide) ?_
      refine l_pur (p_addStr rfl rfl (by simp; omega)) (by decide) ?_
      refine l_pur (p_assignS rfl) (by decide) ?_
      refine lw_nil ?_
      refine cw_region ?_
      refine l_pur (p_move e4) (by decide) ?_
      refine l_pur (p_add64 rfl rfl (by first | omega | (dsimp only; omega) | (simp; omega))) (by decide) ?_
      refine l_pur (p_assignI rfl) (by decide) ?_
      refine lw_nil ?_
      exact ⟨_, by omega, i + 1, _, rfl, by omega, rfl, rfl, e1, by simp; omega, by simp; omega, hs⟩
    · have hge : i = 4 := by have := of_decide_eq_false hc2; omega
      refine cw_exit ?_
      refine cw_seq (cw_region ?_)
      refine l_pur (p_move e3) (by decide) ?_
      refine l_pur (p_sliceStr Tryz.underlying9 rfl (.at_ _ rfl) (.no _) (by first | omega | (dsimp only; omega) | (simp; omega))) (by decide) ?_
      refine l_pur (p_assignS rfl) (by decide) ?_
      refine lw_nil ?_
      refine cw_ret ?_
      repeat (with_reducible first | refine tf_ret ?_ | refine ib_ret ?_)
      refine fin1 (fn := Tryz.f364) rfl (rv_tmpS rfl) ?_
      exact ⟨_, rfl, by simp; omega, by simp; omega, hs.drop1⟩
theorem s_fmtep {e : GEndpoint} (hs : St W0 V w L) (h4 : e.addr.six = false) (hso : soundA e.addr = true) (hp : 1 ≤ e.port ∧ e.port ≤ 65535) :
    Calls Tryz.prog 282 #[val e] w (okR fun v w' => ∃ s : Str, v = vs s ∧ s ≠ [] ∧ St W0 V w' L) := by
  obtain ⟨pn, hpn⟩ : ∃ n : Nat, e.port = (n : Int) := ⟨e.port.toNat, by omega⟩
  refine fn_enter (n := 31) Tryz.func282 rfl rfl rfl ?_
  intro f hf
  have e0 := hf 0
  simp only [Array.getD_eq_getD_getElem?, List.getElem?_toArray, List.getElem?_cons_zero, List.getElem?_cons_succ, Option.getD_some] at e0
  clear hf
  refine cw_seq (cw_region ?_)
  refine l_box (α := GEndpoint) e0 hs (by decide) ?_; clear hs; intro b1 w hs
  refine l_pur (p_assignC) (by decide) ?_
  refine lw_nil ?_
  refine cw_seq (cw_region ?_)
  refine l_pur (p_fieldAddr fo43_0 rfl) (by decide) ?_
  refine l_loadO (α := GEndpoint) (β := GAddr) ty41 rfl GEndpoint.l_addr hs (List.Mem.head _) (by decide) ?_
  refine l_call1 fn364 (s_fmtaddr hs h4 hso) rfl ?_ (by decide)
  clear hs
  rintro _ w ⟨s, rfl, hs1, hs2, hs⟩
  refine l_pur (p_assignS rfl) (by decide) ?_
  refine lw_nil ?_
  refine cw_seq ?_
  refine cw_seq (cw_region ?_)
  refine l_pur (p_moveS rfl) (by decide) ?_
  refine l_purIs (c := false) (p_eqlStr rfl rfl) (by exact decide_eq_false (fun h => by rw [h] at hs1; simp at hs1)) (by decide) ?_
  refine l_pur (p_moveB rfl) (by decide) ?_
  refine lw_do rfl rfl rfl ?_
  refine l_pur (p_fieldAddr fo43_1 rfl) (by decide) ?_
  refine lw_do rfl rfl rfl ?_
  refine l_loadO (α := GEndpoint) (β := Int) ty3 rfl GEndpoint.l_port hs (List.Mem.head _) (by decide) ?_
  refine lw_do rfl rfl rfl ?_
  refine l_purIs (c := false) (p_lss rfl rfl) (by exact decide_eq_false (by omega)) (by decide) ?_
  refine l_pur (p_pickF rfl rfl) (by decide) ?_
  refine l_pur (p_moveB rfl) (by decide) ?_
  refine lw_do rfl rfl rfl ?_
  refine l_pur (p_fieldAddr fo43_1 rfl) (by decide) ?_
  refine lw_do rfl rfl rfl ?_
  refine l_loadO (α := GEndpoint) (β := Int) ty3 rfl GEndpoint.l_port hs (List.Mem.head _) (by decide) ?_
  refine lw_do rfl rfl rfl ?_
  refine l_purIs (c := false) (p_gtr rfl rfl) (by exact decide_eq_false (by omega)) (by decide) ?_
  refine l_pur (p_pickF rfl rfl) (by decide) ?_
  refine lw_nil ?_
  refine cw_false rfl ?_
  refine cw_skip ?_
  refine cw_seq ?_
  refine cw_seq (cw_region ?_)
  refine l_pur (p_fieldAddr fo43_0 rfl) (by decide) ?_
  refine l_pur (p_fieldAddr fo41_0 rfl) (by decide) ?_
  refine l_loadO (α := GEndpoint) (β := Bool) ty4 rfl (Lens.comp GEndpoint.l_addr GAddr.l_six) hs (List.Mem.head _) (by decide) ?_
  refine lw_nil ?_
  refine cw_cond _ rfl (fun hc1 => ?_) (fun hc1 => ?_)
  · rw [h4] at hc1
    cases hc1
  · try simp only [decide_eq_true_eq, decide_eq_false_iff_not, Bool.not_eq_true', Bool.not_eq_false', beq_iff_eq, bne_iff_ne, beq_eq_false_iff_ne, bne_eq_false_iff_eq] at hc1
    refine cw_skip ?_
    refine cw_seq ?_
    have hd := fun (w : World) (L : List (Nat × Obj)) (hs : St W0 V w L) => s_decimal 4 pn (by omega) (by omega) hs
    rw [← hpn] at hd
    refine cw_region ?_
    refine l_pur (p_moveS rfl) (by decide) ?_
    refine l_pur (p_addStr rfl rfl (by simp; omega)) (by decide) ?_
    refine l_pur (p_fieldAddr fo43_1 rfl) (by decide) ?_
    refine l_loadO (α := GEndpoint) (β := Int) ty3 rfl GEndpoint.l_port hs (List.Mem.head _) (by decide) ?_
    refine l_call1 fn365 (hd _ _ hs) rfl ?_ (by decide)
    clear hs
    rintro _ w ⟨t, rfl, ht1, ht2, hs⟩
    refine l_pur (p_addStr rfl rfl (by simp; omega)) (by decide) ?_
    refine l_pur (p_assignS rfl) (by decide) ?_
    refine lw_nil ?_
    refine cw_ret ?_
    repeat (with_reducible first | refine tf_ret ?_ | refine ib_ret ?_)
    refine fin1 (fn := Tryz.f282) rfl (rv_tmpS rfl) ?_
    exact ⟨_, rfl, by simp, hs.drop1⟩
theorem s_timed {x : Int} (hs : St W0 V w L) (h : x = 0 ∨ (1000 ≤ x ∧ x ≤ 1073741824)) : Calls Tryz.prog 283 #[vi x] w (okR fun v w' => v = .bool true ∧ St W0 V w' L) := by
  refine fn_enter (n := 13) Tryz.func283 rfl rfl rfl ?_
  intro f hf
  have e0 := hf 0
  simp only [Array.getD_eq_getD_getElem?, List.getElem?_toArray, List.getElem?_cons_zero, List.getElem?_cons_succ, Option.getD_some] at e0
  clear hf
  refine cw_seq (cw_region ?_)
  refine l_pur (p_assignC) (by decide) ?_
  refine lw_nil ?_
  refine cw_seq (cw_region ?_)
  refine l_pur (p_move e0) (by decide) ?_
  refine l_pur (p_eql rfl rfl) (by decide) ?_
  refine l_purB (p_moveB rfl) (by decide) (fun hg2 => ?_) (fun hg2 => ?_)
  · try simp only [decide_eq_true_eq, decide_eq_false_iff_not, Bool.not_eq_true', Bool.not_eq_false', beq_iff_eq, bne_iff_ne, beq_eq_false_iff_ne, bne_eq_false_iff_eq] at hg2
    refine lw_pass rfl rfl rfl rfl rfl rfl (by decide) ?_
    refine lw_pass rfl rfl rfl rfl rfl rfl (by decide) ?_
    refine lw_pass rfl rfl rfl rfl rfl rfl (by decide) ?_
    refine lw_passU rfl rfl rfl rfl rfl (by decide) ?_
    refine lw_passU rfl rfl rfl rfl rfl (by decide) ?_
    refine lw_pass rfl rfl rfl rfl rfl rfl (by decide) ?_
    refine l_pur (p_pickT rfl rfl) (by decide) ?_
    refine l_pur (p_assignB rfl) (by decide) ?_
    refine lw_nil ?_
    refine cw_ret ?_
    repeat (with_reducible first | refine tf_ret ?_ | refine ib_ret ?_)
    refine fin1 (fn := Tryz.f283) rfl (rv_tmpB rfl) ?_
    exact ⟨rfl, hs⟩
  · try simp only [decide_eq_true_eq, decide_eq_false_iff_not, Bool.not_eq_true', Bool.not_eq_false', beq_iff_eq, bne_iff_ne, beq_eq_false_iff_ne, bne_eq_false_iff_eq] at hg2
    refine lw_do rfl rfl rfl ?_
    refine l_pur (p_move e0) (by decide) ?_
    refine lw_do rfl rfl rfl ?_
    refine l_purIs (c := true) (p_geq rfl rfl) (by exact decide_eq_true (by simp at hg2; omega)) (by decide) ?_
    refine lw_do rfl rfl rfl ?_
    refine l_pur (p_moveB rfl) (by decide) ?_
    refine lw_do rfl rfl rfl ?_
    refine l_pur (p_move e0) (by decide) ?_
    refine lw_do rfl rfl rfl ?_
    refine l_purIs (c := true) (p_leq rfl rfl) (by exact decide_eq_true (by simp at hg2; omega)) (by decide) ?_
    refine lw_do rfl rfl rfl ?_
    refine l_pur (p_pickT rfl rfl) (by decide) ?_
    refine l_pur (p_pickF rfl rfl) (by decide) ?_
    refine l_pur (p_assignB rfl) (by decide) ?_
    refine lw_nil ?_
    refine cw_ret ?_
    repeat (with_reducible first | refine tf_ret ?_ | refine ib_ret ?_)
    refine fin1 (fn := Tryz.f283) rfl (rv_tmpB rfl) ?_
    exact ⟨rfl, hs⟩
structure PeerOk (d : GDaemon) (p : GPeer) : Prop where
  ep : (p.hasEndpoint = true ∧ p.endpoint.addr.six = false ∧ soundA p.endpoint.addr = true ∧ 1 ≤ p.endpoint.port ∧ p.endpoint.port ≤ 65535) ∨ (p.hasEndpoint = false ∧ p.endpoint = GEndpoint.zero)
  keep : p.keepalive = 0 ∨ (1000 ≤ p.keepalive ∧ p.keepalive ≤ 1073741824)
  init : p.hasInit = false ∧ p.initAt = 0
  cookie : p.hasCookie = false ∧ p.cookieAt = 0 ∧ p.cookie = Vector.replicate 16 0
  staged : p.staged = ⟨none, 0, 0⟩
  hand : p.hand = GHand.zero
  r1 : PlaceOk d p.ring.previous
  r2 : PlaceOk d p.ring.current
  r3 : PlaceOk d p.ring.next
theorem s_fields {d : GDaemon} {p : GPeer} (hs : St W0 V w L) (h : PeerOk d p) (hnow : 0 ≤ d.now) (hst : 0 ≤ d.rules.stage) :
    Calls Tryz.prog 181 #[val d, val p] w (okR fun v w' => v = .bool true ∧ St W0 V w' L) := by
  obtain ⟨hep, hk, ⟨hi1, hi2⟩, ⟨hc1', hc2', hc3'⟩, hsg, _, _, _, _⟩ := h
  refine fn_enter (n := 103) Tryz.func181 rfl rfl rfl ?_
  intro f hf
  have e0 := hf 0
  have e1 := hf 1
  simp only [Array.getD_eq_getD_getElem?, List.getElem?_toArray, List.getElem?_cons_zero, List.getElem?_cons_succ, Option.getD_some] at e0 e1
  clear hf
  refine cw_seq (cw_region ?_)
  refine l_box (α := GDaemon) e0 hs (by decide) ?_; clear hs; intro b2 w hs
  refine l_box (α := GPeer) e1 hs (by decide) ?_; clear hs; intro b3 w hs
  refine l_pur (p_assignC) (by decide) ?_
  refine lw_nil ?_
  refine cw_seq ?_
  refine cw_seq (cw_region ?_)
  refine l_pur (p_fieldAddr fo63_2 rfl) (by decide) ?_
  refine l_loadO (α := GPeer) (β := Bool) ty4 rfl GPeer.l_hasEndpoint hs (List.Mem.head _) (by decide) ?_
  refine l_purB (p_moveB rfl) (by decide) (fun hg2 => ?_) (fun hg2 => ?_)
  · have hep2 := hep.resolve_right (fun h => by rw [hg2] at h; cases h.1)
    refine lw_do rfl rfl rfl ?_
    refine l_pur (p_fieldAddr fo63_3 rfl) (by decide) ?_
    refine lw_do rfl rfl rfl ?_
    refine l_loadO (α := GPeer) (β := GEndpoint) ty43 rfl GPeer.l_endpoint hs (List.Mem.head _) (by decide) ?_
    refine lw_do rfl rfl rfl ?_
    refine l_call1 fn282 (s_fmtep hs hep2.2.1 hep2.2.2.1 hep2.2.2.2) rfl ?_ (by decide)
    clear hs
    rintro _ w ⟨s, rfl, hs1, hs⟩
    refine lw_do rfl rfl rfl ?_
    refine l_purIs (c := false) (p_eqlStr rfl rfl) (by exact decide_eq_false hs1) (by decide) ?_
    refine l_pur (p_pickT rfl rfl) (by decide) ?_
    refine l_pur (p_moveB rfl) (by decide) ?_
    refine lw_do rfl rfl rfl ?_
    refine l_pur (p_fieldAddr fo63_2 rfl) (by decide) ?_
    refine lw_do rfl rfl rfl ?_
    refine l_loadO (α := GPeer) (β := Bool) ty4 rfl GPeer.l_hasEndpoint hs (List.Mem.head _) (by decide) ?_
    refine lw_do rfl rfl rfl ?_
    refine l_purIs (c := false) (p_not rfl) (by rw [hg2]; rfl) (by decide) ?_
    refine lw_do rfl rfl rfl ?_
    refine l_pur (p_moveB rfl) (by decide) ?_
    refine lw_pass rfl rfl rfl rfl rfl rfl (by decide) ?_
    refine lw_pass rfl rfl rfl rfl rfl rfl (by decide) ?_
    refine lw_pass rfl rfl rfl rfl rfl rfl (by decide) ?_
    refine lw_pass rfl rfl rfl rfl rfl rfl (by decide) ?_
    refine lw_do rfl rfl rfl ?_
    refine l_pur (p_pickF rfl rfl) (by decide) ?_
    refine l_pur (p_pickF rfl rfl) (by decide) ?_
    refine l_pur (p_moveB rfl) (by decide) ?_
    refine lw_do rfl rfl rfl ?_
    refine l_pur (p_fieldAddr fo63_4 rfl) (by decide) ?_
    refine lw_do rfl rfl rfl ?_
    refine l_loadO (α := GPeer) (β := Int) ty2 rfl GPeer.l_keepalive hs (List.Mem.head _) (by decide) ?_
    refine lw_do rfl rfl rfl ?_
    refine l_call1 fn283 (s_timed hs hk) rfl ?_ (by decide)
    clear hs
    rintro _ w ⟨rfl, hs⟩
    refine lw_do rfl rfl rfl ?_
    refine l_pur (p_not rfl) (by decide) ?_
    refine l_pur (p_pickF rfl rfl) (by decide) ?_
    refine lw_nil ?_
    refine cw_false rfl ?_
    refine cw_skip ?_
    refine cw_seq ?_
    refine cw_seq (cw_region ?_)
    refine l_loadO (α := GDaemon) (β := GDaemon) ty35 rfl (Lens.id GDaemon) hs (List.Mem.tail _ (List.Mem.head _)) (by decide) ?_
    refine l_pur (p_fieldAddr fo63_7 rfl) (by decide) ?_
    refine l_loadO (α := GPeer) (β := Int) ty2 rfl GPeer.l_initAt hs (List.Mem.head _) (by decide) ?_
    refine l_call2 fn75 (s_past hs (by rw [hi2]; omega)) rfl rfl ?_ (by decide)
    clear hs
    rintro _ w ⟨rfl, hs⟩
    refine l_pur (p_not rfl) (by decide) ?_
    refine l_pur (p_moveB rfl) (by decide) ?_
    refine lw_do rfl rfl rfl ?_
    refine l_pur (p_fieldAddr fo63_6 rfl) (by decide) ?_
    refine lw_do rfl rfl rfl ?_
    refine l_loadO (α := GPeer) (β := Bool) ty4 rfl GPeer.l_hasInit hs (List.Mem.head _) (by decide) ?_
    refine lw_do rfl rfl rfl ?_
    refine l_purIs (c := true) (p_not rfl) (by rw [hi1]; rfl) (by decide) ?_
    refine lw_do rfl rfl rfl ?_
    refine l_pur (p_moveB rfl) (by decide) ?_
    refine lw_do rfl rfl rfl ?_
    refine l_pur (p_fieldAddr fo63_7 rfl) (by decide) ?_
    refine lw_do rfl rfl rfl ?_
    refine l_loadO (α := GPeer) (β := Int) ty2 rfl GPeer.l_initAt hs (List.Mem.head _) (by decide) ?_
    refine lw_do rfl rfl rfl ?_
    refine l_purIs (c := false) (p_neq rfl rfl) (by rw [hi2]; rfl) (by decide) ?_
    refine lw_do rfl rfl rfl ?_
    refine l_pur (p_pickT rfl rfl) (by decide) ?_
    refine l_pur (p_pickF rfl rfl) (by decide) ?_
    refine l_pur (p_moveB rfl) (by decide) ?_
    refine lw_do rfl rfl rfl ?_
    refine l_loadO (α := GDaemon) (β := GDaemon) ty35 rfl (Lens.id GDaemon) hs (List.Mem.tail _ (List.Mem.head _)) (by decide) ?_
    refine lw_do rfl rfl rfl ?_
    refine l_pur (p_fieldAddr fo63_11 rfl) (by decide) ?_
    refine lw_do rfl rfl rfl ?_
    refine l_loadO (α := GPeer) (β := Int) ty2 rfl GPeer.l_cookieAt hs (List.Mem.head _) (by decide) ?_
    refine lw_do rfl rfl rfl ?_
    refine l_call2 fn75 (s_past hs (by rw [hc2']; omega)) rfl rfl ?_ (by decide)
    clear hs
    rintro _ w ⟨rfl, hs⟩
    refine lw_do rfl rfl rfl ?_
    refine l_pur (p_not rfl) (by decide) ?_
    refine l_pur (p_pickF rfl rfl) (by decide) ?_
    refine l_pur (p_moveB rfl) (by decide) ?_
    refine lw_do rfl rfl rfl ?_
    refine l_pur (p_fieldAddr fo63_9 rfl) (by decide) ?_
    refine lw_do rfl rfl rfl ?_
    refine l_loadO (α := GPeer) (β := Bool) ty4 rfl GPeer.l_hasCookie hs (List.Mem.head _) (by decide) ?_
    refine lw_do rfl rfl rfl ?_
    refine l_purIs (c := true) (p_not rfl) (by rw [hc1']; rfl) (by decide) ?_
    refine lw_do rfl rfl rfl ?_
    refine l_pur (p_moveB rfl) (by decide) ?_
    refine lw_do rfl rfl rfl ?_
    refine l_pur (p_fieldAddr fo63_11 rfl) (by decide) ?_
    refine lw_do rfl rfl rfl ?_
    refine l_loadO (α := GPeer) (β := Int) ty2 rfl GPeer.l_cookieAt hs (List.Mem.head _) (by decide) ?_
    refine lw_do rfl rfl rfl ?_
    refine l_purIs (c := false) (p_neq rfl rfl) (by rw [hc2']; rfl) (by decide) ?_
    refine lw_do rfl rfl rfl ?_
    refine l_pur (p_moveB rfl) (by decide) ?_
    refine lw_do rfl rfl rfl ?_
    refine l_pur (p_fieldAddr fo63_10 rfl) (by decide) ?_
    refine lw_do rfl rfl rfl ?_
    refine l_loadO (α := GPeer) (β := (Vec 16 UInt8)) ty51 rfl GPeer.l_cookie hs (List.Mem.head _) (by decide) ?_
    refine lw_do rfl rfl rfl ?_
    refine l_pur (p_buildA (α := UInt8) Tryz.underlying51 ty5 z51 (.nil _)) (by decide) ?_
    refine lw_do rfl rfl rfl ?_
    refine l_purIs (c := false) (p_neqS eq51 rfl rfl) (by rw [hc3']; simp) (by decide) ?_
    refine lw_do rfl rfl rfl ?_
    refine l_pur (p_pickF rfl rfl) (by decide) ?_
    refine lw_do rfl rfl rfl ?_
    refine l_pur (p_pickT rfl rfl) (by decide) ?_
    refine l_pur (p_pickF rfl rfl) (by decide) ?_
    refine l_pur (p_moveB rfl) (by decide) ?_
    refine lw_do rfl rfl rfl ?_
    refine l_pur (p_fieldAddr fo63_14 rfl) (by decide) ?_
    refine lw_do rfl rfl rfl ?_
    refine l_loadO (α := GPeer) (β := GSl) ty61 rfl GPeer.l_staged hs (List.Mem.head _) (by decide) ?_
    refine lw_do rfl rfl rfl ?_
    refine l_pur (p_len Tryz.underlying61 rfl) (by decide) ?_
    refine lw_do rfl rfl rfl ?_
    refine l_pur (p_fieldAddr fo35_0 rfl) (by decide) ?_
    refine lw_do rfl rfl rfl ?_
    refine l_pur (p_fieldAddr fo25_9 rfl) (by decide) ?_
    refine lw_do rfl rfl rfl ?_
    refine l_loadO (α := GDaemon) (β := Int) ty3 rfl (Lens.comp GDaemon.l_rules GRules.l_stage) hs (List.Mem.tail _ (List.Mem.head _)) (by decide) ?_
    refine lw_do rfl rfl rfl ?_
    refine l_purIs (c := false) (p_gtr rfl rfl) (by rw [hsg]; exact decide_eq_false (by simp; omega)) (by decide) ?_
    refine l_pur (p_pickF rfl rfl) (by decide) ?_
    refine lw_nil ?_
    refine cw_false rfl ?_
    refine cw_skip ?_
    refine cw_seq ?_
    refine cw_seq (cw_region ?_)
    refine l_pur (p_fieldAddr fo63_14 rfl) (by decide) ?_
    refine l_loadO (α := GPeer) (β := GSl) ty61 rfl GPeer.l_staged hs (List.Mem.head _) (by decide) ?_
    refine l_pur (p_len Tryz.underlying61 rfl) (by decide) ?_
    refine l_pur (p_moveC) (by decide) ?_
    refine lw_nil ?_
    refine cw_block ?_
    refine cw_loop (fun q f w => f 84 = vi 0 ∧ f 83 = vi 0 ∧ St W0 V w ((b3, blk 63 p) :: (b2, blk 35 d) :: L)) (0) ?_ ?_
    · exact ⟨rfl, by show vi (p.staged.len : Int) = _; rw [hsg]; rfl, hs⟩
    · intro q f w hI
      obtain ⟨e84, e83, hs⟩ := hI
      refine cw_seq (cw_region ?_)
      refine l_pur (p_lss e84 e83) (by decide) ?_
      refine lw_nil ?_
      refine cw_seq ?_
      refine cw_cond _ rfl (fun hc2 => ?_) (fun hc2 => ?_)
      · exact absurd hc2 (by decide)
      · try simp only [decide_eq_true_eq, decide_eq_false_iff_not, Bool.not_eq_true', Bool.not_eq_false', beq_iff_eq, bne_iff_ne, beq_eq_false_iff_ne, bne_eq_false_iff_eq] at hc2
        refine cw_exit ?_
        refine cw_seq (cw_region ?_)
        refine l_pur (p_assignC) (by decide) ?_
        refine lw_nil ?_
        refine cw_ret ?_
        repeat (with_reducible first | refine tf_ret ?_ | refine ib_ret ?_)
        refine fin1 (fn := Tryz.f181) rfl (rv_tmpB rfl) ?_
        exact ⟨rfl, hs.drop1.drop1⟩
  · have hep2 := hep.resolve_left (fun h => by rw [hg2] at h; cases h.1)
    refine lw_pass rfl rfl rfl rfl rfl rfl (by decide) ?_
    refine lw_pass rfl rfl rfl rfl rfl rfl (by decide) ?_
    refine lw_pass rfl rfl rfl rfl rfl rfl (by decide) ?_
    refine lw_pass rfl rfl rfl rfl rfl rfl (by decide) ?_
    refine l_pur (p_pickF rfl rfl) (by decide) ?_
    refine l_pur (p_moveB rfl) (by decide) ?_
    refine lw_do rfl rfl rfl ?_
    refine l_pur (p_fieldAddr fo63_2 rfl) (by decide) ?_
    refine lw_do rfl rfl rfl ?_
    refine l_loadO (α := GPeer) (β := Bool) ty4 rfl GPeer.l_hasEndpoint hs (List.Mem.head _) (by decide) ?_
    refine lw_do rfl rfl rfl ?_
    refine l_purIs (c := true) (p_not rfl) (by rw [hg2]; rfl) (by decide) ?_
    refine lw_do rfl rfl rfl ?_
    refine l_pur (p_moveB rfl) (by decide) ?_
    refine lw_do rfl rfl rfl ?_
    refine l_pur (p_fieldAddr fo63_3 rfl) (by decide) ?_
    refine lw_do rfl rfl rfl ?_
    refine l_loadO (α := GPeer) (β := GEndpoint) ty43 rfl GPeer.l_endpoint hs (List.Mem.head _) (by decide) ?_
    refine lw_do rfl rfl rfl ?_
    refine l_pur (p_buildO (α := GEndpoint) Tryz.underlying43 (by kernel_rfl) z43 rfl (.nil _)) (by decide) ?_
    refine lw_do rfl rfl rfl ?_
    refine l_purIs (c := false) (p_neqS eq43 rfl rfl) (by rw [hep2.2]; simp) (by decide) ?_
    refine lw_do rfl rfl rfl ?_
    refine l_pur (p_pickT rfl rfl) (by decide) ?_
    refine l_pur (p_pickF rfl rfl) (by decide) ?_
    refine l_pur (p_moveB rfl) (by decide) ?_
    refine lw_do rfl rfl rfl ?_
    refine l_pur (p_fieldAddr fo63_4 rfl) (by decide) ?_
    refine lw_do rfl rfl rfl ?_
    refine l_loadO (α := GPeer) (β := Int) ty2 rfl GPeer.l_keepalive hs (List.Mem.head _) (by decide) ?_
    refine lw_do rfl rfl rfl ?_
    refine l_call1 fn283 (s_timed hs hk) rfl ?_ (by decide)
    clear hs
    rintro _ w ⟨rfl, hs⟩
    refine lw_do rfl rfl rfl ?_
    refine l_pur (p_not rfl) (by decide) ?_
    refine l_pur (p_pickF rfl rfl) (by decide) ?_
    refine lw_nil ?_
    refine cw_false rfl ?_
    refine cw_skip ?_
    refine cw_seq ?_
    refine cw_seq (cw_region ?_)
    refine l_loadO (α := GDaemon) (β := GDaemon) ty35 rfl (Lens.id GDaemon) hs (List.Mem.tail _ (List.Mem.head _)) (by decide) ?_
    refine l_pur (p_fieldAddr fo63_7 rfl) (by decide) ?_
    refine l_loadO (α := GPeer) (β := Int) ty2 rfl GPeer.l_initAt hs (List.Mem.head _) (by decide) ?_
    refine l_call2 fn75 (s_past hs (by rw [hi2]; omega)) rfl rfl ?_ (by decide)
    clear hs
    rintro _ w ⟨rfl, hs⟩
    refine l_pur (p_not rfl) (by decide) ?_
    refine l_pur (p_moveB rfl) (by decide) ?_
    refine lw_do rfl rfl rfl ?_
    refine l_pur (p_fieldAddr fo63_6 rfl) (by decide) ?_
    refine lw_do rfl rfl rfl ?_
    refine l_loadO (α := GPeer) (β := Bool) ty4 rfl GPeer.l_hasInit hs (List.Mem.head _) (by decide) ?_
    refine lw_do rfl rfl rfl ?_
    refine l_purIs (c := true) (p_not rfl) (by rw [hi1]; rfl) (by decide) ?_
    refine lw_do rfl rfl rfl ?_
    refine l_pur (p_moveB rfl) (by decide) ?_
    refine lw_do rfl rfl rfl ?_
    refine l_pur (p_fieldAddr fo63_7 rfl) (by decide) ?_
    refine lw_do rfl rfl rfl ?_
    refine l_loadO (α := GPeer) (β := Int) ty2 rfl GPeer.l_initAt hs (List.Mem.head _) (by decide) ?_
    refine lw_do rfl rfl rfl ?_
    refine l_purIs (c := false) (p_neq rfl rfl) (by rw [hi2]; rfl) (by decide) ?_
    refine lw_do rfl rfl rfl ?_
    refine l_pur (p_pickT rfl rfl) (by decide) ?_
    refine l_pur (p_pickF rfl rfl) (by decide) ?_
    refine l_pur (p_moveB rfl) (by decide) ?_
    refine lw_do rfl rfl rfl ?_
    refine l_loadO (α := GDaemon) (β := GDaemon) ty35 rfl (Lens.id GDaemon) hs (List.Mem.tail _ (List.Mem.head _)) (by decide) ?_
    refine lw_do rfl rfl rfl ?_
    refine l_pur (p_fieldAddr fo63_11 rfl) (by decide) ?_
    refine lw_do rfl rfl rfl ?_
    refine l_loadO (α := GPeer) (β := Int) ty2 rfl GPeer.l_cookieAt hs (List.Mem.head _) (by decide) ?_
    refine lw_do rfl rfl rfl ?_
    refine l_call2 fn75 (s_past hs (by rw [hc2']; omega)) rfl rfl ?_ (by decide)
    clear hs
    rintro _ w ⟨rfl, hs⟩
    refine lw_do rfl rfl rfl ?_
    refine l_pur (p_not rfl) (by decide) ?_
    refine l_pur (p_pickF rfl rfl) (by decide) ?_
    refine l_pur (p_moveB rfl) (by decide) ?_
    refine lw_do rfl rfl rfl ?_
    refine l_pur (p_fieldAddr fo63_9 rfl) (by decide) ?_
    refine lw_do rfl rfl rfl ?_
    refine l_loadO (α := GPeer) (β := Bool) ty4 rfl GPeer.l_hasCookie hs (List.Mem.head _) (by decide) ?_
    refine lw_do rfl rfl rfl ?_
    refine l_purIs (c := true) (p_not rfl) (by rw [hc1']; rfl) (by decide) ?_
    refine lw_do rfl rfl rfl ?_
    refine l_pur (p_moveB rfl) (by decide) ?_
    refine lw_do rfl rfl rfl ?_
    refine l_pur (p_fieldAddr fo63_11 rfl) (by decide) ?_
    refine lw_do rfl rfl rfl ?_
    refine l_loadO (α := GPeer) (β := Int) ty2 rfl GPeer.l_cookieAt hs (List.Mem.head _) (by decide) ?_
    refine lw_do rfl rfl rfl ?_
    refine l_purIs (c := false) (p_neq rfl rfl) (by rw [hc2']; rfl) (by decide) ?_
    refine lw_do rfl rfl rfl ?_
    refine l_pur (p_moveB rfl) (by decide) ?_
    refine lw_do rfl rfl rfl ?_
    refine l_pur (p_fieldAddr fo63_10 rfl) (by decide) ?_
    refine lw_do rfl rfl rfl ?_
    refine l_loadO (α := GPeer) (β := (Vec 16 UInt8)) ty51 rfl GPeer.l_cookie hs (List.Mem.head _) (by decide) ?_
    refine lw_do rfl rfl rfl ?_
    refine l_pur (p_buildA (α := UInt8) Tryz.underlying51 ty5 z51 (.nil _)) (by decide) ?_
    refine lw_do rfl rfl rfl ?_
    refine l_purIs (c := false) (p_neqS eq51 rfl rfl) (by rw [hc3']; simp) (by decide) ?_
    refine lw_do rfl rfl rfl ?_
    refine l_pur (p_pickF rfl rfl) (by decide) ?_
    refine lw_do rfl rfl rfl ?_
    refine l_pur (p_pickT rfl rfl) (by decide) ?_
    refine l_pur (p_pickF rfl rfl) (by decide) ?_
    refine l_pur (p_moveB rfl) (by decide) ?_
    refine lw_do rfl rfl rfl ?_
    refine l_pur (p_fieldAddr fo63_14 rfl) (by decide) ?_
    refine lw_do rfl rfl rfl ?_
    refine l_loadO (α := GPeer) (β := GSl) ty61 rfl GPeer.l_staged hs (List.Mem.head _) (by decide) ?_
    refine lw_do rfl rfl rfl ?_
    refine l_pur (p_len Tryz.underlying61 rfl) (by decide) ?_
    refine lw_do rfl rfl rfl ?_
    refine l_pur (p_fieldAddr fo35_0 rfl) (by decide) ?_
    refine lw_do rfl rfl rfl ?_
    refine l_pur (p_fieldAddr fo25_9 rfl) (by decide) ?_
    refine lw_do rfl rfl rfl ?_
    refine l_loadO (α := GDaemon) (β := Int) ty3 rfl (Lens.comp GDaemon.l_rules GRules.l_stage) hs (List.Mem.tail _ (List.Mem.head _)) (by decide) ?_
    refine lw_do rfl rfl rfl ?_
    refine l_purIs (c := false) (p_gtr rfl rfl) (by rw [hsg]; exact decide_eq_false (by simp; omega)) (by decide) ?_
    refine l_pur (p_pickF rfl rfl) (by decide) ?_
    refine lw_nil ?_
    refine cw_false rfl ?_
    refine cw_skip ?_
    refine cw_seq ?_
    refine cw_seq (cw_region ?_)
    refine l_pur (p_fieldAddr fo63_14 rfl) (by decide) ?_
    refine l_loadO (α := GPeer) (β := GSl) ty61 rfl GPeer.l_staged hs (List.Mem.head _) (by decide) ?_
    refine l_pur (p_len Tryz.underlying61 rfl) (by decide) ?_
    refine l_pur (p_moveC) (by decide) ?_
    refine lw_nil ?_
    refine cw_block ?_
    refine cw_loop (fun q f w => f 84 = vi 0 ∧ f 83 = vi 0 ∧ St W0 V w ((b3, blk 63 p) :: (b2, blk 35 d) :: L)) (0) ?_ ?_
    · exact ⟨rfl, by show vi (p.staged.len : Int) = _; rw [hsg]; rfl, hs⟩
    · intro q f w hI
      obtain ⟨e84, e83, hs⟩ := hI
      refine cw_seq (cw_region ?_)
      refine l_pur (p_lss e84 e83) (by decide) ?_
      refine lw_nil ?_
      refine cw_seq ?_
      refine cw_cond _ rfl (fun hc2 => ?_) (fun hc2 => ?_)
      · exact absurd hc2 (by decide)
      · try simp only [decide_eq_true_eq, decide_eq_false_iff_not, Bool.not_eq_true', Bool.not_eq_false', beq_iff_eq, bne_iff_ne, beq_eq_false_iff_ne, bne_eq_false_iff_eq] at hc2
        refine cw_exit ?_
        refine cw_seq (cw_region ?_)
        refine l_pur (p_assignC) (by decide) ?_
        refine lw_nil ?_
        refine cw_ret ?_
        repeat (with_reducible first | refine tf_ret ?_ | refine ib_ret ?_)
        refine fin1 (fn := Tryz.f181) rfl (rv_tmpB rfl) ?_
        exact ⟨rfl, hs.drop1.drop1⟩
end Go.Bur
namespace Go.Bur
open Go Go.RowKit Go.Proofs
set_option maxHeartbeats 4000000
variable {W0 : World} {V : PH} {w : World} {L : List (Nat × Obj)}
theorem s_each {d : GDaemon} {ps : List GPeer} {rule : Int} (hs : St W0 V w L) (hp : Sl V 63 d.peers.a d.peers.cap ps) (hpl : d.peers.len = ps.length) (hn : ps.length ≤ 8) (h : ∀ i (h : i < ps.length), PeerOk d ps[i]) (hnow : 0 ≤ d.now) (hst : 0 ≤ d.rules.stage) :
    Calls Tryz.prog 112 #[val d, vi rule] w (okR fun v w' => v = .bool true ∧ St W0 V w' L) := by
  refine fn_enter (n := 43) Tryz.func112 rfl rfl rfl ?_
  intro f hf
  have e0 := hf 0
  have e1 := hf 1
  simp only [Array.getD_eq_getD_getElem?, List.getElem?_toArray, List.getElem?_cons_zero, List.getElem?_cons_succ, Option.getD_some] at e0 e1
  clear hf
  refine cw_seq (cw_region ?_)
  refine l_box (α := GDaemon) e0 hs (by decide) ?_; clear hs; intro b2 w hs
  refine l_pur (p_assignC) (by decide) ?_
  refine lw_nil ?_
  refine cw_seq ?_
  refine cw_seq (cw_region ?_)
  refine l_pur (p_fieldAddr fo35_6 rfl) (by decide) ?_
  refine l_loadO (α := GDaemon) (β := GSl) ty28 rfl GDaemon.l_peers hs (List.Mem.head _) (by decide) ?_
  refine l_pur (p_len Tryz.underlying28 rfl) (by decide) ?_
  refine l_pur (p_moveC) (by decide) ?_
  refine lw_nil ?_
  refine cw_block ?_
  refine cw_loop (fun q f w => ∃ (i : Nat), q = ps.length - i ∧ i ≤ ps.length ∧ f 10 = vi i ∧ f 8 = val d.peers ∧ f 9 = vi ps.length ∧ f 2 = ptr b2 0 ∧ f 1 = vi rule ∧ St W0 V w ((b2, blk 35 d) :: L)) (ps.length) ?_ ?_
  · exact ⟨0, rfl, Nat.zero_le _, rfl, rfl, by show vi (d.peers.len : Int) = _; rw [hpl], rfl, e1, hs⟩
  · intro q f w hI
    obtain ⟨i, rfl, hi, e10, e8, e9, e2, e1, hs⟩ := hI
    refine cw_seq (cw_region ?_)
    refine l_pur (p_lss e10 e9) (by decide) ?_
    refine lw_nil ?_
    refine cw_seq ?_
    refine cw_cond _ rfl (fun hc0 => ?_) (fun hc0 => ?_)
    · have hlt : i < ps.length := by have := of_decide_eq_true hc0; omega
      have hpo := h i hlt
      refine cw_skip ?_
      refine cw_seq ?_
      refine cw_block ?_
      refine cw_seq (cw_region ?_)
      refine l_indexSl (α := GPeer) el28.sl ty63 e8 hpl e10 (by first | omega | (dsimp only; omega) | (simp; omega)) hp (by decide) ?_; intro bb12 oo12 cc12 hb12 ha12
      refine l_loadV (α := GPeer) ty63 rfl hs hb12 ha12 (by decide) ?_
      refine l_alloc z63 hs (by decide) ?_; clear hs; intro b6 w hs
      refine l_store0 (α := GPeer) (β := GPeer) ty63 rfl rfl (Lens.id GPeer) hs ?_; clear hs; intro w hs
      refine lw_nil ?_
      refine cw_seq (cw_region ?_)
      refine l_pur (p_move e1) (by decide) ?_
      refine l_pur (p_eql rfl rfl) (by decide) ?_
      refine l_purB (p_moveB rfl) (by decide) (fun hg2 => ?_) (fun hg2 => ?_)
      · try simp only [decide_eq_true_eq, decide_eq_false_iff_not, Bool.not_eq_true', Bool.not_eq_false', beq_iff_eq, bne_iff_ne, beq_eq_false_iff_ne, bne_eq_false_iff_eq] at hg2
        refine lw_do rfl rfl rfl ?_
        refine l_loadO (α := GDaemon) (β := GDaemon) ty35 e2 (Lens.id GDaemon) hs (List.Mem.tail _ (List.Mem.head _)) (by decide) ?_
        refine lw_do rfl rfl rfl ?_
        refine l_loadO (α := GPeer) (β := GPeer) ty63 rfl (Lens.id GPeer) hs (List.Mem.head _) (by decide) ?_
        refine lw_do rfl rfl rfl ?_
        refine l_call2 fn181 (s_fields hs hpo hnow hst) rfl rfl ?_ (by decide)
        clear hs
        rintro _ w ⟨rfl, hs⟩
        refine lw_do rfl rfl rfl ?_
        refine l_pur (p_not rfl) (by decide) ?_
        refine l_pur (p_pickT rfl rfl) (by decide) ?_
        refine l_pur (p_moveB rfl) (by decide) ?_
        refine lw_do rfl rfl rfl ?_
        refine l_pur (p_move e1) (by decide) ?_
        refine lw_do rfl rfl rfl ?_
        refine l_pur (p_eql rfl rfl) (by decide) ?_
        refine lw_do rfl rfl rfl ?_
        refine l_purB (p_moveB rfl) (by decide) (fun hg11 => ?_) (fun hg11 => ?_)
        · try simp only [decide_eq_true_eq, decide_eq_false_iff_not, Bool.not_eq_true', Bool.not_eq_false', beq_iff_eq, bne_iff_ne, beq_eq_false_iff_ne, bne_eq_false_iff_eq] at hg11
          refine lw_do rfl rfl rfl ?_
          refine l_loadO (α := GDaemon) (β := GDaemon) ty35 e2 (Lens.id GDaemon) hs (List.Mem.tail _ (List.Mem.head _)) (by decide) ?_
          refine lw_do rfl rfl rfl ?_
          refine l_loadO (α := GPeer) (β := GPeer) ty63 rfl (Lens.id GPeer) hs (List.Mem.head _) (by decide) ?_
          refine lw_do rfl rfl rfl ?_
          refine l_call2 fn182 (s_hand hs hpo.hand) rfl rfl ?_ (by decide)
          clear hs
          rintro _ w ⟨rfl, hs⟩
          refine lw_do rfl rfl rfl ?_
          refine l_pur (p_not rfl) (by decide) ?_
          refine lw_do rfl rfl rfl ?_
          refine l_pur (p_pickT rfl rfl) (by decide) ?_
          refine l_pur (p_pickF rfl rfl) (by decide) ?_
          refine l_pur (p_moveB rfl) (by decide) ?_
          refine lw_do rfl rfl rfl ?_
          refine l_pur (p_move e1) (by decide) ?_
          refine lw_do rfl rfl rfl ?_
          refine l_pur (p_eql rfl rfl) (by decide) ?_
          refine lw_do rfl rfl rfl ?_
          refine l_purB (p_moveB rfl) (by decide) (fun hg21 => ?_) (fun hg21 => ?_)
          · try simp only [decide_eq_true_eq, decide_eq_false_iff_not, Bool.not_eq_true', Bool.not_eq_false', beq_iff_eq, bne_iff_ne, beq_eq_false_iff_ne, bne_eq_false_iff_eq] at hg21
            refine lw_do rfl rfl rfl ?_
            refine l_loadO (α := GDaemon) (β := GDaemon) ty35 e2 (Lens.id GDaemon) hs (List.Mem.tail _ (List.Mem.head _)) (by decide) ?_
            refine lw_do rfl rfl rfl ?_
            refine l_loadO (α := GPeer) (β := GPeer) ty63 rfl (Lens.id GPeer) hs (List.Mem.head _) (by decide) ?_
            refine lw_do rfl rfl rfl ?_
            refine l_call2 fn183 (s_ring hs hpo.r1 hpo.r2 hpo.r3) rfl rfl ?_ (by decide)
            clear hs
            rintro _ w ⟨rfl, hs⟩
            refine lw_do rfl rfl rfl ?_
            refine l_pur (p_not rfl) (by decide) ?_
            refine lw_do rfl rfl rfl ?_
            refine l_pur (p_pickT rfl rfl) (by decide) ?_
            refine l_pur (p_pickF rfl rfl) (by decide) ?_
            refine lw_nil ?_
            refine cw_false rfl ?_
            refine cw_skip ?_
            refine cw_region ?_
            refine l_pur (p_add64 e10 rfl (by first | omega | (dsimp only; omega) | (simp; omega))) (by decide) ?_
            refine l_pur (p_moveI rfl) (by decide) ?_
            refine lw_nil ?_
            exact ⟨_, by omega, i + 1, rfl, hlt, rfl, e8, e9, e2, e1, hs.drop1⟩
          · try simp only [decide_eq_true_eq, decide_eq_false_iff_not, Bool.not_eq_true', Bool.not_eq_false', beq_iff_eq, bne_iff_ne, beq_eq_false_iff_ne, bne_eq_false_iff_eq] at hg21
            refine lw_pass rfl rfl rfl rfl rfl rfl (by decide) ?_
            refine lw_pass rfl rfl rfl rfl rfl rfl (by decide) ?_
            refine lw_pass rfl rfl rfl rfl rfl rfl (by decide) ?_
            refine lw_pass rfl rfl rfl rfl rfl rfl (by decide) ?_
            refine lw_do rfl rfl rfl ?_
            refine l_pur (p_pickF rfl rfl) (by decide) ?_
            refine l_pur (p_pickF rfl rfl) (by decide) ?_
            refine lw_nil ?_
            refine cw_false rfl ?_
            refine cw_skip ?_
            refine cw_region ?_
            refine l_pur (p_add64 e10 rfl (by first | omega | (dsimp only; omega) | (simp; omega))) (by decide) ?_
            refine l_pur (p_moveI rfl) (by decide) ?_
            refine lw_nil ?_
            exact ⟨_, by omega, i + 1, rfl, hlt, rfl, e8, e9, e2, e1, hs.drop1⟩
        · try simp only [decide_eq_true_eq, decide_eq_false_iff_not, Bool.not_eq_true', Bool.not_eq_false', beq_iff_eq, bne_iff_ne, beq_eq_false_iff_ne, bne_eq_false_iff_eq] at hg11
          refine lw_pass rfl rfl rfl rfl rfl rfl (by decide) ?_
          refine lw_pass rfl rfl rfl rfl rfl rfl (by decide) ?_
          refine lw_pass rfl rfl rfl rfl rfl rfl (by decide) ?_
          refine lw_pass rfl rfl rfl rfl rfl rfl (by decide) ?_
          refine lw_do rfl rfl rfl ?_
          refine l_pur (p_pickF rfl rfl) (by decide) ?_
          refine l_pur (p_pickF rfl rfl) (by decide) ?_
          refine l_pur (p_moveB rfl) (by decide) ?_
          refine lw_do rfl rfl rfl ?_
          refine l_pur (p_move e1) (by decide) ?_
          refine lw_do rfl rfl rfl ?_
          refine l_pur (p_eql rfl rfl) (by decide) ?_
          refine lw_do rfl rfl rfl ?_
          refine l_purB (p_moveB rfl) (by decide) (fun hg21 => ?_) (fun hg21 => ?_)
          · try simp only [decide_eq_true_eq, decide_eq_false_iff_not, Bool.not_eq_true', Bool.not_eq_false', beq_iff_eq, bne_iff_ne, beq_eq_false_iff_ne, bne_eq_false_iff_eq] at hg21
            refine lw_do rfl rfl rfl ?_
            refine l_loadO (α := GDaemon) (β := GDaemon) ty35 e2 (Lens.id GDaemon) hs (List.Mem.tail _ (List.Mem.head _)) (by decide) ?_
            refine lw_do rfl rfl rfl ?_
            refine l_loadO (α := GPeer) (β := GPeer) ty63 rfl (Lens.id GPeer) hs (List.Mem.head _) (by decide) ?_
            refine lw_do rfl rfl rfl ?_
            refine l_call2 fn183 (s_ring hs hpo.r1 hpo.r2 hpo.r3) rfl rfl ?_ (by decide)
            clear hs
            rintro _ w ⟨rfl, hs⟩
            refine lw_do rfl rfl rfl ?_
            refine l_pur (p_not rfl) (by decide) ?_
            refine lw_do rfl rfl rfl ?_
            refine l_pur (p_pickT rfl rfl) (by decide) ?_
            refine l_pur (p_pickF rfl rfl) (by decide) ?_
            refine lw_nil ?_
            refine cw_false rfl ?_
            refine cw_skip ?_
            refine cw_region ?_
            refine l_pur (p_add64 e10 rfl (by first | omega | (dsimp only; omega) | (simp; omega))) (by decide) ?_
            refine l_pur (p_moveI rfl) (by decide) ?_
            refine lw_nil ?_
            exact ⟨_, by omega, i + 1, rfl, hlt, rfl, e8, e9, e2, e1, hs.drop1⟩
          · try simp only [decide_eq_true_eq, decide_eq_false_iff_not, Bool.not_eq_true', Bool.not_eq_false', beq_iff_eq, bne_iff_ne, beq_eq_false_iff_ne, bne_eq_false_iff_eq] at hg21
            refine lw_pass rfl rfl rfl rfl rfl rfl (by decide) ?_
            refine lw_pass rfl rfl rfl rfl rfl rfl (by decide) ?_
            refine lw_pass rfl rfl rfl rfl rfl rfl (by decide) ?_
            refine lw_pass rfl rfl rfl rfl rfl rfl (by decide) ?_
            refine lw_do rfl rfl rfl ?_
            refine l_pur (p_pickF rfl rfl) (by decide) ?_
            refine l_pur (p_pickF rfl rfl) (by decide) ?_
            refine lw_nil ?_
            refine cw_false rfl ?_
            refine cw_skip ?_
            refine cw_region ?_
            refine l_pur (p_add64 e10 rfl (by first | omega | (dsimp only; omega) | (simp; omega))) (by decide) ?_
            refine l_pur (p_moveI rfl) (by decide) ?_
            refine lw_nil ?_
            exact ⟨_, by omega, i + 1, rfl, hlt, rfl, e8, e9, e2, e1, hs.drop1⟩
      · try simp only [decide_eq_true_eq, decide_eq_false_iff_not, Bool.not_eq_true', Bool.not_eq_false', beq_iff_eq, bne_iff_ne, beq_eq_false_iff_ne, bne_eq_false_iff_eq] at hg2
        refine lw_pass rfl rfl rfl rfl rfl rfl (by decide) ?_
        refine lw_pass rfl rfl rfl rfl rfl rfl (by decide) ?_
        refine lw_pass rfl rfl rfl rfl rfl rfl (by decide) ?_
        refine lw_pass rfl rfl rfl rfl rfl rfl (by decide) ?_
        refine l_pur (p_pickF rfl rfl) (by decide) ?_
        refine l_pur (p_moveB rfl) (by decide) ?_
        refine lw_do rfl rfl rfl ?_
        refine l_pur (p_move e1) (by decide) ?_
        refine lw_do rfl rfl rfl ?_
        refine l_pur (p_eql rfl rfl) (by decide) ?_
        refine lw_do rfl rfl rfl ?_
        refine l_purB (p_moveB rfl) (by decide) (fun hg11 => ?_) (fun hg11 => ?_)
        · try simp only [decide_eq_true_eq, decide_eq_false_iff_not, Bool.not_eq_true', Bool.not_eq_false', beq_iff_eq, bne_iff_ne, beq_eq_false_iff_ne, bne_eq_false_iff_eq] at hg11
          refine lw_do rfl rfl rfl ?_
          refine l_loadO (α := GDaemon) (β := GDaemon) ty35 e2 (Lens.id GDaemon) hs (List.Mem.tail _ (List.Mem.head _)) (by decide) ?_
          refine lw_do rfl rfl rfl ?_
          refine l_loadO (α := GPeer) (β := GPeer) ty63 rfl (Lens.id GPeer) hs (List.Mem.head _) (by decide) ?_
          refine lw_do rfl rfl rfl ?_
          refine l_call2 fn182 (s_hand hs hpo.hand) rfl rfl ?_ (by decide)
          clear hs
          rintro _ w ⟨rfl, hs⟩
          refine lw_do rfl rfl rfl ?_
          refine l_pur (p_not rfl) (by decide) ?_
          refine lw_do rfl rfl rfl ?_
          refine l_pur (p_pickT rfl rfl) (by decide) ?_
          refine l_pur (p_pickF rfl rfl) (by decide) ?_
          refine l_pur (p_moveB rfl) (by decide) ?_
          refine lw_do rfl rfl rfl ?_
          refine l_pur (p_move e1) (by decide) ?_
          refine lw_do rfl rfl rfl ?_
          refine l_pur (p_eql rfl rfl) (by decide) ?_
          refine lw_do rfl rfl rfl ?_
          refine l_purB (p_moveB rfl) (by decide) (fun hg21 => ?_) (fun hg21 => ?_)
          · try simp only [decide_eq_true_eq, decide_eq_false_iff_not, Bool.not_eq_true', Bool.not_eq_false', beq_iff_eq, bne_iff_ne, beq_eq_false_iff_ne, bne_eq_false_iff_eq] at hg21
            refine lw_do rfl rfl rfl ?_
            refine l_loadO (α := GDaemon) (β := GDaemon) ty35 e2 (Lens.id GDaemon) hs (List.Mem.tail _ (List.Mem.head _)) (by decide) ?_
            refine lw_do rfl rfl rfl ?_
            refine l_loadO (α := GPeer) (β := GPeer) ty63 rfl (Lens.id GPeer) hs (List.Mem.head _) (by decide) ?_
            refine lw_do rfl rfl rfl ?_
            refine l_call2 fn183 (s_ring hs hpo.r1 hpo.r2 hpo.r3) rfl rfl ?_ (by decide)
            clear hs
            rintro _ w ⟨rfl, hs⟩
            refine lw_do rfl rfl rfl ?_
            refine l_pur (p_not rfl) (by decide) ?_
            refine lw_do rfl rfl rfl ?_
            refine l_pur (p_pickT rfl rfl) (by decide) ?_
            refine l_pur (p_pickF rfl rfl) (by decide) ?_
            refine lw_nil ?_
            refine cw_false rfl ?_
            refine cw_skip ?_
            refine cw_region ?_
            refine l_pur (p_add64 e10 rfl (by first | omega | (dsimp only; omega) | (simp; omega))) (by decide) ?_
            refine l_pur (p_moveI rfl) (by decide) ?_
            refine lw_nil ?_
            exact ⟨_, by omega, i + 1, rfl, hlt, rfl, e8, e9, e2, e1, hs.drop1⟩
          · try simp only [decide_eq_true_eq, decide_eq_false_iff_not, Bool.not_eq_true', Bool.not_eq_false', beq_iff_eq, bne_iff_ne, beq_eq_false_iff_ne, bne_eq_false_iff_eq] at hg21
            refine lw_pass rfl rfl rfl rfl rfl rfl (by decide) ?_
            refine lw_pass rfl rfl rfl rfl rfl rfl (by decide) ?_
            refine lw_pass rfl rfl rfl rfl rfl rfl (by decide) ?_
            refine lw_pass rfl rfl rfl rfl rfl rfl (by decide) ?_
            refine lw_do rfl rfl rfl ?_
            refine l_pur (p_pickF rfl rfl) (by decide) ?_
            refine l_pur (p_pickF rfl rfl) (by decide) ?_
            refine lw_nil ?_
            refine cw_false rfl ?_
            refine cw_skip ?_
            refine cw_region ?_
            refine l_pur (p_add64 e10 rfl (by first | omega | (dsimp only; omega) | (simp; omega))) (by decide) ?_
            refine l_pur (p_moveI rfl) (by decide) ?_
            refine lw_nil ?_
            exact ⟨_, by omega, i + 1, rfl, hlt, rfl, e8, e9, e2, e1, hs.drop1⟩
        · try simp only [decide_eq_true_eq, decide_eq_false_iff_not, Bool.not_eq_true', Bool.not_eq_false', beq_iff_eq, bne_iff_ne, beq_eq_false_iff_ne, bne_eq_false_iff_eq] at hg11
          refine lw_pass rfl rfl rfl rfl rfl rfl (by decide) ?_
          refine lw_pass rfl rfl rfl rfl rfl rfl (by decide) ?_
          refine lw_pass rfl rfl rfl rfl rfl rfl (by decide) ?_
          refine lw_pass rfl rfl rfl rfl rfl rfl (by decide) ?_
          refine lw_do rfl rfl rfl ?_
          refine l_pur (p_pickF rfl rfl) (by decide) ?_
          refine l_pur (p_pickF rfl rfl) (by decide) ?_
          refine l_pur (p_moveB rfl) (by decide) ?_
          refine lw_do rfl rfl rfl ?_
          refine l_pur (p_move e1) (by decide) ?_
          refine lw_do rfl rfl rfl ?_
          refine l_pur (p_eql rfl rfl) (by decide) ?_
          refine lw_do rfl rfl rfl ?_
          refine l_purB (p_moveB rfl) (by decide) (fun hg21 => ?_) (fun hg21 => ?_)
          · try simp only [decide_eq_true_eq, decide_eq_false_iff_not, Bool.not_eq_true', Bool.not_eq_false', beq_iff_eq, bne_iff_ne, beq_eq_false_iff_ne, bne_eq_false_iff_eq] at hg21
            refine lw_do rfl rfl rfl ?_
            refine l_loadO (α := GDaemon) (β := GDaemon) ty35 e2 (Lens.id GDaemon) hs (List.Mem.tail _ (List.Mem.head _)) (by decide) ?_
            refine lw_do rfl rfl rfl ?_
            refine l_loadO (α := GPeer) (β := GPeer) ty63 rfl (Lens.id GPeer) hs (List.Mem.head _) (by decide) ?_
            refine lw_do rfl rfl rfl ?_
            refine l_call2 fn183 (s_ring hs hpo.r1 hpo.r2 hpo.r3) rfl rfl ?_ (by decide)
            clear hs
            rintro _ w ⟨rfl, hs⟩
            refine lw_do rfl rfl rfl ?_
            refine l_pur (p_not rfl) (by decide) ?_
            refine lw_do rfl rfl rfl ?_
            refine l_pur (p_pickT rfl rfl) (by decide) ?_
            refine l_pur (p_pickF rfl rfl) (by decide) ?_
            refine lw_nil ?_
            refine cw_false rfl ?_
            refine cw_skip ?_
            refine cw_region ?_
            refine l_pur (p_add64 e10 rfl (by first | omega | (dsimp only; omega) | (simp; omega))) (by decide) ?_
            refine l_pur (p_moveI rfl) (by decide) ?_
            refine lw_nil ?_
            exact ⟨_, by omega, i + 1, rfl, hlt, rfl, e8, e9, e2, e1, hs.drop1⟩
          · try simp only [decide_eq_true_eq, decide_eq_false_iff_not, Bool.not_eq_true', Bool.not_eq_false', beq_iff_eq, bne_iff_ne, beq_eq_false_iff_ne, bne_eq_false_iff_eq] at hg21
            refine lw_pass rfl rfl rfl rfl rfl rfl (by decide) ?_
            refine lw_pass rfl rfl rfl rfl rfl rfl (by decide) ?_
            refine lw_pass rfl rfl rfl rfl rfl rfl (by decide) ?_
            refine lw_pass rfl rfl rfl rfl rfl rfl (by decide) ?_
            refine lw_do rfl rfl rfl ?_
            refine l_pur (p_pickF rfl rfl) (by decide) ?_
            refine l_pur (p_pickF rfl rfl) (by decide) ?_
            refine lw_nil ?_
            refine cw_false rfl ?_
            refine cw_skip ?_
            refine cw_region ?_
            refine l_pur (p_add64 e10 rfl (by first | omega | (dsimp only; omega) | (simp; omega))) (by decide) ?_
            refine l_pur (p_moveI rfl) (by decide) ?_
            refine lw_nil ?_
            exact ⟨_, by omega, i + 1, rfl, hlt, rfl, e8, e9, e2, e1, hs.drop1⟩
    · try simp only [decide_eq_true_eq, decide_eq_false_iff_not, Bool.not_eq_true', Bool.not_eq_false', beq_iff_eq, bne_iff_ne, beq_eq_false_iff_ne, bne_eq_false_iff_eq] at hc0
      refine cw_exit ?_
      refine cw_seq (cw_region ?_)
      refine l_pur (p_assignC) (by decide) ?_
      refine lw_nil ?_
      refine cw_ret ?_
      repeat (with_reducible first | refine tf_ret ?_ | refine ib_ret ?_)
      refine fin1 (fn := Tryz.f112) rfl (rv_tmpB rfl) ?_
      exact ⟨rfl, hs.drop1⟩
theorem s_timers24 {d : GDaemon} {ps : List GPeer} {ts : List GTimer} (hs : St W0 V w L) (hp : Sl V 63 d.peers.a d.peers.cap ps) (hpl : d.peers.len = ps.length) (ht : Sl V 75 d.timers.a d.timers.cap ts) (htl : d.timers.len = ts.length) (hn : ps.length ≤ 8) (hn2 : ts.length < 1000)
    (hto : TimersOk ts) (hf : ∀ i (h : i < ts.length), d.now < ts[i].at_ ∧ 0 ≤ findP ps ts[i].peer ∧ ts[i].kind ≠ 4 ∨ d.now < ts[i].at_ ∧ ∃ (j : Nat) (hj : j < ps.length), findP ps ts[i].peer = j ∧ ps[j].keepalive ≠ 0)
    (hh : ∀ i (h : i < ps.length), hasT ts ps[i].pub 1 = false ∧ ps[i].hand.has = false) :
    Calls Tryz.prog 115 #[val d] w (okR fun v w' => v = .bool true ∧ St W0 V w' L) := by
  have hvt := fun (w : World) (L : List (Nat × Obj)) (hs : St W0 V w L) => s_validtimers hs ht hto hn2
  rw [← htl] at hvt
  refine fn_enter (n := 64) Tryz.func115 rfl rfl rfl ?_
  intro f hf
  have e0 := hf 0
  simp only [Array.getD_eq_getD_getElem?, List.getElem?_toArray, List.getElem?_cons_zero, List.getElem?_cons_succ, Option.getD_some] at e0
  clear hf
  refine cw_seq (cw_region ?_)
  refine l_box (α := GDaemon) e0 hs (by decide) ?_; clear hs; intro b1 w hs
  refine l_pur (p_assignC) (by decide) ?_
  refine lw_nil ?_
  refine cw_seq ?_
  refine cw_seq (cw_region ?_)
  refine l_pur (p_fieldAddr fo35_9 rfl) (by decide) ?_
  refine l_loadO (α := GDaemon) (β := GSl) ty31 rfl GDaemon.l_timers hs (List.Mem.head _) (by decide) ?_
  refine l_call1 fn187 (hvt _ _ hs) rfl ?_ (by decide)
  clear hs
  rintro _ w ⟨rfl, hs⟩
  refine l_pur (p_not rfl) (by decide) ?_
  refine lw_nil ?_
  refine cw_false rfl ?_
  refine cw_skip ?_
  refine cw_seq ?_
  refine cw_seq (cw_region ?_)
  refine l_pur (p_fieldAddr fo35_9 rfl) (by decide) ?_
  refine l_loadO (α := GDaemon) (β := GSl) ty31 rfl GDaemon.l_timers hs (List.Mem.head _) (by decide) ?_
  refine l_pur (p_len Tryz.underlying31 rfl) (by decide) ?_
  refine l_pur (p_moveC) (by decide) ?_
  refine lw_nil ?_
  refine cw_block ?_
  refine cw_loop (fun q f w => ∃ (i : Nat), q = ts.length - i ∧ i ≤ ts.length ∧ f 15 = vi i ∧ f 13 = val d.timers ∧ f 14 = vi ts.length ∧ f 1 = ptr b1 0 ∧ St W0 V w ((b1, blk 35 d) :: L)) (ts.length) ?_ ?_
  · exact ⟨0, rfl, Nat.zero_le _, rfl, rfl, by show vi (d.timers.len : Int) = _; rw [htl], rfl, hs⟩
  · intro q f w hI
    obtain ⟨i, rfl, hi, e15, e13, e14, e1, hs⟩ := hI
    refine cw_seq (cw_region ?_)
    refine l_pur (p_lss e15 e14) (by decide) ?_
    refine lw_nil ?_
    refine cw_seq ?_
    refine cw_cond _ rfl (fun hc1 => ?_) (fun hc1 => ?_)
    · have hlt : i < ts.length := by have := of_decide_eq_true hc1; omega
      have hfi := hf i hlt
      have hfge : 0 ≤ findP ps ts[i].peer := by
        rcases hfi with h | ⟨_, j, _, h, _⟩
        · exact h.2.1
        · omega
      have hat : d.now < ts[i].at_ := by
        rcases hfi with h | h
        · exact h.1
        · exact h.1
      refine cw_skip ?_
      refine cw_seq ?_
      refine cw_block ?_
      refine cw_seq (cw_region ?_)
      refine l_indexSl (α := GTimer) el31.sl ty75 e13 htl e15 (by first | omega | (dsimp only; omega) | (simp; omega)) ht (by decide) ?_; intro bb17 oo17 cc17 hb17 ha17
      refine l_loadV (α := GTimer) ty75 rfl hs hb17 ha17 (by decide) ?_
      refine l_alloc z75 hs (by decide) ?_; clear hs; intro b4 w hs
      refine l_store0 (α := GTimer) (β := GTimer) ty75 rfl rfl (Lens.id GTimer) hs ?_; clear hs; intro w hs
      refine lw_nil ?_
      refine cw_seq (cw_region ?_)
      refine l_loadO (α := GDaemon) (β := GDaemon) ty35 e1 (Lens.id GDaemon) hs (List.Mem.tail _ (List.Mem.head _)) (by decide) ?_
      refine l_pur (p_fieldAddr fo75_1 rfl) (by decide) ?_
      refine l_loadO (α := GTimer) (β := (Vec 32 UInt8)) ty27 rfl GTimer.l_peer hs (List.Mem.head _) (by decide) ?_
      refine l_call2 fn37 (s_find24 hs hp hpl (by omega)) rfl rfl ?_ (by decide)
      clear hs; rintro _ w ⟨rfl, hs⟩
      refine l_pur (p_assignI rfl) (by decide) ?_
      refine lw_nil ?_
      refine cw_seq (cw_region ?_)
      refine l_pur (p_fieldAddr fo75_0 rfl) (by decide) ?_
      refine l_loadO (α := GTimer) (β := Int) ty2 rfl GTimer.l_at_ hs (List.Mem.head _) (by decide) ?_
      refine l_pur (p_fieldAddr fo35_5 e1) (by decide) ?_
      refine l_loadO (α := GDaemon) (β := Int) ty2 rfl GDaemon.l_now hs (List.Mem.tail _ (List.Mem.head _)) (by decide) ?_
      refine l_purIs (c := false) (p_leq rfl rfl) (by exact decide_eq_false (by omega)) (by decide) ?_
      refine l_pur (p_moveB rfl) (by decide) ?_
      refine lw_do rfl rfl rfl ?_
      refine l_pur (p_moveI rfl) (by decide) ?_
      refine lw_do rfl rfl rfl ?_
      refine l_purIs (c := false) (p_lss rfl rfl) (by exact decide_eq_false (by omega)) (by decide) ?_
      refine l_pur (p_pickF rfl rfl) (by decide) ?_
      refine l_pur (p_moveB rfl) (by decide) ?_
      refine lw_do rfl rfl rfl ?_
      refine l_pur (p_fieldAddr fo75_2 rfl) (by decide) ?_
      refine lw_do rfl rfl rfl ?_
      refine l_loadO (α := GTimer) (β := Int) ty3 rfl GTimer.l_kind hs (List.Mem.head _) (by decide) ?_
      refine lw_do rfl rfl rfl ?_
      refine l_pur (p_eql rfl rfl) (by decide) ?_
      refine lw_do rfl rfl rfl ?_
      refine l_purB (p_moveB rfl) (by decide) (fun hg13 => ?_) (fun hg13 => ?_)
      · have hk4 : ts[i].kind = 4 := by simpa using hg13
        obtain ⟨_, j, hj, hfj, hka⟩ := hfi.resolve_left (fun h => h.2.2 hk4)
        rw [hfj] at *
        refine lw_do rfl rfl rfl ?_
        refine l_pur (p_fieldAddr fo35_6 e1) (by decide) ?_
        refine lw_do rfl rfl rfl ?_
        refine l_loadO (α := GDaemon) (β := GSl) ty28 rfl GDaemon.l_peers hs (List.Mem.tail _ (List.Mem.head _)) (by decide) ?_
        refine lw_do rfl rfl rfl ?_
        refine l_pur (p_moveI rfl) (by decide) ?_
        refine lw_do rfl rfl rfl ?_
        refine l_indexSl (α := GPeer) el28.sl ty63 rfl hpl rfl (by first | omega | (dsimp only; omega) | (simp; omega)) hp (by decide) ?_; intro bb40 oo40 cc40 hb40 ha40
        refine lw_do rfl rfl rfl ?_
        refine l_pur (p_fieldAddr fo63_4 rfl) (by decide) ?_
        refine lw_do rfl rfl rfl ?_
        refine l_loadV (α := Int) ty2 rfl hs hb40 (ha40.lens GPeer.l_keepalive) (by decide) ?_
        refine lw_do rfl rfl rfl ?_
        refine l_purIs (c := false) (p_eql rfl rfl) (by simpa using hka) (by decide) ?_
        refine lw_do rfl rfl rfl ?_
        refine l_pur (p_pickT rfl rfl) (by decide) ?_
        refine l_pur (p_pickF rfl rfl) (by decide) ?_
        refine lw_nil ?_
        refine cw_false rfl ?_
        refine cw_skip ?_
        refine cw_region ?_
        refine l_pur (p_add64 e15 rfl (by first | omega | (dsimp only; omega) | (simp; omega))) (by decide) ?_
        refine l_pur (p_moveI rfl) (by decide) ?_
        refine lw_nil ?_
        exact ⟨_, by omega, i + 1, rfl, hlt, rfl, e13, e14, e1, hs.drop1⟩
      · try simp only [decide_eq_true_eq, decide_eq_false_iff_not, Bool.not_eq_true', Bool.not_eq_false', beq_iff_eq, bne_iff_ne, beq_eq_false_iff_ne, bne_eq_false_iff_eq] at hg13
        refine lw_pass rfl rfl rfl rfl rfl rfl (by decide) ?_
        refine lw_pass rfl rfl rfl rfl rfl rfl (by decide) ?_
        refine lw_pass rfl rfl rfl rfl rfl rfl (by decide) ?_
        refine lw_pass rfl rfl rfl rfl rfl rfl (by decide) ?_
        refine lw_pass rfl rfl rfl rfl rfl rfl (by decide) ?_
        refine lw_pass rfl rfl rfl rfl rfl rfl (by decide) ?_
        refine lw_pass rfl rfl rfl rfl rfl rfl (by decide) ?_
        refine lw_do rfl rfl rfl ?_
        refine l_pur (p_pickF rfl rfl) (by decide) ?_
        refine l_pur (p_pickF rfl rfl) (by decide) ?_
        refine lw_nil ?_
        refine cw_false rfl ?_
        refine cw_skip ?_
        refine cw_region ?_
        refine l_pur (p_add64 e15 rfl (by first | omega | (dsimp only; omega) | (simp; omega))) (by decide) ?_
        refine l_pur (p_moveI rfl) (by decide) ?_
        refine lw_nil ?_
        exact ⟨_, by omega, i + 1, rfl, hlt, rfl, e13, e14, e1, hs.drop1⟩
    · try simp only [decide_eq_true_eq, decide_eq_false_iff_not, Bool.not_eq_true', Bool.not_eq_false', beq_iff_eq, bne_iff_ne, beq_eq_false_iff_ne, bne_eq_false_iff_eq] at hc1
      refine cw_exit ?_
      refine cw_seq ?_
      refine cw_seq (cw_region ?_)
      refine l_pur (p_fieldAddr fo35_6 e1) (by decide) ?_
      refine l_loadO (α := GDaemon) (β := GSl) ty28 rfl GDaemon.l_peers hs (List.Mem.head _) (by decide) ?_
      refine l_pur (p_len Tryz.underlying28 rfl) (by decide) ?_
      refine l_pur (p_moveC) (by decide) ?_
      refine lw_nil ?_
      refine cw_block ?_
      refine cw_loop (fun q f w => ∃ (i : Nat), q = ps.length - i ∧ i ≤ ps.length ∧ f 50 = vi i ∧ f 48 = val d.peers ∧ f 49 = vi ps.length ∧ f 1 = ptr b1 0 ∧ St W0 V w ((b1, blk 35 d) :: L)) (ps.length) ?_ ?_
      · exact ⟨0, rfl, Nat.zero_le _, rfl, rfl, by show vi (d.peers.len : Int) = _; rw [hpl], e1, hs⟩
      · intro q f w hI
        obtain ⟨i, rfl, hi, e50, e48, e49, e1, hs⟩ := hI
        refine cw_seq (cw_region ?_)
        refine l_pur (p_lss e50 e49) (by decide) ?_
        refine lw_nil ?_
        refine cw_seq ?_
        refine cw_cond _ rfl (fun hc3 => ?_) (fun hc3 => ?_)
        · have hlt : i < ps.length := by have := of_decide_eq_true hc3; omega
          have hhi := hh i hlt
          have hha := fun (w : World) (L : List (Nat × Obj)) (hs : St W0 V w L) => s_has (peer := ps[i].pub) (kind := 1) hs ht (by omega)
          rw [← htl] at hha
          refine cw_skip ?_
          refine cw_seq ?_
          refine cw_block ?_
          refine cw_seq (cw_region ?_)
          refine l_indexSl (α := GPeer) el28.sl ty63 e48 hpl e50 (by first | omega | (dsimp only; omega) | (simp; omega)) hp (by decide) ?_; intro bb52 oo52 cc52 hb52 ha52
          refine l_loadV (α := GPeer) ty63 rfl hs hb52 ha52 (by decide) ?_
          refine l_alloc z63 hs (by decide) ?_; clear hs; intro b7 w hs
          refine l_store0 (α := GPeer) (β := GPeer) ty63 rfl rfl (Lens.id GPeer) hs ?_; clear hs; intro w hs
          refine lw_nil ?_
          refine cw_seq ?_
          have hS := Hold.cons hs (List.Mem.head _) (Hold.cons hs (List.Mem.tail _ (List.Mem.head _)) (Hold.nil hs (PH.refl _)))
          refine cw_planH (.take 0 (.take 1 (.take 2 (.take 3 (.take 5 (.take 6 (.take 7 (.one 4 (.take 8 .done))))))))) 255 hmix (by kernel_rfl) (fun _ _ _ h => h) hs hS ?_
          clear hS; clear hs; intro w hs; have hS := Hold.cons hs (List.Mem.head _) (Hold.cons hs (List.Mem.tail _ (List.Mem.head _)) (Hold.nil hs (PH.refl _)))
          refine pw_pur rfl (wt_free rfl) (p_fieldAddr fo35_9 e1) (by decide) (fun _ => hS) ?_
          refine pw_ld rfl (wt_free rfl) (by kernel_rfl) (Hold.runs_loadO (α := GDaemon) (β := GSl) ty31 rfl GDaemon.l_timers (List.Mem.tail _ (List.Mem.head _))) (by decide) hS ?_
          refine pw_pur rfl (wt_free rfl) (p_fieldAddr fo63_0 rfl) (by decide) (fun _ => hS) ?_
          refine pw_ld rfl (wt_free rfl) (by kernel_rfl) (Hold.runs_loadO (α := GPeer) (β := (Vec 32 UInt8)) ty27 rfl GPeer.l_pub (List.Mem.head _)) (by decide) hS ?_
          refine pw_pur rfl (wt_free rfl) (p_fieldAddr fo63_8 rfl) (by decide) (fun _ => hS) ?_
          refine pw_pur rfl (wt_free rfl) (p_fieldAddr fo50_0 rfl) (by decide) (fun _ => hS) ?_
          refine pw_ld rfl (wt_free rfl) (by kernel_rfl) (Hold.runs_loadO (α := GPeer) (β := Bool) ty4 rfl (Lens.comp GPeer.l_hand GHand.l_has) (List.Mem.head _)) (by decide) hS ?_
          refine pw_one ?_
          refine ow_call3 rfl (wt_free rfl) fn188 (hha _ _ hs) rfl rfl rfl ?_ (by decide)
          clear hs hS
          rintro _ w ⟨rfl, hs⟩
          refine ⟨fun _ => Hold.cons hs (List.Mem.head _) (Hold.cons hs (List.Mem.tail _ (List.Mem.head _)) (Hold.nil hs (PH.refl _))), ?_⟩; have hS := Hold.cons hs (List.Mem.head _) (Hold.cons hs (List.Mem.tail _ (List.Mem.head _)) (Hold.nil hs (PH.refl _)))
          refine pw_purIs (c := false) rfl (wt_free rfl) (p_neqB Tryz.underlying4 rfl rfl) (by rw [hhi.1, hhi.2]; rfl) (by decide) (fun h => absurd h (by decide)) ?_
          refine pw_done ?_
          refine cw_false rfl ?_
          refine cw_skip ?_
          refine cw_region ?_
          refine l_pur (p_add64 e50 rfl (by first | omega | (dsimp only; omega) | (simp; omega))) (by decide) ?_
          refine l_pur (p_moveI rfl) (by decide) ?_
          refine lw_nil ?_
          exact ⟨_, by omega, i + 1, rfl, hlt, rfl, e48, e49, e1, hs.drop1⟩
        · try simp only [decide_eq_true_eq, decide_eq_false_iff_not, Bool.not_eq_true', Bool.not_eq_false', beq_iff_eq, bne_iff_ne, beq_eq_false_iff_ne, bne_eq_false_iff_eq] at hc3
          refine cw_exit ?_
          refine cw_seq (cw_region ?_)
          refine l_pur (p_assignC) (by decide) ?_
          refine lw_nil ?_
          refine cw_ret ?_
          repeat (with_reducible first | refine tf_ret ?_ | refine ib_ret ?_)
          refine fin1 (fn := Tryz.f115) rfl (rv_tmpB rfl) ?_
          exact ⟨rfl, hs.drop1⟩
end Go.Bur
namespace Go.Bur
open Go Go.RowKit Go.Proofs
set_option maxHeartbeats 4000000
variable {W0 : World} {V : PH} {w : World} {L : List (Nat × Obj)}
def cntL (ps : List GPeer) (i : Nat) : Nat := ((ps.take i).map fun p => (localsR p.ring).length).sum
theorem cntL_succ {ps : List GPeer} {i : Nat} (h : i < ps.length) : cntL ps (i + 1) = cntL ps i + (localsR ps[i].ring).length := by
  unfold cntL
  rw [List.take_succ_eq_append_getElem h, List.map_append, List.sum_append]; simp
theorem localsR_len (r : GRing) : (localsR r).length ≤ 3 := localsP_len _
theorem cntL_le (ps : List GPeer) (i : Nat) : cntL ps i ≤ 3 * i := by
  induction i with
  | zero => simp [cntL]
  | succ i ih =>
    by_cases h : i < ps.length
    · rw [cntL_succ h]; have := localsR_len ps[i].ring; omega
    · have : cntL ps (i + 1) = cntL ps i := by unfold cntL; rw [List.take_of_length_le (by omega), List.take_of_length_le (by omega)]
      omega
theorem s_slots24 {d : GDaemon} {ps : List GPeer} {ss : List GSlot} (hs : St W0 V w L) (hp : Sl V 63 d.peers.a d.peers.cap ps) (hpl : d.peers.len = ps.length) (hq : Sl V 69 d.slots.a d.slots.cap ss) (hql : d.slots.len = ss.length) (hn : ps.length ≤ 8)
    (hso : SlotsOk ss) (hha : ∀ i (h : i < ps.length), ps[i].hand.has = false)
    (hloc : ∀ i (h : i < ps.length), ∀ x ∈ localsR ps[i].ring, ∃ s, findS ss x = some s ∧ s.session = true ∧ s.peer = ps[i].pub)
    (hnd : ∀ i (h : i < ps.length), (localsR ps[i].ring).Nodup) (hcnt : cntL ps ps.length = ss.length) :
    Calls Tryz.prog 114 #[val d] w (okR fun v w' => v = .bool true ∧ St W0 V w' L) := by
  have hvs := fun (w : World) (L : List (Nat × Obj)) (hs : St W0 V w L) => s_validslots hs hq hso
  rw [← hql] at hvs
  have hn32 := hso.n
  refine fn_enter (n := 116) Tryz.func114 rfl rfl rfl ?_
  intro f hf
  have e0 := hf 0
  simp only [Array.getD_eq_getD_getElem?, List.getElem?_toArray, List.getElem?_cons_zero, List.getElem?_cons_succ, Option.getD_some] at e0
  clear hf
  refine cw_seq (cw_region ?_)
  refine l_box (α := GDaemon) e0 hs (by decide) ?_; clear hs; intro b1 w hs
  refine l_pur (p_assignC) (by decide) ?_
  refine lw_nil ?_
  refine cw_seq ?_
  refine cw_seq (cw_region ?_)
  refine l_pur (p_fieldAddr fo35_8 rfl) (by decide) ?_
  refine l_loadO (α := GDaemon) (β := GSl) ty30 rfl GDaemon.l_slots hs (List.Mem.head _) (by decide) ?_
  refine l_call1 fn185 (hvs _ _ hs) rfl ?_ (by decide)
  clear hs
  rintro _ w ⟨rfl, hs⟩
  refine l_pur (p_not rfl) (by decide) ?_
  refine lw_nil ?_
  refine cw_false rfl ?_
  refine cw_skip ?_
  refine cw_seq (cw_region ?_)
  refine l_pur (p_assignC) (by decide) ?_
  refine lw_nil ?_
  refine cw_seq ?_
  refine cw_seq (cw_region ?_)
  refine l_pur (p_fieldAddr fo35_6 rfl) (by decide) ?_
  refine l_loadO (α := GDaemon) (β := GSl) ty28 rfl GDaemon.l_peers hs (List.Mem.head _) (by decide) ?_
  refine l_pur (p_len Tryz.underlying28 rfl) (by decide) ?_
  refine l_pur (p_moveC) (by decide) ?_
  refine lw_nil ?_
  refine cw_block ?_
  refine cw_loop (fun q f w => ∃ (i : Nat), q = ps.length - i ∧ i ≤ ps.length ∧ f 24 = vi i ∧ f 22 = val d.peers ∧ f 23 = vi ps.length ∧ f 1 = ptr b1 0 ∧ f 3 = vi (cntL ps i : Nat) ∧ St W0 V w ((b1, blk 35 d) :: L)) (ps.length) ?_ ?_
  · exact ⟨0, rfl, Nat.zero_le _, rfl, rfl, by show vi (d.peers.len : Int) = _; rw [hpl], rfl, rfl, hs⟩
  · intro q f w hI
    obtain ⟨i, rfl, hi, e24, e22, e23, e1, e3, hs⟩ := hI
    refine cw_seq (cw_region ?_)
    refine l_pur (p_lss e24 e23) (by decide) ?_
    refine lw_nil ?_
    refine cw_seq ?_
    refine cw_cond _ rfl (fun hc1 => ?_) (fun hc1 => ?_)
    · have hlt : i < ps.length := by have := of_decide_eq_true hc1; omega
      have hcl := cntL_le ps i
      have hl3 := localsR_len ps[i].ring
      refine cw_skip ?_
      refine cw_seq ?_
      refine cw_block ?_
      refine cw_seq (cw_region ?_)
      refine l_indexSl (α := GPeer) el28.sl ty63 e22 hpl e24 (by first | omega | (dsimp only; omega) | (simp; omega)) hp (by decide) ?_; intro bb26 oo26 cc26 hb26 ha26
      refine l_loadV (α := GPeer) ty63 rfl hs hb26 ha26 (by decide) ?_
      refine l_alloc z63 hs (by decide) ?_; clear hs; intro b5 w hs
      refine l_store0 (α := GPeer) (β := GPeer) ty63 rfl rfl (Lens.id GPeer) hs ?_; clear hs; intro w hs
      refine lw_nil ?_
      refine cw_seq ?_
      refine cw_seq (cw_region ?_)
      refine l_pur (p_fieldAddr fo63_8 rfl) (by decide) ?_
      refine l_pur (p_fieldAddr fo50_0 rfl) (by decide) ?_
      refine l_loadO (α := GPeer) (β := Bool) ty4 rfl (Lens.comp GPeer.l_hand GHand.l_has) hs (List.Mem.head _) (by decide) ?_
      refine lw_nil ?_
      refine cw_false (congrArg Value.bool (hha i hlt)) ?_
      refine cw_skip ?_
      refine cw_seq ?_
      refine cw_seq (cw_region ?_)
      refine l_pur (p_fieldAddr fo63_13 rfl) (by decide) ?_
      refine l_loadO (α := GPeer) (β := GRing) ty60 rfl GPeer.l_ring hs (List.Mem.head _) (by decide) ?_
      refine l_call1 fn186 (s_localsR hs) rfl ?_ (by decide)
      clear hs
      intro v w ho
      obtain ⟨V1, a1, c1, hV1, hs, rfl, hl1⟩ := ho.freeze
      refine l_pur (p_len Tryz.underlying130 rfl) (by decide) ?_
      refine l_pur (p_moveC) (by decide) ?_
      refine lw_nil ?_
      refine cw_block ?_
      refine cw_loop (fun q f w => ∃ (j : Nat), q = (localsR ps[i].ring).length - j ∧ j ≤ (localsR ps[i].ring).length ∧ f 59 = vi j ∧ f 57 = .slice a1 (localsR ps[i].ring).length c1 ∧ f 58 = vi (localsR ps[i].ring).length ∧ f 3 = vi ((cntL ps i + j : Nat) : Int) ∧ f 24 = vi i ∧ f 22 = val d.peers ∧ f 23 = vi ps.length ∧ f 1 = ptr b1 0 ∧ f 5 = ptr b5 0 ∧ St W0 V1 w ((b5, blk 63 ps[i]) :: (b1, blk 35 d) :: L)) ((localsR ps[i].ring).length) ?_ ?_
      · exact ⟨0, rfl, Nat.zero_le _, rfl, rfl, rfl, e3, e24, e22, e23, e1, rfl, hs⟩
      · intro q f w hI
        obtain ⟨j, rfl, hj, e59, e57, e58, e3, e24, e22, e23, e1, e5, hs⟩ := hI
        refine cw_seq (cw_region ?_)
        refine l_pur (p_lss e59 e58) (by decide) ?_
        refine lw_nil ?_
        refine cw_seq ?_
        refine cw_cond _ rfl (fun hc4 => ?_) (fun hc4 => ?_)
        · have hjl : j < (localsR ps[i].ring).length := by have := of_decide_eq_true hc4; omega
          obtain ⟨sl, hf1, hf2, hf3⟩ := hloc i hlt _ (List.getElem_mem hjl)
          have hfs := fun (w : World) (L : List (Nat × Obj)) (hs : St W0 V1 w L) => s_findslot (k := (localsR ps[i].ring)[j]) hs (hq.mono hV1) (by omega)
          rw [← hql, hf1] at hfs
          refine cw_skip ?_
          refine cw_seq ?_
          refine cw_block ?_
          refine cw_seq (cw_region ?_)
          refine l_indexSl (α := UInt32) el130.sl ty46 e57 rfl e59 (by first | omega | (dsimp only; omega) | (simp; omega)) hl1 (by decide) ?_; intro bb61 oo61 cc61 hb61 ha61
          refine l_loadV (α := UInt32) ty46 rfl hs hb61 ha61 (by decide) ?_
          refine l_pur (p_assignI rfl) (by decide) ?_
          refine lw_nil ?_
          refine cw_seq (cw_region ?_)
          refine l_pur (p_fieldAddr fo35_8 e1) (by decide) ?_
          refine l_loadO (α := GDaemon) (β := GSl) ty30 rfl GDaemon.l_slots hs (List.Mem.tail _ (List.Mem.head _)) (by decide) ?_
          refine l_pur (p_moveI rfl) (by decide) ?_
          refine l_call2 fn38 (hfs _ _ hs) rfl rfl ?_ (by decide)
          clear hs; rintro _ w ⟨rfl, hs⟩
          refine l_pur (p_moveT rfl) (by decide) ?_
          refine l_pur (p_extract rfl rfl) (by decide) ?_
          refine l_pur (p_extract rfl rfl) (by decide) ?_
          refine l_alloc z69 hs (by decide) ?_; clear hs; intro b10 w hs
          refine l_store0 (α := GSlot) (β := GSlot) ty69 rfl rfl (Lens.id GSlot) hs ?_; clear hs; intro w hs
          refine l_pur (p_assignB rfl) (by decide) ?_
          refine lw_nil ?_
          refine cw_seq ?_
          refine cw_seq (cw_region ?_)
          refine l_pur (p_moveB rfl) (by decide) ?_
          refine l_purIs (c := false) (p_not rfl) (by rfl) (by decide) ?_
          refine l_pur (p_moveB rfl) (by decide) ?_
          refine lw_do rfl rfl rfl ?_
          refine l_pur (p_fieldAddr fo69_2 rfl) (by decide) ?_
          refine lw_do rfl rfl rfl ?_
          refine l_loadO (α := GSlot) (β := Bool) ty4 rfl GSlot.l_session hs (List.Mem.head _) (by decide) ?_
          refine lw_do rfl rfl rfl ?_
          refine l_purIs (c := false) (p_not rfl) (by show (!sl.session) = false; rw [hf2]; rfl) (by decide) ?_
          refine l_pur (p_pickF rfl rfl) (by decide) ?_
          refine l_pur (p_moveB rfl) (by decide) ?_
          refine lw_do rfl rfl rfl ?_
          refine l_pur (p_fieldAddr fo69_1 rfl) (by decide) ?_
          refine lw_do rfl rfl rfl ?_
          refine l_loadO (α := GSlot) (β := (Vec 32 UInt8)) ty27 rfl GSlot.l_peer hs (List.Mem.head _) (by decide) ?_
          refine lw_do rfl rfl rfl ?_
          refine l_pur (p_fieldAddr fo63_0 e5) (by decide) ?_
          refine lw_do rfl rfl rfl ?_
          refine l_loadO (α := GPeer) (β := (Vec 32 UInt8)) ty27 rfl GPeer.l_pub hs (List.Mem.tail _ (List.Mem.head _)) (by decide) ?_
          refine lw_do rfl rfl rfl ?_
          refine l_purIs (c := false) (p_neqS eq27 rfl rfl) (by show (!decide (sl.peer = ps[i].pub)) = false; rw [hf3]; simp) (by decide) ?_
          refine l_pur (p_pickF rfl rfl) (by decide) ?_
          refine lw_nil ?_
          refine cw_false rfl ?_
          refine cw_skip ?_
          refine cw_region ?_
          refine l_pur (p_move e3) (by decide) ?_
          refine l_pur (p_add64 rfl rfl (by first | omega | (dsimp only; omega) | (simp; omega))) (by decide) ?_
          refine l_pur (p_assignI rfl) (by decide) ?_
          refine lw_nil ?_
          refine cw_region ?_
          refine l_pur (p_add64 e59 rfl (by first | omega | (dsimp only; omega) | (simp; omega))) (by decide) ?_
          refine l_pur (p_moveI rfl) (by decide) ?_
          refine lw_nil ?_
          exact ⟨_, by omega, j + 1, rfl, hjl, rfl, e57, e58, rfl, e24, e22, e23, e1, e5, hs.drop1⟩
        · try simp only [decide_eq_true_eq, decide_eq_false_iff_not, Bool.not_eq_true', Bool.not_eq_false', beq_iff_eq, bne_iff_ne, beq_eq_false_iff_ne, bne_eq_false_iff_eq] at hc4
          refine cw_exit ?_
          refine cw_seq (cw_region ?_)
          refine l_pur (p_fieldAddr fo63_13 e5) (by decide) ?_
          refine l_loadO (α := GPeer) (β := GRing) ty60 rfl GPeer.l_ring hs (List.Mem.head _) (by decide) ?_
          refine l_call1 fn186 (s_localsR hs) rfl ?_ (by decide)
          clear hs
          intro v w ho
          obtain ⟨V2, a2, c2, hV2, hs, rfl, hl2⟩ := ho.freeze
          refine l_pur (p_assignL rfl) (by decide) ?_
          refine lw_nil ?_
          refine cw_seq (cw_region ?_)
          refine l_pur (p_moveL rfl) (by decide) ?_
          refine l_pur (p_len Tryz.underlying130 rfl) (by decide) ?_
          refine l_pur (p_moveC) (by decide) ?_
          refine lw_nil ?_
          refine cw_block ?_
          refine cw_loop (fun q f w => ∃ (j : Nat), q = (localsR ps[i].ring).length - j ∧ j ≤ (localsR ps[i].ring).length ∧ f 92 = vi j ∧ f 90 = .slice a2 (localsR ps[i].ring).length c2 ∧ f 12 = .slice a2 (localsR ps[i].ring).length c2 ∧ f 91 = vi (localsR ps[i].ring).length ∧ f 3 = vi ((cntL ps i + (localsR ps[i].ring).length : Nat) : Int) ∧ f 24 = vi i ∧ f 22 = val d.peers ∧ f 23 = vi ps.length ∧ f 1 = ptr b1 0 ∧ St W0 V2 w ((b5, blk 63 ps[i]) :: (b1, blk 35 d) :: L)) ((localsR ps[i].ring).length) ?_ ?_
          · have hjj : j = (localsR ps[i].ring).length := by omega
            exact ⟨0, rfl, Nat.zero_le _, rfl, rfl, rfl, rfl, by rw [← hjj]; exact e3, e24, e22, e23, e1, hs⟩
          · intro q f w hI
            obtain ⟨j, rfl, hj, e92, e90, e12, e91, e3, e24, e22, e23, e1, hs⟩ := hI
            have hcap2 : (localsR ps[i].ring).length ≤ c2 := by
              by_cases hnn : localsR ps[i].ring = []
              · rw [hnn]; simp
              · exact sl_cap hl2 hnn
            refine cw_seq (cw_region ?_)
            refine l_pur (p_lss e92 e91) (by decide) ?_
            refine lw_nil ?_
            refine cw_seq ?_
            refine cw_cond _ rfl (fun hc6 => ?_) (fun hc6 => ?_)
            · have hjl : j < (localsR ps[i].ring).length := by have := of_decide_eq_true hc6; omega
              refine cw_skip ?_
              refine cw_seq ?_
              refine cw_block ?_
              refine cw_seq (cw_region ?_)
              refine l_pur (p_move e92) (by decide) ?_
              refine l_indexSl (α := UInt32) el130.sl ty46 e90 rfl e92 (by first | omega | (dsimp only; omega) | (simp; omega)) hl2 (by decide) ?_; intro bb95 oo95 cc95 hb95 ha95
              refine l_loadV (α := UInt32) ty46 rfl hs hb95 ha95 (by decide) ?_
              refine l_pur (p_assignI rfl) (by decide) ?_
              refine l_pur (p_assignI rfl) (by decide) ?_
              refine lw_nil ?_
              refine cw_seq ?_
              have hl4 := hl2.slice (l := 0) (h := j) (m := c2) (Nat.zero_le _) hj (Nat.le_refl _) (by omega)
              refine cw_region ?_
              refine l_pur (p_move e12) (by decide) ?_
              refine l_pur (p_moveI rfl) (by decide) ?_
              refine l_pur (p_slice el130.sl el130.ty.size rfl (.no _) (.at_ _ rfl) (.no _) (.inl rfl) (by first | omega | (dsimp only; omega) | (simp; omega))) (by decide) ?_
              refine l_pur (p_len Tryz.underlying130 rfl) (by decide) ?_
              refine l_pur (p_moveC) (by decide) ?_
              refine lw_nil ?_
              refine cw_block ?_
              refine cw_loop (fun q f w => ∃ (k : Nat), q = j - k ∧ k ≤ j ∧ f 101 = vi k ∧ f 100 = vi j ∧ (∃ a3, f 99 = .slice a3 j (c2 - 0) ∧ Sl V2 46 a3 (c2 - 0) (((localsR ps[i].ring).take j).drop 0)) ∧ f 14 = val (localsR ps[i].ring)[j] ∧ f 92 = vi j ∧ f 90 = .slice a2 (localsR ps[i].ring).length c2 ∧ f 12 = .slice a2 (localsR ps[i].ring).length c2 ∧ f 91 = vi (localsR ps[i].ring).length ∧ f 3 = vi ((cntL ps i + (localsR ps[i].ring).length : Nat) : Int) ∧ f 24 = vi i ∧ f 22 = val d.peers ∧ f 23 = vi ps.length ∧ f 1 = ptr b1 0 ∧ St W0 V2 w ((b5, blk 63 ps[i]) :: (b1, blk 35 d) :: L)) (j) ?_ ?_
              · exact ⟨0, rfl, Nat.zero_le _, rfl, rfl, ⟨_, rfl, hl4⟩, rfl, e92, e90, e12, e91, e3, e24, e22, e23, e1, hs⟩
              · intro q f w hI
                obtain ⟨k, rfl, hk, e101, e100, ⟨a3, e99, hl5⟩, e14, e92, e90, e12, e91, e3, e24, e22, e23, e1, hs⟩ := hI
                have hlen5 : j = (((localsR ps[i].ring).take j).drop 0).length := by simp; omega
                refine cw_seq (cw_region ?_)
                refine l_pur (p_lss e101 e100) (by decide) ?_
                refine lw_nil ?_
                refine cw_seq ?_
                refine cw_cond _ rfl (fun hc7 => ?_) (fun hc7 => ?_)
                · have hkl : k < j := by have := of_decide_eq_true hc7; omega
                  refine cw_skip ?_
                  refine cw_seq ?_
                  refine cw_block ?_
                  refine cw_seq (cw_region ?_)
                  refine l_indexSl (α := UInt32) el130.sl ty46 e99 hlen5 e101 (by first | omega | (dsimp only; omega) | (simp; omega)) hl5 (by decide) ?_; intro bb103 oo103 cc103 hb103 ha103
                  refine l_loadV (α := UInt32) ty46 rfl hs hb103 ha103 (by decide) ?_
                  refine l_pur (p_assignI rfl) (by decide) ?_
                  refine lw_nil ?_
                  refine cw_seq ?_
                  have hek : ∀ h : k < (((localsR ps[i].ring).take j).drop 0).length, (((localsR ps[i].ring).take j).drop 0)[k]'h = (localsR ps[i].ring)[k] := by intro h; simp
                  have hne : (localsR ps[i].ring)[j] ≠ (localsR ps[i].ring)[k] := fun h => by
                    have := (List.getElem_inj (hnd i hlt)).1 h
                    omega
                  refine cw_region ?_
                  refine l_pur (p_move e14) (by decide) ?_
                  refine l_pur (p_moveI rfl) (by decide) ?_
                  refine l_purIs (c := false) (p_eql_u32 rfl rfl) (by rw [hek]; exact decide_eq_false hne) (by decide) ?_
                  refine lw_nil ?_
                  refine cw_false rfl ?_
                  refine cw_skip ?_
                  refine cw_region ?_
                  refine l_pur (p_add64 e101 rfl (by first | omega | (dsimp only; omega) | (simp; omega))) (by decide) ?_
                  refine l_pur (p_moveI rfl) (by decide) ?_
                  refine lw_nil ?_
                  exact ⟨_, by omega, k + 1, rfl, hkl, rfl, e100, ⟨_, e99, hl5⟩, e14, e92, e90, e12, e91, e3, e24, e22, e23, e1, hs⟩
                · try simp only [decide_eq_true_eq, decide_eq_false_iff_not, Bool.not_eq_true', Bool.not_eq_false', beq_iff_eq, bne_iff_ne, beq_eq_false_iff_ne, bne_eq_false_iff_eq] at hc7
                  refine cw_exit ?_
                  refine cw_region ?_
                  refine l_pur (p_add64 e92 rfl (by first | omega | (dsimp only; omega) | (simp; omega))) (by decide) ?_
                  refine l_pur (p_moveI rfl) (by decide) ?_
                  refine lw_nil ?_
                  exact ⟨_, by omega, j + 1, rfl, hjl, rfl, e90, e12, e91, e3, e24, e22, e23, e1, hs⟩
            · try simp only [decide_eq_true_eq, decide_eq_false_iff_not, Bool.not_eq_true', Bool.not_eq_false', beq_iff_eq, bne_iff_ne, beq_eq_false_iff_ne, bne_eq_false_iff_eq] at hc6
              refine cw_exit ?_
              refine cw_region ?_
              refine l_pur (p_add64 e24 rfl (by first | omega | (dsimp only; omega) | (simp; omega))) (by decide) ?_
              refine l_pur (p_moveI rfl) (by decide) ?_
              refine lw_nil ?_
              exact ⟨_, by omega, i + 1, rfl, hlt, rfl, e22, e23, e1, by rw [cntL_succ hlt]; exact e3, (hs.drop1).weaken (PH.trans hV1 hV2)⟩
    · try simp only [decide_eq_true_eq, decide_eq_false_iff_not, Bool.not_eq_true', Bool.not_eq_false', beq_iff_eq, bne_iff_ne, beq_eq_false_iff_ne, bne_eq_false_iff_eq] at hc1
      refine cw_exit ?_
      refine cw_seq ?_
      have hii : i = ps.length := by omega
      subst hii
      rw [hcnt] at e3
      refine cw_region ?_
      refine l_pur (p_move e3) (by decide) ?_
      refine l_pur (p_fieldAddr fo35_8 e1) (by decide) ?_
      refine l_loadO (α := GDaemon) (β := GSl) ty30 rfl GDaemon.l_slots hs (List.Mem.head _) (by decide) ?_
      refine l_pur (p_len Tryz.underlying30 rfl) (by decide) ?_
      refine l_purIs (c := true) (p_eql rfl rfl) (by rw [hql]; simp) (by decide) ?_
      refine l_pur (p_assignB rfl) (by decide) ?_
      refine lw_nil ?_
      refine cw_ret ?_
      repeat (with_reducible first | refine tf_ret ?_ | refine ib_ret ?_)
      refine fin1 (fn := Tryz.f114) rfl (rv_tmpB rfl) ?_
      exact ⟨rfl, hs.drop1⟩
end Go.Bur
namespace Go.Bur
open Go Go.RowKit Go.Proofs
set_option maxHeartbeats 4000000
variable {W0 : World} {V : PH} {w : World} {L : List (Nat × Obj)}
structure DaemonOk (d : GDaemon) (ps : List GPeer) (rs : List GRoute) (ss : List GSlot) (ts : List GTimer) : Prop where
  rules : RulesOk d.rules
  now : 0 ≤ d.now ∧ d.now ≤ 1099511627776
  port : 0 ≤ d.port ∧ d.port ≤ 65535
  bad : 0 ≤ d.bad ∧ d.bad ≤ 1099511627776
  secret : 0 ≤ d.secretAt ∧ d.secretAt ≤ d.now
  pn : ps.length ≤ 8
  po : PeersSorted ps
  pk : ∀ i (h : i < ps.length), PeerOk d ps[i]
  ro : RoutesOk rs
  rf : ∀ i (h : i < rs.length), 0 ≤ findP ps rs[i].peer
  so : SlotsOk ss
  sloc : ∀ i (h : i < ps.length), ∀ x ∈ localsR ps[i].ring, ∃ s, findS ss x = some s ∧ s.session = true ∧ s.peer = ps[i].pub
  snd : ∀ i (h : i < ps.length), (localsR ps[i].ring).Nodup
  scnt : cntL ps ps.length = ss.length
  tn : ts.length < 1000
  to : TimersOk ts
  tf : ∀ i (h : i < ts.length), d.now < ts[i].at_ ∧ 0 ≤ findP ps ts[i].peer ∧ ts[i].kind ≠ 4 ∨ d.now < ts[i].at_ ∧ ∃ (j : Nat) (hj : j < ps.length), findP ps ts[i].peer = j ∧ ps[j].keepalive ≠ 0
  th : ∀ i (h : i < ps.length), hasT ts ps[i].pub 1 = false
theorem s_check24 {d : GDaemon} {ps : List GPeer} {rs : List GRoute} {ss : List GSlot} {ts : List GTimer} (hs : St W0 V w L) (hd : DSl V d ps rs ss ts) (h : DaemonOk d ps rs ss ts) :
    Calls Tryz.prog 74 #[val d] w (okR fun v w' => v = vi 0 ∧ St W0 V w' L) := by
  have hha : ∀ i (hi : i < ps.length), ps[i].hand.has = false := fun i hi => by rw [(h.pk i hi).hand]; rfl
  have hst : 0 ≤ d.rules.stage := by have := h.rules.t7; omega
  refine fn_enter (n := 58) Tryz.func74 rfl rfl rfl ?_
  intro f hf
  have e0 := hf 0
  simp only [Array.getD_eq_getD_getElem?, List.getElem?_toArray, List.getElem?_cons_zero, List.getElem?_cons_succ, Option.getD_some] at e0
  clear hf
  refine cw_seq (cw_region ?_)
  refine l_box (α := GDaemon) e0 hs (by decide) ?_; clear hs; intro b1 w hs
  refine l_pur (p_assignC) (by decide) ?_
  refine lw_nil ?_
  refine cw_seq ?_
  refine cw_block ?_
  refine cw_seq (cw_region ?_)
  refine l_pur (p_fieldAddr fo35_0 rfl) (by decide) ?_
  refine l_loadO (α := GDaemon) (β := GRules) ty25 rfl GDaemon.l_rules hs (List.Mem.head _) (by decide) ?_
  refine l_call1 fn109 (s_validrules hs h.rules) rfl ?_ (by decide)
  clear hs
  rintro _ w ⟨rfl, hs⟩
  refine l_pur (p_not rfl) (by decide) ?_
  refine l_pur (p_moveB rfl) (by decide) ?_
  refine lw_do rfl rfl rfl ?_
  refine l_pur (p_fieldAddr fo35_5 rfl) (by decide) ?_
  refine lw_do rfl rfl rfl ?_
  refine l_loadO (α := GDaemon) (β := Int) ty2 rfl GDaemon.l_now hs (List.Mem.head _) (by decide) ?_
  refine lw_do rfl rfl rfl ?_
  refine l_call3 fn110 (s_within hs h.now) rfl rfl rfl ?_ (by decide)
  clear hs
  rintro _ w ⟨rfl, hs⟩
  refine lw_do rfl rfl rfl ?_
  refine l_pur (p_not rfl) (by decide) ?_
  refine l_pur (p_pickF rfl rfl) (by decide) ?_
  refine l_pur (p_moveB rfl) (by decide) ?_
  refine lw_do rfl rfl rfl ?_
  refine l_pur (p_fieldAddr fo35_3 rfl) (by decide) ?_
  refine lw_do rfl rfl rfl ?_
  refine l_loadO (α := GDaemon) (β := Int) ty3 rfl GDaemon.l_port hs (List.Mem.head _) (by decide) ?_
  refine lw_do rfl rfl rfl ?_
  refine l_call3 fn110 (s_within hs h.port) rfl rfl rfl ?_ (by decide)
  clear hs
  rintro _ w ⟨rfl, hs⟩
  refine lw_do rfl rfl rfl ?_
  refine l_pur (p_not rfl) (by decide) ?_
  refine l_pur (p_pickF rfl rfl) (by decide) ?_
  refine l_pur (p_moveB rfl) (by decide) ?_
  refine lw_do rfl rfl rfl ?_
  refine l_pur (p_fieldAddr fo35_14 rfl) (by decide) ?_
  refine lw_do rfl rfl rfl ?_
  refine l_loadO (α := GDaemon) (β := Int) ty3 rfl GDaemon.l_bad hs (List.Mem.head _) (by decide) ?_
  refine lw_do rfl rfl rfl ?_
  refine l_call3 fn110 (s_within hs h.bad) rfl rfl rfl ?_ (by decide)
  clear hs
  rintro _ w ⟨rfl, hs⟩
  refine lw_do rfl rfl rfl ?_
  refine l_pur (p_not rfl) (by decide) ?_
  refine l_pur (p_pickF rfl rfl) (by decide) ?_
  refine l_pur (p_assignB rfl) (by decide) ?_
  refine lw_nil ?_
  refine cw_false rfl ?_
  refine cw_seq (cw_region ?_)
  refine l_loadO (α := GDaemon) (β := GDaemon) ty35 rfl (Lens.id GDaemon) hs (List.Mem.head _) (by decide) ?_
  refine l_call1 fn111 (s_peers24 hs hd.p hd.pl h.po h.pn) rfl ?_ (by decide)
  clear hs
  rintro _ w ⟨rfl, hs⟩
  refine l_pur (p_not rfl) (by decide) ?_
  refine l_pur (p_assignB rfl) (by decide) ?_
  refine lw_nil ?_
  refine cw_false rfl ?_
  refine cw_seq (cw_region ?_)
  refine l_loadO (α := GDaemon) (β := GDaemon) ty35 rfl (Lens.id GDaemon) hs (List.Mem.head _) (by decide) ?_
  refine l_call2 fn112 (s_each hs hd.p hd.pl h.pn h.pk h.now.1 hst) rfl rfl ?_ (by decide)
  clear hs
  rintro _ w ⟨rfl, hs⟩
  refine l_pur (p_not rfl) (by decide) ?_
  refine l_pur (p_assignB rfl) (by decide) ?_
  refine lw_nil ?_
  refine cw_false rfl ?_
  refine cw_seq (cw_region ?_)
  refine l_loadO (α := GDaemon) (β := GDaemon) ty35 rfl (Lens.id GDaemon) hs (List.Mem.head _) (by decide) ?_
  refine l_call2 fn112 (s_each hs hd.p hd.pl h.pn h.pk h.now.1 hst) rfl rfl ?_ (by decide)
  clear hs
  rintro _ w ⟨rfl, hs⟩
  refine l_pur (p_not rfl) (by decide) ?_
  refine l_pur (p_assignB rfl) (by decide) ?_
  refine lw_nil ?_
  refine cw_false rfl ?_
  refine cw_seq (cw_region ?_)
  refine l_loadO (α := GDaemon) (β := GDaemon) ty35 rfl (Lens.id GDaemon) hs (List.Mem.head _) (by decide) ?_
  refine l_call2 fn112 (s_each hs hd.p hd.pl h.pn h.pk h.now.1 hst) rfl rfl ?_ (by decide)
  clear hs
  rintro _ w ⟨rfl, hs⟩
  refine l_pur (p_not rfl) (by decide) ?_
  refine l_pur (p_assignB rfl) (by decide) ?_
  refine lw_nil ?_
  refine cw_false rfl ?_
  refine cw_seq (cw_region ?_)
  refine l_loadO (α := GDaemon) (β := GDaemon) ty35 rfl (Lens.id GDaemon) hs (List.Mem.head _) (by decide) ?_
  refine l_call1 fn113 (s_routes24 hs hd.p hd.pl hd.r hd.rl h.pn h.ro h.rf) rfl ?_ (by decide)
  clear hs
  rintro _ w ⟨rfl, hs⟩
  refine l_pur (p_not rfl) (by decide) ?_
  refine l_pur (p_assignB rfl) (by decide) ?_
  refine lw_nil ?_
  refine cw_false rfl ?_
  refine cw_seq (cw_region ?_)
  refine l_loadO (α := GDaemon) (β := GDaemon) ty35 rfl (Lens.id GDaemon) hs (List.Mem.head _) (by decide) ?_
  refine l_call1 fn114 (s_slots24 hs hd.p hd.pl hd.s hd.sl h.pn h.so hha h.sloc h.snd h.scnt) rfl ?_ (by decide)
  clear hs
  rintro _ w ⟨rfl, hs⟩
  refine l_pur (p_not rfl) (by decide) ?_
  refine l_pur (p_assignB rfl) (by decide) ?_
  refine lw_nil ?_
  refine cw_false rfl ?_
  refine cw_seq (cw_region ?_)
  refine l_loadO (α := GDaemon) (β := GDaemon) ty35 rfl (Lens.id GDaemon) hs (List.Mem.head _) (by decide) ?_
  refine l_call1 fn115 (s_timers24 hs hd.p hd.pl hd.t hd.tl h.pn h.tn h.to h.tf (fun i hi => ⟨h.th i hi, hha i hi⟩)) rfl ?_ (by decide)
  clear hs
  rintro _ w ⟨rfl, hs⟩
  refine l_pur (p_not rfl) (by decide) ?_
  refine l_pur (p_assignB rfl) (by decide) ?_
  refine lw_nil ?_
  refine cw_false rfl ?_
  refine cw_seq (cw_region ?_)
  refine l_loadO (α := GDaemon) (β := GDaemon) ty35 rfl (Lens.id GDaemon) hs (List.Mem.head _) (by decide) ?_
  refine l_call1 fn116 (s_load24 hs h.secret hd.re hd.bu) rfl ?_ (by decide)
  clear hs
  rintro _ w ⟨rfl, hs⟩
  refine l_pur (p_not rfl) (by decide) ?_
  refine l_pur (p_assignB rfl) (by decide) ?_
  refine lw_nil ?_
  refine cw_false rfl ?_
  refine cw_skip ?_
  refine cw_seq (cw_region ?_)
  refine l_pur (p_assignC) (by decide) ?_
  refine lw_nil ?_
  refine cw_ret ?_
  repeat (with_reducible first | refine tf_ret ?_ | refine ib_ret ?_)
  refine fin1 (fn := Tryz.f74) rfl (rv_tmpI rfl) ?_
  exact ⟨rfl, hs.drop1⟩
theorem s_valid24 {d : GDaemon} {ps : List GPeer} {rs : List GRoute} {ss : List GSlot} {ts : List GTimer} (hs : St W0 V w L) (hd : DSl V d ps rs ss ts) (h : DaemonOk d ps rs ss ts) :
    Calls Tryz.prog 36 #[val d] w (okR fun v w' => v = .bool true ∧ St W0 V w' L) := by
  refine fn_enter (n := 6) Tryz.func36 rfl rfl rfl ?_
  intro f hf
  have e0 := hf 0
  simp only [Array.getD_eq_getD_getElem?, List.getElem?_toArray, List.getElem?_cons_zero, List.getElem?_cons_succ, Option.getD_some] at e0
  clear hf
  refine cw_seq (cw_region ?_)
  refine l_box (α := GDaemon) e0 hs (by decide) ?_; clear hs; intro b1 w hs
  refine l_pur (p_assignC) (by decide) ?_
  refine lw_nil ?_
  refine cw_seq (cw_region ?_)
  refine l_loadO (α := GDaemon) (β := GDaemon) ty35 rfl (Lens.id GDaemon) hs (List.Mem.head _) (by decide) ?_
  refine l_call1 fn74 (s_check24 hs hd h) rfl ?_ (by decide)
  clear hs; rintro _ w ⟨rfl, hs⟩
  refine l_pur (p_eql rfl rfl) (by decide) ?_
  refine l_pur (p_assignB rfl) (by decide) ?_
  refine lw_nil ?_
  refine cw_ret ?_
  repeat (with_reducible first | refine tf_ret ?_ | refine ib_ret ?_)
  refine fin1 (fn := Tryz.f36) rfl (rv_tmpB rfl) ?_
  exact ⟨rfl, hs.drop1⟩
end Go.Bur
namespace Go.Bur
open Go Go.RowKit Go.Proofs
set_option maxHeartbeats 4000000
variable {W0 : World} {V : PH} {w : World} {L : List (Nat × Obj)}
def dropAll (ss : List GSlot) (xs : List UInt32) : List GSlot := xs.foldl dropS ss
theorem dropAll_snoc {ss : List GSlot} {xs : List UInt32} {i : Nat} (h : i < xs.length) : dropAll ss (xs.take (i + 1)) = dropS (dropAll ss (xs.take i)) xs[i] := by
  unfold dropAll
  rw [List.take_succ_eq_append_getElem h, List.foldl_append]; rfl
theorem dropAll_len (ss : List GSlot) (xs : List UInt32) : (dropAll ss xs).length ≤ ss.length := by
  unfold dropAll
  induction xs generalizing ss with
  | nil => exact Nat.le_refl _
  | cons x xs ih => exact Nat.le_trans (ih _) (dropS_len _ _)
theorem s_mdrop {b : Nat} {m : GRMach} {ss : List GSlot} {xs : List UInt32} {a : Option Addr} {cap : Nat} (hs : St W0 V w ((b, blk 128 m) :: L)) (hq : Sl V 69 m.d.slots.a m.d.slots.cap ss) (hql : m.d.slots.len = ss.length) (hn : ss.length < 1000)
    (hx : Sl V 46 a cap xs) (hxn : xs.length < 1000) :
    Calls Tryz.prog 43 #[ptr b 0, .slice a xs.length cap] w (okR fun _ w' => ∃ (V' : PH) (q : GSl), V ≤ V' ∧ Sl V' 69 q.a q.cap (dropAll ss xs) ∧ q.len = (dropAll ss xs).length ∧ St W0 V' w' ((b, blk 128 (m.s_d (m.d.s_slots q))) :: L)) := by
  refine fn_enter (n := 24) Tryz.func43 rfl rfl rfl ?_
  intro f hf
  have e0 := hf 0
  have e1 := hf 1
  simp only [Array.getD_eq_getD_getElem?, List.getElem?_toArray, List.getElem?_cons_zero, List.getElem?_cons_succ, Option.getD_some] at e0 e1
  clear hf
  refine cw_seq (cw_region ?_)
  refine l_pur (p_move e1) (by decide) ?_
  refine l_pur (p_len Tryz.underlying130 rfl) (by decide) ?_
  refine l_pur (p_moveC) (by decide) ?_
  refine lw_nil ?_
  refine cw_block ?_
  refine cw_loop (fun qq f w => ∃ (i : Nat) (V' : PH) (q : GSl), qq = xs.length - i ∧ i ≤ xs.length ∧ f 8 = vi i ∧ f 6 = .slice a xs.length cap ∧ f 7 = vi xs.length ∧ f 0 = ptr b 0 ∧ V ≤ V' ∧ Sl V' 69 q.a q.cap (dropAll ss (xs.take i)) ∧ q.len = (dropAll ss (xs.take i)).length ∧ St W0 V' w ((b, blk 128 (m.s_d (m.d.s_slots q))) :: L)) (xs.length) ?_ ?_
  · exact ⟨0, V, m.d.slots, rfl, Nat.zero_le _, rfl, rfl, rfl, e0, PH.refl _, hq, hql, hs⟩
  · intro q f w hI
    obtain ⟨i, V', q, rfl, hi, e8, e6, e7, e0, hV, hq', hql', hs⟩ := hI
    have hxV := hx.mono hV
    refine cw_seq (cw_region ?_)
    refine l_pur (p_lss e8 e7) (by decide) ?_
    refine lw_nil ?_
    refine cw_seq ?_
    refine cw_cond _ rfl (fun hc0 => ?_) (fun hc0 => ?_)
    · have hlt : i < xs.length := by have := of_decide_eq_true hc0; omega
      have hdl := dropAll_len ss (xs.take i)
      have hds := fun (w : World) (L : List (Nat × Obj)) (hs : St W0 V' w L) => s_dropslot (k := xs[i]) hs hq' (by omega)
      rw [← hql'] at hds
      refine cw_skip ?_
      refine cw_seq ?_
      refine cw_block ?_
      refine cw_seq (cw_region ?_)
      refine l_indexSl (α := UInt32) el130.sl ty46 e6 rfl e8 (by first | omega | (dsimp only; omega) | (simp; omega)) hxV (by decide) ?_; intro bb10 oo10 cc10 hb10 ha10
      refine l_loadV (α := UInt32) ty46 rfl hs hb10 ha10 (by decide) ?_
      refine l_pur (p_assignI rfl) (by decide) ?_
      refine lw_nil ?_
      refine cw_region ?_
      refine l_pur (p_move e0) (by decide) ?_
      refine l_pur (p_move e0) (by decide) ?_
      refine l_pur (p_nilCheck rfl) (by decide) ?_
      refine l_pur (p_fieldAddr fo128_0 rfl) (by decide) ?_
      refine l_pur (p_fieldAddr fo35_8 rfl) (by decide) ?_
      refine l_loadO (α := GRMach) (β := GSl) ty30 rfl (Lens.comp GRMach.l_d GDaemon.l_slots) hs (List.Mem.head _) (by decide) ?_
      refine l_pur (p_moveI rfl) (by decide) ?_
      refine l_call2 fn78 (hds _ _ hs) rfl rfl ?_ (by decide)
      clear hs
      intro v w ho
      obtain ⟨V2, a2, c2, hV2, hs, rfl, hl2⟩ := ho.freeze
      refine l_pur (p_nilCheck rfl) (by decide) ?_
      refine l_pur (p_fieldAddr fo128_0 rfl) (by decide) ?_
      refine l_pur (p_fieldAddr fo35_8 rfl) (by decide) ?_
      refine l_store0 (α := GRMach) (β := GSl) (z := (⟨_, _, _⟩ : GSl)) ty30 rfl rfl (Lens.comp GRMach.l_d GDaemon.l_slots) hs ?_; clear hs; intro w hs
      refine lw_nil ?_
      refine cw_region ?_
      refine l_pur (p_add64 e8 rfl (by first | omega | (dsimp only; omega) | (simp; omega))) (by decide) ?_
      refine l_pur (p_moveI rfl) (by decide) ?_
      refine lw_nil ?_
      exact ⟨_, by omega, i + 1, V2, _, rfl, hlt, rfl, e6, e7, e0, PH.trans hV hV2, by rw [dropAll_snoc hlt]; exact hl2, by rw [dropAll_snoc hlt], hs⟩
    · try simp only [decide_eq_true_eq, decide_eq_false_iff_not, Bool.not_eq_true', Bool.not_eq_false', beq_iff_eq, bne_iff_ne, beq_eq_false_iff_ne, bne_eq_false_iff_eq] at hc0
      refine cw_exit ?_
      repeat (with_reducible first | refine tf_exit ?_ | refine ib_exit ?_ | refine ib_norm ?_)
      refine finN ?_
      refine fin0 (fn := Tryz.f43) rfl  ?_
      have hii : i = xs.length := by omega
      subst hii
      rw [List.take_length] at hq' hql'
      exact ⟨V', q, hV, hq', hql', hs⟩
end Go.Bur
namespace Go.Bur
open Go Go.RowKit Go.Proofs
set_option maxHeartbeats 4000000
variable {W0 : World} {V : PH} {w : World} {L : List (Nat × Obj)}
theorem s_mset {b : Nat} {m : GRMach} {ps : List GPeer} {ts : List GTimer} {i : Nat} {kind dt : Int} (hs : St W0 V w ((b, blk 128 m) :: L)) (hp : Sl V 63 m.d.peers.a m.d.peers.cap ps) (hpl : m.d.peers.len = ps.length) (hi : i < ps.length)
    (ht : Sl V 75 m.d.timers.a m.d.timers.cap ts) (htl : m.d.timers.len = ts.length) (hn : ts.length < 1000) (hnow : 0 ≤ m.d.now ∧ m.d.now ≤ 1099511627776) (hdt : 0 ≤ dt ∧ dt ≤ 1099511627776) :
    Calls Tryz.prog 45 #[ptr b 0, vi i, vi kind, vi dt] w (okR fun _ w' => ∃ (V' : PH) (q : GSl), V ≤ V' ∧ Sl V' 75 q.a q.cap (setT ts ⟨m.d.now + dt, ps[i].pub, kind⟩) ∧ q.len = (setT ts ⟨m.d.now + dt, ps[i].pub, kind⟩).length ∧
      St W0 V' w' ((b, blk 128 (m.s_d (m.d.s_timers q))) :: L)) := by
  have hst := fun (w : World) (L : List (Nat × Obj)) (hs : St W0 V w L) => s_set (t := ⟨m.d.now + dt, ps[i].pub, kind⟩) hs ht (by omega)
  rw [← htl] at hst
  refine fn_enter (n := 36) Tryz.func45 rfl rfl rfl ?_
  intro f hf
  have e0 := hf 0
  have e1 := hf 1
  have e2 := hf 2
  have e3 := hf 3
  simp only [Array.getD_eq_getD_getElem?, List.getElem?_toArray, List.getElem?_cons_zero, List.getElem?_cons_succ, Option.getD_some] at e0 e1 e2 e3
  clear hf
  have hS := Hold.cons hs (List.Mem.head _) (Hold.nil hs (PH.refl _))
  refine cw_planH (.take 0 (.take 1 (.take 2 (.take 3 (.take 4 (.take 5 (.take 6 (.take 7 (.take 8 (.take 9 (.take 10 (.take 11 (.take 12 (.take 13 (.take 14 (.take 15 (.take 16 (.take 17 (.take 18 (.take 19 (.take 20 (.take 21 (.take 22 (.take 23 (.one 24 (.take 25 (.take 26 (.take 27 (.one 28 .done))))))))))))))))))))))))))))) 16777215 hmix (by kernel_rfl) (fun _ _ _ h => h) hs hS ?_
  clear hS; clear hs; intro w hs; have hS := Hold.cons hs (List.Mem.head _) (Hold.nil hs (PH.refl _))
  refine pw_pur rfl (wt_free rfl) (p_move e0) (by decide) (fun _ => hS) ?_
  refine pw_pur rfl (wt_free rfl) (p_move e0) (by decide) (fun _ => hS) ?_
  refine pw_pur rfl (wt_free rfl) (p_nilCheck rfl) (by decide) (fun _ => hS) ?_
  refine pw_pur rfl (wt_free rfl) (p_fieldAddr fo128_0 rfl) (by decide) (fun _ => hS) ?_
  refine pw_pur rfl (wt_free rfl) (p_fieldAddr fo35_9 rfl) (by decide) (fun _ => hS) ?_
  refine pw_ld rfl (wt_free rfl) (by kernel_rfl) (Hold.runs_loadO (α := GRMach) (β := GSl) ty31 rfl (Lens.comp GRMach.l_d GDaemon.l_timers) (List.Mem.head _)) (by decide) hS ?_
  refine pw_pur rfl (wt_free rfl) (p_move e0) (by decide) (fun _ => hS) ?_
  refine pw_pur rfl (wt_free rfl) (p_nilCheck rfl) (by decide) (fun _ => hS) ?_
  refine pw_pur rfl (wt_free rfl) (p_fieldAddr fo128_0 rfl) (by decide) (fun _ => hS) ?_
  refine pw_pur rfl (wt_free rfl) (p_fieldAddr fo35_5 rfl) (by decide) (fun _ => hS) ?_
  refine pw_ld rfl (wt_free rfl) (by kernel_rfl) (Hold.runs_loadO (α := GRMach) (β := Int) ty2 rfl (Lens.comp GRMach.l_d GDaemon.l_now) (List.Mem.head _)) (by decide) hS ?_
  refine pw_pur rfl (wt_free rfl) (p_move e3) (by decide) (fun _ => hS) ?_
  refine pw_pur rfl (wt_free rfl) (p_add64 rfl rfl (by first | omega | (dsimp only; omega) | (simp; omega))) (by decide) (fun _ => hS) ?_
  refine pw_pur rfl (wt_free rfl) (p_move e0) (by decide) (fun _ => hS) ?_
  refine pw_pur rfl (wt_free rfl) (p_nilCheck rfl) (by decide) (fun _ => hS) ?_
  refine pw_pur rfl (wt_free rfl) (p_fieldAddr fo128_0 rfl) (by decide) (fun _ => hS) ?_
  refine pw_pur rfl (wt_free rfl) (p_fieldAddr fo35_6 rfl) (by decide) (fun _ => hS) ?_
  refine pw_ld rfl (wt_free rfl) (by kernel_rfl) (Hold.runs_loadO (α := GRMach) (β := GSl) ty28 rfl (Lens.comp GRMach.l_d GDaemon.l_peers) (List.Mem.head _)) (by decide) hS ?_
  refine pw_pur rfl (wt_free rfl) (p_move e1) (by decide) (fun _ => hS) ?_
  refine pw_indexSlN (α := GPeer) rfl (wt_free rfl) el28.sl ty63 rfl hpl rfl (by first | omega | (dsimp only; omega) | (simp; omega)) hp (by decide) (fun _ => hS) ?_; intro bb27 oo27 cc27 hb27 ha27
  refine pw_pur rfl (wt_free rfl) (p_fieldAddr fo63_0 rfl) (by decide) (fun _ => hS) ?_
  refine pw_ld rfl (wt_free rfl) (by kernel_rfl) (Hold.runs_loadV (α := (Vec 32 UInt8)) ty27 rfl hb27 (ha27.lens GPeer.l_pub)) (by decide) hS ?_
  refine pw_pur rfl (wt_free rfl) (p_move e2) (by decide) (fun _ => hS) ?_
  refine pw_pur rfl (wt_free rfl) (p_buildO (α := GTimer) Tryz.underlying75 (by kernel_rfl) z75 rfl (.cons (β := Int) rfl pl75_0 GTimer.l_at_ (.cons (β := (Vec 32 UInt8)) rfl pl75_1 GTimer.l_peer (.cons (β := Int) rfl pl75_2 GTimer.l_kind (.nil _))))) (by decide) (fun _ => hS) ?_
  refine pw_one ?_
  refine ow_call2 rfl (wt_free rfl) fn16 (hst _ _ hs) rfl rfl ?_ (by decide)
  clear hs hS
  intro v w ho
  obtain ⟨V2, a2, c2, hV2, hs, rfl, hl2⟩ := ho.freeze
  refine ⟨fun h => absurd h (by decide), ?_⟩; have hS := True.intro
  refine pw_pur rfl (wt_free rfl) (p_nilCheck rfl) (by decide) (fun h => absurd h (by decide)) ?_
  refine pw_pur rfl (wt_free rfl) (p_fieldAddr fo128_0 rfl) (by decide) (fun h => absurd h (by decide)) ?_
  refine pw_pur rfl (wt_free rfl) (p_fieldAddr fo35_9 rfl) (by decide) (fun h => absurd h (by decide)) ?_
  refine pw_one ?_
  refine ow_store0 (α := GRMach) (β := GSl) (z := (⟨_, _, _⟩ : GSl)) rfl (wt_free rfl) ty31 rfl rfl (Lens.comp GRMach.l_d GDaemon.l_timers) hs ?_; clear hs; intro w hs
  refine ⟨fun h => absurd h (by decide), ?_⟩; have hS := True.intro
  refine pw_done ?_
  repeat (with_reducible first | refine tf_exit ?_ | refine ib_exit ?_ | refine ib_norm ?_)
  refine finN ?_
  refine fin0 (fn := Tryz.f45) rfl  ?_
  exact ⟨V2, _, hV2, hl2, rfl, hs⟩
end Go.Bur
namespace Go.Bur
open Go Go.RowKit Go.Proofs
set_option maxHeartbeats 4000000
variable {W0 : World} {V : PH} {w : World} {L : List (Nat × Obj)}
def insR (xs : List GRoute) (p : GPrefix) (peer : GKey) : List GRoute := insBy (fun r => beforeP p r.pfx) ⟨p, peer⟩ xs
theorem s_insroute {a : Option Addr} {cap : Nat} {xs : List GRoute} {p : GPrefix} {peer : GKey} (hs : St W0 V w L) (hl : Sl V 73 a cap xs) (hlen : xs.length < 16) (hv : validP p = true) (hne : ∀ i (h : i < xs.length), xs[i].pfx ≠ p) :
    Calls Tryz.prog 17 #[.slice a xs.length cap, val p, val peer] w (okR fun v w' => ∃ v1, v = .tuple #[v1, vi 0] ∧ Own W0 V w' L 73 v1 (insR xs p peer)) := by
  refine fn_enter (n := 67) Tryz.func17 rfl rfl rfl ?_
  intro f hf
  have e0 := hf 0
  have e1 := hf 1
  have e2 := hf 2
  simp only [Array.getD_eq_getD_getElem?, List.getElem?_toArray, List.getElem?_cons_zero, List.getElem?_cons_succ, Option.getD_some] at e0 e1 e2
  clear hf
  refine cw_seq (cw_region ?_)
  refine l_box (α := GPrefix) e1 hs (by decide) ?_; clear hs; intro b4 w hs
  refine l_box (α := (Vec 32 UInt8)) e2 hs (by decide) ?_; clear hs; intro b5 w hs
  refine l_pur (p_assignC) (by decide) ?_
  refine l_pur (p_assignC) (by decide) ?_
  refine lw_nil ?_
  refine cw_seq ?_
  refine cw_seq (cw_region ?_)
  refine l_loadO (α := GPrefix) (β := GPrefix) ty71 rfl (Lens.id GPrefix) hs (List.Mem.tail _ (List.Mem.head _)) (by decide) ?_
  refine l_call1 fn34 (s_valid09 hs) rfl ?_ (by decide)
  clear hs
  rintro _ w ⟨rfl, hs⟩
  refine l_purIs (c := false) (p_not rfl) (by rw [hv]; rfl) (by decide) ?_
  refine lw_nil ?_
  refine cw_false rfl ?_
  refine cw_skip ?_
  refine cw_seq (cw_region ?_)
  refine l_pur (p_move e0) (by decide) ?_
  refine l_appendNil el29 rfl rfl hs (hl.src hs) rfl (by omega) (by omega) (by decide) ?_
  clear hs
  intro v w ho
  obtain ⟨V1, a1, c1, hV1, hs, rfl, hl1⟩ := ho.freeze
  refine l_pur (p_assignL rfl) (by decide) ?_
  refine lw_nil ?_
  refine cw_seq ?_
  refine cw_seq (cw_region ?_)
  refine l_pur (p_moveL rfl) (by decide) ?_
  refine l_pur (p_len Tryz.underlying29 rfl) (by decide) ?_
  refine l_pur (p_moveC) (by decide) ?_
  refine lw_nil ?_
  refine cw_block ?_
  refine cw_loop (fun q f w => ∃ (i : Nat), q = xs.length - i ∧ i ≤ xs.length ∧ f 18 = vi i ∧ f 17 = vi xs.length ∧ f 8 = .slice a1 xs.length c1 ∧ f 0 = .slice a xs.length cap ∧ f 4 = ptr b4 0 ∧ f 5 = ptr b5 0 ∧ St W0 V1 w ((b5, blk 27 peer) :: (b4, blk 71 p) :: L)) (xs.length) ?_ ?_
  · exact ⟨0, rfl, Nat.zero_le _, rfl, rfl, rfl, e0, rfl, rfl, hs⟩
  · intro q f w hI
    obtain ⟨i, rfl, hi, e18, e17, e8, e0, e4, e5, hs⟩ := hI
    refine cw_seq (cw_region ?_)
    refine l_pur (p_lss e18 e17) (by decide) ?_
    refine lw_nil ?_
    refine cw_seq ?_
    refine cw_cond _ rfl (fun hc1 => ?_) (fun hc1 => ?_)
    · have hlt : i < xs.length := by have := of_decide_eq_true hc1; omega
      refine cw_skip ?_
      refine cw_seq ?_
      refine cw_block ?_
      refine cw_seq (cw_region ?_)
      refine l_pur (p_move e18) (by decide) ?_
      refine l_pur (p_assignI rfl) (by decide) ?_
      refine lw_nil ?_
      refine cw_seq ?_
      have hS := Hold.cons hs (List.Mem.head _) (Hold.cons hs (List.Mem.tail _ (List.Mem.head _)) (Hold.nil hs (PH.refl _)))
      refine cw_planH (.take 0 (.take 1 (.take 2 (.take 3 (.take 4 (.take 5 (.take 6 .done))))))) 63 hmix (by kernel_rfl) (fun _ _ _ h => h) hs hS ?_
      clear hS; clear hs; intro w hs; have hS := Hold.cons hs (List.Mem.head _) (Hold.cons hs (List.Mem.tail _ (List.Mem.head _)) (Hold.nil hs (PH.refl _)))
      refine pw_pur rfl (wt_free rfl) (p_move e8) (by decide) (fun _ => hS) ?_
      refine pw_pur rfl (wt_free rfl) (p_moveI rfl) (by decide) (fun _ => hS) ?_
      refine pw_indexSlN (α := GRoute) rfl (wt_free rfl) el29.sl ty73 rfl rfl rfl (by first | omega | (dsimp only; omega) | (simp; omega)) hl1 (by decide) (fun _ => hS) ?_; intro bb23 oo23 cc23 hb23 ha23
      refine pw_pur rfl (wt_free rfl) (p_fieldAddr fo73_0 rfl) (by decide) (fun _ => hS) ?_
      refine pw_ld rfl (wt_free rfl) (by kernel_rfl) (Hold.runs_loadV (α := GPrefix) ty71 rfl hb23 (ha23.lens GRoute.l_pfx)) (by decide) hS ?_
      refine pw_ld rfl (wt_free rfl) (by kernel_rfl) (Hold.runs_loadO (α := GPrefix) (β := GPrefix) ty71 e4 (Lens.id GPrefix) (List.Mem.tail _ (List.Mem.head _))) (by decide) hS ?_
      refine pw_purIs (c := false) rfl (wt_free rfl) (p_eqlS eq71 rfl rfl) (by exact decide_eq_false (hne i hlt)) (by decide) (fun h => absurd h (by decide)) ?_
      refine pw_done ?_
      refine cw_false rfl ?_
      refine cw_skip ?_
      refine cw_region ?_
      refine l_pur (p_add64 e18 rfl (by first | omega | (dsimp only; omega) | (simp; omega))) (by decide) ?_
      refine l_pur (p_moveI rfl) (by decide) ?_
      refine lw_nil ?_
      exact ⟨_, by omega, i + 1, rfl, hlt, rfl, e17, e8, e0, e4, e5, hs⟩
    · try simp only [decide_eq_true_eq, decide_eq_false_iff_not, Bool.not_eq_true', Bool.not_eq_false', beq_iff_eq, bne_iff_ne, beq_eq_false_iff_ne, bne_eq_false_iff_eq] at hc1
      refine cw_exit ?_
      refine cw_seq ?_
      refine cw_seq (cw_region ?_)
      refine l_pur (p_move e0) (by decide) ?_
      refine l_pur (p_len Tryz.underlying29 rfl) (by decide) ?_
      refine l_purIs (c := false) (p_geq rfl rfl) (by exact decide_eq_false (by omega)) (by decide) ?_
      refine lw_nil ?_
      refine cw_false rfl ?_
      refine cw_skip ?_
      refine cw_seq (cw_region ?_)
      refine l_pur (p_assignC) (by decide) ?_
      refine lw_nil ?_
      refine cw_seq ?_
      refine cw_block ?_
      refine cw_loop (fun q f w => ∃ (i : Nat), q = xs.length - i ∧ i ≤ xs.length ∧ f 10 = vi i ∧ f 8 = .slice a1 xs.length c1 ∧ f 4 = ptr b4 0 ∧ f 5 = ptr b5 0 ∧ (∀ j (h : j < xs.length), j < i → beforeP p xs[j].pfx = false) ∧ St W0 V1 w ((b5, blk 27 peer) :: (b4, blk 71 p) :: L)) (xs.length) ?_ ?_
      · exact ⟨0, rfl, Nat.zero_le _, rfl, e8, e4, e5, fun j _ h => by omega, hs⟩
      · intro q f w hI
        obtain ⟨i, rfl, hi, e10, e8, e4, e5, hall, hs⟩ := hI
        refine cw_seq ?_
        refine cw_seq ?_
        have hS := Hold.cons hs (List.Mem.head _) (Hold.cons hs (List.Mem.tail _ (List.Mem.head _)) (Hold.nil hs (PH.refl _)))
        refine cw_planH (.take 0 (.take 1 (.take 2 (.take 3 (.take 4 (.take 5 (.take 6 (.take 7 (.take 8 (.take 9 (.take 10 (.one 11 (.take 12 (.take 13 .done)))))))))))))) 2047 hmix (by kernel_rfl) (fun _ _ _ h => h) hs hS ?_
        clear hS; clear hs; intro w hs; have hS := Hold.cons hs (List.Mem.head _) (Hold.cons hs (List.Mem.tail _ (List.Mem.head _)) (Hold.nil hs (PH.refl _)))
        refine pw_pur rfl (wt_free rfl) (p_move e10) (by decide) (fun _ => hS) ?_
        refine pw_pur rfl (wt_free rfl) (p_move e8) (by decide) (fun _ => hS) ?_
        refine pw_pur rfl (wt_free rfl) (p_len Tryz.underlying29 rfl) (by decide) (fun _ => hS) ?_
        refine pw_pur rfl (wt_free rfl) (p_lss rfl rfl) (by decide) (fun _ => hS) ?_
        refine pw_purB rfl (wt_free rfl) (p_moveB rfl) (by decide) (fun _ => hS) (fun hg4 => ?_) (fun hg4 => ?_)
        · have hlt : i < xs.length := by simpa using hg4
          refine pw_ld rfl (wt_yes rfl rfl rfl rfl) (by kernel_rfl) (Hold.runs_loadO (α := GPrefix) (β := GPrefix) ty71 e4 (Lens.id GPrefix) (List.Mem.tail _ (List.Mem.head _))) (by decide) hS ?_
          refine pw_pur rfl (wt_yes rfl rfl rfl rfl) (p_move e8) (by decide) (fun _ => hS) ?_
          refine pw_pur rfl (wt_yes rfl rfl rfl rfl) (p_move e10) (by decide) (fun _ => hS) ?_
          refine pw_indexSlN (α := GRoute) rfl (wt_yes rfl rfl rfl rfl) el29.sl ty73 rfl rfl rfl (by omega) hl1 (by decide) (fun _ => hS) ?_; intro bb46 oo46 cc46 hb46 ha46
          refine pw_pur rfl (wt_yes rfl rfl rfl rfl) (p_fieldAddr fo73_0 rfl) (by decide) (fun _ => hS) ?_
          refine pw_ld rfl (wt_yes rfl rfl rfl rfl) (by kernel_rfl) (Hold.runs_loadV (α := GPrefix) ty71 rfl hb46 (ha46.lens GRoute.l_pfx)) (by decide) hS ?_
          refine pw_one ?_
          refine ow_call2 rfl (wt_yes rfl rfl rfl rfl) fn35 (s_before hs) rfl rfl ?_ (by decide)
          clear hs hS
          rintro _ w ⟨rfl, hs⟩
          refine ⟨fun h => absurd h (by decide), ?_⟩; have hS := True.intro
          refine pw_pur rfl (wt_yes rfl rfl rfl rfl) (p_not rfl) (by decide) (fun h => absurd h (by decide)) ?_
          refine pw_pur rfl (wt_free rfl) (p_pickT rfl rfl) (by decide) (fun h => absurd h (by decide)) ?_
          refine pw_done ?_
          refine cw_cond _ rfl (fun hc4 => ?_) (fun hc4 => ?_)
          · have hno : beforeP p xs[i].pfx = false := by simpa using hc4
            refine cw_skip ?_
            refine cw_block ?_
            refine cw_region ?_
            refine l_pur (p_move e10) (by decide) ?_
            refine l_pur (p_add64 rfl rfl (by first | omega | (dsimp only; omega) | (simp; omega))) (by decide) ?_
            refine l_pur (p_assignI rfl) (by decide) ?_
            refine lw_nil ?_
            refine ⟨_, by omega, i + 1, rfl, by omega, rfl, e8, e4, e5, fun j h hj => ?_, hs⟩
            by_cases hji : j < i
            · exact hall j h hji
            · obtain rfl : j = i := by omega
              exact hno
          · have hyes : beforeP p xs[i].pfx = true := by simpa using hc4
            refine cw_exit ?_
            refine cw_seq ?_
            have hend : i = xs.length ∨ ∃ h : i < xs.length, beforeP p xs[i].pfx = true := by
              first
              | exact .inl hge
              | exact .inr ⟨hlt, hyes⟩
            have hins := insBy_eq (p := fun r : GRoute => beforeP p r.pfx) (y := (⟨p, peer⟩ : GRoute)) xs i hi hall hend
            have hcap : xs.length ≤ c1 := by
              by_cases hn : xs = []
              · subst hn; simp
              · exact sl_cap hl1 hn
            have hS := Hold.cons hs (List.Mem.head _) (Hold.cons hs (List.Mem.tail _ (List.Mem.head _)) (Hold.nil hs (PH.refl _)))
            refine cw_planH (.take 0 (.take 1 (.take 2 (.take 3 (.take 4 (.take 5 (.take 6 (.take 8 (.take 9 (.take 10 (.one 7 (.one 11 (.one 12 (.take 13 (.take 14 .done))))))))))))))) 1855 hmix (by kernel_rfl) (fun _ _ _ h => h) hs hS ?_
            clear hS; clear hs; intro w hs; have hS := Hold.cons hs (List.Mem.head _) (Hold.cons hs (List.Mem.tail _ (List.Mem.head _)) (Hold.nil hs (PH.refl _)))
            refine pw_pur rfl (wt_free rfl) (p_move e8) (by decide) (fun _ => hS) ?_
            refine pw_pur rfl (wt_free rfl) (p_move e10) (by decide) (fun _ => hS) ?_
            refine pw_pur rfl (wt_free rfl) (p_move e10) (by decide) (fun _ => hS) ?_
            refine pw_pur rfl (wt_free rfl) (p_slice el29.sl el29.ty.size rfl (.no _) (.at_ _ rfl) (.at_ _ rfl) (.inr rfl) (by first | omega | (dsimp only; omega) | (simp; omega))) (by decide) (fun _ => hS) ?_
            refine pw_ld rfl (wt_free rfl) (by kernel_rfl) (Hold.runs_loadO (α := GPrefix) (β := GPrefix) ty71 e4 (Lens.id GPrefix) (List.Mem.tail _ (List.Mem.head _))) (by decide) hS ?_
            refine pw_ld rfl (wt_free rfl) (by kernel_rfl) (Hold.runs_loadO (α := (Vec 32 UInt8)) (β := (Vec 32 UInt8)) ty27 e5 (Lens.id (Vec 32 UInt8)) (List.Mem.head _)) (by decide) hS ?_
            refine pw_pur rfl (wt_free rfl) (p_buildO (α := GRoute) Tryz.underlying73 (by kernel_rfl) z73 rfl (.cons (β := GPrefix) rfl pl73_0 GRoute.l_pfx (.cons (β := (Vec 32 UInt8)) rfl pl73_1 GRoute.l_peer (.nil _)))) (by decide) (fun h => absurd h (by decide)) ?_
            refine pw_pur rfl (wt_free rfl) (p_move e8) (by decide) (fun _ => hS) ?_
            refine pw_pur rfl (wt_free rfl) (p_move e10) (by decide) (fun _ => hS) ?_
            refine pw_pur rfl (wt_free rfl) (p_slice el29.sl el29.ty.size rfl (.at_ _ rfl) (.no _) (.no _) (.inl rfl) (by first | omega | (dsimp only; omega) | (simp; omega))) (by decide) (fun _ => hS) ?_
            refine pw_one ?_
            refine ow_buildSlice1 (α := GRoute) rfl (wt_free rfl) el29 z73 rfl (by decide) hs (by decide) ?_; clear hs; intro b61 w hs
            refine ⟨fun h => absurd h (by decide), ?_⟩; have hS := True.intro
            refine pw_one ?_
            refine ow_appendO rfl (wt_free rfl) el29 rfl rfl (Own.of1 hs) ((hl1.slice (l := i) (h := xs.length) (m := c1) hi (Nat.le_refl _) (Nat.le_refl _) hcap).src hs) (by simp) (by simp; omega) (by simp; omega) (by decide) ?_
            clear hs hS
            intro v w ho2
            obtain ⟨V2, a2, c2, hV2, hs, rfl, hl2⟩ := ho2.freeze
            refine ⟨fun h => absurd h (by decide), ?_⟩; have hS := True.intro
            refine pw_one ?_
            refine ow_appendN rfl (wt_free rfl) el29 rfl rfl hs (((hl1.mono hV2).slice (l := 0) (h := i) (m := i) (Nat.zero_le _) hi (by omega) (Nat.le_refl _)).src hs) (hl2.src hs) (by simp; omega) rfl (by simp) (by simp; omega) (by simp; omega) (by decide) ?_
            clear hs hS
            intro v w ho3
            obtain ⟨a3, c3, rfl⟩ := ho3.len
            refine ⟨fun h => absurd h (by decide), ?_⟩; have hS := True.intro
            refine pw_pur rfl (wt_free rfl) (p_assignL rfl) (by decide) (fun h => absurd h (by decide)) ?_
            refine pw_pur rfl (wt_free rfl) (p_assignC) (by decide) (fun h => absurd h (by decide)) ?_
            refine pw_done ?_
            refine cw_ret ?_
            repeat (with_reducible first | refine tf_ret ?_ | refine ib_ret ?_)
            refine fin2 (fn := Tryz.f17) rfl (rv_tmpL rfl) (rv_tmpI rfl) ?_
            refine ⟨_, rfl, ?_⟩
            unfold insR
            rw [hins]
            have h3 := (ho3.drop1.drop1).weaken (PH.trans hV1 hV2)
            have e : (GRoute.zero.s_pfx p).s_peer peer = ⟨p, peer⟩ := rfl
            rw [e] at h3
            simpa using h3
        · have hge : i = xs.length := by simp at hg4; omega
          refine pw_pass rfl (wt_no rfl rfl rfl rfl rfl) (by decide) (fun _ => hS) ?_
          refine pw_pass rfl (wt_no rfl rfl rfl rfl rfl) (by decide) (fun _ => hS) ?_
          refine pw_pass rfl (wt_no rfl rfl rfl rfl rfl) (by decide) (fun _ => hS) ?_
          refine pw_pass rfl (wt_no rfl rfl rfl rfl rfl) (by decide) (fun _ => hS) ?_
          refine pw_pass rfl (wt_no rfl rfl rfl rfl rfl) (by decide) (fun _ => hS) ?_
          refine pw_pass rfl (wt_no rfl rfl rfl rfl rfl) (by decide) (fun _ => hS) ?_
          refine pw_one ?_
          refine ow_pass rfl (wt_no rfl rfl rfl rfl rfl) (by decide) (fun h => absurd h (by decide)) ?_
          refine pw_pass rfl (wt_no rfl rfl rfl rfl rfl) (by decide) (fun h => absurd h (by decide)) ?_
          refine pw_pur rfl (wt_free rfl) (p_pickF rfl rfl) (by decide) (fun h => absurd h (by decide)) ?_
          refine pw_done ?_
          refine cw_false rfl ?_
          refine cw_exit ?_
          refine cw_seq ?_
          have hend : i = xs.length ∨ ∃ h : i < xs.length, beforeP p xs[i].pfx = true := by
            first
            | exact .inl hge
            | exact .inr ⟨hlt, hyes⟩
          have hins := insBy_eq (p := fun r : GRoute => beforeP p r.pfx) (y := (⟨p, peer⟩ : GRoute)) xs i hi hall hend
          have hcap : xs.length ≤ c1 := by
            by_cases hn : xs = []
            · subst hn; simp
            · exact sl_cap hl1 hn
          have hS := Hold.cons hs (List.Mem.head _) (Hold.cons hs (List.Mem.tail _ (List.Mem.head _)) (Hold.nil hs (PH.refl _)))
          refine cw_planH (.take 0 (.take 1 (.take 2 (.take 3 (.take 4 (.take 5 (.take 6 (.take 8 (.take 9 (.take 10 (.one 7 (.one 11 (.one 12 (.take 13 (.take 14 .done))))))))))))))) 1855 hmix (by kernel_rfl) (fun _ _ _ h => h) hs hS ?_
          clear hS; clear hs; intro w hs; have hS := Hold.cons hs (List.Mem.head _) (Hold.cons hs (List.Mem.tail _ (List.Mem.head _)) (Hold.nil hs (PH.refl _)))
          refine pw_pur rfl (wt_free rfl) (p_move e8) (by decide) (fun _ => hS) ?_
          refine pw_pur rfl (wt_free rfl) (p_move e10) (by decide) (fun _ => hS) ?_
          refine pw_pur rfl (wt_free rfl) (p_move e10) (by decide) (fun _ => hS) ?_
          refine pw_pur rfl (wt_free rfl) (p_slice el29.sl el29.ty.size rfl (.no _) (.at_ _ rfl) (.at_ _ rfl) (.inr rfl) (by first | omega | (dsimp only; omega) | (simp; omega))) (by decide) (fun _ => hS) ?_
          refine pw_ld rfl (wt_free rfl) (by kernel_rfl) (Hold.runs_loadO (α := GPrefix) (β := GPrefix) ty71 e4 (Lens.id GPrefix) (List.Mem.tail _ (List.Mem.head _))) (by decide) hS ?_
          refine pw_ld rfl (wt_free rfl) (by kernel_rfl) (Hold.runs_loadO (α := (Vec 32 UInt8)) (β := (Vec 32 UInt8)) ty27 e5 (Lens.id (Vec 32 UInt8)) (List.Mem.head _)) (by decide) hS ?_
          refine pw_pur rfl (wt_free rfl) (p_buildO (α := GRoute) Tryz.underlying73 (by kernel_rfl) z73 rfl (.cons (β := GPrefix) rfl pl73_0 GRoute.l_pfx (.cons (β := (Vec 32 UInt8)) rfl pl73_1 GRoute.l_peer (.nil _)))) (by decide) (fun h => absurd h (by decide)) ?_
          refine pw_pur rfl (wt_free rfl) (p_move e8) (by decide) (fun _ => hS) ?_
          refine pw_pur rfl (wt_free rfl) (p_move e10) (by decide) (fun _ => hS) ?_
          refine pw_pur rfl (wt_free rfl) (p_slice el29.sl el29.ty.size rfl (.at_ _ rfl) (.no _) (.no _) (.inl rfl) (by first | omega | (dsimp only; omega) | (simp; omega))) (by decide) (fun _ => hS) ?_
          refine pw_one ?_
          refine ow_buildSlice1 (α := GRoute) rfl (wt_free rfl) el29 z73 rfl (by decide) hs (by decide) ?_; clear hs; intro b61 w hs
          refine ⟨fun h => absurd h (by decide), ?_⟩; have hS := True.intro
          refine pw_one ?_
          refine ow_appendO rfl (wt_free rfl) el29 rfl rfl (Own.of1 hs) ((hl1.slice (l := i) (h := xs.length) (m := c1) hi (Nat.le_refl _) (Nat.le_refl _) hcap).src hs) (by simp) (by simp; omega) (by simp; omega) (by decide) ?_
          clear hs hS
          intro v w ho2
          obtain ⟨V2, a2, c2, hV2, hs, rfl, hl2⟩ := ho2.freeze
          refine ⟨fun h => absurd h (by decide), ?_⟩; have hS := True.intro
          refine pw_one ?_
          refine ow_appendN rfl (wt_free rfl) el29 rfl rfl hs (((hl1.mono hV2).slice (l := 0) (h := i) (m := i) (Nat.zero_le _) hi (by omega) (Nat.le_refl _)).src hs) (hl2.src hs) (by simp; omega) rfl (by simp) (by simp; omega) (by simp; omega) (by decide) ?_
          clear hs hS
          intro v w ho3
          obtain ⟨a3, c3, rfl⟩ := ho3.len
          refine ⟨fun h => absurd h (by decide), ?_⟩; have hS := True.intro
          refine pw_pur rfl (wt_free rfl) (p_assignL rfl) (by decide) (fun h => absurd h (by decide)) ?_
          refine pw_pur rfl (wt_free rfl) (p_assignC) (by decide) (fun h => absurd h (by decide)) ?_
          refine pw_done ?_
          refine cw_ret ?_
          repeat (with_reducible first | refine tf_ret ?_ | refine ib_ret ?_)
          refine fin2 (fn := Tryz.f17) rfl (rv_tmpL rfl) (rv_tmpI rfl) ?_
          refine ⟨_, rfl, ?_⟩
          unfold insR
          rw [hins]
          have h3 := (ho3.drop1.drop1).weaken (PH.trans hV1 hV2)
          have e : (GRoute.zero.s_pfx p).s_peer peer = ⟨p, peer⟩ := rfl
          rw [e] at h3
          simpa using h3
end Go.Bur
namespace Go.Bur
open Go Go.RowKit Go.Proofs
set_option maxHeartbeats 4000000
variable {W0 : World} {V : PH} {w : World} {L : List (Nat × Obj)}
theorem s_copy24 {d : GDaemon} {ps : List GPeer} {rs : List GRoute} {ss : List GSlot} {ts : List GTimer} (hs : St W0 V w L) (hd : DSl V d ps rs ss ts) (hst : ∀ i (h : i < ps.length), ps[i].staged = ⟨none, 0, 0⟩) (h0 : 0 < ps.length) (hn : ps.length ≤ 8) (hrn : rs.length < 1000) (hsn : ss.length < 1000) (htn : ts.length < 1000) :
    Calls Tryz.prog 40 #[val d] w (okR fun v w' => ∃ (V' : PH) (bp cp : Nat) (sp : List Value) (qr qs qt : GSl), V ≤ V' ∧ ps.length ≤ cp ∧ v = val { d with peers := ⟨some ⟨bp, 0, none⟩, ps.length, cp⟩, routes := qr, slots := qs, timers := qt } ∧
      Sl V' 73 qr.a qr.cap rs ∧ qr.len = rs.length ∧ Sl V' 69 qs.a qs.cap ss ∧ qs.len = ss.length ∧ Sl V' 75 qt.a qt.cap ts ∧ qt.len = ts.length ∧ St W0 V' w' ((bp, arr 63 ps sp) :: L)) := by
  have hrl := hd.rl
  have hsl := hd.sl
  have htl := hd.tl
  refine fn_enter (n := 63) Tryz.func40 rfl rfl rfl ?_
  intro f hf
  have e0 := hf 0
  simp only [Array.getD_eq_getD_getElem?, List.getElem?_toArray, List.getElem?_cons_zero, List.getElem?_cons_succ, Option.getD_some] at e0
  clear hf
  refine cw_seq (cw_region ?_)
  refine l_box (α := GDaemon) e0 hs (by decide) ?_; clear hs; intro b1 w hs
  refine l_alloc z35 hs (by decide) ?_; clear hs; intro b2 w hs
  refine lw_nil ?_
  refine cw_seq (cw_region ?_)
  refine l_pur (p_fieldAddr fo35_6 rfl) (by decide) ?_
  refine l_loadO (α := GDaemon) (β := GSl) ty28 rfl GDaemon.l_peers hs (List.Mem.tail _ (List.Mem.head _)) (by decide) ?_
  refine l_appendNil el28 rfl rfl hs (hd.p.src hs) hd.pl (by rw [hd.pl]; omega) (by rw [hd.pl]; omega) (by decide) ?_
  clear hs
  intro v w ho
  obtain ⟨bp, cp, sp, rfl, hcp, -, hs⟩ := ho.blk2 h0
  refine l_pur (p_fieldAddr fo35_6 rfl) (by decide) ?_
  refine l_store2 (α := GDaemon) (β := GSl) (z := (⟨_, _, _⟩ : GSl)) ty28 rfl rfl GDaemon.l_peers hs ?_; clear hs; intro w hs
  refine lw_nil ?_
  refine cw_seq ?_
  refine cw_seq (cw_region ?_)
  refine l_pur (p_fieldAddr fo35_6 rfl) (by decide) ?_
  refine l_loadO (α := GDaemon) (β := GSl) ty28 rfl GDaemon.l_peers hs (List.Mem.tail _ (List.Mem.tail _ (List.Mem.head _))) (by decide) ?_
  refine l_pur (p_len Tryz.underlying28 rfl) (by decide) ?_
  refine l_pur (p_moveC) (by decide) ?_
  refine lw_nil ?_
  refine cw_block ?_
  refine cw_loop (fun q f w => ∃ (i : Nat), q = ps.length - i ∧ i ≤ ps.length ∧ f 14 = vi i ∧ f 13 = vi ps.length ∧ f 1 = ptr b1 0 ∧ f 2 = ptr b2 0 ∧ St W0 V w ((bp, arr 63 ps sp) :: (b2, blk 35 GDaemon.zero) :: (b1, blk 35 (d.s_peers ⟨some ⟨bp, 0, none⟩, ps.length, cp⟩)) :: L)) (ps.length) ?_ ?_
  · exact ⟨0, rfl, Nat.zero_le _, rfl, rfl, rfl, rfl, hs⟩
  · intro q f w hI
    obtain ⟨i, rfl, hi, e14, e13, e1, e2, hs⟩ := hI
    refine cw_seq (cw_region ?_)
    refine l_pur (p_lss e14 e13) (by decide) ?_
    refine lw_nil ?_
    refine cw_seq ?_
    refine cw_cond _ rfl (fun hc0 => ?_) (fun hc0 => ?_)
    · have hlt : i < ps.length := by have := of_decide_eq_true hc0; omega
      refine cw_skip ?_
      refine cw_seq ?_
      refine cw_block ?_
      refine cw_seq (cw_region ?_)
      refine l_pur (p_move e14) (by decide) ?_
      refine l_pur (p_assignI rfl) (by decide) ?_
      refine lw_nil ?_
      refine cw_seq (cw_region ?_)
      refine l_pur (p_assignC) (by decide) ?_
      refine lw_nil ?_
      refine cw_seq ?_
      refine cw_seq (cw_region ?_)
      refine l_pur (p_fieldAddr fo35_6 e1) (by decide) ?_
      refine l_loadO (α := GDaemon) (β := GSl) ty28 rfl GDaemon.l_peers hs (List.Mem.tail _ (List.Mem.tail _ (List.Mem.head _))) (by decide) ?_
      refine l_pur (p_moveI rfl) (by decide) ?_
      refine l_pur (p_indexO el28.sl el28.ty.size rfl rfl (by (first | omega | decide | (dsimp only; omega) | (simp; omega)))) (by decide) ?_
      refine l_pur (p_fieldAddr fo63_14 rfl) (by decide) ?_
      refine l_loadE (α := GPeer) (β := GSl) ty61 rfl rfl GPeer.l_staged (by first | omega | (simp; omega)) hs (List.Mem.head _) (by decide) ?_
      refine l_pur (p_len Tryz.underlying61 rfl) (by decide) ?_
      refine l_pur (p_moveC) (by decide) ?_
      refine lw_nil ?_
      refine cw_block ?_
      refine cw_loop (fun q f w => f 24 = vi 0 ∧ f 23 = vi 0 ∧ f 4 = .slice none 0 0 ∧ f 3 = vi i ∧ f 14 = vi i ∧ f 13 = vi ps.length ∧ f 1 = ptr b1 0 ∧ f 2 = ptr b2 0 ∧ St W0 V w ((bp, arr 63 ps sp) :: (b2, blk 35 GDaemon.zero) :: (b1, blk 35 (d.s_peers ⟨some ⟨bp, 0, none⟩, ps.length, cp⟩)) :: L)) (0) ?_ ?_
      · exact ⟨rfl, by show vi ((ps[i].staged).len : Int) = _; rw [hst i hlt]; rfl, rfl, rfl, e14, e13, e1, e2, hs⟩
      · intro q f w hI
        obtain ⟨e24, e23, e4, e3, e14, e13, e1, e2, hs⟩ := hI
        refine cw_seq (cw_region ?_)
        refine l_pur (p_lss e24 e23) (by decide) ?_
        refine lw_nil ?_
        refine cw_seq ?_
        refine cw_cond _ rfl (fun hc1 => ?_) (fun hc1 => ?_)
        · exact absurd hc1 (by decide)
        · try simp only [decide_eq_true_eq, decide_eq_false_iff_not, Bool.not_eq_true', Bool.not_eq_false', beq_iff_eq, bne_iff_ne, beq_eq_false_iff_ne, bne_eq_false_iff_eq] at hc1
          refine cw_exit ?_
          refine cw_region ?_
          refine l_pur (p_fieldAddr fo35_6 e1) (by decide) ?_
          refine l_loadO (α := GDaemon) (β := GSl) ty28 rfl GDaemon.l_peers hs (List.Mem.tail _ (List.Mem.tail _ (List.Mem.head _))) (by decide) ?_
          refine l_pur (p_move e3) (by decide) ?_
          refine l_pur (p_move e4) (by decide) ?_
          refine l_pur (p_indexO el28.sl el28.ty.size rfl rfl (by (first | omega | decide | (dsimp only; omega) | (simp; omega)))) (by decide) ?_
          refine l_pur (p_fieldAddr fo63_14 rfl) (by decide) ?_
          refine l_storeE (α := GPeer) (β := GSl) (z := (⟨_, _, _⟩ : GSl)) ty61 rfl rfl rfl GPeer.l_staged (by first | omega | (simp; omega)) hs Rep.head ?_; clear hs; intro w hs
          refine lw_nil ?_
          refine cw_region ?_
          refine l_pur (p_add64 e14 rfl (by first | omega | (dsimp only; omega) | (simp; omega))) (by decide) ?_
          refine l_pur (p_moveI rfl) (by decide) ?_
          refine lw_nil ?_
          have hself : ps.set i (GPeer.s_staged ps[i] ⟨none, 0, 0⟩) = ps := by
            have e : GPeer.s_staged ps[i] ⟨none, 0, 0⟩ = ps[i] := by rw [← hst i hlt]; rfl
            rw [e, list_set_self]
          simp only [Int.toNat_natCast] at hs
          rw [hself] at hs
          exact ⟨_, by omega, i + 1, rfl, hlt, rfl, e13, e1, e2, hs⟩
    · try simp only [decide_eq_true_eq, decide_eq_false_iff_not, Bool.not_eq_true', Bool.not_eq_false', beq_iff_eq, bne_iff_ne, beq_eq_false_iff_ne, bne_eq_false_iff_eq] at hc0
      refine cw_exit ?_
      refine cw_seq ?_
      have hS := Hold.cons hs (List.Mem.tail _ (List.Mem.head _)) (Hold.cons hs (List.Mem.tail _ (List.Mem.tail _ (List.Mem.head _))) (Hold.nil hs (PH.refl _)))
      refine cw_planH (.take 0 (.take 1 (.take 3 (.take 4 (.one 2 (.take 6 (.one 5 (.one 7 (.take 8 (.one 9 .done)))))))))) 31 hmix (by kernel_rfl) (fun _ _ _ h => h) hs hS ?_
      clear hS; clear hs; intro w hs; have hS := Hold.cons hs (List.Mem.tail _ (List.Mem.head _)) (Hold.cons hs (List.Mem.tail _ (List.Mem.tail _ (List.Mem.head _))) (Hold.nil hs (PH.refl _)))
      refine pw_pur rfl (wt_free rfl) (p_fieldAddr fo35_7 e1) (by decide) (fun _ => hS) ?_
      refine pw_ld rfl (wt_free rfl) (by kernel_rfl) (Hold.runs_loadO (α := GDaemon) (β := GSl) ty29 rfl GDaemon.l_routes (List.Mem.tail _ (List.Mem.head _))) (by decide) hS ?_
      refine pw_pur rfl (wt_free rfl) (p_fieldAddr fo35_8 e1) (by decide) (fun _ => hS) ?_
      refine pw_ld rfl (wt_free rfl) (by kernel_rfl) (Hold.runs_loadO (α := GDaemon) (β := GSl) ty30 rfl GDaemon.l_slots (List.Mem.tail _ (List.Mem.head _))) (by decide) hS ?_
      refine pw_one ?_
      refine ow_appendNil rfl (wt_free rfl) el29 rfl rfl hs (hd.r.src hs) hrl (by show d.routes.len * _ ≤ _; rw [hrl]; omega) (by show d.routes.len ≤ _; rw [hrl]; omega) (by decide) ?_
      clear hs hS
      intro v w ho
      obtain ⟨V2, a2, c2, hV2, hs, rfl, hl2⟩ := ho.freeze
      refine ⟨fun _ => Hold.cons hs (List.Mem.tail _ (List.Mem.head _)) (Hold.cons hs (List.Mem.tail _ (List.Mem.tail _ (List.Mem.head _))) (Hold.nil hs hV2)), ?_⟩; have hS := Hold.cons hs (List.Mem.tail _ (List.Mem.head _)) (Hold.cons hs (List.Mem.tail _ (List.Mem.tail _ (List.Mem.head _))) (Hold.nil hs hV2))
      refine pw_pur rfl (wt_free rfl) (p_fieldAddr fo35_7 e1) (by decide) (fun h => absurd h (by decide)) ?_
      refine pw_one ?_
      refine ow_appendNil rfl (wt_free rfl) el30 rfl rfl hs ((hd.s.mono hV2).src hs) hsl (by show d.slots.len * _ ≤ _; rw [hsl]; omega) (by show d.slots.len ≤ _; rw [hsl]; omega) (by decide) ?_
      clear hs hS
      intro v w ho
      obtain ⟨V3, a3, c3, hV3, hs, rfl, hl3⟩ := ho.freeze
      have hV23 := PH.trans hV2 hV3
      refine ⟨fun h => absurd h (by decide), ?_⟩; have hS := True.intro
      refine pw_one ?_
      refine ow_store2 (α := GDaemon) (β := GSl) (z := (⟨_, _, _⟩ : GSl)) rfl (wt_free rfl) ty29 rfl rfl GDaemon.l_routes hs ?_; clear hs; intro w hs
      refine ⟨fun h => absurd h (by decide), ?_⟩; have hS := True.intro
      refine pw_pur rfl (wt_free rfl) (p_fieldAddr fo35_8 e1) (by decide) (fun h => absurd h (by decide)) ?_
      refine pw_one ?_
      refine ow_store2 (α := GDaemon) (β := GSl) (z := (⟨_, _, _⟩ : GSl)) rfl (wt_free rfl) ty30 rfl rfl GDaemon.l_slots hs ?_; clear hs; intro w hs
      refine ⟨fun h => absurd h (by decide), ?_⟩; have hS := True.intro
      refine pw_done ?_
      refine cw_seq ?_
      have hS := Hold.cons hs (List.Mem.tail _ (List.Mem.head _)) (Hold.cons hs (List.Mem.tail _ (List.Mem.tail _ (List.Mem.head _))) (Hold.nil hs (PH.refl _)))
      refine cw_planH (.take 0 (.take 1 (.take 3 (.take 4 (.one 2 (.take 6 (.one 5 (.one 7 (.take 8 (.one 9 .done)))))))))) 31 hmix (by kernel_rfl) (fun _ _ _ h => h) hs hS ?_
      clear hS; clear hs; intro w hs; have hS := Hold.cons hs (List.Mem.tail _ (List.Mem.head _)) (Hold.cons hs (List.Mem.tail _ (List.Mem.tail _ (List.Mem.head _))) (Hold.nil hs (PH.refl _)))
      refine pw_pur rfl (wt_free rfl) (p_fieldAddr fo35_9 e1) (by decide) (fun _ => hS) ?_
      refine pw_ld rfl (wt_free rfl) (by kernel_rfl) (Hold.runs_loadO (α := GDaemon) (β := GSl) ty31 rfl GDaemon.l_timers (List.Mem.tail _ (List.Mem.head _))) (by decide) hS ?_
      refine pw_pur rfl (wt_free rfl) (p_fieldAddr fo35_12 e1) (by decide) (fun _ => hS) ?_
      refine pw_ld rfl (wt_free rfl) (by kernel_rfl) (Hold.runs_loadO (α := GDaemon) (β := GSl) ty32 rfl GDaemon.l_recent (List.Mem.tail _ (List.Mem.head _))) (by decide) hS ?_
      refine pw_one ?_
      refine ow_appendNil rfl (wt_free rfl) el31 rfl rfl hs ((hd.t.mono hV23).src hs) htl (by show d.timers.len * _ ≤ _; rw [htl]; omega) (by show d.timers.len ≤ _; rw [htl]; omega) (by decide) ?_
      clear hs hS
      intro v w ho
      obtain ⟨V4, a4, c4, hV4, hs, rfl, hl4⟩ := ho.freeze
      refine ⟨fun _ => Hold.cons hs (List.Mem.tail _ (List.Mem.head _)) (Hold.cons hs (List.Mem.tail _ (List.Mem.tail _ (List.Mem.head _))) (Hold.nil hs hV4)), ?_⟩; have hS := Hold.cons hs (List.Mem.tail _ (List.Mem.head _)) (Hold.cons hs (List.Mem.tail _ (List.Mem.tail _ (List.Mem.head _))) (Hold.nil hs hV4))
      refine pw_pur rfl (wt_free rfl) (p_fieldAddr fo35_9 e1) (by decide) (fun h => absurd h (by decide)) ?_
      refine pw_one ?_
      refine ow_appendNone rfl (wt_free rfl) el32 rfl rfl (by show d.recent.len = 0; rw [hd.re]) (by decide) ?_
      refine ⟨fun h => absurd h (by decide), ?_⟩; have hS := True.intro
      refine pw_one ?_
      refine ow_store2 (α := GDaemon) (β := GSl) (z := (⟨_, _, _⟩ : GSl)) rfl (wt_free rfl) ty31 rfl rfl GDaemon.l_timers hs ?_; clear hs; intro w hs
      refine ⟨fun h => absurd h (by decide), ?_⟩; have hS := True.intro
      refine pw_pur rfl (wt_free rfl) (p_fieldAddr fo35_12 e1) (by decide) (fun h => absurd h (by decide)) ?_
      refine pw_one ?_
      refine ow_store2 (α := GDaemon) (β := GSl) (z := (⟨_, _, _⟩ : GSl)) rfl (wt_free rfl) ty32 rfl rfl GDaemon.l_recent hs ?_; clear hs; intro w hs
      refine ⟨fun h => absurd h (by decide), ?_⟩; have hS := True.intro
      refine pw_done ?_
      refine cw_seq (cw_region ?_)
      refine l_pur (p_fieldAddr fo35_13 e1) (by decide) ?_
      refine l_loadO (α := GDaemon) (β := GSl) ty33 rfl GDaemon.l_buckets hs (List.Mem.tail _ (List.Mem.tail _ (List.Mem.head _))) (by decide) ?_
      refine l_appendNone el33 rfl rfl (by show d.buckets.len = 0; rw [hd.bu]) (by decide) ?_
      refine l_pur (p_fieldAddr fo35_13 e1) (by decide) ?_
      refine l_store2 (α := GDaemon) (β := GSl) (z := (⟨_, _, _⟩ : GSl)) ty33 rfl rfl GDaemon.l_buckets hs ?_; clear hs; intro w hs
      refine lw_nil ?_
      refine cw_seq (cw_region ?_)
      refine l_loadO (α := GDaemon) (β := GDaemon) ty35 e1 (Lens.id GDaemon) hs (List.Mem.tail _ (List.Mem.tail _ (List.Mem.head _))) (by decide) ?_
      refine l_store1 (α := GDaemon) (β := GDaemon) ty35 e2 rfl (Lens.id GDaemon) hs ?_; clear hs; intro w hs
      refine lw_nil ?_
      refine cw_ret ?_
      repeat (with_reducible first | refine tf_ret ?_ | refine ib_ret ?_)
      refine fin1 (fn := Tryz.f40) rfl (rv_own (α := GDaemon) ty35 e2 (hs.mem (List.Mem.tail _ (List.Mem.head _)))) ?_
      have e : val ({ d with peers := ⟨some ⟨bp, 0, none⟩, ps.length, cp⟩, routes := ⟨a2, rs.length, c2⟩, slots := ⟨a3, ss.length, c3⟩, timers := ⟨a4, ts.length, c4⟩, recent := ⟨none, 0, 0⟩, buckets := ⟨none, 0, 0⟩ } : GDaemon) = val { d with peers := ⟨some ⟨bp, 0, none⟩, ps.length, cp⟩, routes := ⟨a2, rs.length, c2⟩, slots := ⟨a3, ss.length, c3⟩, timers := ⟨a4, ts.length, c4⟩ } := by
        rw [hd.re, hd.bu]
      exact ⟨V4, bp, cp, sp, ⟨a2, rs.length, c2⟩, ⟨a3, ss.length, c3⟩, ⟨a4, ts.length, c4⟩, PH.trans hV23 hV4, hcp, e, hl2.mono (PH.trans hV3 hV4), rfl, hl3.mono hV4, rfl, hl4, rfl, hs.swap.drop1.swap.drop1⟩
end Go.Bur
namespace Go.Bur
open Go Go.RowKit Go.Proofs
set_option maxHeartbeats 4000000
variable {W0 : World} {V : PH} {w : World} {L : List (Nat × Obj)}
def instR (r : GRing) (s : GSession) (o : Bool) : GRing := if o then begR r s else ansR r s
def instD (r : GRing) (o : Bool) : List UInt32 := if o then begD r else localsP [r.previous, r.next]
theorem instD_len (r : GRing) (o : Bool) : (instD r o).length ≤ 2 := by
  unfold instD begD
  split
  · split
    · exact localsP_len _
    · exact Nat.le_trans (localsP_len _) (by simp)
  · exact localsP_len _
theorem dropAll_none {ss : List GSlot} {xs : List UInt32} {x : UInt32} (h : findS ss x = none) : findS (dropAll ss xs) x = none := by
  unfold dropAll
  induction xs generalizing ss with
  | nil => exact h
  | cons y ys ih =>
    refine ih ?_
    unfold findS dropS at *
    rw [List.find?_eq_none] at *
    intro s hs
    exact h s (List.mem_filter.1 hs).1
theorem s_install24 {d : GDaemon} {ps : List GPeer} {rs : List GRoute} {ss : List GSlot} {ts : List GTimer} {peer : GKey} {s : GSession} {o : Bool} {i : Nat} (hs : St W0 V w L) (hd : DSl V d ps rs ss ts) (h : DaemonOk d ps rs ss ts)
    (hi : i < ps.length) (hfi : findP ps peer = i) (hx : s.loc ≠ 0) (hfree : findS ss s.loc = none) (hsn : ss.length < 32) (hso : SoundS d s) :
    Calls Tryz.prog 20 #[val d, val peer, val s, .bool o] w (okR fun v w' => ∃ (V' : PH) (q1 q2 q3 q4 : GSl), V ≤ V' ∧ v = .tuple #[val { d with peers := q1, routes := q2, slots := q3, timers := q4 }, vi 0] ∧
      DSl V' { d with peers := q1, routes := q2, slots := q3, timers := q4 } (ps.set i { ps[i] with ring := instR ps[i].ring s o }) rs (insS (dropAll ss (instD ps[i].ring o)) ⟨s.loc, peer, true⟩) (setT ts ⟨d.now + 3 * d.rules.rejectTime, ps[i].pub, 5⟩) ∧ St W0 V' w' L) := by
  have hst : ∀ j (hj : j < ps.length), ps[j].staged = ⟨none, 0, 0⟩ := fun j hj => (h.pk j hj).staged
  have hn := h.pn
  have hrn := h.ro.n
  have htn := h.tn
  have hnow := h.now
  have hrt := h.rules.t1
  have hff := fun (w : World) (L : List (Nat × Obj)) (hs : St W0 V w L) => s_find24 (k := peer) hs hd.p hd.pl (by omega)
  rw [hfi] at hff
  have hfs := fun (w : World) (L : List (Nat × Obj)) (hs : St W0 V w L) => s_findslot (k := s.loc) hs hd.s (by omega)
  rw [← hd.sl, hfree] at hfs
  refine fn_enter (n := 102) Tryz.func20 rfl rfl rfl ?_
  intro f hf
  have e0 := hf 0
  have e1 := hf 1
  have e2 := hf 2
  have e3 := hf 3
  simp only [Array.getD_eq_getD_getElem?, List.getElem?_toArray, List.getElem?_cons_zero, List.getElem?_cons_succ, Option.getD_some] at e0 e1 e2 e3
  clear hf
  refine cw_seq (cw_region ?_)
  refine l_box (α := GDaemon) e0 hs (by decide) ?_; clear hs; intro b4 w hs
  refine l_box (α := (Vec 32 UInt8)) e1 hs (by decide) ?_; clear hs; intro b5 w hs
  refine l_box (α := GSession) e2 hs (by decide) ?_; clear hs; intro b6 w hs
  refine l_alloc z35 hs (by decide) ?_; clear hs; intro b8 w hs
  refine l_pur (p_assignC) (by decide) ?_
  refine lw_nil ?_
  refine cw_seq ?_
  refine cw_seq (cw_region ?_)
  refine l_loadO (α := GDaemon) (β := GDaemon) ty35 rfl (Lens.id GDaemon) hs (List.Mem.tail _ (List.Mem.tail _ (List.Mem.tail _ (List.Mem.head _)))) (by decide) ?_
  refine l_call1 fn36 (s_valid24 hs hd h) rfl ?_ (by decide)
  clear hs; rintro _ w ⟨rfl, hs⟩
  refine l_purIs (c := false) (p_not rfl) (by rfl) (by decide) ?_
  refine lw_nil ?_
  refine cw_false rfl ?_
  refine cw_skip ?_
  refine cw_seq (cw_region ?_)
  refine l_loadO (α := GDaemon) (β := GDaemon) ty35 rfl (Lens.id GDaemon) hs (List.Mem.tail _ (List.Mem.tail _ (List.Mem.tail _ (List.Mem.head _)))) (by decide) ?_
  refine l_loadO (α := (Vec 32 UInt8)) (β := (Vec 32 UInt8)) ty27 rfl (Lens.id (Vec 32 UInt8)) hs (List.Mem.tail _ (List.Mem.tail _ (List.Mem.head _))) (by decide) ?_
  refine l_call2 fn37 (hff _ _ hs) rfl rfl ?_ (by decide)
  clear hs; rintro _ w ⟨rfl, hs⟩
  refine l_pur (p_assignI rfl) (by decide) ?_
  refine lw_nil ?_
  refine cw_seq ?_
  refine cw_seq (cw_region ?_)
  refine l_pur (p_moveI rfl) (by decide) ?_
  refine l_purIs (c := false) (p_lss rfl rfl) (by exact decide_eq_false (by omega)) (by decide) ?_
  refine lw_nil ?_
  refine cw_false rfl ?_
  refine cw_skip ?_
  refine cw_seq ?_
  refine cw_seq (cw_region ?_)
  refine l_pur (p_fieldAddr fo35_8 rfl) (by decide) ?_
  refine l_loadO (α := GDaemon) (β := GSl) ty30 rfl GDaemon.l_slots hs (List.Mem.tail _ (List.Mem.tail _ (List.Mem.tail _ (List.Mem.head _)))) (by decide) ?_
  refine l_pur (p_fieldAddr fo56_0 rfl) (by decide) ?_
  refine l_loadO (α := GSession) (β := UInt32) ty46 rfl GSession.l_loc hs (List.Mem.tail _ (List.Mem.head _)) (by decide) ?_
  refine l_call2 fn38 (hfs _ _ hs) rfl rfl ?_ (by decide)
  clear hs; rintro _ w ⟨rfl, hs⟩
  refine l_pur (p_moveT rfl) (by decide) ?_
  refine l_pur (p_extract rfl rfl) (by decide) ?_
  refine l_pur (p_extract rfl rfl) (by decide) ?_
  refine l_alloc z69 hs (by decide) ?_; clear hs; intro b11 w hs
  refine l_store0 (α := GSlot) (β := GSlot) ty69 rfl rfl (Lens.id GSlot) hs ?_; clear hs; intro w hs
  refine l_pur (p_assignB rfl) (by decide) ?_
  refine lw_nil ?_
  refine cw_seq (cw_region ?_)
  refine l_pur (p_fieldAddr fo56_0 rfl) (by decide) ?_
  refine l_loadO (α := GSession) (β := UInt32) ty46 rfl GSession.l_loc hs (List.Mem.tail _ (List.Mem.tail _ (List.Mem.head _))) (by decide) ?_
  refine l_purIs (c := false) (p_eql_u32 (b := (0 : UInt32)) rfl rfl) (by exact decide_eq_false hx) (by decide) ?_
  refine l_pur (p_moveB rfl) (by decide) ?_
  refine lw_do rfl rfl rfl ?_
  refine l_purIs (c := false) (p_moveB rfl) (by rfl) (by decide) ?_
  refine l_pur (p_pickF rfl rfl) (by decide) ?_
  refine lw_nil ?_
  refine cw_false rfl ?_
  refine cw_skip ?_
  refine cw_seq ?_
  refine cw_seq (cw_region ?_)
  refine l_loadO (α := GDaemon) (β := GDaemon) ty35 rfl (Lens.id GDaemon) hs (List.Mem.tail _ (List.Mem.tail _ (List.Mem.tail _ (List.Mem.tail _ (List.Mem.head _))))) (by decide) ?_
  refine l_loadO (α := GSession) (β := GSession) ty56 rfl (Lens.id GSession) hs (List.Mem.tail _ (List.Mem.tail _ (List.Mem.head _))) (by decide) ?_
  refine l_call2 fn39 (s_soundS hs hso) rfl rfl ?_ (by decide)
  clear hs; rintro _ w ⟨rfl, hs⟩
  refine l_purIs (c := false) (p_not rfl) (by rfl) (by decide) ?_
  refine lw_nil ?_
  refine cw_false rfl ?_
  refine cw_skip ?_
  refine cw_seq (cw_region ?_)
  refine l_loadO (α := GDaemon) (β := GDaemon) ty35 rfl (Lens.id GDaemon) hs (List.Mem.tail _ (List.Mem.tail _ (List.Mem.tail _ (List.Mem.tail _ (List.Mem.head _))))) (by decide) ?_
  refine l_call1 fn40 (s_copy24 hs hd hst (by omega) hn (by omega) (by omega) htn) rfl ?_ (by decide)
  clear hs
  rintro _ w ⟨V1, bp, cp, sp, qr, qs, qt, hV1, hcp, rfl, hr1, hr2, hq1, hq2, ht1, ht2, hs⟩
  refine l_pur (p_buildO (α := GRMach) Tryz.underlying128 (by kernel_rfl) z128 rfl (.cons (β := GDaemon) rfl pl128_0 GRMach.l_d (.nil _))) (by decide) ?_
  refine l_alloc z128 hs (by decide) ?_; clear hs; intro b13 w hs
  refine l_store0 (α := GRMach) (β := GRMach) ty128 rfl rfl (Lens.id GRMach) hs ?_; clear hs; intro w hs
  refine lw_nil ?_
  refine cw_seq (cw_region ?_)
  refine l_pur (p_fieldAddr fo128_0 rfl) (by decide) ?_
  refine l_pur (p_fieldAddr fo35_6 rfl) (by decide) ?_
  refine l_loadO (α := GRMach) (β := GSl) ty28 rfl (Lens.comp GRMach.l_d GDaemon.l_peers) hs (List.Mem.head _) (by decide) ?_
  refine l_pur (p_moveI rfl) (by decide) ?_
  refine l_pur (p_indexON el28.sl el28.ty.size rfl rfl (by (first | omega | decide | (dsimp only; omega) | (simp; omega)))) (by decide) ?_
  refine l_pur (p_assignP rfl) (by decide) ?_
  refine lw_nil ?_
  refine cw_seq (cw_region ?_)
  refine l_pur (p_assignC) (by decide) ?_
  refine lw_nil ?_
  refine cw_seq ?_
  refine cw_seq (cw_region ?_)
  refine l_pur (p_move e3) (by decide) ?_
  refine lw_nil ?_
  refine cw_cond _ rfl (fun hc4 => ?_) (fun hc4 => ?_)
  · try simp only [decide_eq_true_eq, decide_eq_false_iff_not, Bool.not_eq_true', Bool.not_eq_false', beq_iff_eq, bne_iff_ne, beq_eq_false_iff_ne, bne_eq_false_iff_eq] at hc4
    have hS := Hold.cons hs (List.Mem.tail _ (List.Mem.tail _ (List.Mem.tail _ (List.Mem.tail _ (List.Mem.head _))))) (Hold.nil hs (PH.refl _))
    refine cw_planH (.take 0 (.take 1 (.take 2 (.take 3 (.take 5 (.one 4 (.one 6 (.take 7 (.take 8 (.take 9 (.take 10 (.take 11 (.one 12 (.take 13 .done)))))))))))))) 63 hmix (by kernel_rfl) (fun _ _ _ h => h) hs hS ?_
    clear hS; clear hs; intro w hs; have hS := Hold.cons hs (List.Mem.tail _ (List.Mem.tail _ (List.Mem.tail _ (List.Mem.tail _ (List.Mem.head _))))) (Hold.nil hs (PH.refl _))
    refine pw_pur rfl (wt_free rfl) (p_moveP rfl) (by decide) (fun _ => hS) ?_
    refine pw_pur rfl (wt_free rfl) (p_moveP rfl) (by decide) (fun _ => hS) ?_
    refine pw_pur rfl (wt_free rfl) (p_nilCheck rfl) (by decide) (fun _ => hS) ?_
    refine pw_pur rfl (wt_free rfl) (p_fieldAddr fo63_13 rfl) (by decide) (fun _ => hS) ?_
    refine pw_ld rfl (wt_free rfl) (by kernel_rfl) (Hold.runs_loadO (α := GSession) (β := GSession) ty56 rfl (Lens.id GSession) (List.Mem.head _)) (by decide) hS ?_
    refine pw_one ?_
    refine ow_valC rfl (wt_free rfl) (r_loadE (α := GPeer) (β := GRing) ty60 rfl rfl GPeer.l_ring (by first | omega | (simp; omega)) (hs.mem (List.Mem.tail _ (List.Mem.head _)))) (by decide) ?_
    refine ⟨fun _ => Hold.cons hs (List.Mem.tail _ (List.Mem.tail _ (List.Mem.tail _ (List.Mem.tail _ (List.Mem.head _))))) (Hold.nil hs (PH.refl _)), ?_⟩; have hS := Hold.cons hs (List.Mem.tail _ (List.Mem.tail _ (List.Mem.tail _ (List.Mem.tail _ (List.Mem.head _))))) (Hold.nil hs (PH.refl _))
    refine pw_one ?_
    refine ow_call2 rfl (wt_free rfl) fn41 (s_begin hs) rfl rfl ?_ (by decide)
    clear hs hS
    rintro _ w ⟨v2, rfl, ho⟩
    obtain ⟨V2, a2, c2, hV2, hs, rfl, hl2⟩ := ho.freeze
    refine ⟨fun h => absurd h (by decide), ?_⟩; have hS := True.intro
    refine pw_pur rfl (wt_free rfl) (p_moveT rfl) (by decide) (fun h => absurd h (by decide)) ?_
    refine pw_pur rfl (wt_free rfl) (p_extract rfl rfl) (by decide) (fun h => absurd h (by decide)) ?_
    refine pw_pur rfl (wt_free rfl) (p_extract rfl rfl) (by decide) (fun h => absurd h (by decide)) ?_
    refine pw_pur rfl (wt_free rfl) (p_nilCheck rfl) (by decide) (fun h => absurd h (by decide)) ?_
    refine pw_pur rfl (wt_free rfl) (p_fieldAddr fo63_13 rfl) (by decide) (fun h => absurd h (by decide)) ?_
    refine pw_one ?_
    refine ow_storeE (α := GPeer) (β := GRing) rfl (wt_free rfl) ty60 rfl rfl rfl GPeer.l_ring (by first | omega | (simp; omega)) hs (Rep.tail Rep.head) ?_; clear hs; intro w hs
    refine ⟨fun h => absurd h (by decide), ?_⟩; have hS := True.intro
    refine pw_pur rfl (wt_free rfl) (p_assignL rfl) (by decide) (fun h => absurd h (by decide)) ?_
    refine pw_done ?_
    refine cw_seq ?_
    have hgen : ∃ (r' : GRing) (xs : List UInt32), instR ps[i].ring s o = r' ∧ instD ps[i].ring o = xs := ⟨_, _, rfl, rfl⟩
    obtain ⟨r', xs, hr', hxs⟩ := hgen
    have hxl : xs.length ≤ 2 := by rw [← hxs]; exact instD_len _ _
    replace hl2 : Sl V2 46 a2 c2 xs := by
      rw [← hxs]
      first
      | (rw [show instD ps[i].ring o = _ from if_pos hc4]; exact hl2)
      | (rw [show instD ps[i].ring o = _ from if_neg (by rw [hc4]; decide)]; exact hl2)
    have hring : (if o then begR ps[i].ring s else ansR ps[i].ring s) = r' := hr'
    have hdrop : (if o then begD ps[i].ring else localsP [ps[i].ring.previous, ps[i].ring.next]) = xs := hxs
    first
    | rw [if_pos hc4] at hring hdrop
    | rw [if_neg (by rw [hc4]; decide)] at hring hdrop
    rw [hring] at hs
    have hdl := dropAll_len ss xs
    refine cw_region ?_
    refine l_pur (p_moveL rfl) (by decide) ?_
    refine l_call2 fn43 (s_mdrop hs (hq1.mono hV2) hq2 (by omega) hl2 (by omega)) rfl (by rw [← hdrop]; rfl) ?_ (by decide)
    clear hs
    rintro _ w ⟨V3, q3, hV3, hs3, hs3l, hs⟩
    refine lw_nil ?_
    refine cw_seq ?_
    have htk := fun (w : World) (L : List (Nat × Obj)) (hs : St W0 V3 w L) => s_take (k := s.loc) (peer := peer) (se := true) hs hs3 (by omega) (by have := UInt32.pos_iff_ne_zero.2 hx; exact UInt32.le_iff_toNat_le.2 (by have := UInt32.lt_iff_toNat_lt.1 this; simp at this ⊢; omega)) (dropAll_none hfree)
    rw [← hs3l] at htk
    refine cw_region ?_
    refine l_pur (p_fieldAddr fo128_0 rfl) (by decide) ?_
    refine l_pur (p_fieldAddr fo35_8 rfl) (by decide) ?_
    refine l_loadO (α := GRMach) (β := GSl) ty30 rfl (Lens.comp GRMach.l_d GDaemon.l_slots) hs (List.Mem.head _) (by decide) ?_
    refine l_pur (p_fieldAddr fo56_0 rfl) (by decide) ?_
    refine l_loadO (α := GSession) (β := UInt32) ty46 rfl GSession.l_loc hs (List.Mem.tail _ (List.Mem.tail _ (List.Mem.tail _ (List.Mem.tail _ (List.Mem.head _))))) (by decide) ?_
    refine l_loadO (α := (Vec 32 UInt8)) (β := (Vec 32 UInt8)) ty27 rfl (Lens.id (Vec 32 UInt8)) hs (List.Mem.tail _ (List.Mem.tail _ (List.Mem.tail _ (List.Mem.tail _ (List.Mem.tail _ (List.Mem.head _)))))) (by decide) ?_
    refine l_call4 fn44 (htk _ _ hs) rfl rfl rfl rfl ?_ (by decide)
    clear hs
    rintro _ w ⟨v1, rfl, ho⟩
    obtain ⟨V4, a4, c4, hV4, hs, rfl, hl4⟩ := ho.freeze
    refine l_pur (p_moveT rfl) (by decide) ?_
    refine l_pur (p_extract rfl rfl) (by decide) ?_
    refine l_pur (p_extract rfl rfl) (by decide) ?_
    refine l_pur (p_extract rfl rfl) (by decide) ?_
    refine l_pur (p_fieldAddr fo128_0 rfl) (by decide) ?_
    refine l_pur (p_fieldAddr fo35_8 rfl) (by decide) ?_
    refine l_store0 (α := GRMach) (β := GSl) (z := (⟨_, _, _⟩ : GSl)) ty30 rfl rfl (Lens.comp GRMach.l_d GDaemon.l_slots) hs ?_; clear hs; intro w hs
    refine lw_nil ?_
    refine cw_seq ?_
    have hcp2 : (ps.set i { ps[i] with ring := r' }).length ≤ cp := by simpa using hcp
    replace hs := hs.swap
    obtain ⟨V5, hV5, hs, hl5⟩ := hs.freezeArr hcp2
    have hV15 : V1 ≤ V5 := PH.trans hV2 (PH.trans hV3 (PH.trans hV4 hV5))
    refine cw_region ?_
    refine l_pur (p_moveI rfl) (by decide) ?_
    refine l_pur (p_fieldAddr fo35_0 rfl) (by decide) ?_
    refine l_pur (p_fieldAddr fo25_3 rfl) (by decide) ?_
    refine l_loadO (α := GDaemon) (β := Int) ty2 rfl (Lens.comp GDaemon.l_rules GRules.l_rejectTime) hs (List.Mem.tail _ (List.Mem.tail _ (List.Mem.tail _ (List.Mem.tail _ (List.Mem.tail _ (List.Mem.head _)))))) (by decide) ?_
    refine l_pur (p_mul64 rfl rfl (by first | omega | (dsimp only; omega) | (simp; omega))) (by decide) ?_
    refine l_call4 fn45 (s_mset (ps := ps.set i { ps[i] with ring := r' }) (ts := ts) (i := i) hs hl5 (by show ps.length = _; simp) (by simpa using hi) (ht1.mono hV15) ht2 (by omega) h.now (by omega)) rfl rfl rfl rfl ?_ (by decide)
    clear hs
    rintro _ w ⟨V6, q6, hV6, hs6, hs6l, hs⟩
    refine lw_nil ?_
    refine cw_seq (cw_region ?_)
    refine l_pur (p_fieldAddr fo128_0 rfl) (by decide) ?_
    refine l_loadO (α := GRMach) (β := GDaemon) ty35 rfl GRMach.l_d hs (List.Mem.head _) (by decide) ?_
    refine l_store2 (α := GDaemon) (β := GDaemon) ty35 rfl rfl (Lens.id GDaemon) hs ?_; clear hs; intro w hs
    refine l_pur (p_assignC) (by decide) ?_
    refine lw_nil ?_
    refine cw_ret ?_
    repeat (with_reducible first | refine tf_ret ?_ | refine ib_ret ?_)
    refine fin2 (fn := Tryz.f20) rfl (rv_own (α := GDaemon) ty35 rfl (hs.mem (List.Mem.tail _ (List.Mem.tail _ (List.Mem.head _))))) (rv_tmpI rfl) ?_
    refine ⟨V6, ⟨some ⟨bp, 0, none⟩, ps.length, cp⟩, qr, ⟨a4, _, c4⟩, q6, PH.trans hV1 (PH.trans hV15 hV6), rfl, ?_, hs.drop1.drop1.drop1.drop1.drop1.drop1⟩
    have e1 : (ps.set i { ps[i] with ring := r' })[i]'(by simpa using hi) = { ps[i] with ring := r' } := by simp
    rw [e1] at hs6 hs6l
    rw [hr', hxs]
    exact ⟨hl5.mono hV6, by simp, hr1.mono (PH.trans hV15 hV6), hr2, hl4.mono (PH.trans hV5 hV6), rfl, hs6, hs6l, hd.re, hd.bu⟩
  · try simp only [decide_eq_true_eq, decide_eq_false_iff_not, Bool.not_eq_true', Bool.not_eq_false', beq_iff_eq, bne_iff_ne, beq_eq_false_iff_ne, bne_eq_false_iff_eq] at hc4
    have hS := Hold.cons hs (List.Mem.tail _ (List.Mem.tail _ (List.Mem.tail _ (List.Mem.tail _ (List.Mem.head _))))) (Hold.nil hs (PH.refl _))
    refine cw_planH (.take 0 (.take 1 (.take 2 (.take 3 (.take 5 (.one 4 (.one 6 (.take 7 (.take 8 (.take 9 (.take 10 (.take 11 (.one 12 (.take 13 .done)))))))))))))) 63 hmix (by kernel_rfl) (fun _ _ _ h => h) hs hS ?_
    clear hS; clear hs; intro w hs; have hS := Hold.cons hs (List.Mem.tail _ (List.Mem.tail _ (List.Mem.tail _ (List.Mem.tail _ (List.Mem.head _))))) (Hold.nil hs (PH.refl _))
    refine pw_pur rfl (wt_free rfl) (p_moveP rfl) (by decide) (fun _ => hS) ?_
    refine pw_pur rfl (wt_free rfl) (p_moveP rfl) (by decide) (fun _ => hS) ?_
    refine pw_pur rfl (wt_free rfl) (p_nilCheck rfl) (by decide) (fun _ => hS) ?_
    refine pw_pur rfl (wt_free rfl) (p_fieldAddr fo63_13 rfl) (by decide) (fun _ => hS) ?_
    refine pw_ld rfl (wt_free rfl) (by kernel_rfl) (Hold.runs_loadO (α := GSession) (β := GSession) ty56 rfl (Lens.id GSession) (List.Mem.head _)) (by decide) hS ?_
    refine pw_one ?_
    refine ow_valC rfl (wt_free rfl) (r_loadE (α := GPeer) (β := GRing) ty60 rfl rfl GPeer.l_ring (by first | omega | (simp; omega)) (hs.mem (List.Mem.tail _ (List.Mem.head _)))) (by decide) ?_
    refine ⟨fun _ => Hold.cons hs (List.Mem.tail _ (List.Mem.tail _ (List.Mem.tail _ (List.Mem.tail _ (List.Mem.head _))))) (Hold.nil hs (PH.refl _)), ?_⟩; have hS := Hold.cons hs (List.Mem.tail _ (List.Mem.tail _ (List.Mem.tail _ (List.Mem.tail _ (List.Mem.head _))))) (Hold.nil hs (PH.refl _))
    refine pw_one ?_
    refine ow_call2 rfl (wt_free rfl) fn42 (s_answer hs) rfl rfl ?_ (by decide)
    clear hs hS
    rintro _ w ⟨v2, rfl, ho⟩
    obtain ⟨V2, a2, c2, hV2, hs, rfl, hl2⟩ := ho.freeze
    refine ⟨fun h => absurd h (by decide), ?_⟩; have hS := True.intro
    refine pw_pur rfl (wt_free rfl) (p_moveT rfl) (by decide) (fun h => absurd h (by decide)) ?_
    refine pw_pur rfl (wt_free rfl) (p_extract rfl rfl) (by decide) (fun h => absurd h (by decide)) ?_
    refine pw_pur rfl (wt_free rfl) (p_extract rfl rfl) (by decide) (fun h => absurd h (by decide)) ?_
    refine pw_pur rfl (wt_free rfl) (p_nilCheck rfl) (by decide) (fun h => absurd h (by decide)) ?_
    refine pw_pur rfl (wt_free rfl) (p_fieldAddr fo63_13 rfl) (by decide) (fun h => absurd h (by decide)) ?_
    refine pw_one ?_
    refine ow_storeE (α := GPeer) (β := GRing) rfl (wt_free rfl) ty60 rfl rfl rfl GPeer.l_ring (by first | omega | (simp; omega)) hs (Rep.tail Rep.head) ?_; clear hs; intro w hs
    refine ⟨fun h => absurd h (by decide), ?_⟩; have hS := True.intro
    refine pw_pur rfl (wt_free rfl) (p_assignL rfl) (by decide) (fun h => absurd h (by decide)) ?_
    refine pw_done ?_
    refine cw_seq ?_
    have hgen : ∃ (r' : GRing) (xs : List UInt32), instR ps[i].ring s o = r' ∧ instD ps[i].ring o = xs := ⟨_, _, rfl, rfl⟩
    obtain ⟨r', xs, hr', hxs⟩ := hgen
    have hxl : xs.length ≤ 2 := by rw [← hxs]; exact instD_len _ _
    replace hl2 : Sl V2 46 a2 c2 xs := by
      rw [← hxs]
      first
      | (rw [show instD ps[i].ring o = _ from if_pos hc4]; exact hl2)
      | (rw [show instD ps[i].ring o = _ from if_neg (by rw [hc4]; decide)]; exact hl2)
    have hring : (if o then begR ps[i].ring s else ansR ps[i].ring s) = r' := hr'
    have hdrop : (if o then begD ps[i].ring else localsP [ps[i].ring.previous, ps[i].ring.next]) = xs := hxs
    first
    | rw [if_pos hc4] at hring hdrop
    | rw [if_neg (by rw [hc4]; decide)] at hring hdrop
    rw [hring] at hs
    have hdl := dropAll_len ss xs
    refine cw_region ?_
    refine l_pur (p_moveL rfl) (by decide) ?_
    refine l_call2 fn43 (s_mdrop hs (hq1.mono hV2) hq2 (by omega) hl2 (by omega)) rfl (by rw [← hdrop]; rfl) ?_ (by decide)
    clear hs
    rintro _ w ⟨V3, q3, hV3, hs3, hs3l, hs⟩
    refine lw_nil ?_
    refine cw_seq ?_
    have htk := fun (w : World) (L : List (Nat × Obj)) (hs : St W0 V3 w L) => s_take (k := s.loc) (peer := peer) (se := true) hs hs3 (by omega) (by have := UInt32.pos_iff_ne_zero.2 hx; exact UInt32.le_iff_toNat_le.2 (by have := UInt32.lt_iff_toNat_lt.1 this; simp at this ⊢; omega)) (dropAll_none hfree)
    rw [← hs3l] at htk
    refine cw_region ?_
    refine l_pur (p_fieldAddr fo128_0 rfl) (by decide) ?_
    refine l_pur (p_fieldAddr fo35_8 rfl) (by decide) ?_
    refine l_loadO (α := GRMach) (β := GSl) ty30 rfl (Lens.comp GRMach.l_d GDaemon.l_slots) hs (List.Mem.head _) (by decide) ?_
    refine l_pur (p_fieldAddr fo56_0 rfl) (by decide) ?_
    refine l_loadO (α := GSession) (β := UInt32) ty46 rfl GSession.l_loc hs (List.Mem.tail _ (List.Mem.tail _ (List.Mem.tail _ (List.Mem.tail _ (List.Mem.head _))))) (by decide) ?_
    refine l_loadO (α := (Vec 32 UInt8)) (β := (Vec 32 UInt8)) ty27 rfl (Lens.id (Vec 32 UInt8)) hs (List.Mem.tail _ (List.Mem.tail _ (List.Mem.tail _ (List.Mem.tail _ (List.Mem.tail _ (List.Mem.head _)))))) (by decide) ?_
    refine l_call4 fn44 (htk _ _ hs) rfl rfl rfl rfl ?_ (by decide)
    clear hs
    rintro _ w ⟨v1, rfl, ho⟩
    obtain ⟨V4, a4, c4, hV4, hs, rfl, hl4⟩ := ho.freeze
    refine l_pur (p_moveT rfl) (by decide) ?_
    refine l_pur (p_extract rfl rfl) (by decide) ?_
    refine l_pur (p_extract rfl rfl) (by decide) ?_
    refine l_pur (p_extract rfl rfl) (by decide) ?_
    refine l_pur (p_fieldAddr fo128_0 rfl) (by decide) ?_
    refine l_pur (p_fieldAddr fo35_8 rfl) (by decide) ?_
    refine l_store0 (α := GRMach) (β := GSl) (z := (⟨_, _, _⟩ : GSl)) ty30 rfl rfl (Lens.comp GRMach.l_d GDaemon.l_slots) hs ?_; clear hs; intro w hs
    refine lw_nil ?_
    refine cw_seq ?_
    have hcp2 : (ps.set i { ps[i] with ring := r' }).length ≤ cp := by simpa using hcp
    replace hs := hs.swap
    obtain ⟨V5, hV5, hs, hl5⟩ := hs.freezeArr hcp2
    have hV15 : V1 ≤ V5 := PH.trans hV2 (PH.trans hV3 (PH.trans hV4 hV5))
    refine cw_region ?_
    refine l_pur (p_moveI rfl) (by decide) ?_
    refine l_pur (p_fieldAddr fo35_0 rfl) (by decide) ?_
    refine l_pur (p_fieldAddr fo25_3 rfl) (by decide) ?_
    refine l_loadO (α := GDaemon) (β := Int) ty2 rfl (Lens.comp GDaemon.l_rules GRules.l_rejectTime) hs (List.Mem.tail _ (List.Mem.tail _ (List.Mem.tail _ (List.Mem.tail _ (List.Mem.tail _ (List.Mem.head _)))))) (by decide) ?_
    refine l_pur (p_mul64 rfl rfl (by first | omega | (dsimp only; omega) | (simp; omega))) (by decide) ?_
    refine l_call4 fn45 (s_mset (ps := ps.set i { ps[i] with ring := r' }) (ts := ts) (i := i) hs hl5 (by show ps.length = _; simp) (by simpa using hi) (ht1.mono hV15) ht2 (by omega) h.now (by omega)) rfl rfl rfl rfl ?_ (by decide)
    clear hs
    rintro _ w ⟨V6, q6, hV6, hs6, hs6l, hs⟩
    refine lw_nil ?_
    refine cw_seq (cw_region ?_)
    refine l_pur (p_fieldAddr fo128_0 rfl) (by decide) ?_
    refine l_loadO (α := GRMach) (β := GDaemon) ty35 rfl GRMach.l_d hs (List.Mem.head _) (by decide) ?_
    refine l_store2 (α := GDaemon) (β := GDaemon) ty35 rfl rfl (Lens.id GDaemon) hs ?_; clear hs; intro w hs
    refine l_pur (p_assignC) (by decide) ?_
    refine lw_nil ?_
    refine cw_ret ?_
    repeat (with_reducible first | refine tf_ret ?_ | refine ib_ret ?_)
    refine fin2 (fn := Tryz.f20) rfl (rv_own (α := GDaemon) ty35 rfl (hs.mem (List.Mem.tail _ (List.Mem.tail _ (List.Mem.head _))))) (rv_tmpI rfl) ?_
    refine ⟨V6, ⟨some ⟨bp, 0, none⟩, ps.length, cp⟩, qr, ⟨a4, _, c4⟩, q6, PH.trans hV1 (PH.trans hV15 hV6), rfl, ?_, hs.drop1.drop1.drop1.drop1.drop1.drop1⟩
    have e1 : (ps.set i { ps[i] with ring := r' })[i]'(by simpa using hi) = { ps[i] with ring := r' } := by simp
    rw [e1] at hs6 hs6l
    rw [hr', hxs]
    exact ⟨hl5.mono hV6, by simp, hr1.mono (PH.trans hV15 hV6), hr2, hl4.mono (PH.trans hV5 hV6), rfl, hs6, hs6l, hd.re, hd.bu⟩
end Go.Bur
namespace Go.Bur
open Go Go.RowKit Go.Proofs
set_option maxHeartbeats 4000000
variable {W0 : World} {V : PH} {w : World} {L : List (Nat × Obj)}
theorem u64_submin (a b : UInt64) (h : a.toNat ≤ 18446744073709543423) : (a - min a b).toNat ≤ 18446744073709543423 := by
  have hle : min a b ≤ a := by
    by_cases hh : a ≤ b
    · rw [show min a b = a from if_pos hh]; exact UInt64.le_refl _
    · rw [show min a b = b from if_neg hh]; exact UInt64.le_of_lt (UInt64.not_le.1 hh)
  rw [UInt64.toNat_sub_of_le _ _ hle]; omega
theorem s_session {b : Nat} {c : GCodes} {d : GDaemon} {x : UInt32} (hs : St W0 V w ((b, blk 93 c) :: L)) (hc : CodeOk V c) (hnow : 0 ≤ d.now ∧ d.now ≤ 1099511627776) (hr : RulesOk d.rules) :
    Calls Tryz.prog 21 #[ptr b 0, val d, val x] w (okR fun v w' => ∃ (s : GSession) (c' : GCodes), v = val s ∧ s.loc = x ∧ SoundS d s ∧ CodeOk V c' ∧ St W0 V w' ((b, blk 93 c') :: L)) := by
  have hm3 := hr.m3
  refine fn_enter (n := 82) Tryz.func21 rfl rfl rfl ?_
  intro f hf
  have e0 := hf 0
  have e1 := hf 1
  have e2 := hf 2
  simp only [Array.getD_eq_getD_getElem?, List.getElem?_toArray, List.getElem?_cons_zero, List.getElem?_cons_succ, Option.getD_some] at e0 e1 e2
  clear hf
  refine cw_seq (cw_region ?_)
  refine l_box (α := GDaemon) e1 hs (by decide) ?_; clear hs; intro b4 w hs
  refine l_alloc z56 hs (by decide) ?_; clear hs; intro b6 w hs
  refine lw_nil ?_
  refine cw_seq ?_
  have hS := Hold.cons hs (List.Mem.tail _ (List.Mem.head _)) (Hold.nil hs (PH.refl _))
  refine cw_planH (.take 0 (.take 1 (.take 2 (.take 3 (.take 4 (.one 5 (.take 6 (.take 7 (.take 8 (.take 9 .done)))))))))) 255 hmix (by kernel_rfl) (fun _ _ _ h => h) hs hS ?_
  clear hS; clear hs; intro w hs; have hS := Hold.cons hs (List.Mem.tail _ (List.Mem.head _)) (Hold.nil hs (PH.refl _))
  refine pw_pur rfl (wt_free rfl) (p_fieldAddr fo35_5 rfl) (by decide) (fun _ => hS) ?_
  refine pw_ld rfl (wt_free rfl) (by kernel_rfl) (Hold.runs_loadO (α := GDaemon) (β := Int) ty2 rfl GDaemon.l_now (List.Mem.head _)) (by decide) hS ?_
  refine pw_pur rfl (wt_free rfl) (p_fieldAddr fo35_5 rfl) (by decide) (fun _ => hS) ?_
  refine pw_ld rfl (wt_free rfl) (by kernel_rfl) (Hold.runs_loadO (α := GDaemon) (β := Int) ty2 rfl GDaemon.l_now (List.Mem.head _)) (by decide) hS ?_
  refine pw_pur rfl (wt_free rfl) (p_move e0) (by decide) (fun _ => hS) ?_
  refine pw_one ?_
  refine ow_call2 rfl (wt_free rfl) fn13 (s_next hs.rot2 hc (by decide)) rfl rfl ?_ (by decide)
  clear hs hS
  rintro _ w ⟨r1, c1, rfl, hr1, ok1, hs⟩
  replace hs := hs.unrot2
  refine ⟨fun _ => Hold.cons hs (List.Mem.tail _ (List.Mem.head _)) (Hold.nil hs (PH.refl _)), ?_⟩; have hS := Hold.cons hs (List.Mem.tail _ (List.Mem.head _)) (Hold.nil hs (PH.refl _))
  refine pw_pur rfl (wt_free rfl) (p_mul64 rfl rfl (by first | omega | (dsimp only; omega) | (simp; omega))) (by decide) (fun _ => hS) ?_
  refine pw_pur rfl (wt_free rfl) (p_min rfl rfl) (by decide) (fun _ => hS) ?_
  refine pw_pur rfl (wt_free rfl) (p_sub64 rfl rfl (by first | omega | (dsimp only; omega) | (simp; omega))) (by decide) (fun h => absurd h (by decide)) ?_
  refine pw_pur rfl (wt_free rfl) (p_assignI rfl) (by decide) (fun h => absurd h (by decide)) ?_
  refine pw_done ?_
  refine cw_cut (M := fun f w => ∃ (b8 : Nat) (z : GSession) (cc : GCodes), f 0 = ptr b 0 ∧ f 2 = val x ∧ f 8 = ptr b8 0 ∧ f 6 = ptr b6 0 ∧ z.loc = x ∧ SoundS d z ∧ CodeOk V cc ∧ St W0 V w ((b8, blk 56 z) :: (b6, blk 56 GSession.zero) :: (b4, blk 35 d) :: (b, blk 93 cc) :: L)) ?_ ?_
  · have hS := Hold.cons hs (List.Mem.tail _ (List.Mem.head _)) (Hold.nil hs (PH.refl _))
    refine cw_planH (.take 0 (.take 1 (.take 2 (.take 3 (.take 5 (.take 7 (.take 8 (.take 10 (.take 11 (.take 12 (.two 4 (.two 6 (.two 9 (.two 13 (.one 14 (.one 15 .done)) 14 (.one 13 (.one 15 .done))) 14 (.one 9 (.one 13 (.one 15 .done)))) 14 (.one 6 (.one 9 (.one 13 (.one 15 .done))))) 14 (.one 4 (.one 6 (.one 9 (.one 13 (.one 15 .done)))))))))))))))) 24575 hmix (by kernel_rfl) (fun _ _ _ h => h) hs hS ?_
    clear hS; clear hs; intro w hs; have hS := Hold.cons hs (List.Mem.tail _ (List.Mem.head _)) (Hold.nil hs (PH.refl _))
    refine pw_pur rfl (wt_free rfl) (p_move e2) (by decide) (fun _ => hS) ?_
    refine pw_pur rfl (wt_free rfl) (p_move e2) (by decide) (fun _ => hS) ?_
    refine pw_pur rfl (wt_free rfl) (p_add_u32 (a := (7000 : UInt32)) rfl rfl) (by decide) (fun _ => hS) ?_
    refine pw_pur rfl (wt_free rfl) (p_move e0) (by decide) (fun _ => hS) ?_
    refine pw_pur rfl (wt_free rfl) (p_move e0) (by decide) (fun _ => hS) ?_
    refine pw_pur rfl (wt_free rfl) (p_moveI rfl) (by decide) (fun _ => hS) ?_
    refine pw_pur rfl (wt_free rfl) (p_move e0) (by decide) (fun _ => hS) ?_
    refine pw_pur rfl (wt_free rfl) (p_fieldAddr fo35_0 rfl) (by decide) (fun _ => hS) ?_
    refine pw_pur rfl (wt_free rfl) (p_fieldAddr fo25_1 rfl) (by decide) (fun _ => hS) ?_
    refine pw_ld rfl (wt_free rfl) (by kernel_rfl) (Hold.runs_loadO (α := GDaemon) (β := UInt64) ty23 rfl (Lens.comp GDaemon.l_rules GRules.l_rejectMessages) (List.Mem.head _)) (by decide) hS ?_
    refine pw_two ?_ ?_
    · refine ow_call1 rfl (wt_free rfl) fn11 (s_key hs.rot2 ok1) rfl ?_ (by decide)
      clear hs hS
      rintro _ w ⟨k2, c2, rfl, ok2, hs⟩
      replace hs := hs.unrot2
      refine ⟨fun _ => Hold.cons hs (List.Mem.tail _ (List.Mem.head _)) (Hold.nil hs (PH.refl _)), ?_⟩; have hS := Hold.cons hs (List.Mem.tail _ (List.Mem.head _)) (Hold.nil hs (PH.refl _))
      refine pw_two ?_ ?_
      · refine ow_call1 rfl (wt_free rfl) fn11 (s_key hs.rot2 ok2) rfl ?_ (by decide)
        clear hs hS
        rintro _ w ⟨k3, c3, rfl, ok3, hs⟩
        replace hs := hs.unrot2
        refine ⟨fun _ => Hold.cons hs (List.Mem.tail _ (List.Mem.head _)) (Hold.nil hs (PH.refl _)), ?_⟩; have hS := Hold.cons hs (List.Mem.tail _ (List.Mem.head _)) (Hold.nil hs (PH.refl _))
        refine pw_two ?_ ?_
        · refine ow_call1 rfl (wt_free rfl) fn22 (s_bool hs.rot2 ok3) rfl ?_ (by decide)
          clear hs hS
          rintro _ w ⟨o4, c4, rfl, ok4, hs⟩
          replace hs := hs.unrot2
          refine ⟨fun _ => Hold.cons hs (List.Mem.tail _ (List.Mem.head _)) (Hold.nil hs (PH.refl _)), ?_⟩; have hS := Hold.cons hs (List.Mem.tail _ (List.Mem.head _)) (Hold.nil hs (PH.refl _))
          refine pw_two ?_ ?_
          · refine ow_call7 rfl (wt_free rfl) fn46 (s_newS hs) rfl rfl rfl rfl rfl rfl rfl ?_ (by decide)
            clear hs hS
            rintro _ w ⟨rfl, hs⟩
            refine ⟨fun h => absurd h (by decide), ?_⟩; have hS := True.intro
            refine pw_one ?_
            refine ow_alloc rfl (wt_free rfl) z56 hs (by decide) ?_; clear hs; intro b8 w hs
            refine ⟨fun _ => Hold.cons hs (List.Mem.tail _ (List.Mem.tail _ (List.Mem.head _))) (Hold.nil hs (PH.refl _)), ?_⟩; have hS := Hold.cons hs (List.Mem.tail _ (List.Mem.tail _ (List.Mem.head _))) (Hold.nil hs (PH.refl _))
            refine pw_one ?_
            refine ow_store0 (α := GSession) (β := GSession) rfl (wt_free rfl) ty56 rfl rfl (Lens.id GSession) hs ?_; clear hs; intro w hs
            refine ⟨fun h => absurd h (by decide), ?_⟩; have hS := True.intro
            refine pw_done ?_
            exact ⟨_, _, _, e0, e2, rfl, rfl, by rfl, ⟨⟨by show 0 ≤ d.now - min d.now ((r1 : Int) * 5000); omega, by show d.now - min d.now ((r1 : Int) * 5000) ≤ d.now; omega⟩, rfl, by show (0 : UInt64) ≤ _; decide, .inr rfl⟩, ok4, hs⟩
          · refine ow_alloc rfl (wt_free rfl) z56 hs (by decide) ?_; clear hs; intro b8 w hs
            refine ⟨fun _ => Hold.cons hs (List.Mem.tail _ (List.Mem.tail _ (List.Mem.head _))) (Hold.nil hs (PH.refl _)), ?_⟩; have hS := Hold.cons hs (List.Mem.tail _ (List.Mem.tail _ (List.Mem.head _))) (Hold.nil hs (PH.refl _))
            refine pw_one ?_
            refine ow_call7 rfl (wt_free rfl) fn46 (s_newS hs) rfl rfl rfl rfl rfl rfl rfl ?_ (by decide)
            clear hs hS
            rintro _ w ⟨rfl, hs⟩
            refine ⟨fun h => absurd h (by decide), ?_⟩; have hS := True.intro
            refine pw_one ?_
            refine ow_store0 (α := GSession) (β := GSession) rfl (wt_free rfl) ty56 rfl rfl (Lens.id GSession) hs ?_; clear hs; intro w hs
            refine ⟨fun h => absurd h (by decide), ?_⟩; have hS := True.intro
            refine pw_done ?_
            exact ⟨_, _, _, e0, e2, rfl, rfl, by rfl, ⟨⟨by show 0 ≤ d.now - min d.now ((r1 : Int) * 5000); omega, by show d.now - min d.now ((r1 : Int) * 5000) ≤ d.now; omega⟩, rfl, by show (0 : UInt64) ≤ _; decide, .inr rfl⟩, ok4, hs⟩
        · refine ow_alloc rfl (wt_free rfl) z56 hs (by decide) ?_; clear hs; intro b8 w hs
          refine ⟨fun _ => Hold.cons hs (List.Mem.tail _ (List.Mem.tail _ (List.Mem.head _))) (Hold.nil hs (PH.refl _)), ?_⟩; have hS := Hold.cons hs (List.Mem.tail _ (List.Mem.tail _ (List.Mem.head _))) (Hold.nil hs (PH.refl _))
          refine pw_one ?_
          refine ow_call1 rfl (wt_free rfl) fn22 (s_bool hs.rot3 ok3) rfl ?_ (by decide)
          clear hs hS
          rintro _ w ⟨o4, c4, rfl, ok4, hs⟩
          replace hs := hs.unrot3
          refine ⟨fun _ => Hold.cons hs (List.Mem.tail _ (List.Mem.tail _ (List.Mem.head _))) (Hold.nil hs (PH.refl _)), ?_⟩; have hS := Hold.cons hs (List.Mem.tail _ (List.Mem.tail _ (List.Mem.head _))) (Hold.nil hs (PH.refl _))
          refine pw_one ?_
          refine ow_call7 rfl (wt_free rfl) fn46 (s_newS hs) rfl rfl rfl rfl rfl rfl rfl ?_ (by decide)
          clear hs hS
          rintro _ w ⟨rfl, hs⟩
          refine ⟨fun h => absurd h (by decide), ?_⟩; have hS := True.intro
          refine pw_one ?_
          refine ow_store0 (α := GSession) (β := GSession) rfl (wt_free rfl) ty56 rfl rfl (Lens.id GSession) hs ?_; clear hs; intro w hs
          refine ⟨fun h => absurd h (by decide), ?_⟩; have hS := True.intro
          refine pw_done ?_
          exact ⟨_, _, _, e0, e2, rfl, rfl, by rfl, ⟨⟨by show 0 ≤ d.now - min d.now ((r1 : Int) * 5000); omega, by show d.now - min d.now ((r1 : Int) * 5000) ≤ d.now; omega⟩, rfl, by show (0 : UInt64) ≤ _; decide, .inr rfl⟩, ok4, hs⟩
      · refine ow_alloc rfl (wt_free rfl) z56 hs (by decide) ?_; clear hs; intro b8 w hs
        refine ⟨fun _ => Hold.cons hs (List.Mem.tail _ (List.Mem.tail _ (List.Mem.head _))) (Hold.nil hs (PH.refl _)), ?_⟩; have hS := Hold.cons hs (List.Mem.tail _ (List.Mem.tail _ (List.Mem.head _))) (Hold.nil hs (PH.refl _))
        refine pw_one ?_
        refine ow_call1 rfl (wt_free rfl) fn11 (s_key hs.rot3 ok2) rfl ?_ (by decide)
        clear hs hS
        rintro _ w ⟨k3, c3, rfl, ok3, hs⟩
        replace hs := hs.unrot3
        refine ⟨fun _ => Hold.cons hs (List.Mem.tail _ (List.Mem.tail _ (List.Mem.head _))) (Hold.nil hs (PH.refl _)), ?_⟩; have hS := Hold.cons hs (List.Mem.tail _ (List.Mem.tail _ (List.Mem.head _))) (Hold.nil hs (PH.refl _))
        refine pw_one ?_
        refine ow_call1 rfl (wt_free rfl) fn22 (s_bool hs.rot3 ok3) rfl ?_ (by decide)
        clear hs hS
        rintro _ w ⟨o4, c4, rfl, ok4, hs⟩
        replace hs := hs.unrot3
        refine ⟨fun _ => Hold.cons hs (List.Mem.tail _ (List.Mem.tail _ (List.Mem.head _))) (Hold.nil hs (PH.refl _)), ?_⟩; have hS := Hold.cons hs (List.Mem.tail _ (List.Mem.tail _ (List.Mem.head _))) (Hold.nil hs (PH.refl _))
        refine pw_one ?_
        refine ow_call7 rfl (wt_free rfl) fn46 (s_newS hs) rfl rfl rfl rfl rfl rfl rfl ?_ (by decide)
        clear hs hS
        rintro _ w ⟨rfl, hs⟩
        refine ⟨fun h => absurd h (by decide), ?_⟩; have hS := True.intro
        refine pw_one ?_
        refine ow_store0 (α := GSession) (β := GSession) rfl (wt_free rfl) ty56 rfl rfl (Lens.id GSession) hs ?_; clear hs; intro w hs
        refine ⟨fun h => absurd h (by decide), ?_⟩; have hS := True.intro
        refine pw_done ?_
        exact ⟨_, _, _, e0, e2, rfl, rfl, by rfl, ⟨⟨by show 0 ≤ d.now - min d.now ((r1 : Int) * 5000); omega, by show d.now - min d.now ((r1 : Int) * 5000) ≤ d.now; omega⟩, rfl, by show (0 : UInt64) ≤ _; decide, .inr rfl⟩, ok4, hs⟩
    · refine ow_alloc rfl (wt_free rfl) z56 hs (by decide) ?_; clear hs; intro b8 w hs
      refine ⟨fun _ => Hold.cons hs (List.Mem.tail _ (List.Mem.tail _ (List.Mem.head _))) (Hold.nil hs (PH.refl _)), ?_⟩; have hS := Hold.cons hs (List.Mem.tail _ (List.Mem.tail _ (List.Mem.head _))) (Hold.nil hs (PH.refl _))
      refine pw_one ?_
      refine ow_call1 rfl (wt_free rfl) fn11 (s_key hs.rot3 ok1) rfl ?_ (by decide)
      clear hs hS
      rintro _ w ⟨k2, c2, rfl, ok2, hs⟩
      replace hs := hs.unrot3
      refine ⟨fun _ => Hold.cons hs (List.Mem.tail _ (List.Mem.tail _ (List.Mem.head _))) (Hold.nil hs (PH.refl _)), ?_⟩; have hS := Hold.cons hs (List.Mem.tail _ (List.Mem.tail _ (List.Mem.head _))) (Hold.nil hs (PH.refl _))
      refine pw_one ?_
      refine ow_call1 rfl (wt_free rfl) fn11 (s_key hs.rot3 ok2) rfl ?_ (by decide)
      clear hs hS
      rintro _ w ⟨k3, c3, rfl, ok3, hs⟩
      replace hs := hs.unrot3
      refine ⟨fun _ => Hold.cons hs (List.Mem.tail _ (List.Mem.tail _ (List.Mem.head _))) (Hold.nil hs (PH.refl _)), ?_⟩; have hS := Hold.cons hs (List.Mem.tail _ (List.Mem.tail _ (List.Mem.head _))) (Hold.nil hs (PH.refl _))
      refine pw_one ?_
      refine ow_call1 rfl (wt_free rfl) fn22 (s_bool hs.rot3 ok3) rfl ?_ (by decide)
      clear hs hS
      rintro _ w ⟨o4, c4, rfl, ok4, hs⟩
      replace hs := hs.unrot3
      refine ⟨fun _ => Hold.cons hs (List.Mem.tail _ (List.Mem.tail _ (List.Mem.head _))) (Hold.nil hs (PH.refl _)), ?_⟩; have hS := Hold.cons hs (List.Mem.tail _ (List.Mem.tail _ (List.Mem.head _))) (Hold.nil hs (PH.refl _))
      refine pw_one ?_
      refine ow_call7 rfl (wt_free rfl) fn46 (s_newS hs) rfl rfl rfl rfl rfl rfl rfl ?_ (by decide)
      clear hs hS
      rintro _ w ⟨rfl, hs⟩
      refine ⟨fun h => absurd h (by decide), ?_⟩; have hS := True.intro
      refine pw_one ?_
      refine ow_store0 (α := GSession) (β := GSession) rfl (wt_free rfl) ty56 rfl rfl (Lens.id GSession) hs ?_; clear hs; intro w hs
      refine ⟨fun h => absurd h (by decide), ?_⟩; have hS := True.intro
      refine pw_done ?_
      exact ⟨_, _, _, e0, e2, rfl, rfl, by rfl, ⟨⟨by show 0 ≤ d.now - min d.now ((r1 : Int) * 5000); omega, by show d.now - min d.now ((r1 : Int) * 5000) ≤ d.now; omega⟩, rfl, by show (0 : UInt64) ≤ _; decide, .inr rfl⟩, ok4, hs⟩
  · clear hs
    intro f w hI
    obtain ⟨b8, z0, c4, e0, e2, e8, e6, hz01, hz02, ok4, hs⟩ := hI
    refine cw_seq (cw_region ?_)
    refine l_pur (p_move e2) (by decide) ?_
    refine l_pur (p_conv_u8 Tryz.underlying46 Tryz.underlying5 rfl) (by decide) ?_
    refine l_pur (p_move e2) (by decide) ?_
    refine l_pur (p_conv_u8 Tryz.underlying46 Tryz.underlying5 rfl) (by decide) ?_
    refine l_pur (p_fieldAddr fo56_2 e8) (by decide) ?_
    refine l_pur (p_indexArr Tryz.underlying27 ty5.size rfl rfl (by (first | omega | decide | (dsimp only; omega) | (simp; omega)))) (by decide) ?_
    refine l_store0 (α := GSession) (β := UInt8) ty5 rfl rfl (Lens.comp GSession.l_send (Lens.idx (α := UInt8) (n := 32) _ (by first | omega | decide | (simp; omega) | simp | exact umod4n _))) hs ?_; clear hs; intro w hs
    refine l_pur (p_fieldAddr fo56_3 e8) (by decide) ?_
    refine l_pur (p_indexArr Tryz.underlying27 ty5.size rfl rfl (by (first | omega | decide | (dsimp only; omega) | (simp; omega)))) (by decide) ?_
    refine l_store0 (α := GSession) (β := UInt8) ty5 rfl rfl (Lens.comp GSession.l_recv (Lens.idx (α := UInt8) (n := 32) _ (by first | omega | decide | (simp; omega) | simp | exact umod4n _))) hs ?_; clear hs; intro w hs
    refine lw_nil ?_
    refine cw_cut (M := fun f w => ∃ (z : GSession), f 0 = ptr b 0 ∧ f 8 = ptr b8 0 ∧ f 6 = ptr b6 0 ∧ z.loc = x ∧ SoundS d z ∧ St W0 V w ((b8, blk 56 z) :: (b6, blk 56 GSession.zero) :: (b4, blk 35 d) :: (b, blk 93 c4) :: L)) ?_ ?_
    · refine cw_region ?_
      refine l_pur (p_fieldAddr fo56_2 e8) (by decide) ?_
      refine l_pur (p_indexArr Tryz.underlying27 ty5.size rfl rfl (by (first | omega | decide | (dsimp only; omega) | (simp; omega)))) (by decide) ?_
      refine l_store0 (α := GSession) (β := UInt8) (z := (1 : UInt8)) ty5 rfl rfl (Lens.comp GSession.l_send (Lens.idx (α := UInt8) (n := 32) _ (by first | omega | decide | (simp; omega) | simp | exact umod4n _))) hs ?_; clear hs; intro w hs
      refine l_pur (p_fieldAddr fo56_3 e8) (by decide) ?_
      refine l_pur (p_indexArr Tryz.underlying27 ty5.size rfl rfl (by (first | omega | decide | (dsimp only; omega) | (simp; omega)))) (by decide) ?_
      refine l_store0 (α := GSession) (β := UInt8) (z := (2 : UInt8)) ty5 rfl rfl (Lens.comp GSession.l_recv (Lens.idx (α := UInt8) (n := 32) _ (by first | omega | decide | (simp; omega) | simp | exact umod4n _))) hs ?_; clear hs; intro w hs
      refine lw_nil ?_
      refine ⟨_, e0, e8, e6, ?_, ?_, hs⟩
      · exact hz01
      · exact ⟨hz02.born, hz02.fence, hz02.next, hz02.window⟩
    · clear hs
      intro f w hI
      obtain ⟨z, e0, e8, e6, hz1, hz2, hs⟩ := hI
      refine cw_cut (M := fun f w => ∃ (z : GSession) (cc : GCodes), f 0 = ptr b 0 ∧ f 8 = ptr b8 0 ∧ f 6 = ptr b6 0 ∧ z.loc = x ∧ SoundS d z ∧ CodeOk V cc ∧ St W0 V w ((b8, blk 56 z) :: (b6, blk 56 GSession.zero) :: (b4, blk 35 d) :: (b, blk 93 cc) :: L)) ?_ ?_
      · refine cw_seq (cw_region ?_)
        refine l_pur (p_move e0) (by decide) ?_
        refine l_call2 fn13 (s_next hs.rot3 ok4 (by decide)) rfl rfl ?_ (by decide)
        clear hs
        rintro _ w ⟨r5, c5, rfl, hr5, ok5, hs⟩
        replace hs := hs.unrot3
        refine lw_nil ?_
        refine cw_block ?_
        refine cw_seq (cw_region ?_)
        refine l_pur (p_eql rfl rfl) (by decide) ?_
        refine l_pur (p_assignB rfl) (by decide) ?_
        refine lw_nil ?_
        refine cw_cond _ rfl (fun hc0 => ?_) (fun hc0 => ?_)
        · try simp only [decide_eq_true_eq, decide_eq_false_iff_not, Bool.not_eq_true', Bool.not_eq_false', beq_iff_eq, bne_iff_ne, beq_eq_false_iff_ne, bne_eq_false_iff_eq] at hc0
          refine cw_region ?_
          refine l_pur (p_move e0) (by decide) ?_
          refine l_call2 fn13 (s_next hs.rot3 ok5 (by decide)) rfl rfl ?_ (by decide)
          clear hs
          rintro _ w ⟨r6, c6, rfl, hr6, ok6, hs⟩
          replace hs := hs.unrot3
          refine l_pur (p_conv_u64 Tryz.underlying3 Tryz.underlying23 rfl) (by decide) ?_
          refine l_pur (p_fieldAddr fo56_4 e8) (by decide) ?_
          refine l_store0 (α := GSession) (β := UInt64) ty23 rfl rfl GSession.l_next hs ?_; clear hs; intro w hs
          refine lw_nil ?_
          first
          | (refine ⟨_, _, e0, e8, e6, ?_, ?_, ok6, hs⟩
             · exact hz1
             · refine ⟨hz2.born, hz2.fence, ?_, hz2.window⟩
               have q := u64_ofInt r6 (by omega)
               refine UInt64.le_iff_toNat_le.2 ?_
               show (UInt64.ofInt (r6 : Int)).toNat ≤ _
               rw [q]; simp; omega)
          | (refine ⟨_, _, e0, e8, e6, ?_, ?_, ok6, hs⟩
             · exact hz1
             · refine ⟨hz2.born, hz2.fence, ?_, hz2.window⟩
               have q : z.fence.toNat ≤ 18446744073709543423 := by rw [hz2.fence]; exact hm3
               exact UInt64.le_iff_toNat_le.2 (u64_submin _ _ q))
          | exact ⟨_, _, e0, e8, e6, hz1, hz2, ok5, hs⟩
        · try simp only [decide_eq_true_eq, decide_eq_false_iff_not, Bool.not_eq_true', Bool.not_eq_false', beq_iff_eq, bne_iff_ne, beq_eq_false_iff_ne, bne_eq_false_iff_eq] at hc0
          refine cw_seq (cw_region ?_)
          refine l_pur (p_eql rfl rfl) (by decide) ?_
          refine l_pur (p_assignB rfl) (by decide) ?_
          refine lw_nil ?_
          refine cw_cond _ rfl (fun hc1 => ?_) (fun hc1 => ?_)
          · try simp only [decide_eq_true_eq, decide_eq_false_iff_not, Bool.not_eq_true', Bool.not_eq_false', beq_iff_eq, bne_iff_ne, beq_eq_false_iff_ne, bne_eq_false_iff_eq] at hc1
            have hS := Hold.cons hs (List.Mem.head _) (Hold.nil hs (PH.refl _))
            refine cw_planH (.take 0 (.take 1 (.take 2 (.take 3 (.take 4 (.one 5 (.take 6 (.take 7 (.take 8 (.take 9 (.one 10 .done))))))))))) 255 hmix (by kernel_rfl) (fun _ _ _ h => h) hs hS ?_
            clear hS; clear hs; intro w hs; have hS := Hold.cons hs (List.Mem.head _) (Hold.nil hs (PH.refl _))
            refine pw_pur rfl (wt_free rfl) (p_fieldAddr fo56_5 e8) (by decide) (fun _ => hS) ?_
            refine pw_ld rfl (wt_free rfl) (by kernel_rfl) (Hold.runs_loadO (α := GSession) (β := UInt64) ty23 rfl GSession.l_fence (List.Mem.head _)) (by decide) hS ?_
            refine pw_pur rfl (wt_free rfl) (p_fieldAddr fo56_5 e8) (by decide) (fun _ => hS) ?_
            refine pw_ld rfl (wt_free rfl) (by kernel_rfl) (Hold.runs_loadO (α := GSession) (β := UInt64) ty23 rfl GSession.l_fence (List.Mem.head _)) (by decide) hS ?_
            refine pw_pur rfl (wt_free rfl) (p_move e0) (by decide) (fun _ => hS) ?_
            refine pw_one ?_
            refine ow_call2 rfl (wt_free rfl) fn13 (s_next hs.rot3 ok5 (by decide)) rfl rfl ?_ (by decide)
            clear hs hS
            rintro _ w ⟨r6, c6, rfl, hr6, ok6, hs⟩
            replace hs := hs.unrot3
            refine ⟨fun _ => Hold.cons hs (List.Mem.head _) (Hold.nil hs (PH.refl _)), ?_⟩; have hS := Hold.cons hs (List.Mem.head _) (Hold.nil hs (PH.refl _))
            refine pw_pur rfl (wt_free rfl) (p_conv_u64 Tryz.underlying3 Tryz.underlying23 rfl) (by decide) (fun _ => hS) ?_
            refine pw_pur rfl (wt_free rfl) (p_min_u64 rfl rfl) (by decide) (fun _ => hS) ?_
            refine pw_pur rfl (wt_free rfl) (p_sub_u64 rfl rfl) (by decide) (fun h => absurd h (by decide)) ?_
            refine pw_pur rfl (wt_free rfl) (p_fieldAddr fo56_4 e8) (by decide) (fun h => absurd h (by decide)) ?_
            refine pw_one ?_
            refine ow_store0 (α := GSession) (β := UInt64) rfl (wt_free rfl) ty23 rfl rfl GSession.l_next hs ?_; clear hs; intro w hs
            refine ⟨fun h => absurd h (by decide), ?_⟩; have hS := True.intro
            refine pw_done ?_
            first
            | (refine ⟨_, _, e0, e8, e6, ?_, ?_, ok6, hs⟩
               · exact hz1
               · refine ⟨hz2.born, hz2.fence, ?_, hz2.window⟩
                 have q := u64_ofInt r6 (by omega)
                 refine UInt64.le_iff_toNat_le.2 ?_
                 show (UInt64.ofInt (r6 : Int)).toNat ≤ _
                 rw [q]; simp; omega)
            | (refine ⟨_, _, e0, e8, e6, ?_, ?_, ok6, hs⟩
               · exact hz1
               · refine ⟨hz2.born, hz2.fence, ?_, hz2.window⟩
                 have q : z.fence.toNat ≤ 18446744073709543423 := by rw [hz2.fence]; exact hm3
                 exact UInt64.le_iff_toNat_le.2 (u64_submin _ _ q))
            | exact ⟨_, _, e0, e8, e6, hz1, hz2, ok5, hs⟩
          · try simp only [decide_eq_true_eq, decide_eq_false_iff_not, Bool.not_eq_true', Bool.not_eq_false', beq_iff_eq, bne_iff_ne, beq_eq_false_iff_ne, bne_eq_false_iff_eq] at hc1
            refine cw_skip ?_
            first
            | (refine ⟨_, _, e0, e8, e6, ?_, ?_, ok6, hs⟩
               · exact hz1
               · refine ⟨hz2.born, hz2.fence, ?_, hz2.window⟩
                 have q := u64_ofInt r6 (by omega)
                 refine UInt64.le_iff_toNat_le.2 ?_
                 show (UInt64.ofInt (r6 : Int)).toNat ≤ _
                 rw [q]; simp; omega)
            | (refine ⟨_, _, e0, e8, e6, ?_, ?_, ok6, hs⟩
               · exact hz1
               · refine ⟨hz2.born, hz2.fence, ?_, hz2.window⟩
                 have q : z.fence.toNat ≤ 18446744073709543423 := by rw [hz2.fence]; exact hm3
                 exact UInt64.le_iff_toNat_le.2 (u64_submin _ _ q))
            | exact ⟨_, _, e0, e8, e6, hz1, hz2, ok5, hs⟩
      · clear hs
        intro f w hI
        obtain ⟨z2, c7, e0, e8, e6, hz3, hz4, ok7, hs⟩ := hI
        refine cw_seq ?_
        refine cw_seq (cw_region ?_)
        refine l_pur (p_move e0) (by decide) ?_
        refine l_call2 fn13 (s_next hs.rot3 ok7 (by decide)) rfl rfl ?_ (by decide)
        clear hs
        rintro _ w ⟨r8, c8, rfl, hr8, ok8, hs⟩
        replace hs := hs.unrot3
        refine l_pur (p_assignI rfl) (by decide) ?_
        refine lw_nil ?_
        refine cw_block ?_
        refine cw_loop (fun q f w => ∃ (z : GSession) (cc : GCodes), q ≤ 3 ∧ f 9 = vi (q : Nat) ∧ f 0 = ptr b 0 ∧ f 8 = ptr b8 0 ∧ f 6 = ptr b6 0 ∧ z.loc = x ∧ SoundS d z ∧ CodeOk V cc ∧ St W0 V w ((b8, blk 56 z) :: (b6, blk 56 GSession.zero) :: (b4, blk 35 d) :: (b, blk 93 cc) :: L)) (r8) ?_ ?_
        · exact ⟨_, _, by omega, rfl, e0, e8, e6, hz3, hz4, ok8, hs⟩
        · intro q f w hI
          clear hs
          obtain ⟨z3, c9, hq, e9, e0, e8, e6, hz5, hz6, ok9, hs⟩ := hI
          refine cw_seq ?_
          refine cw_seq (cw_region ?_)
          refine l_pur (p_move e9) (by decide) ?_
          refine l_pur (p_gtr rfl rfl) (by decide) ?_
          refine lw_nil ?_
          refine cw_cond _ rfl (fun hc2 => ?_) (fun hc2 => ?_)
          · have hpos : 0 < q := by have := of_decide_eq_true hc2; omega
            refine cw_skip ?_
            refine cw_seq ?_
            refine cw_block ?_
            have hS := Hold.cons hs (List.Mem.head _) (Hold.nil hs (PH.refl _))
            refine cw_planH (.take 0 (.take 1 (.take 2 (.one 3 (.take 4 (.one 5 (.take 6 (.take 7 (.take 8 (.take 9 (.one 10 .done))))))))))) 31 hmix (by kernel_rfl) (fun _ _ _ h => h) hs hS ?_
            clear hS; clear hs; intro w hs; have hS := Hold.cons hs (List.Mem.head _) (Hold.nil hs (PH.refl _))
            refine pw_pur rfl (wt_free rfl) (p_fieldAddr fo56_6 e8) (by decide) (fun _ => hS) ?_
            refine pw_ld rfl (wt_free rfl) (by kernel_rfl) (Hold.runs_loadO (α := GSession) (β := GWindow) ty54 rfl GSession.l_window (List.Mem.head _)) (by decide) hS ?_
            refine pw_pur rfl (wt_free rfl) (p_move e0) (by decide) (fun _ => hS) ?_
            refine pw_one ?_
            refine ow_call2 rfl (wt_free rfl) fn13 (s_next hs.rot3 ok9 (by decide)) rfl rfl ?_ (by decide)
            clear hs hS
            rintro _ w ⟨r10, c10, rfl, hr10, ok10, hs⟩
            replace hs := hs.unrot3
            refine ⟨fun _ => Hold.cons hs (List.Mem.head _) (Hold.nil hs (PH.refl _)), ?_⟩; have hS := Hold.cons hs (List.Mem.head _) (Hold.nil hs (PH.refl _))
            refine pw_pur rfl (wt_free rfl) (p_conv_u64 Tryz.underlying3 Tryz.underlying23 rfl) (by decide) (fun _ => hS) ?_
            refine pw_one ?_
            refine ow_call2 rfl (wt_free rfl) fn47 (s_acceptw hs) rfl rfl ?_ (by decide)
            clear hs hS
            rintro _ w ⟨y, bo, rfl, hy, hs⟩
            refine ⟨fun h => absurd h (by decide), ?_⟩; have hS := True.intro
            refine pw_pur rfl (wt_free rfl) (p_moveT rfl) (by decide) (fun h => absurd h (by decide)) ?_
            refine pw_pur rfl (wt_free rfl) (p_extract rfl rfl) (by decide) (fun h => absurd h (by decide)) ?_
            refine pw_pur rfl (wt_free rfl) (p_extract rfl rfl) (by decide) (fun h => absurd h (by decide)) ?_
            refine pw_pur rfl (wt_free rfl) (p_fieldAddr fo56_6 e8) (by decide) (fun h => absurd h (by decide)) ?_
            refine pw_one ?_
            refine ow_store0 (α := GSession) (β := GWindow) rfl (wt_free rfl) ty54 rfl rfl GSession.l_window hs ?_; clear hs; intro w hs
            refine ⟨fun h => absurd h (by decide), ?_⟩; have hS := True.intro
            refine pw_done ?_
            refine cw_region ?_
            refine l_pur (p_move e9) (by decide) ?_
            refine l_pur (p_subN (a := _) (b := 1) rfl rfl (by first | omega | (dsimp only; omega) | (simp; omega)) (by first | omega | (dsimp only; omega) | (simp; omega))) (by decide) ?_
            refine l_pur (p_assignI rfl) (by decide) ?_
            refine lw_nil ?_
            refine ⟨q - 1, by omega, _, _, by omega, rfl, e0, e8, e6, ?_, ?_, ok10, hs⟩
            · exact hz5
            refine ⟨hz6.born, hz6.fence, hz6.next, ?_⟩
            rcases hy with rfl | hy
            · exact hz6.window
            · exact .inl hy
          · try simp only [decide_eq_true_eq, decide_eq_false_iff_not, Bool.not_eq_true', Bool.not_eq_false', beq_iff_eq, bne_iff_ne, beq_eq_false_iff_ne, bne_eq_false_iff_eq] at hc2
            refine cw_exit ?_
            refine cw_seq (cw_region ?_)
            refine l_loadO (α := GSession) (β := GSession) ty56 e8 (Lens.id GSession) hs (List.Mem.head _) (by decide) ?_
            refine l_store1 (α := GSession) (β := GSession) ty56 e6 rfl (Lens.id GSession) hs ?_; clear hs; intro w hs
            refine lw_nil ?_
            refine cw_ret ?_
            repeat (with_reducible first | refine tf_ret ?_ | refine ib_ret ?_)
            refine fin1 (fn := Tryz.f21) rfl (rv_own (α := GSession) ty56 e6 (hs.mem (List.Mem.tail _ (List.Mem.head _)))) ?_
            exact ⟨z3, c9, rfl, hz5, hz6, ok9, (hs.drop1.drop1.drop1)⟩
end Go.Bur
namespace Go.Bur
open Go Go.RowKit Go.Proofs
set_option maxHeartbeats 4000000
theorem bl_trans : ∀ (a b c : List UInt8), Op.bytesLess a b = true → Op.bytesLess b c = true → Op.bytesLess a c = true
  | _, [], _, h, _ => by simp [Op.bytesLess] at h
  | _, _ :: _, [], _, h => by simp [Op.bytesLess] at h
  | [], _ :: _, _ :: _, _, _ => by simp [Op.bytesLess]
  | x :: a, y :: b, z :: c, h, k => by
    simp only [Op.bytesLess, Bool.or_eq_true, Bool.and_eq_true, decide_eq_true_eq, beq_iff_eq] at *
    rcases h with h | ⟨h, h2⟩
    · rcases k with k | ⟨k, _⟩
      · exact .inl (UInt8.lt_trans h k)
      · subst k; exact .inl h
    · subst h
      rcases k with k | ⟨k, k2⟩
      · exact .inl k
      · exact .inr ⟨k, bl_trans a b c h2 k2⟩
theorem bl_total : ∀ (a b : List UInt8), a ≠ b → Op.bytesLess a b = false → Op.bytesLess b a = true
  | [], [], h, _ => absurd rfl h
  | [], _ :: _, _, h => by simp [Op.bytesLess] at h
  | _ :: _, [], _, _ => by simp [Op.bytesLess]
  | x :: a, y :: b, h, k => by
    simp only [Op.bytesLess, Bool.or_eq_false_iff, Bool.and_eq_false_iff, decide_eq_false_iff_not, beq_eq_false_iff_ne, Bool.or_eq_true, Bool.and_eq_true, decide_eq_true_eq, beq_iff_eq] at *
    by_cases e : x = y
    · subst e
      refine .inr ⟨rfl, bl_total a b (fun e => h (by rw [e])) ?_⟩
      exact k.2.resolve_left (fun h => h rfl)
    · left
      rcases UInt8.lt_or_lt_of_ne e with h1 | h1
      · exact absurd h1 k.1
      · exact h1
theorem lessT_trans {a b c : GTimer} (h : lessT a b = true) (k : lessT b c = true) : lessT a c = true := by
  unfold lessT at *
  by_cases e1 : a.at_ = b.at_
  · rw [if_pos e1] at h
    by_cases e2 : b.at_ = c.at_
    · rw [if_pos e2] at k
      rw [if_pos (e1.trans e2)]
      by_cases f1 : a.peer = b.peer
      · rw [if_pos f1] at h
        by_cases f2 : b.peer = c.peer
        · rw [if_pos f2] at k
          rw [if_pos (f1.trans f2)]
          simp only [decide_eq_true_eq] at *; omega
        · rw [if_neg f2] at k
          rw [if_neg (by rw [f1]; exact f2), f1]; exact k
      · rw [if_neg f1] at h
        by_cases f2 : b.peer = c.peer
        · rw [if_neg (by rw [← f2]; exact f1), ← f2]; exact h
        · rw [if_neg f2] at k
          have hk := bl_trans _ _ _ h k
          rw [if_neg (fun e => ?_)]
          · exact hk
          · rw [e] at hk
            have : ∀ l : List UInt8, Op.bytesLess l l = false := fun l => by
              induction l with
              | nil => rfl
              | cons x l ih => simp [Op.bytesLess, ih, UInt8.lt_irrefl]
            rw [this] at hk; cases hk
    · rw [if_neg e2] at k
      rw [if_neg (by rw [e1]; exact e2), e1]; exact k
  · rw [if_neg e1] at h
    by_cases e2 : b.at_ = c.at_
    · rw [if_neg (by rw [← e2]; exact e1), ← e2]; exact h
    · rw [if_neg e2] at k
      simp only [decide_eq_true_eq] at *
      rw [if_neg (by omega)]; simp only [decide_eq_true_eq]; omega
theorem lessT_total {a b : GTimer} (hne : ¬ (a.peer = b.peer ∧ a.kind = b.kind)) (h : lessT a b = false) : lessT b a = true := by
  unfold lessT at *
  by_cases e1 : a.at_ = b.at_
  · rw [if_pos e1] at h
    rw [if_pos e1.symm]
    by_cases f1 : a.peer = b.peer
    · rw [if_pos f1] at h
      rw [if_pos f1.symm]
      have : a.kind ≠ b.kind := fun e => hne ⟨f1, e⟩
      simp only [decide_eq_false_iff_not, decide_eq_true_eq] at *; omega
    · rw [if_neg f1] at h
      rw [if_neg (fun e => f1 e.symm)]
      exact bl_total _ _ (fun e => f1 (Vector.toList_inj.1 e)) h
  · rw [if_neg e1] at h
    rw [if_neg (fun e => e1 e.symm)]
    simp only [decide_eq_false_iff_not, decide_eq_true_eq] at *; omega
theorem insBy_pw {α : Type} {R : α → α → Prop} {p : α → Bool} {y : α} (ht : ∀ a b c, R a b → R b c → R a c) : ∀ {xs : List α}, xs.Pairwise R → (∀ x ∈ xs, p x = true → R y x) → (∀ x ∈ xs, p x = false → R x y) → (insBy p y xs).Pairwise R
  | [], _, _, _ => by simp [insBy]
  | x :: xs, h, hp, hn => by
    rw [List.pairwise_cons] at h
    unfold insBy
    by_cases hx : p x = true
    · rw [if_pos hx]
      refine List.pairwise_cons.2 ⟨fun z hz => ?_, List.pairwise_cons.2 h⟩
      rcases List.mem_cons.1 hz with rfl | hz
      · exact hp _ (List.mem_cons_self ..) hx
      · exact ht _ _ _ (hp x (List.mem_cons_self ..) hx) (h.1 z hz)
    · rw [if_neg hx]
      refine List.pairwise_cons.2 ⟨fun z hz => ?_, insBy_pw ht h.2 (fun x hx => hp x (List.mem_cons_of_mem _ hx)) (fun x hx => hn x (List.mem_cons_of_mem _ hx))⟩
      rcases insBy_mem.1 hz with rfl | hz
      · exact hn x (List.mem_cons_self ..) (by simpa using hx)
      · exact h.1 z hz
theorem insBy_pws {α : Type} {R : α → α → Prop} {p : α → Bool} {y : α} : ∀ {xs : List α}, xs.Pairwise R → (∀ x ∈ xs, R y x ∧ R x y) → (insBy p y xs).Pairwise R
  | [], _, _ => by simp [insBy]
  | x :: xs, h, hp => by
    have h0 := List.pairwise_cons.1 h
    unfold insBy
    by_cases hx : p x = true
    · rw [if_pos hx]
      exact List.pairwise_cons.2 ⟨fun z hz => (hp z hz).1, h⟩
    · rw [if_neg hx]
      refine List.pairwise_cons.2 ⟨fun z hz => ?_, insBy_pws h0.2 (fun x hx => hp x (List.mem_cons_of_mem _ hx))⟩
      rcases insBy_mem.1 hz with rfl | hz
      · exact (hp x (List.mem_cons_self ..)).2
      · exact h0.1 z hz
structure TP (ts : List GTimer) : Prop where
  k : ∀ t ∈ ts, 1 ≤ t.kind ∧ t.kind ≤ 5 ∧ 0 ≤ t.at_ ∧ t.at_ ≤ 4398046511104
  o : ts.Pairwise fun a b => lessT a b = true
  u : ts.Pairwise fun a b => ¬ (b.peer = a.peer ∧ b.kind = a.kind)
theorem TP.ok {ts : List GTimer} (h : TP ts) : TimersOk ts where
  k i hi := h.k _ (List.getElem_mem hi)
  o i h0 hi := List.pairwise_iff_getElem.1 h.o _ _ (by omega) hi (by omega)
  u i j hj hi := List.pairwise_iff_getElem.1 h.u _ _ (by omega) hi hj
theorem TP.nil : TP [] := ⟨by simp, by simp, by simp⟩
theorem TP.cancel {ts : List GTimer} (h : TP ts) (peer : GKey) (kind : Int) : TP (cancelT ts peer kind) :=
  ⟨fun t ht => h.k t (List.mem_filter.1 ht).1, h.o.filter _, h.u.filter _⟩
theorem mem_cancelT {ts : List GTimer} {peer : GKey} {kind : Int} {t : GTimer} : t ∈ cancelT ts peer kind ↔ t ∈ ts ∧ (t.peer ≠ peer ∨ t.kind ≠ kind) := by
  unfold cancelT; rw [List.mem_filter]; simp
theorem TP.set {ts : List GTimer} (h : TP ts) {t : GTimer} (ht : 1 ≤ t.kind ∧ t.kind ≤ 5 ∧ 0 ≤ t.at_ ∧ t.at_ ≤ 4398046511104) : TP (setT ts t) := by
  have hc := h.cancel t.peer t.kind
  have hne : ∀ x ∈ cancelT ts t.peer t.kind, ¬ (x.peer = t.peer ∧ x.kind = t.kind) := fun x hx => by
    rcases (mem_cancelT.1 hx).2 with h | h
    · exact fun e => h e.1
    · exact fun e => h e.2
  refine ⟨fun x hx => ?_, ?_, ?_⟩
  · rcases insBy_mem.1 hx with rfl | hx
    · exact ht
    · exact hc.k x hx
  · refine insBy_pw (R := fun a b => lessT a b = true) (fun _ _ _ => lessT_trans) hc.o (fun _ _ h => h) (fun x hx hf => lessT_total (a := t) (b := x) (fun e => hne x hx ⟨e.1.symm, e.2.symm⟩) hf)
  · exact insBy_pws hc.u fun x hx => ⟨hne x hx, fun e => hne x hx ⟨e.1.symm, e.2.symm⟩⟩
theorem setT_len (ts : List GTimer) (t : GTimer) : (setT ts t).length ≤ ts.length + 1 := by
  unfold setT; rw [insBy_length]
  have := List.length_filter_le (fun u : GTimer => decide (u.peer ≠ t.peer ∨ u.kind ≠ t.kind)) ts
  unfold cancelT; omega
theorem mem_setT {ts : List GTimer} {t u : GTimer} (h : u ∈ setT ts t) : u = t ∨ u ∈ ts := by
  rcases insBy_mem.1 h with rfl | h
  · exact .inl rfl
  · exact .inr (mem_cancelT.1 h).1
structure SP (ss : List GSlot) : Prop where
  z : ∀ s ∈ ss, s.index ≠ 0
  o : ss.Pairwise fun a b => a.index < b.index
theorem SP.ok {ss : List GSlot} (h : SP ss) (hn : ss.length ≤ 32) : SlotsOk ss where
  z i hi := h.z _ (List.getElem_mem hi)
  o i h0 hi := List.pairwise_iff_getElem.1 h.o _ _ (by omega) hi (by omega)
  n := hn
theorem SP.inj {ss : List GSlot} (h : SP ss) {s t : GSlot} (hs : s ∈ ss) (ht : t ∈ ss) (he : s.index = t.index) : s = t := by
  obtain ⟨i, hi, rfl⟩ := List.getElem_of_mem hs
  obtain ⟨j, hj, rfl⟩ := List.getElem_of_mem ht
  have hp := List.pairwise_iff_getElem.1 h.o
  rcases Nat.lt_trichotomy i j with hlt | rfl | hlt
  · have := hp i j hi hj hlt; rw [he] at this; exact absurd this (UInt32.lt_irrefl _)
  · rfl
  · have := hp j i hj hi hlt; rw [he] at this; exact absurd this (UInt32.lt_irrefl _)
theorem findS_mem {ss : List GSlot} (h : SP ss) {s : GSlot} (hs : s ∈ ss) : findS ss s.index = some s := by
  unfold findS
  cases hq : ss.find? (fun x => decide (x.index = s.index)) with
  | none => have := List.find?_eq_none.1 hq s hs; simp at this
  | some t =>
    have h1 := List.find?_some hq
    have h2 := List.mem_of_find?_eq_some hq
    rw [h.inj h2 hs (by simpa using h1)]
theorem findS_none' {ss : List GSlot} {x : UInt32} (h : ∀ s ∈ ss, s.index ≠ x) : findS ss x = none := by
  unfold findS; rw [List.find?_eq_none]; intro s hs; simpa using h s hs
theorem mem_dropAll {ss : List GSlot} {xs : List UInt32} {s : GSlot} : s ∈ dropAll ss xs ↔ s ∈ ss ∧ s.index ∉ xs := by
  unfold dropAll
  induction xs generalizing ss with
  | nil => simp
  | cons x xs ih =>
    rw [List.foldl_cons, ih]
    unfold dropS
    rw [List.mem_filter]
    simp only [decide_eq_true_eq, List.mem_cons, not_or, and_assoc]
theorem dropAll_sub (ss : List GSlot) (xs : List UInt32) : (dropAll ss xs).Sublist ss := by
  unfold dropAll
  induction xs generalizing ss with
  | nil => exact List.Sublist.refl _
  | cons x xs ih => exact (ih _).trans List.filter_sublist
theorem SP.drop {ss : List GSlot} (h : SP ss) (xs : List UInt32) : SP (dropAll ss xs) :=
  ⟨fun s hs => h.z s (mem_dropAll.1 hs).1, h.o.sublist (dropAll_sub ss xs)⟩
theorem mem_insS {ss : List GSlot} {s t : GSlot} : t ∈ insS ss s ↔ t = s ∨ t ∈ ss := insBy_mem
theorem SP.ins {ss : List GSlot} (h : SP ss) {s : GSlot} (h0 : s.index ≠ 0) (hf : ∀ t ∈ ss, t.index ≠ s.index) : SP (insS ss s) := by
  refine ⟨fun t ht => ?_, ?_⟩
  · rcases mem_insS.1 ht with rfl | ht
    · exact h0
    · exact h.z t ht
  · refine insBy_pw (R := fun a b : GSlot => a.index < b.index) (fun _ _ _ h k => UInt32.lt_trans h k) h.o (fun x hx hp => ?_) (fun x hx hp => ?_)
    · simp only [Bool.not_eq_true', decide_eq_false_iff_not] at hp
      rcases UInt32.lt_or_lt_of_ne (hf x hx) with h1 | h1
      · exact absurd h1 hp
      · exact h1
    · simpa using hp
def maskF : Nat → Vec 16 UInt8 → Nat → Vec 16 UInt8
  | 0, ip, _ => ip
  | n + 1, ip, i => if h : i < 128 then maskF n (maskStep ip i (by omega)) (i + 1) else ip
theorem maskF_eq : ∀ (n : Nat) (ip : Vec 16 UInt8) (i : Nat), 128 - i ≤ n → maskFrom ip i = maskF n ip i
  | 0, ip, i, h => by rw [maskFrom, dif_neg (by omega)]; rfl
  | n + 1, ip, i, h => by
    rw [maskFrom]
    unfold maskF
    by_cases hi : i < 128
    · rw [dif_pos hi, dif_pos hi, maskF_eq n _ _ (by omega)]
    · rw [dif_neg hi, dif_neg hi]
def zerosF (a : GAddr) : Nat → Nat → Bool
  | 0, _ => true
  | n + 1, i => if h : i < 128 then (bitA a i (by omega) == 0) && zerosF a n (i + 1) else true
theorem zerosF_eq (a : GAddr) : ∀ (n i : Nat), 128 - i ≤ n → zerosFrom a i = zerosF a n i
  | 0, i, h => by rw [zerosFrom, dif_neg (by omega)]; rfl
  | n + 1, i, h => by
    rw [zerosFrom]
    unfold zerosF
    by_cases hi : i < 128
    · rw [dif_pos hi, dif_pos hi, zerosF_eq a n _ (by omega)]
    · rw [dif_neg hi, dif_neg hi]
def pfxK (i : Nat) : GPrefix := { addr := { hostA (i + 1) 0 with ip := maskF 112 (hostA (i + 1) 0).ip 16 }, bits := 16 }
theorem pfxK_eq (i : Nat) : maskedP (hostA ((i : Int) + 1) 0) 16 = pfxK i := by
  unfold maskedP pfxK
  rw [maskF_eq 112 _ 16 (by decide)]; rfl
def rsOf : Nat → List GRoute
  | 0 => []
  | i + 1 => insR (rsOf i) (pfxK i) (peerK i)
theorem pfx_valid : ∀ i, i < 3 → validP (pfxK i) = true := by
  have key : ∀ i, i < 3 → (soundA (pfxK i).addr && decide (0 ≤ (pfxK i).bits) && decide ((pfxK i).bits ≤ widthA (pfxK i).addr) && zerosF (pfxK i).addr 112 16) = true := by decide +kernel
  intro i hi
  have := key i hi
  unfold validP
  rw [zerosF_eq _ 112 _ (by show 128 - (16 : Int).toNat ≤ 112; decide)]
  exact this
theorem pfx_before : ∀ i j, j < 3 → i < j → beforeP (pfxK i) (pfxK j) = true ∧ beforeP (pfxK j) (pfxK i) = false ∧ pfxK i ≠ pfxK j := by
  have key : ∀ j, j < 3 → ∀ i, i < j → beforeP (pfxK i) (pfxK j) = true ∧ beforeP (pfxK j) (pfxK i) = false ∧ pfxK i ≠ pfxK j := by decide +kernel
  exact fun i j hj hi => key j hj i hi
theorem rs1 : rsOf 1 = [⟨pfxK 0, peerK 0⟩] := rfl
theorem rs2 : rsOf 2 = [⟨pfxK 0, peerK 0⟩, ⟨pfxK 1, peerK 1⟩] := by
  show insR (rsOf 1) (pfxK 1) (peerK 1) = _
  rw [rs1]; unfold insR insBy
  rw [if_neg (by rw [(pfx_before 0 1 (by decide) (by decide)).2.1]; decide)]; rfl
theorem rs3 : rsOf 3 = [⟨pfxK 0, peerK 0⟩, ⟨pfxK 1, peerK 1⟩, ⟨pfxK 2, peerK 2⟩] := by
  show insR (rsOf 2) (pfxK 2) (peerK 2) = _
  rw [rs2]; unfold insR insBy
  rw [if_neg (by rw [(pfx_before 0 2 (by decide) (by decide)).2.1]; decide)]
  unfold insBy
  rw [if_neg (by rw [(pfx_before 1 2 (by decide) (by decide)).2.1]; decide)]; rfl
theorem rsOf_len (n : Nat) : (rsOf n).length = n := by
  induction n with
  | zero => rfl
  | succ n ih => show (insR _ _ _).length = _; unfold insR; rw [insBy_length, ih]
theorem rsOf_get {n i : Nat} (hn : n ≤ 3) (h : i < (rsOf n).length) : (rsOf n)[i] = ⟨pfxK i, peerK i⟩ := by
  have hi : i < n := by rw [rsOf_len] at h; exact h
  match n, i with
  | 1, 0 => rfl
  | 2, 0 => simp [rs2]
  | 2, 1 => simp [rs2]
  | 3, 0 => simp [rs3]
  | 3, 1 => simp [rs3]
  | 3, 2 => simp [rs3]
  | 0, _ => omega
  | 1, i + 1 => omega
  | 2, i + 2 => omega
  | 3, i + 3 => omega
  | n + 4, _ => omega
theorem rsOf_ne {n : Nat} (hn : n < 3) : ∀ i (h : i < (rsOf n).length), (rsOf n)[i].pfx ≠ pfxK n := fun i h => by
  rw [rsOf_get (by omega) h]
  rw [rsOf_len] at h
  exact (pfx_before i n hn h).2.2
theorem rsOf_ok {n : Nat} (hn : n ≤ 3) : RoutesOk (rsOf n) where
  v i h := by rw [rsOf_get hn h]; rw [rsOf_len] at h; exact pfx_valid i (by omega)
  o i h0 h := by
    have h1 : i - 1 < (rsOf n).length := by omega
    rw [rsOf_get hn h, rsOf_get hn h1]; rw [rsOf_len] at h
    exact (pfx_before (i - 1) i (by omega) (by omega)).1
  n := by rw [rsOf_len]; omega
theorem peerK_inj : ∀ i j : Nat, i < 3 → j < 3 → peerK i = peerK j → i = j := by
  have key : ∀ i, i < 3 → ∀ j, j < 3 → peerK (i : Nat) = peerK (j : Nat) → i = j := by decide +kernel
  exact fun i j hi hj => key i hi j hj
theorem peerK_lt : ∀ i : Nat, i < 2 → Op.bytesLess (peerK (i : Nat)).toList (peerK ((i + 1 : Nat) : Int)).toList = true := by decide +kernel
end Go.Bur
namespace Go.Bur
open Go Go.RowKit Go.Proofs
set_option maxHeartbeats 4000000
theorem PlaceOk.zero {d : GDaemon} : PlaceOk d GPlace.zero := ⟨fun h => (by cases h), fun _ => rfl⟩
theorem PlaceOk.clean {d : GDaemon} {p : GPlace} (h : PlaceOk d p) : PlaceOk d (cleanP p) := by
  unfold cleanP; split
  · exact h
  · exact PlaceOk.zero
theorem PlaceOk.mk' {d : GDaemon} {s : GSession} (h : SoundS d s) : PlaceOk d ⟨true, s⟩ := ⟨fun _ => h, fun h => (by cases h)⟩
def locP (p : GPlace) : List UInt32 := if p.has then [p.session.loc] else []
theorem localsP_cons (p : GPlace) (l : List GPlace) : localsP (p :: l) = locP p ++ localsP l := by
  unfold localsP locP
  cases h : p.has <;> simp [List.filter_cons, h]
theorem localsP_nil : localsP [] = [] := rfl
theorem localsR_eq (r : GRing) : localsR r = locP r.previous ++ (locP r.current ++ locP r.next) := by
  unfold localsR; rw [localsP_cons, localsP_cons, localsP_cons, localsP_nil, List.append_nil]
theorem locP_zero : locP GPlace.zero = [] := rfl
theorem locP_new (s : GSession) : locP ⟨true, s⟩ = [s.loc] := rfl
theorem locP_clean (p : GPlace) : locP (cleanP p) = locP p := by
  unfold cleanP
  cases h : p.has with
  | true => rw [if_pos rfl]
  | false => rw [if_neg (by decide)]; unfold locP; rw [h]; rfl
structure RStep (R R' : GRing) (D : List UInt32) (x : UInt32) : Prop where
  mem : ∀ y, y ∈ localsR R' ↔ y = x ∨ (y ∈ localsR R ∧ y ∉ D)
  nd : (localsR R').Nodup
  sub : ∀ y ∈ D, y ∈ localsR R
theorem instR_step {R : GRing} {s : GSession} (o : Bool) (hn : (localsR R).Nodup) (hx : s.loc ∉ localsR R) : RStep R (instR R s o) (instD R o) s.loc := by
  have key : ∀ (A B C : List UInt32) (x : UInt32), (A ++ (B ++ C)).Nodup → x ∉ A ++ (B ++ C) →
      ((∀ y, y ∈ B ++ [x] ↔ y = x ∨ (y ∈ A ++ (B ++ C) ∧ y ∉ A ++ C)) ∧ (B ++ [x]).Nodup) ∧ ((∀ y, y ∈ C ++ [x] ↔ y = x ∨ (y ∈ A ++ (B ++ C) ∧ y ∉ A ++ B)) ∧ (C ++ [x]).Nodup) := by
    intro A B C x h hx
    rw [List.nodup_append] at h
    obtain ⟨hA, hBC, h1⟩ := h
    rw [List.nodup_append] at hBC
    obtain ⟨hB, hC, h2⟩ := hBC
    simp only [List.mem_append, not_or] at hx
    refine ⟨⟨fun y => ?_, ?_⟩, ⟨fun y => ?_, ?_⟩⟩
    · simp only [List.mem_append, List.mem_singleton, not_or]
      constructor
      · rintro (h | h)
        · exact .inr ⟨.inr (.inl h), fun ha => h1 y ha y (by simp [h]) rfl, fun hc => h2 y h y hc rfl⟩
        · exact .inl h
      · rintro (h | ⟨h | h | h, k1, k2⟩)
        · exact .inr h
        · exact absurd h k1
        · exact .inl h
        · exact absurd h k2
    · rw [List.nodup_append]
      refine ⟨hB, by simp, fun a ha b hb => ?_⟩
      rw [List.mem_singleton.1 hb]
      exact fun e => hx.2.1 (e ▸ ha)
    · simp only [List.mem_append, List.mem_singleton, not_or]
      constructor
      · rintro (h | h)
        · exact .inr ⟨.inr (.inr h), fun ha => h1 y ha y (by simp [h]) rfl, fun hb => h2 y hb y h rfl⟩
        · exact .inl h
      · rintro (h | ⟨h | h | h, k1, k2⟩)
        · exact .inr h
        · exact absurd h k1
        · exact absurd h k2
        · exact .inl h
    · rw [List.nodup_append]
      refine ⟨hC, by simp, fun a ha b hb => ?_⟩
      rw [List.mem_singleton.1 hb]
      exact fun e => hx.2.2 (e ▸ ha)
  rw [localsR_eq] at hn hx
  obtain ⟨⟨k1, k2⟩, ⟨k3, k4⟩⟩ := key _ _ _ _ hn hx
  cases o with
  | false =>
    have e1 : localsR (instR R s false) = locP R.current ++ [s.loc] := by
      rw [localsR_eq]; rfl
    have e2 : instD R false = locP R.previous ++ locP R.next := by
      show localsP [R.previous, R.next] = _
      rw [localsP_cons, localsP_cons, localsP_nil, List.append_nil]
    refine ⟨?_, by rw [e1]; exact k2, ?_⟩
    · rw [e1, e2, localsR_eq]; exact k1
    · rw [e2, localsR_eq]; intro y hy
      simp only [List.mem_append] at hy ⊢
      rcases hy with h | h
      · exact .inl h
      · exact .inr (.inr h)
  | true =>
    cases hh : R.next.has with
    | true =>
      have e1 : localsR (instR R s true) = locP R.next ++ [s.loc] := by
        show localsR (begR R s) = _
        unfold begR; rw [if_pos hh, localsR_eq]
        show locP R.next ++ (locP ⟨true, s⟩ ++ locP GPlace.zero) = _
        rw [locP_new, locP_zero, List.append_nil]
      have e2 : instD R true = locP R.previous ++ locP R.current := by
        show begD R = _
        unfold begD; rw [if_pos hh, localsP_cons, localsP_cons, localsP_nil, List.append_nil]
      refine ⟨?_, by rw [e1]; exact k4, ?_⟩
      · rw [e1, e2, localsR_eq]; exact k3
      · rw [e2, localsR_eq]; intro y hy
        simp only [List.mem_append] at hy ⊢
        rcases hy with h | h
        · exact .inl h
        · exact .inr (.inl h)
    | false =>
      have hz : locP R.next = [] := by unfold locP; rw [hh]; rfl
      have e1 : localsR (instR R s true) = locP R.current ++ [s.loc] := by
        show localsR (begR R s) = _
        unfold begR; rw [if_neg (by rw [hh]; decide), localsR_eq]
        show locP (cleanP R.current) ++ (locP ⟨true, s⟩ ++ locP GPlace.zero) = _
        rw [locP_new, locP_zero, List.append_nil, locP_clean]
      have e2 : instD R true = locP R.previous ++ locP R.next := by
        show begD R = _
        unfold begD; rw [if_neg (by rw [hh]; decide), localsP_cons, localsP_nil, hz]
      refine ⟨?_, by rw [e1]; exact k2, ?_⟩
      · rw [e1, e2, localsR_eq]; exact k1
      · rw [e2, localsR_eq]; intro y hy
        simp only [List.mem_append] at hy ⊢
        rcases hy with h | h
        · exact .inl h
        · exact .inr (.inr h)
theorem instR_ok {d : GDaemon} {R : GRing} {s : GSession} (o : Bool) (h1 : PlaceOk d R.previous) (h2 : PlaceOk d R.current) (h3 : PlaceOk d R.next) (hs : SoundS d s) :
    PlaceOk d (instR R s o).previous ∧ PlaceOk d (instR R s o).current ∧ PlaceOk d (instR R s o).next := by
  unfold instR
  cases o with
  | false => exact ⟨PlaceOk.zero, h2, PlaceOk.mk' hs⟩
  | true =>
    unfold begR
    simp only [if_true]
    split
    · exact ⟨h3, PlaceOk.mk' hs, PlaceOk.zero⟩
    · exact ⟨h2.clean, PlaceOk.mk' hs, PlaceOk.zero⟩
theorem placeOk_conv {d d' : GDaemon} {p : GPlace} (h : PlaceOk d p) (h1 : d'.now = d.now) (h2 : d'.rules = d.rules) : PlaceOk d' p :=
  ⟨fun hp => ⟨by rw [h1]; exact (h.s hp).born, by rw [h2]; exact (h.s hp).fence, (h.s hp).next, (h.s hp).window⟩, h.z⟩
theorem peerOk_conv {d d' : GDaemon} {p : GPeer} (h : PeerOk d p) (h1 : d'.now = d.now) (h2 : d'.rules = d.rules) : PeerOk d' p :=
  ⟨h.ep, h.keep, h.init, h.cookie, h.staged, h.hand, placeOk_conv h.r1 h1 h2, placeOk_conv h.r2 h1 h2, placeOk_conv h.r3 h1 h2⟩
theorem atE_sound : ∀ i : Nat, i < 3 → soundA (atE (i : Nat)).addr = true := by decide +kernel
theorem secr {r8 r6 : Nat} (h : r8 < 2) : 0 ≤ (r8 : Int) * min (r6 : Int) 20000 ∧ (r8 : Int) * min (r6 : Int) 20000 ≤ r6 := by
  have : r8 = 0 ∨ r8 = 1 := by omega
  rcases this with rfl | rfl <;> simp <;> omega
structure Base (d : GDaemon) : Prop where
  rules : RulesOk d.rules
  now : 0 ≤ d.now ∧ d.now ≤ 16777216
  port : 0 ≤ d.port ∧ d.port ≤ 65535
  bad : d.bad = 0
  secret : 0 ≤ d.secretAt ∧ d.secretAt ≤ d.now
structure Inv1 (d : GDaemon) (ps : List GPeer) (ts : List GTimer) (i : Nat) : Prop where
  base : Base d
  pl : ps.length = i
  pk : ∀ j (h : j < ps.length), PeerOk d ps[j]
  pp : ∀ j (h : j < ps.length), ps[j].pub = peerK (j : Nat)
  pr : ∀ j (h : j < ps.length), ps[j].ring = GRing.zero
  tp : TP ts
  tm : ∀ t ∈ ts, d.now < t.at_ ∧ t.kind = 4 ∧ ∃ j, ∃ h : j < ps.length, t.peer = ps[j].pub ∧ ps[j].keepalive ≠ 0
  tl : ts.length ≤ i
structure Inv (d : GDaemon) (n : Nat) (ps : List GPeer) (ss : List GSlot) (ts : List GTimer) (i k : Nat) : Prop where
  base : Base d
  n2 : 2 ≤ n ∧ n ≤ 3
  pl : ps.length = n
  pk : ∀ j (h : j < ps.length), PeerOk d ps[j]
  pp : ∀ j (h : j < ps.length), ps[j].pub = peerK (j : Nat)
  loc : ∀ j (h : j < ps.length), ∀ y ∈ localsR ps[j].ring, 10 * j + (if j < i then 0 else if j = i then k else 3) < y.toNat ∧ y.toNat ≤ 10 * j + 3
  nd : ∀ j (h : j < ps.length), (localsR ps[j].ring).Nodup
  sp : SP ss
  mem : ∀ s, s ∈ ss ↔ s.session = true ∧ ∃ j, ∃ h : j < ps.length, s.peer = ps[j].pub ∧ s.index ∈ localsR ps[j].ring
  tp : TP ts
  tm : ∀ t ∈ ts, d.now < t.at_ ∧ ((t.kind = 4 ∧ ∃ j, ∃ h : j < ps.length, t.peer = ps[j].pub ∧ ps[j].keepalive ≠ 0) ∨ (t.kind = 5 ∧ ∃ j, ∃ h : j < ps.length, t.peer = ps[j].pub))
  tl : ts.length ≤ 3 + 3 * i + (3 - k)
theorem Inv1.inv {d : GDaemon} {ps : List GPeer} {ts : List GTimer} {n : Nat} (h : Inv1 d ps ts n) (hn : 2 ≤ n ∧ n ≤ 3) : Inv d n ps [] ts 0 3 where
  base := h.base
  n2 := hn
  pl := h.pl
  pk := h.pk
  pp := h.pp
  loc j hj y hy := by rw [h.pr j hj] at hy; cases hy
  nd j hj := by rw [h.pr j hj]; exact List.nodup_nil
  sp := ⟨by simp, by simp⟩
  mem s := by
    constructor
    · intro hs; cases hs
    · rintro ⟨_, j, hj, _, hm⟩; rw [h.pr j hj] at hm; cases hm
  tp := h.tp
  tm t ht := ⟨(h.tm t ht).1, .inl (h.tm t ht).2⟩
  tl := by have := h.tl; omega
theorem Inv.start {d : GDaemon} {n : Nat} {ps : List GPeer} {ss : List GSlot} {ts : List GTimer} {i k : Nat} (h : Inv d n ps ss ts i 3) (hk : k ≤ 3) : Inv d n ps ss ts i k where
  base := h.base
  n2 := h.n2
  pl := h.pl
  pk := h.pk
  pp := h.pp
  loc j hj y hy := by
    have := h.loc j hj y hy
    refine ⟨?_, this.2⟩
    have h1 := this.1
    split at h1
    · rw [if_pos ‹_›]; exact h1
    · rw [if_neg ‹_›]
      split at h1
      · rw [if_pos ‹_›]; omega
      · rw [if_neg ‹_›]; exact h1
  nd := h.nd
  sp := h.sp
  mem := h.mem
  tp := h.tp
  tm := h.tm
  tl := by have := h.tl; omega
theorem Inv.stop {d : GDaemon} {n : Nat} {ps : List GPeer} {ss : List GSlot} {ts : List GTimer} {i : Nat} (h : Inv d n ps ss ts i 0) : Inv d n ps ss ts (i + 1) 3 where
  base := h.base
  n2 := h.n2
  pl := h.pl
  pk := h.pk
  pp := h.pp
  loc j hj y hy := by
    have := h.loc j hj y hy
    refine ⟨?_, this.2⟩
    have h1 := this.1
    by_cases e : j < i
    · rw [if_pos e] at h1; rw [if_pos (by omega)]; exact h1
    · rw [if_neg e] at h1
      by_cases e2 : j = i
      · rw [if_pos e2] at h1; rw [if_pos (by omega)]; exact h1
      · rw [if_neg e2] at h1; rw [if_neg (by omega)]; split <;> exact h1
  nd := h.nd
  sp := h.sp
  mem := h.mem
  tp := h.tp
  tm := h.tm
  tl := by have := h.tl; omega
theorem findP_pub {ps : List GPeer} {n j : Nat} (hl : ps.length = n) (hn : n ≤ 3) (hp : ∀ j (h : j < ps.length), ps[j].pub = peerK (j : Nat)) (hj : j < n) : findP ps (peerK (j : Nat)) = j := by
  have hj' : j < ps.length := by omega
  refine findP_some hj' (fun j2 h2 hlt e => ?_) (hp j hj')
  rw [hp j2 h2] at e
  have := peerK_inj j2 j (by omega) (by omega) e
  omega
theorem Inv.fresh {d : GDaemon} {n : Nat} {ps : List GPeer} {ss : List GSlot} {ts : List GTimer} {i k : Nat} (h : Inv d n ps ss ts i k) (hk : 1 ≤ k ∧ k ≤ 3) {x : UInt32} (hx : x.toNat = 10 * i + k) :
    ∀ j (hj : j < ps.length), x ∉ localsR ps[j].ring := by
  intro j hj hm
  have := h.loc j hj x hm
  rw [hx] at this
  by_cases e : j < i
  · omega
  · rw [if_neg e] at this
    by_cases e2 : j = i
    · rw [if_pos e2] at this; omega
    · omega
theorem Inv.count {d : GDaemon} {n : Nat} {ps : List GPeer} {ss : List GSlot} {ts : List GTimer} {i k : Nat} (h : Inv d n ps ss ts i k) : cntL ps ps.length = ss.length := by
  have hA : (ps.flatMap fun p => localsR p.ring).Nodup := by
    unfold List.Nodup
    rw [List.pairwise_flatMap]
    refine ⟨fun p hp => ?_, List.pairwise_iff_getElem.2 fun a b ha hb hab x hx y hy => ?_⟩
    · obtain ⟨j, hj, rfl⟩ := List.getElem_of_mem hp
      exact h.nd j hj
    · have h1 := (h.loc a ha x hx).2
      have h2 := (h.loc b hb y hy).1
      intro e; rw [e] at h1; omega
  have hB : (ss.map (·.index)).Nodup := by
    unfold List.Nodup
    rw [List.pairwise_map]
    exact h.sp.o.imp fun hlt e => by rw [e] at hlt; exact UInt32.lt_irrefl _ hlt
  have hp : (ps.flatMap fun p => localsR p.ring).Perm (ss.map (·.index)) := by
    rw [List.perm_ext_iff_of_nodup hA hB]
    intro y
    rw [List.mem_flatMap, List.mem_map]
    constructor
    · rintro ⟨p, hp, hy⟩
      obtain ⟨j, hj, rfl⟩ := List.getElem_of_mem hp
      exact ⟨⟨y, ps[j].pub, true⟩, (h.mem _).2 ⟨rfl, j, hj, rfl, hy⟩, rfl⟩
    · rintro ⟨s, hs, rfl⟩
      obtain ⟨_, j, hj, _, hy⟩ := (h.mem s).1 hs
      exact ⟨ps[j], List.getElem_mem hj, hy⟩
  have := hp.length_eq
  rw [List.length_map, List.length_flatMap] at this
  unfold cntL
  rw [List.take_length, this]
theorem Inv.ok {d : GDaemon} {n : Nat} {ps : List GPeer} {ss : List GSlot} {ts : List GTimer} {i k : Nat} (h : Inv d n ps ss ts i k) (hi : i ≤ 3) : DaemonOk d ps (rsOf n) ss ts where
  rules := h.base.rules
  now := by have := h.base.now; omega
  port := h.base.port
  bad := by rw [h.base.bad]; decide
  secret := h.base.secret
  pn := by have := h.n2; rw [h.pl]; omega
  po j h0 hj := by
    rw [h.pp j hj, h.pp (j - 1) (by omega)]
    have hn := h.n2
    have hl := h.pl
    have := peerK_lt (j - 1) (by omega)
    have e : j - 1 + 1 = j := by omega
    rw [e] at this; exact this
  pk := h.pk
  ro := rsOf_ok h.n2.2
  rf j hj := by
    rw [rsOf_get h.n2.2 hj]
    rw [rsOf_len] at hj
    rw [findP_pub h.pl h.n2.2 h.pp hj]; omega
  so := h.sp.ok (by have := h.count; have h2 := cntL_le ps ps.length; have := h.n2; have := h.pl; omega)
  sloc j hj x hx := ⟨⟨x, ps[j].pub, true⟩, findS_mem (s := ⟨x, ps[j].pub, true⟩) h.sp ((h.mem _).2 ⟨rfl, j, hj, rfl, hx⟩), rfl, rfl⟩
  snd := h.nd
  scnt := h.count
  tn := by have := h.tl; omega
  to := h.tp.ok
  tf j hj := by
    obtain ⟨h1, h2⟩ := h.tm _ (List.getElem_mem hj)
    have hn := h.n2
    have hl := h.pl
    rcases h2 with ⟨h2, a, ha, h3, h4⟩ | ⟨h2, a, ha, h3⟩
    · refine .inr ⟨h1, a, ha, ?_, h4⟩
      rw [h3, h.pp a ha]; exact findP_pub hl hn.2 h.pp (by omega)
    · refine .inl ⟨h1, ?_, by omega⟩
      rw [h3, h.pp a ha, findP_pub hl hn.2 h.pp (by omega)]; omega
  th j hj := by
    unfold hasT
    rw [List.any_eq_false]
    intro t ht
    obtain ⟨h1, h2⟩ := h.tm t ht
    rcases h2 with ⟨h2, _⟩ | ⟨h2, _⟩ <;> simp [h2]
theorem PeerOk.ring {d : GDaemon} {p : GPeer} (h : PeerOk d p) {R : GRing} (h1 : PlaceOk d R.previous) (h2 : PlaceOk d R.current) (h3 : PlaceOk d R.next) : PeerOk d { p with ring := R } :=
  ⟨h.ep, h.keep, h.init, h.cookie, h.staged, h.hand, h1, h2, h3⟩
theorem Inv.install {d : GDaemon} {n : Nat} {ps : List GPeer} {ss : List GSlot} {ts : List GTimer} {i k : Nat} (h : Inv d n ps ss ts i k) (hk : 1 ≤ k ∧ k ≤ 3) (hi : i < ps.length) {s : GSession} (o : Bool) (hx : s.loc.toNat = 10 * i + k) (hs : SoundS d s) :
    Inv d n (ps.set i { ps[i] with ring := instR ps[i].ring s o }) (insS (dropAll ss (instD ps[i].ring o)) ⟨s.loc, ps[i].pub, true⟩) (setT ts ⟨d.now + 3 * d.rules.rejectTime, ps[i].pub, 5⟩) i (k - 1) := by
  have hfr := h.fresh hk hx
  have st := instR_step o (h.nd i hi) (hfr i hi)
  have hok := instR_ok o (h.pk i hi).r1 (h.pk i hi).r2 (h.pk i hi).r3 hs
  have hlen : (ps.set i { ps[i] with ring := instR ps[i].ring s o }).length = ps.length := List.length_set
  have hpub : ∀ j (hj : j < ps.length), ((ps.set i { ps[i] with ring := instR ps[i].ring s o })[j]'(by rw [hlen]; exact hj)).pub = ps[j].pub := fun j hj => by
    rw [List.getElem_set]; split
    · rename_i e; subst e; rfl
    · rfl
  have hkeep : ∀ j (hj : j < ps.length), ((ps.set i { ps[i] with ring := instR ps[i].ring s o })[j]'(by rw [hlen]; exact hj)).keepalive = ps[j].keepalive := fun j hj => by
    rw [List.getElem_set]; split
    · rename_i e; subst e; rfl
    · rfl
  have hri : ∀ (hj : i < (ps.set i { ps[i] with ring := instR ps[i].ring s o }).length), ((ps.set i { ps[i] with ring := instR ps[i].ring s o })[i]'hj).ring = instR ps[i].ring s o := fun hj => by rw [List.getElem_set_self]
  have hrj : ∀ j (hj : j < ps.length), j ≠ i → ((ps.set i { ps[i] with ring := instR ps[i].ring s o })[j]'(by rw [hlen]; exact hj)).ring = ps[j].ring := fun j hj hne => by
    rw [List.getElem_set_ne (fun e => hne e.symm)]
  have hD : ∀ j (hj : j < ps.length), j ≠ i → ∀ y ∈ localsR ps[j].ring, y ∉ instD ps[i].ring o := fun j hj hne y hy hd => by
    have h1 := h.loc j hj y hy
    have h2 := h.loc i hi y (st.sub y hd)
    omega
  have hrt := h.base.rules.t1
  have hnow := h.base.now
  refine ⟨h.base, h.n2, by rw [hlen]; exact h.pl, ?_, ?_, ?_, ?_, ?_, ?_, ?_, ?_, ?_⟩
  · intro j hj
    rw [List.getElem_set]; split
    · exact (h.pk i hi).ring hok.1 hok.2.1 hok.2.2
    · exact h.pk j (by rw [hlen] at hj; exact hj)
  · intro j hj
    rw [hlen] at hj
    rw [hpub j hj]; exact h.pp j hj
  · intro j hj y hy
    have hj2 : j < ps.length := by rw [hlen] at hj; exact hj
    by_cases e : j = i
    · subst e
      rw [hri] at hy
      rw [if_neg (by omega), if_pos rfl]
      rcases (st.mem y).1 hy with rfl | ⟨h1, _⟩
      · omega
      · have := h.loc j hj2 y h1
        rw [if_neg (by omega), if_pos rfl] at this; omega
    · rw [hrj j hj2 e] at hy
      have := h.loc j hj2 y hy
      refine ⟨?_, this.2⟩
      have h1 := this.1
      by_cases e3 : j < i
      · rw [if_pos e3] at h1 ⊢; exact h1
      · rw [if_neg e3, if_neg e] at h1 ⊢; exact h1
  · intro j hj
    rw [hlen] at hj
    by_cases e : j = i
    · subst e; rw [hri]; exact st.nd
    · rw [hrj j hj e]; exact h.nd j hj
  · refine (h.sp.drop _).ins (fun e => ?_) fun t ht e => ?_
    · have : s.loc.toNat = 0 := by rw [show s.loc = 0 from e]; rfl
      omega
    · obtain ⟨_, j, hj, _, hy⟩ := (h.mem t).1 (mem_dropAll.1 ht).1
      exact hfr j hj (by rw [← show t.index = s.loc from e]; exact hy)
  · intro t
    rw [mem_insS, mem_dropAll]
    constructor
    · rintro (rfl | ⟨ht, hd⟩)
      · exact ⟨rfl, i, by rw [hlen]; exact hi, (hpub i hi).symm, by rw [hri]; exact (st.mem _).2 (.inl rfl)⟩
      · obtain ⟨h1, j, hj, h2, h3⟩ := (h.mem t).1 ht
        refine ⟨h1, j, by rw [hlen]; exact hj, by rw [hpub j hj]; exact h2, ?_⟩
        by_cases e : j = i
        · subst e; rw [hri]; exact (st.mem _).2 (.inr ⟨h3, hd⟩)
        · rw [hrj j hj e]; exact h3
    · rintro ⟨h1, j, hj0, h2, h3⟩
      have hj : j < ps.length := by rw [hlen] at hj0; exact hj0
      rw [hpub j hj] at h2
      by_cases e : j = i
      · subst e
        rw [hri] at h3
        rcases (st.mem _).1 h3 with h4 | ⟨h4, h5⟩
        · left
          obtain ⟨a, b, c⟩ := t
          simp only at h1 h2 h4
          subst h1 h2 h4; rfl
        · exact .inr ⟨(h.mem t).2 ⟨h1, j, hj, h2, h4⟩, h5⟩
      · rw [hrj j hj e] at h3
        exact .inr ⟨(h.mem t).2 ⟨h1, j, hj, h2, h3⟩, hD j hj e _ h3⟩
  · exact h.tp.set ⟨by show (1 : Int) ≤ 5; decide, by show (5 : Int) ≤ 5; decide, by show 0 ≤ d.now + 3 * d.rules.rejectTime; omega, by show d.now + 3 * d.rules.rejectTime ≤ _; omega⟩
  · intro t ht
    rcases mem_setT ht with rfl | ht
    · exact ⟨by show d.now < d.now + 3 * d.rules.rejectTime; omega, .inr ⟨rfl, i, by rw [hlen]; exact hi, (hpub i hi).symm⟩⟩
    · obtain ⟨h1, h2⟩ := h.tm t ht
      refine ⟨h1, ?_⟩
      rcases h2 with ⟨h2, j, hj, h3, h4⟩ | ⟨h2, j, hj, h3⟩
      · exact .inl ⟨h2, j, by rw [hlen]; exact hj, by rw [hpub j hj]; exact h3, by rw [hkeep j hj]; exact h4⟩
      · exact .inr ⟨h2, j, by rw [hlen]; exact hj, by rw [hpub j hj]; exact h3⟩
  · have := setT_len ts ⟨d.now + 3 * d.rules.rejectTime, ps[i].pub, 5⟩
    have := h.tl
    omega
theorem Inv.conv {d d' : GDaemon} {n : Nat} {ps : List GPeer} {ss : List GSlot} {ts : List GTimer} {i k : Nat} (h : Inv d n ps ss ts i k) (h1 : d'.rules = d.rules) (h2 : d'.now = d.now) (h3 : d'.port = d.port) (h4 : d'.bad = d.bad) (h5 : d'.secretAt = d.secretAt) : Inv d' n ps ss ts i k where
  base := ⟨by rw [h1]; exact h.base.rules, by rw [h2]; exact h.base.now, by rw [h3]; exact h.base.port, by rw [h4]; exact h.base.bad, by rw [h5, h2]; exact h.base.secret⟩
  n2 := h.n2
  pl := h.pl
  pk j hj := peerOk_conv (h.pk j hj) h2 h1
  pp := h.pp
  loc := h.loc
  nd := h.nd
  sp := h.sp
  mem := h.mem
  tp := h.tp
  tm t ht := by rw [h2]; exact h.tm t ht
  tl := h.tl
end Go.Bur
