/- A part of a proof over the given seat: how values, memory, calls and regions are told, and the walks of functions, each once. No condition. -/
import Derived.Test.YthmogejmnelnjaaGreatDoorQ4
set_option linter.unusedVariables false
set_option linter.unusedSimpArgs false
namespace Go.Bur
open Go Go.RowKit Go.Proofs
set_option maxHeartbeats 4000000
variable {W0 : World} {V : PH} {w : World} {L : List (Nat × Obj)}
theorem CodeOk.mono {V' : PH} {c : GCodes} (h : CodeOk V c) (hV : V ≤ V') : CodeOk V' c := by
  obtain ⟨xs, h1, h2⟩ := h
  exact ⟨xs, h1.mono hV, h2⟩
theorem Own.openX {α : Type} [Enc α] {T : TypeId} {v : Value} {xs : List α} {X : List (Nat × Obj)} (h : Own W0 V w (X ++ L) T v xs) : ∃ A, St W0 V w (X ++ (A ++ L)) ∧ OwnA T v xs A := by
  obtain ⟨A, hs, hA⟩ := h.open'
  exact ⟨A, hs.perm (List.perm_append_comm_assoc A X L), hA⟩
theorem OwnA.nil {α : Type} [Enc α] {T : TypeId} : OwnA T (.slice none 0 0) ([] : List α) [] := .inl ⟨rfl, rfl, rfl⟩
theorem s_daemon {b : Nat} {c : GCodes} (hs : St W0 V w ((b, blk 93 c) :: L)) (hc : CodeOk V c) :
    Calls Tryz.prog 4 #[ptr b 0] w (okR fun v w' => ∃ (V' : PH) (d : GDaemon) (n : Nat) (ps : List GPeer) (ss : List GSlot) (ts : List GTimer) (c' : GCodes), V ≤ V' ∧ v = val d ∧ Inv d n ps ss ts n 3 ∧ DSl V' d ps (rsOf n) ss ts ∧ CodeOk V' c' ∧ St W0 V' w' ((b, blk 93 c') :: L)) := by
  refine fn_enter (n := 124) Tryz.func4 rfl rfl rfl ?_
  intro f hf
  have e0 := hf 0
  simp only [Array.getD_eq_getD_getElem?, List.getElem?_toArray, List.getElem?_cons_zero, List.getElem?_cons_succ, Option.getD_some] at e0
  clear hf
  refine cw_seq (cw_region ?_)
  refine l_alloc z35 hs (by decide) ?_; clear hs; intro b2 w hs
  refine lw_nil ?_
  refine cw_seq (cw_region ?_)
  refine l_pur (p_move e0) (by decide) ?_
  refine l_call1 fn10 (s_rules hs.swap hc) rfl ?_ (by decide)
  clear hs
  rintro _ w ⟨ru, c1, rfl, hru, ok1, hs⟩
  replace hs := hs.swap
  refine l_pur (p_move e0) (by decide) ?_
  refine l_call1 fn11 (s_key hs.swap ok1) rfl ?_ (by decide)
  clear hs
  rintro _ w ⟨k2, c2, rfl, ok2, hs⟩
  replace hs := hs.swap
  refine l_pur (p_move e0) (by decide) ?_
  refine l_call1 fn11 (s_key hs.swap ok2) rfl ?_ (by decide)
  clear hs
  rintro _ w ⟨k3, c3, rfl, ok3, hs⟩
  replace hs := hs.swap
  refine l_pur (p_move e0) (by decide) ?_
  refine l_call2 fn12 (s_big hs.swap ok3 (by decide)) rfl rfl ?_ (by decide)
  clear hs
  rintro _ w ⟨r4, c4, rfl, hr4, ok4, hs⟩
  replace hs := hs.swap
  refine l_pur (p_move e0) (by decide) ?_
  refine l_call1 fn11 (s_key hs.swap ok4) rfl ?_ (by decide)
  clear hs
  rintro _ w ⟨k5, c5, rfl, ok5, hs⟩
  replace hs := hs.swap
  refine l_pur (p_move e0) (by decide) ?_
  refine l_call2 fn12 (s_big hs.swap ok5 (by decide)) rfl rfl ?_ (by decide)
  clear hs
  rintro _ w ⟨r6, c6, rfl, hr6, ok6, hs⟩
  replace hs := hs.swap
  refine l_pur (p_buildO (α := GDaemon) Tryz.underlying35 (by kernel_rfl) z35 rfl (.cons (β := GRules) rfl pl35_0 GDaemon.l_rules (.cons (β := (Vec 32 UInt8)) rfl pl35_1 GDaemon.l_priv (.cons (β := (Vec 32 UInt8)) rfl pl35_2 GDaemon.l_pub (.cons (β := Int) rfl pl35_3 GDaemon.l_port (.cons (β := (Vec 32 UInt8)) rfl pl35_4 GDaemon.l_random (.cons (β := Int) rfl pl35_5 GDaemon.l_now (.nil _)))))))) (by decide) ?_
  refine l_alloc z35 hs (by decide) ?_; clear hs; intro b3 w hs
  refine l_store0 (α := GDaemon) (β := GDaemon) ty35 rfl rfl (Lens.id GDaemon) hs ?_; clear hs; intro w hs
  refine lw_nil ?_
  refine cw_seq ?_
  have hS := Hold.cons hs (List.Mem.head _) (Hold.nil hs (PH.refl _))
  refine cw_planH (.take 0 (.take 2 (.take 3 (.take 4 (.take 6 (.take 7 (.take 8 (.one 1 (.take 11 (.one 5 (.take 9 (.take 10 (.one 12 (.take 13 (.one 14 .done))))))))))))))) 1023 hmix (by kernel_rfl) (fun _ _ _ h => h) hs hS ?_
  clear hS; clear hs; intro w hs; have hS := Hold.cons hs (List.Mem.head _) (Hold.nil hs (PH.refl _))
  refine pw_pur rfl (wt_free rfl) (p_move e0) (by decide) (fun _ => hS) ?_
  refine pw_pur rfl (wt_free rfl) (p_fieldAddr fo35_5 rfl) (by decide) (fun _ => hS) ?_
  refine pw_ld rfl (wt_free rfl) (by kernel_rfl) (Hold.runs_loadO (α := GDaemon) (β := Int) ty2 rfl GDaemon.l_now (List.Mem.head _)) (by decide) hS ?_
  refine pw_pur rfl (wt_free rfl) (p_move e0) (by decide) (fun _ => hS) ?_
  refine pw_pur rfl (wt_free rfl) (p_fieldAddr fo35_5 rfl) (by decide) (fun _ => hS) ?_
  refine pw_ld rfl (wt_free rfl) (by kernel_rfl) (Hold.runs_loadO (α := GDaemon) (β := Int) ty2 rfl GDaemon.l_now (List.Mem.head _)) (by decide) hS ?_
  refine pw_pur rfl (wt_free rfl) (p_min rfl rfl) (by decide) (fun _ => hS) ?_
  refine pw_one ?_
  refine ow_call1 rfl (wt_free rfl) fn11 (s_key hs.rot2 ok6) rfl ?_ (by decide)
  clear hs hS
  rintro _ w ⟨k7, c7, rfl, ok7, hs⟩
  replace hs := hs.unrot2
  refine ⟨fun _ => Hold.cons hs (List.Mem.head _) (Hold.nil hs (PH.refl _)), ?_⟩; have hS := Hold.cons hs (List.Mem.head _) (Hold.nil hs (PH.refl _))
  refine pw_pur rfl (wt_free rfl) (p_fieldAddr fo35_10 rfl) (by decide) (fun h => absurd h (by decide)) ?_
  refine pw_one ?_
  refine ow_call2 rfl (wt_free rfl) fn13 (s_next hs.rot2 ok7 (by decide)) rfl rfl ?_ (by decide)
  clear hs hS
  rintro _ w ⟨r8, c8, rfl, hr8, ok8, hs⟩
  replace hs := hs.unrot2
  refine ⟨fun _ => Hold.cons hs (List.Mem.head _) (Hold.nil hs (PH.refl _)), ?_⟩; have hS := Hold.cons hs (List.Mem.head _) (Hold.nil hs (PH.refl _))
  refine pw_pur rfl (wt_free rfl) (p_mul64 rfl rfl (by have h9 := secr (r8 := r8) (r6 := r6) (by omega); show -9223372036854775808 ≤ (r8 : Int) * min (r6 : Int) 20000 ∧ (r8 : Int) * min (r6 : Int) 20000 ≤ _; omega)) (by decide) (fun _ => hS) ?_
  refine pw_pur rfl (wt_free rfl) (p_sub64 rfl rfl (by have h9 := secr (r8 := r8) (r6 := r6) (by omega); show -9223372036854775808 ≤ (r6 : Int) - (r8 : Int) * min (r6 : Int) 20000 ∧ (r6 : Int) - (r8 : Int) * min (r6 : Int) 20000 ≤ _; omega)) (by decide) (fun h => absurd h (by decide)) ?_
  refine pw_one ?_
  refine ow_store0 (α := GDaemon) (β := (Vec 32 UInt8)) rfl (wt_free rfl) ty27 rfl rfl GDaemon.l_secret hs ?_; clear hs; intro w hs
  refine ⟨fun h => absurd h (by decide), ?_⟩; have hS := True.intro
  refine pw_pur rfl (wt_free rfl) (p_fieldAddr fo35_11 rfl) (by decide) (fun h => absurd h (by decide)) ?_
  refine pw_one ?_
  refine ow_store0 (α := GDaemon) (β := Int) rfl (wt_free rfl) ty2 rfl rfl GDaemon.l_secretAt hs ?_; clear hs; intro w hs
  refine ⟨fun h => absurd h (by decide), ?_⟩; have hS := True.intro
  refine pw_done ?_
  refine cw_cut (M := fun f w => ∃ (d0 : GDaemon) (n : Nat) (cc : GCodes), f 0 = ptr b 0 ∧ f 2 = ptr b2 0 ∧ f 3 = ptr b3 0 ∧ f 4 = vi (n : Nat) ∧ 2 ≤ n ∧ n ≤ 3 ∧ Base d0 ∧ d0.peers = ⟨none, 0, 0⟩ ∧ d0.routes = ⟨none, 0, 0⟩ ∧ d0.slots = ⟨none, 0, 0⟩ ∧ d0.timers = ⟨none, 0, 0⟩ ∧ d0.recent = ⟨none, 0, 0⟩ ∧ d0.buckets = ⟨none, 0, 0⟩ ∧ CodeOk V cc ∧ St W0 V w ((b3, blk 35 d0) :: (b2, blk 35 GDaemon.zero) :: (b, blk 93 cc) :: L)) ?_ ?_
  · refine cw_region ?_
    refine l_pur (p_move e0) (by decide) ?_
    refine l_call2 fn13 (s_next hs.rot2 ok8 (by decide)) rfl rfl ?_ (by decide)
    clear hs
    rintro _ w ⟨r9, c9, rfl, hr9, ok9, hs⟩
    replace hs := hs.unrot2
    refine l_pur (p_add64 rfl rfl (by first | omega | (dsimp only; omega) | (simp; omega))) (by decide) ?_
    refine l_pur (p_assignI rfl) (by decide) ?_
    refine lw_nil ?_
    have h9 := secr (r8 := r8) (r6 := r6) (by omega)
    exact ⟨_, 2 + r9, c9, e0, rfl, rfl, by show vi (2 + (r9 : Int)) = vi ((2 + r9 : Nat) : Int); rw [Int.natCast_add]; rfl, by omega, by omega, ⟨hru, ⟨by simp, by simp; omega⟩, ⟨by simp, by simp; omega⟩, rfl, ⟨by simp; omega, by simp; omega⟩⟩, rfl, rfl, rfl, rfl, rfl, rfl, ok9, hs⟩
  · clear hs
    intro f w hI
    obtain ⟨d0, n, cc, e0, e2, e3, e4, hn2, hn3, hb, g1, g2, g3, g4, g5, g6, hcc, hs⟩ := hI
    have hnow := hb.now
    refine cw_seq ?_
    refine cw_seq (cw_region ?_)
    refine l_pur (p_assignC) (by decide) ?_
    refine lw_nil ?_
    refine cw_block ?_
    refine cw_loop (fun q f w => ∃ (i : Nat) (V1 : PH) (q1 q2 q4 : GSl) (ps : List GPeer) (ts : List GTimer) (cc : GCodes) (A : List (Nat × Obj)), q = n - i ∧ i ≤ n ∧ f 5 = vi (i : Nat) ∧ f 4 = vi (n : Nat) ∧ f 0 = ptr b 0 ∧ f 3 = ptr b3 0 ∧ f 2 = ptr b2 0 ∧ V ≤ V1 ∧ CodeOk V1 cc ∧ Inv1 d0 ps ts i ∧ OwnA 63 (val q1) ps A ∧ Sl V1 73 q2.a q2.cap (rsOf i) ∧ q2.len = i ∧ Sl V1 75 q4.a q4.cap ts ∧ q4.len = ts.length ∧ St W0 V1 w ((b3, blk 35 { d0 with peers := q1, routes := q2, timers := q4 }) :: (b2, blk 35 GDaemon.zero) :: (b, blk 93 cc) :: (A ++ L))) (n) ?_ ?_
    · have e : d0 = { d0 with peers := ⟨none, 0, 0⟩, routes := ⟨none, 0, 0⟩, timers := ⟨none, 0, 0⟩ } := by
        obtain ⟨x1, x2, x3, x4, x5, x6, x7, x8, x9, x10, x11, x12, x13, x14, x15⟩ := d0
        simp only at g1 g2 g4
        rw [g1, g2, g4]
      rw [e] at hs
      exact ⟨0, V, ⟨none, 0, 0⟩, ⟨none, 0, 0⟩, ⟨none, 0, 0⟩, [], [], cc, [], rfl, Nat.zero_le _, rfl, e4, e0, e3, e2, PH.refl _, hcc, ⟨hb, rfl, fun j h => by simp at h, fun j h => by simp at h, fun j h => by simp at h, TP.nil, fun t h => (by cases h), Nat.le_refl _⟩, OwnA.nil, .inl rfl, rfl, .inl rfl, rfl, hs⟩
    · intro q f w hI
      clear hs
      obtain ⟨i, V1, q1, q2, q4, ps, ts, cc, A, rfl, hi, e5, e4, e0, e3, e2, hV1, hcc, hinv, hA, hrs, hrl, htl, htl2, hs⟩ := hI
      obtain ⟨a1, cp1, ea1⟩ := hA.len
      have hA' := hA
      rw [ea1] at hA'
      refine cw_seq ?_
      refine cw_seq (cw_region ?_)
      refine l_pur (p_move e5) (by decide) ?_
      refine l_pur (p_move e4) (by decide) ?_
      refine l_pur (p_lss rfl rfl) (by decide) ?_
      refine lw_nil ?_
      refine cw_cond _ rfl (fun hc0 => ?_) (fun hc0 => ?_)
      · have hlt : i < n := by have := of_decide_eq_true hc0; omega
        have hi3 : i < 3 := by omega
        have hpl := hinv.pl
        have htlen := hinv.tl
        refine cw_skip ?_
        refine cw_seq ?_
        refine cw_block ?_
        refine cw_seq (cw_region ?_)
        refine l_pur (p_move e5) (by decide) ?_
        refine l_call1 fn14 (s_peer hs (by omega)) rfl ?_ (by decide)
        clear hs; rintro _ w ⟨rfl, hs⟩
        refine l_pur (p_move e0) (by decide) ?_
        refine l_call2 fn13 (s_next hs.rot2 hcc (by decide)) rfl rfl ?_ (by decide)
        clear hs
        rintro _ w ⟨r1, c1, rfl, hr1, ok1, hs⟩
        replace hs := hs.unrot2
        refine l_pur (p_gtr rfl rfl) (by decide) ?_
        refine l_pur (p_buildO (α := GPeer) Tryz.underlying63 (by kernel_rfl) z63 rfl (.cons (β := (Vec 32 UInt8)) rfl pl63_0 GPeer.l_pub (.cons (β := Bool) rfl pl63_2 GPeer.l_hasEndpoint (.nil _)))) (by decide) ?_
        refine l_alloc z63 hs (by decide) ?_; clear hs; intro b6 w hs
        refine l_store0 (α := GPeer) (β := GPeer) ty63 rfl rfl (Lens.id GPeer) hs ?_; clear hs; intro w hs
        refine lw_nil ?_
        refine cw_cut (M := fun f w => ∃ (p : GPeer), f 5 = vi (i : Nat) ∧ f 4 = vi (n : Nat) ∧ f 0 = ptr b 0 ∧ f 3 = ptr b3 0 ∧ f 2 = ptr b2 0 ∧ f 6 = ptr b6 0 ∧ p.pub = peerK (i : Nat) ∧ PeerOk d0 p ∧ p.ring = GRing.zero ∧ p.keepalive = 0 ∧ St W0 V1 w ((b6, blk 63 p) :: (b3, blk 35 { d0 with peers := q1, routes := q2, timers := q4 }) :: (b2, blk 35 GDaemon.zero) :: (b, blk 93 c1) :: (A ++ L))) ?_ ?_
        · refine cw_seq (cw_region ?_)
          refine l_pur (p_fieldAddr fo63_2 rfl) (by decide) ?_
          refine l_loadO (α := GPeer) (β := Bool) ty4 rfl GPeer.l_hasEndpoint hs (List.Mem.head _) (by decide) ?_
          refine lw_nil ?_
          refine cw_cond _ rfl (fun hc1 => ?_) (fun hc1 => ?_)
          · have hhas : decide ((r1 : Int) > 0) = true := hc1
            refine cw_region ?_
            refine l_pur (p_move e5) (by decide) ?_
            refine l_call1 fn15 (s_at hs (by omega)) rfl ?_ (by decide)
            clear hs; rintro _ w ⟨rfl, hs⟩
            refine l_pur (p_fieldAddr fo63_3 rfl) (by decide) ?_
            refine l_store0 (α := GPeer) (β := GEndpoint) ty43 rfl rfl GPeer.l_endpoint hs ?_; clear hs; intro w hs
            refine lw_nil ?_
            first
            | exact ⟨_, e5, e4, e0, e3, e2, rfl, rfl, ⟨.inr ⟨hc1, rfl⟩, .inl rfl, ⟨rfl, rfl⟩, ⟨rfl, rfl, rfl⟩, rfl, rfl, PlaceOk.zero, PlaceOk.zero, PlaceOk.zero⟩, rfl, rfl, hs⟩
            | (refine ⟨_, e5, e4, e0, e3, e2, rfl, rfl, ?_, rfl, rfl, hs⟩
               refine ⟨.inl ⟨hc1, rfl, atE_sound i hi3, ?_, ?_⟩, .inl rfl, ⟨rfl, rfl⟩, ⟨rfl, rfl, rfl⟩, rfl, rfl, PlaceOk.zero, PlaceOk.zero, PlaceOk.zero⟩
               · show (1 : Int) ≤ 1000 + i
                 omega
               · show (1000 : Int) + i ≤ 65535
                 omega)
          · have hhas : decide ((r1 : Int) > 0) = false := hc1
            refine cw_skip ?_
            first
            | exact ⟨_, e5, e4, e0, e3, e2, rfl, rfl, ⟨.inr ⟨hc1, rfl⟩, .inl rfl, ⟨rfl, rfl⟩, ⟨rfl, rfl, rfl⟩, rfl, rfl, PlaceOk.zero, PlaceOk.zero, PlaceOk.zero⟩, rfl, rfl, hs⟩
            | (refine ⟨_, e5, e4, e0, e3, e2, rfl, rfl, ?_, rfl, rfl, hs⟩
               refine ⟨.inl ⟨hc1, rfl, atE_sound i hi3, ?_, ?_⟩, .inl rfl, ⟨rfl, rfl⟩, ⟨rfl, rfl, rfl⟩, rfl, rfl, PlaceOk.zero, PlaceOk.zero, PlaceOk.zero⟩
               · show (1 : Int) ≤ 1000 + i
                 omega
               · show (1000 : Int) + i ≤ 65535
                 omega)
        · clear hs
          intro f w hI
          obtain ⟨p, e5, e4, e0, e3, e2, e6, hp1, hp2, hp3, hp4, hs⟩ := hI
          refine cw_cut (M := fun f w => ∃ (V2 : PH) (p : GPeer) (q4 : GSl) (ts' : List GTimer) (cc : GCodes), f 5 = vi (i : Nat) ∧ f 4 = vi (n : Nat) ∧ f 0 = ptr b 0 ∧ f 3 = ptr b3 0 ∧ f 2 = ptr b2 0 ∧ f 6 = ptr b6 0 ∧ V1 ≤ V2 ∧ p.pub = peerK (i : Nat) ∧ PeerOk d0 p ∧ p.ring = GRing.zero ∧ TP ts' ∧ (∀ t ∈ ts', t ∈ ts ∨ (d0.now < t.at_ ∧ t.kind = 4 ∧ t.peer = p.pub ∧ p.keepalive ≠ 0)) ∧ ts'.length ≤ i + 1 ∧ CodeOk V2 cc ∧ Sl V2 75 q4.a q4.cap ts' ∧ q4.len = ts'.length ∧ St W0 V2 w ((b6, blk 63 p) :: (b3, blk 35 { d0 with peers := q1, routes := q2, timers := q4 }) :: (b2, blk 35 GDaemon.zero) :: (b, blk 93 cc) :: (A ++ L))) ?_ ?_
          · refine cw_seq (cw_region ?_)
            refine l_pur (p_move e0) (by decide) ?_
            refine l_call2 fn13 (s_next hs.rot3 ok1 (by decide)) rfl rfl ?_ (by decide)
            clear hs
            rintro _ w ⟨r2, c2, rfl, hr2, ok2, hs⟩
            replace hs := hs.unrot3
            refine l_pur (p_eql rfl rfl) (by decide) ?_
            refine lw_nil ?_
            refine cw_cond _ rfl (fun hc2 => ?_) (fun hc2 => ?_)
            · try simp only [decide_eq_true_eq, decide_eq_false_iff_not, Bool.not_eq_true', Bool.not_eq_false', beq_iff_eq, bne_iff_ne, beq_eq_false_iff_ne, bne_eq_false_iff_eq] at hc2
              refine cw_seq (cw_region ?_)
              refine l_pur (p_move e0) (by decide) ?_
              refine l_call2 fn13 (s_next hs.rot3 ok2 (by decide)) rfl rfl ?_ (by decide)
              clear hs
              rintro _ w ⟨r3, c3, rfl, hr3, ok3, hs⟩
              replace hs := hs.unrot3
              refine l_pur (p_add64 rfl rfl (by first | omega | (dsimp only; omega) | (simp; omega))) (by decide) ?_
              refine l_pur (p_mul64 rfl rfl (by first | omega | (dsimp only; omega) | (simp; omega))) (by decide) ?_
              refine l_pur (p_fieldAddr fo63_4 e6) (by decide) ?_
              refine l_store0 (α := GPeer) (β := Int) ty2 rfl rfl GPeer.l_keepalive hs ?_; clear hs; intro w hs
              refine lw_nil ?_
              have hst := fun (w : World) (L : List (Nat × Obj)) (hs : St W0 V1 w L) (t : GTimer) => s_set (t := t) hs htl (by omega)
              rw [← htl2] at hst
              have hS := Hold.cons hs (List.Mem.head _) (Hold.cons hs (List.Mem.tail _ (List.Mem.head _)) (Hold.nil hs (PH.refl _)))
              refine cw_planH (.take 0 (.take 1 (.take 2 (.take 3 (.take 4 (.take 5 (.take 9 (.take 10 (.one 6 (.take 7 (.take 8 (.take 11 (.one 12 (.take 13 (.one 14 .done))))))))))))))) 4095 hmix (by kernel_rfl) (fun _ _ _ h => h) hs hS ?_
              clear hS; clear hs; intro w hs; have hS := Hold.cons hs (List.Mem.head _) (Hold.cons hs (List.Mem.tail _ (List.Mem.head _)) (Hold.nil hs (PH.refl _)))
              refine pw_pur rfl (wt_free rfl) (p_fieldAddr fo35_9 e3) (by decide) (fun _ => hS) ?_
              refine pw_ld rfl (wt_free rfl) (by kernel_rfl) (Hold.runs_loadO (α := GDaemon) (β := GSl) ty31 rfl GDaemon.l_timers (List.Mem.tail _ (List.Mem.head _))) (by decide) hS ?_
              refine pw_pur rfl (wt_free rfl) (p_fieldAddr fo35_5 e3) (by decide) (fun _ => hS) ?_
              refine pw_ld rfl (wt_free rfl) (by kernel_rfl) (Hold.runs_loadO (α := GDaemon) (β := Int) ty2 rfl GDaemon.l_now (List.Mem.tail _ (List.Mem.head _))) (by decide) hS ?_
              refine pw_pur rfl (wt_free rfl) (p_add64 rfl rfl (by first | omega | (dsimp only; omega) | (simp; omega))) (by decide) (fun _ => hS) ?_
              refine pw_pur rfl (wt_free rfl) (p_move e0) (by decide) (fun _ => hS) ?_
              refine pw_pur rfl (wt_free rfl) (p_fieldAddr fo63_0 e6) (by decide) (fun _ => hS) ?_
              refine pw_ld rfl (wt_free rfl) (by kernel_rfl) (Hold.runs_loadO (α := GPeer) (β := (Vec 32 UInt8)) ty27 rfl GPeer.l_pub (List.Mem.head _)) (by decide) hS ?_
              refine pw_one ?_
              refine ow_call2 rfl (wt_free rfl) fn13 (s_next hs.rot3 ok3 (by decide)) rfl rfl ?_ (by decide)
              clear hs hS
              rintro _ w ⟨r4, c4, rfl, hr4, ok4, hs⟩
              replace hs := hs.unrot3
              refine ⟨fun _ => Hold.cons hs (List.Mem.head _) (Hold.cons hs (List.Mem.tail _ (List.Mem.head _)) (Hold.nil hs (PH.refl _))), ?_⟩; have hS := Hold.cons hs (List.Mem.head _) (Hold.cons hs (List.Mem.tail _ (List.Mem.head _)) (Hold.nil hs (PH.refl _)))
              refine pw_pur rfl (wt_free rfl) (p_mul64 rfl rfl (by first | omega | (dsimp only; omega) | (simp; omega))) (by decide) (fun _ => hS) ?_
              refine pw_pur rfl (wt_free rfl) (p_add64 rfl rfl (by first | omega | (dsimp only; omega) | (simp; omega))) (by decide) (fun _ => hS) ?_
              refine pw_pur rfl (wt_free rfl) (p_buildO (α := GTimer) Tryz.underlying75 (by kernel_rfl) z75 rfl (.cons (β := Int) rfl pl75_0 GTimer.l_at_ (.cons (β := (Vec 32 UInt8)) rfl pl75_1 GTimer.l_peer (.cons (β := Int) rfl pl75_2 GTimer.l_kind (.nil _))))) (by decide) (fun _ => hS) ?_
              refine pw_one ?_
              refine ow_call2 rfl (wt_free rfl) fn16 (hst _ _ hs _) rfl rfl ?_ (by decide)
              clear hs hS
              intro v w ho
              obtain ⟨V2, a4, cp4, hV2, hs, rfl, hl4⟩ := ho.freeze
              refine ⟨fun h => absurd h (by decide), ?_⟩; have hS := True.intro
              refine pw_pur rfl (wt_free rfl) (p_fieldAddr fo35_9 e3) (by decide) (fun h => absurd h (by decide)) ?_
              refine pw_one ?_
              refine ow_store1 (α := GDaemon) (β := GSl) (z := (⟨_, _, _⟩ : GSl)) rfl (wt_free rfl) ty31 rfl rfl GDaemon.l_timers hs ?_; clear hs; intro w hs
              refine ⟨fun h => absurd h (by decide), ?_⟩; have hS := True.intro
              refine pw_done ?_
              first
              | exact ⟨V1, p, q4, ts, c2, e5, e4, e0, e3, e2, e6, PH.refl _, hp1, hp2, hp3, hinv.tp, fun t h => .inl h, by omega, ok2, htl, htl2, hs⟩
              | (have htl3 := setT_len ts ⟨d0.now + 1 + (r4 : Int) * 10, p.pub, 4⟩
                 have hkk : 1000 * (1 + (r3 : Int)) ≠ 0 := by omega
                 exact ⟨V2, { p with keepalive := 1000 * (1 + (r3 : Int)) }, ⟨a4, _, cp4⟩, setT ts ⟨d0.now + 1 + (r4 : Int) * 10, p.pub, 4⟩, c4, e5, e4, e0, e3, e2, e6, hV2, hp1, ⟨hp2.ep, .inr ⟨by simp; omega, by simp; omega⟩, hp2.init, hp2.cookie, hp2.staged, hp2.hand, hp2.r1, hp2.r2, hp2.r3⟩, hp3,
                   hinv.tp.set ⟨by show (1 : Int) ≤ 4; decide, by show (4 : Int) ≤ 5; decide, by show 0 ≤ d0.now + 1 + (r4 : Int) * 10; omega, by show d0.now + 1 + (r4 : Int) * 10 ≤ _; omega⟩, fun t ht => (mem_setT ht).elim (fun e => .inr (by subst e; exact ⟨by show d0.now < d0.now + 1 + (r4 : Int) * 10; omega, rfl, rfl, hkk⟩)) .inl, by omega, ok4.mono hV2, hl4, rfl, hs⟩)
            · try simp only [decide_eq_true_eq, decide_eq_false_iff_not, Bool.not_eq_true', Bool.not_eq_false', beq_iff_eq, bne_iff_ne, beq_eq_false_iff_ne, bne_eq_false_iff_eq] at hc2
              refine cw_skip ?_
              first
              | exact ⟨V1, p, q4, ts, c2, e5, e4, e0, e3, e2, e6, PH.refl _, hp1, hp2, hp3, hinv.tp, fun t h => .inl h, by omega, ok2, htl, htl2, hs⟩
              | (have htl3 := setT_len ts ⟨d0.now + 1 + (r4 : Int) * 10, p.pub, 4⟩
                 have hkk : 1000 * (1 + (r3 : Int)) ≠ 0 := by omega
                 exact ⟨V2, { p with keepalive := 1000 * (1 + (r3 : Int)) }, ⟨a4, _, cp4⟩, setT ts ⟨d0.now + 1 + (r4 : Int) * 10, p.pub, 4⟩, c4, e5, e4, e0, e3, e2, e6, hV2, hp1, ⟨hp2.ep, .inr ⟨by simp; omega, by simp; omega⟩, hp2.init, hp2.cookie, hp2.staged, hp2.hand, hp2.r1, hp2.r2, hp2.r3⟩, hp3,
                   hinv.tp.set ⟨by show (1 : Int) ≤ 4; decide, by show (4 : Int) ≤ 5; decide, by show 0 ≤ d0.now + 1 + (r4 : Int) * 10; omega, by show d0.now + 1 + (r4 : Int) * 10 ≤ _; omega⟩, fun t ht => (mem_setT ht).elim (fun e => .inr (by subst e; exact ⟨by show d0.now < d0.now + 1 + (r4 : Int) * 10; omega, rfl, rfl, hkk⟩)) .inl, by omega, ok4.mono hV2, hl4, rfl, hs⟩)
          · clear hs
            intro f w hI
            clear htl htl2
            obtain ⟨V2, p2, q5, ts2, c5, e5, e4, e0, e3, e2, e6, hV2, hk1, hk2, hk3, hk4, hk5, hk6, ok5, htl, htl2, hs⟩ := hI
            refine cw_seq (cw_region ?_)
            refine l_pur (p_fieldAddr fo35_6 e3) (by decide) ?_
            refine l_loadO (α := GDaemon) (β := GSl) ty28 rfl GDaemon.l_peers hs (List.Mem.tail _ (List.Mem.head _)) (by decide) ?_
            refine l_loadO (α := GPeer) (β := GPeer) ty63 e6 (Lens.id GPeer) hs (List.Mem.head _) (by decide) ?_
            refine l_buildSlice1 (α := GPeer) el28 z63 rfl (by decide) hs (by decide) ?_; clear hs; intro b79 w hs
            refine l_appendO (xs := ps) (ys := [p2]) el28 ea1 rfl (hA'.close (X := [_, _, _, _, _]) hs) (Src1.blk1 (hs.mem (List.mem_cons_self ..))) rfl (by rw [hpl]; omega) (by rw [hpl]; omega) (by decide) ?_
            clear hs
            intro v w ho
            obtain ⟨a2, cp2, rfl⟩ := ho.len
            obtain ⟨A2, hs, hA2⟩ := ho.openX (X := [_, _, _, _, _])
            refine l_pur (p_fieldAddr fo35_6 e3) (by decide) ?_
            refine l_store2 (α := GDaemon) (β := GSl) (z := (⟨_, _, _⟩ : GSl)) ty28 rfl rfl GDaemon.l_peers hs ?_; clear hs; intro w hs
            refine lw_nil ?_
            have hir := fun (w : World) (L : List (Nat × Obj)) (hs : St W0 V2 w L) => s_insroute (p := pfxK i) (peer := p2.pub) hs (hrs.mono hV2) (by rw [rsOf_len]; omega) (pfx_valid i hi3) (rsOf_ne hi3)
            rw [rsOf_len] at hir
            have e84 : Value.slice q2.a i q2.cap = val q2 := by rw [← hrl]; rfl
            have hS := Hold.cons hs (List.Mem.tail _ (List.Mem.head _)) (Hold.cons hs (List.Mem.tail _ (List.Mem.tail _ (List.Mem.head _))) (Hold.nil hs (PH.refl _)))
            refine cw_planH (.take 0 (.take 1 (.take 2 (.take 3 (.take 6 (.take 7 (.one 4 (.one 5 (.one 8 (.take 9 (.take 10 (.take 11 (.take 12 (.one 13 .done)))))))))))))) 255 hmix (by kernel_rfl) (fun _ _ _ h => h) hs hS ?_
            clear hS; clear hs; intro w hs; have hS := Hold.cons hs (List.Mem.tail _ (List.Mem.head _)) (Hold.cons hs (List.Mem.tail _ (List.Mem.tail _ (List.Mem.head _))) (Hold.nil hs (PH.refl _)))
            refine pw_pur rfl (wt_free rfl) (p_fieldAddr fo35_7 e3) (by decide) (fun _ => hS) ?_
            refine pw_ld rfl (wt_free rfl) (by kernel_rfl) (Hold.runs_loadO (α := GDaemon) (β := GSl) ty29 rfl GDaemon.l_routes (List.Mem.tail _ (List.Mem.head _))) (by decide) hS ?_
            refine pw_pur rfl (wt_free rfl) (p_move e5) (by decide) (fun _ => hS) ?_
            refine pw_pur rfl (wt_free rfl) (p_add64 rfl rfl (by first | omega | (dsimp only; omega) | (simp; omega))) (by decide) (fun _ => hS) ?_
            refine pw_pur rfl (wt_free rfl) (p_fieldAddr fo63_0 e6) (by decide) (fun _ => hS) ?_
            refine pw_ld rfl (wt_free rfl) (by kernel_rfl) (Hold.runs_loadO (α := GPeer) (β := (Vec 32 UInt8)) ty27 rfl GPeer.l_pub (List.Mem.head _)) (by decide) hS ?_
            refine pw_one ?_
            refine ow_call2 rfl (wt_free rfl) fn19 (s_host hs) rfl rfl ?_ (by decide)
            clear hs hS
            rintro _ w ⟨rfl, hs⟩
            refine ⟨fun _ => Hold.cons hs (List.Mem.tail _ (List.Mem.head _)) (Hold.cons hs (List.Mem.tail _ (List.Mem.tail _ (List.Mem.head _))) (Hold.nil hs (PH.refl _))), ?_⟩; have hS := Hold.cons hs (List.Mem.tail _ (List.Mem.head _)) (Hold.cons hs (List.Mem.tail _ (List.Mem.tail _ (List.Mem.head _))) (Hold.nil hs (PH.refl _)))
            refine pw_one ?_
            refine ow_call2 rfl (wt_free rfl) fn18 (s_masked (k := 16) hs (by decide)) rfl rfl ?_ (by decide)
            clear hs hS
            rintro _ w ⟨rfl, hs⟩
            rw [pfxK_eq]
            refine ⟨fun _ => Hold.cons hs (List.Mem.tail _ (List.Mem.head _)) (Hold.cons hs (List.Mem.tail _ (List.Mem.tail _ (List.Mem.head _))) (Hold.nil hs (PH.refl _))), ?_⟩; have hS := Hold.cons hs (List.Mem.tail _ (List.Mem.head _)) (Hold.cons hs (List.Mem.tail _ (List.Mem.tail _ (List.Mem.head _))) (Hold.nil hs (PH.refl _)))
            refine pw_one ?_
            refine ow_call3 rfl (wt_free rfl) fn17 (hir _ _ hs) ((show _ = val q2 from rfl).trans e84.symm) rfl rfl ?_ (by decide)
            clear hs hS
            rintro _ w ⟨v1, rfl, ho⟩
            obtain ⟨V3, a3, cp3, hV3, hs, rfl, hl3⟩ := ho.freeze
            refine ⟨fun h => absurd h (by decide), ?_⟩; have hS := True.intro
            refine pw_pur rfl (wt_free rfl) (p_moveT rfl) (by decide) (fun h => absurd h (by decide)) ?_
            refine pw_pur rfl (wt_free rfl) (p_extract rfl rfl) (by decide) (fun h => absurd h (by decide)) ?_
            refine pw_pur rfl (wt_free rfl) (p_extract rfl rfl) (by decide) (fun h => absurd h (by decide)) ?_
            refine pw_pur rfl (wt_free rfl) (p_fieldAddr fo35_7 e3) (by decide) (fun h => absurd h (by decide)) ?_
            refine pw_one ?_
            refine ow_store2 (α := GDaemon) (β := GSl) (z := (⟨_, _, _⟩ : GSl)) rfl (wt_free rfl) ty29 rfl rfl GDaemon.l_routes hs ?_; clear hs; intro w hs
            refine ⟨fun h => absurd h (by decide), ?_⟩; have hS := True.intro
            refine pw_done ?_
            refine cw_region ?_
            refine l_pur (p_move e5) (by decide) ?_
            refine l_pur (p_add64 rfl rfl (by first | omega | (dsimp only; omega) | (simp; omega))) (by decide) ?_
            refine l_pur (p_assignI rfl) (by decide) ?_
            refine lw_nil ?_
            have hr1' : insR (rsOf i) (pfxK i) p2.pub = rsOf (i + 1) := by rw [hk1]; rfl
            rw [hr1'] at hl3 hs
            refine ⟨_, by omega, i + 1, V3, ⟨a2, _, cp2⟩, ⟨a3, _, cp3⟩, q5, ps ++ [p2], ts2, c5, A2, rfl, hlt, rfl, e4, e0, e3, e2, PH.trans hV1 (PH.trans hV2 hV3), ok5.mono hV3, ?_, hA2, hl3, rsOf_len _, htl.mono hV3, htl2, hs.drop1.drop1⟩
            have hlen : (ps ++ [p2]).length = i + 1 := by simp [hpl]
            have hold : ∀ j (h : j < ps.length), (ps ++ [p2])[j]'(by simp; omega) = ps[j] := fun j h => List.getElem_append_left h
            have hnew : (ps ++ [p2])[ps.length]'(by simp) = p2 := by simp
            have hsplit : ∀ (Q : Nat → GPeer → Prop), (∀ j (h : j < ps.length), Q j ps[j]) → Q ps.length p2 → ∀ j (h : j < (ps ++ [p2]).length), Q j (ps ++ [p2])[j] := by
              intro Q hq1 hq2 j h
              by_cases e : j < ps.length
              · rw [hold j e]; exact hq1 j e
              · have e2 : j = ps.length := by rw [hlen] at h; omega
                subst e2; rw [hnew]; exact hq2
            refine ⟨hinv.base, hlen, hsplit (fun _ p => PeerOk d0 p) hinv.pk hk2, hsplit (fun j p => p.pub = peerK (j : Nat)) hinv.pp (by rw [hpl]; exact hk1), hsplit (fun _ p => p.ring = GRing.zero) hinv.pr hk3, hk4, fun t ht => ?_, hk6⟩
            rcases hk5 t ht with h1 | ⟨h1, h2, h3, h4⟩
            · obtain ⟨g1, g2, j, hj, g3, g4⟩ := hinv.tm t h1
              exact ⟨g1, g2, j, by rw [hlen]; omega, by rw [hold j hj]; exact g3, by rw [hold j hj]; exact g4⟩
            · exact ⟨h1, h2, ps.length, by simp, by rw [hnew]; exact h3, by rw [hnew]; exact h4⟩
      · try simp only [decide_eq_true_eq, decide_eq_false_iff_not, Bool.not_eq_true', Bool.not_eq_false', beq_iff_eq, bne_iff_ne, beq_eq_false_iff_ne, bne_eq_false_iff_eq] at hc0
        refine cw_exit ?_
        refine cw_seq ?_
        refine cw_seq ?_
        have hii : i = n := by omega
        subst hii
        have hpl := hinv.pl
        obtain ⟨V2, a2, cp2, hV2, hs, hq1, hl1⟩ := (hA.close (X := [_, _, _]) hs).freeze
        have hq1' : q1 = ⟨a2, ps.length, cp2⟩ := by
          obtain ⟨x, y, z⟩ := q1
          injection hq1 with h1 h2 h3
          subst h1 h2 h3; rfl
        subst hq1'
        have hinv2 := hinv.inv ⟨hn2, hn3⟩
        have hds : DSl V2 { d0 with peers := ⟨a2, ps.length, cp2⟩, routes := q2, timers := q4 } ps (rsOf i) [] ts := ⟨hl1, rfl, hrs.mono hV2, by rw [rsOf_len]; exact hrl, .inl rfl, by show d0.slots.len = 0; rw [g3], htl.mono hV2, htl2, g5, g6⟩
        refine cw_region ?_
        refine l_pur (p_assignC) (by decide) ?_
        refine lw_nil ?_
        refine cw_block ?_
        refine cw_loop (fun q f w => ∃ (j : Nat) (V3 : PH) (d : GDaemon) (ps : List GPeer) (ss : List GSlot) (ts : List GTimer) (cc : GCodes), q = i - j ∧ j ≤ i ∧ f 7 = vi (j : Nat) ∧ f 4 = vi (i : Nat) ∧ f 0 = ptr b 0 ∧ f 3 = ptr b3 0 ∧ f 2 = ptr b2 0 ∧ V ≤ V3 ∧ CodeOk V3 cc ∧ Inv d i ps ss ts j 3 ∧ DSl V3 d ps (rsOf i) ss ts ∧ St W0 V3 w ((b3, blk 35 d) :: (b2, blk 35 GDaemon.zero) :: (b, blk 93 cc) :: L)) (i) ?_ ?_
        · exact ⟨0, V2, { d0 with peers := ⟨a2, ps.length, cp2⟩, routes := q2, timers := q4 }, ps, [], ts, cc, rfl, Nat.zero_le _, rfl, e4, e0, e3, e2, PH.trans hV1 hV2, hcc.mono hV2, hinv2.conv rfl rfl rfl rfl rfl, hds, hs⟩
        · intro q f w hI
          clear hs hds hinv2 hl1 hinv hA hrs hrl htl htl2 hcc
          obtain ⟨j, V3, d, ps, ss, ts, cc, rfl, hj, e7, e4, e0, e3, e2, hV3, hcc, hinv, hds, hs⟩ := hI
          refine cw_seq ?_
          refine cw_seq (cw_region ?_)
          refine l_pur (p_move e7) (by decide) ?_
          refine l_pur (p_move e4) (by decide) ?_
          refine l_pur (p_lss rfl rfl) (by decide) ?_
          refine lw_nil ?_
          refine cw_cond _ rfl (fun hc3 => ?_) (fun hc3 => ?_)
          · have hlt : j < i := by have := of_decide_eq_true hc3; omega
            refine cw_skip ?_
            refine cw_seq ?_
            refine cw_block ?_
            refine cw_seq (cw_region ?_)
            refine l_pur (p_move e0) (by decide) ?_
            refine l_call2 fn13 (s_next hs.rot2 hcc (by decide)) rfl rfl ?_ (by decide)
            clear hs
            rintro _ w ⟨r1, c1, rfl, hr1, ok1, hs⟩
            replace hs := hs.unrot2
            refine l_pur (p_assignI rfl) (by decide) ?_
            refine lw_nil ?_
            refine cw_block ?_
            refine cw_loop (fun q f w => ∃ (V4 : PH) (d : GDaemon) (ps : List GPeer) (ss : List GSlot) (ts : List GTimer) (cc : GCodes), q ≤ 3 ∧ f 8 = vi (q : Nat) ∧ f 7 = vi (j : Nat) ∧ f 4 = vi (i : Nat) ∧ f 0 = ptr b 0 ∧ f 3 = ptr b3 0 ∧ f 2 = ptr b2 0 ∧ V ≤ V4 ∧ CodeOk V4 cc ∧ Inv d i ps ss ts j q ∧ DSl V4 d ps (rsOf i) ss ts ∧ St W0 V4 w ((b3, blk 35 d) :: (b2, blk 35 GDaemon.zero) :: (b, blk 93 cc) :: L)) (r1) ?_ ?_
            · exact ⟨V3, d, ps, ss, ts, c1, by omega, rfl, e7, e4, e0, e3, e2, hV3, ok1, hinv.start (by omega), hds, hs⟩
            · intro q f w hI
              clear hs hds hinv hcc ok1
              obtain ⟨V4, d, ps, ss, ts, cc, hq, e8, e7, e4, e0, e3, e2, hV4, hcc, hinv, hds, hs⟩ := hI
              refine cw_seq ?_
              refine cw_seq (cw_region ?_)
              refine l_pur (p_move e8) (by decide) ?_
              refine l_pur (p_gtr rfl rfl) (by decide) ?_
              refine lw_nil ?_
              refine cw_cond _ rfl (fun hc4 => ?_) (fun hc4 => ?_)
              · have hpos : 1 ≤ q := by have := of_decide_eq_true hc4; omega
                have hnow := hinv.base.now
                have hpl := hinv.pl
                have hjl : j < ps.length := by omega
                have hss : ss.length < 32 := by have := hinv.count; have := cntL_le ps ps.length; omega
                have hk1 := hinv.pp j hjl
                have hxu : (UInt32.ofInt (10 * (j : Int) + (q : Int))).toNat = 10 * j + q := by
                  have e : (10 * (j : Int) + (q : Int)) = ((10 * j + q : Nat) : Int) := by omega
                  rw [e]; exact u32_ofInt _ (by omega)
                have hfree : findS ss (UInt32.ofInt (10 * (j : Int) + (q : Int))) = none := findS_none' fun s hs e => by
                  obtain ⟨_, a, ha, _, hy⟩ := (hinv.mem s).1 hs
                  rw [e] at hy
                  exact hinv.fresh ⟨hpos, hq⟩ hxu a ha hy
                refine cw_skip ?_
                refine cw_seq ?_
                refine cw_block ?_
                have hS := Hold.cons hs (List.Mem.head _) (Hold.nil hs (PH.refl _))
                refine cw_planH (.take 0 (.take 1 (.take 3 (.take 4 (.take 5 (.take 6 (.take 7 (.take 8 (.take 9 (.take 11 (.one 2 (.one 10 (.one 12 (.one 13 (.take 14 (.take 15 (.take 16 (.one 17 .done)))))))))))))))))) 8191 hmix (by kernel_rfl) (fun _ _ _ h => h) hs hS ?_
                clear hS; clear hs; intro w hs; have hS := Hold.cons hs (List.Mem.head _) (Hold.nil hs (PH.refl _))
                refine pw_ld rfl (wt_free rfl) (by kernel_rfl) (Hold.runs_loadO (α := GDaemon) (β := GDaemon) ty35 e3 (Lens.id GDaemon) (List.Mem.head _)) (by decide) hS ?_
                refine pw_pur rfl (wt_free rfl) (p_move e7) (by decide) (fun _ => hS) ?_
                refine pw_pur rfl (wt_free rfl) (p_move e0) (by decide) (fun _ => hS) ?_
                refine pw_ld rfl (wt_free rfl) (by kernel_rfl) (Hold.runs_loadO (α := GDaemon) (β := GDaemon) ty35 e3 (Lens.id GDaemon) (List.Mem.head _)) (by decide) hS ?_
                refine pw_pur rfl (wt_free rfl) (p_move e7) (by decide) (fun _ => hS) ?_
                refine pw_pur rfl (wt_free rfl) (p_mul64 rfl rfl (by first | omega | (dsimp only; omega) | (simp; omega))) (by decide) (fun _ => hS) ?_
                refine pw_pur rfl (wt_free rfl) (p_move e8) (by decide) (fun _ => hS) ?_
                refine pw_pur rfl (wt_free rfl) (p_add64 rfl rfl (by first | omega | (dsimp only; omega) | (simp; omega))) (by decide) (fun _ => hS) ?_
                refine pw_pur rfl (wt_free rfl) (p_conv_u32 Tryz.underlying3 Tryz.underlying46 rfl) (by decide) (fun _ => hS) ?_
                refine pw_pur rfl (wt_free rfl) (p_move e0) (by decide) (fun _ => hS) ?_
                refine pw_one ?_
                refine ow_call1 rfl (wt_free rfl) fn14 (s_peer hs (by omega)) rfl ?_ (by decide)
                clear hs hS
                rintro _ w ⟨rfl, hs⟩
                refine ⟨fun _ => Hold.cons hs (List.Mem.head _) (Hold.nil hs (PH.refl _)), ?_⟩; have hS := Hold.cons hs (List.Mem.head _) (Hold.nil hs (PH.refl _))
                refine pw_one ?_
                refine ow_call3 rfl (wt_free rfl) fn21 (s_session hs.rot2 hcc ⟨by omega, by omega⟩ hinv.base.rules) rfl rfl rfl ?_ (by decide)
                clear hs hS
                rintro _ w ⟨s, c2, rfl, hs1, hs2, ok2, hs⟩
                replace hs := hs.unrot2
                refine ⟨fun _ => Hold.cons hs (List.Mem.head _) (Hold.nil hs (PH.refl _)), ?_⟩; have hS := Hold.cons hs (List.Mem.head _) (Hold.nil hs (PH.refl _))
                refine pw_one ?_
                refine ow_call1 rfl (wt_free rfl) fn22 (s_bool hs.rot2 ok2) rfl ?_ (by decide)
                clear hs hS
                rintro _ w ⟨o3, c3, rfl, ok3, hs⟩
                replace hs := hs.unrot2
                refine ⟨fun _ => Hold.cons hs (List.Mem.head _) (Hold.nil hs (PH.refl _)), ?_⟩; have hS := Hold.cons hs (List.Mem.head _) (Hold.nil hs (PH.refl _))
                refine pw_one ?_
                refine ow_call4 rfl (wt_free rfl) fn20 (s_install24 (i := j) hs hds (hinv.ok (by omega)) hjl (findP_pub hpl hn3 hinv.pp (by omega)) (by rw [hs1]; intro e; rw [e] at hxu; simp at hxu; omega) (by rw [hs1]; exact hfree) hss hs2) rfl rfl rfl rfl ?_ (by decide)
                clear hs hS
                rintro _ w ⟨V5, p1, p2, p3, p4, hV5, rfl, hds2, hs⟩
                refine ⟨fun h => absurd h (by decide), ?_⟩; have hS := True.intro
                refine pw_pur rfl (wt_free rfl) (p_moveT rfl) (by decide) (fun h => absurd h (by decide)) ?_
                refine pw_pur rfl (wt_free rfl) (p_extract rfl rfl) (by decide) (fun h => absurd h (by decide)) ?_
                refine pw_pur rfl (wt_free rfl) (p_extract rfl rfl) (by decide) (fun h => absurd h (by decide)) ?_
                refine pw_one ?_
                refine ow_store0 (α := GDaemon) (β := GDaemon) rfl (wt_free rfl) ty35 e3 rfl (Lens.id GDaemon) hs ?_; clear hs; intro w hs
                refine ⟨fun h => absurd h (by decide), ?_⟩; have hS := True.intro
                refine pw_done ?_
                refine cw_region ?_
                refine l_pur (p_move e8) (by decide) ?_
                refine l_pur (p_subN (a := _) (b := 1) rfl rfl (by first | omega | (dsimp only; omega) | (simp; omega)) (by first | omega | (dsimp only; omega) | (simp; omega))) (by decide) ?_
                refine l_pur (p_assignI rfl) (by decide) ?_
                refine lw_nil ?_
                have hi2 := hinv.install ⟨hpos, hq⟩ hjl o3 (by rw [hs1]; exact hxu) hs2
                rw [hk1] at hi2 hds2
                exact ⟨q - 1, by omega, V5, { d with peers := p1, routes := p2, slots := p3, timers := p4 }, _, _, _, c3, by omega, rfl, e7, e4, e0, e3, e2, PH.trans hV4 hV5, ok3.mono hV5, hi2.conv rfl rfl rfl rfl rfl, hds2, hs⟩
              · try simp only [decide_eq_true_eq, decide_eq_false_iff_not, Bool.not_eq_true', Bool.not_eq_false', beq_iff_eq, bne_iff_ne, beq_eq_false_iff_ne, bne_eq_false_iff_eq] at hc4
                refine cw_exit ?_
                refine cw_region ?_
                refine l_pur (p_move e7) (by decide) ?_
                refine l_pur (p_add64 rfl rfl (by first | omega | (dsimp only; omega) | (simp; omega))) (by decide) ?_
                refine l_pur (p_assignI rfl) (by decide) ?_
                refine lw_nil ?_
                have hq0 : q = 0 := by omega
                subst hq0
                exact ⟨_, by omega, j + 1, V4, d, ps, ss, ts, cc, rfl, hlt, rfl, e4, e0, e3, e2, hV4, hcc, hinv.stop, hds, hs⟩
          · have hjj : j = i := by have := of_decide_eq_false hc3; omega
            refine cw_exit ?_
            refine cw_seq (cw_region ?_)
            refine l_loadO (α := GDaemon) (β := GDaemon) ty35 e3 (Lens.id GDaemon) hs (List.Mem.head _) (by decide) ?_
            refine l_store1 (α := GDaemon) (β := GDaemon) ty35 e2 rfl (Lens.id GDaemon) hs ?_; clear hs; intro w hs
            refine lw_nil ?_
            refine cw_ret ?_
            repeat (with_reducible first | refine tf_ret ?_ | refine ib_ret ?_)
            refine fin1 (fn := Tryz.f4) rfl (rv_own (α := GDaemon) ty35 e2 (hs.mem (List.Mem.tail _ (List.Mem.head _)))) ?_
            subst hjj
            exact ⟨V3, d, j, ps, ss, ts, cc, hV3, rfl, hinv, hds, hcc, hs.drop1.drop1⟩
end Go.Bur
namespace Go.Bur
open Go Go.RowKit Go.Proofs
set_option maxHeartbeats 4000000
variable {W0 : World} {V : PH} {w : World} {L : List (Nat × Obj)}
theorem s_clone_Peer {a : Option Addr} {cap : Nat} {xs : List GPeer} (hs : St W0 V w L) (hl : Sl V 63 a cap xs) (hlen : xs.length < 1000000) :
    Calls Tryz.prog 48 #[.slice a xs.length cap] w (okR fun v w' => Own W0 V w' L 63 v xs) := by
  refine fn_enter (n := 8) Tryz.func48 rfl rfl rfl ?_
  intro f hf
  have e0 := hf 0
  simp only [Array.getD_eq_getD_getElem?, List.getElem?_toArray, List.getElem?_cons_zero, List.getElem?_cons_succ, Option.getD_some] at e0
  clear hf
  refine cw_seq (cw_region ?_)
  refine l_pur (p_assignC) (by decide) ?_
  refine lw_nil ?_
  refine cw_seq ?_
  refine cw_seq (cw_region ?_)
  refine l_pur (p_move e0) (by decide) ?_
  refine l_pur (p_eqlSlNil Tryz.underlying28 rfl rfl) (by decide) ?_
  refine lw_nil ?_
  refine cw_cond _ rfl (fun hc0 => ?_) (fun hc0 => ?_)
  · have hn : a = none := by simpa using hc0
    subst hn
    have hx := hl.none
    subst hx
    refine cw_seq (cw_region ?_)
    refine l_pur (p_assignC) (by decide) ?_
    refine lw_nil ?_
    refine cw_ret ?_
    repeat (with_reducible first | refine tf_ret ?_ | refine ib_ret ?_)
    refine fin1 (fn := Tryz.f48) rfl (rv_tmpL rfl) ?_
    first
    | exact Own.nil hs
    | simpa using ho
  · try simp only [decide_eq_true_eq, decide_eq_false_iff_not, Bool.not_eq_true', Bool.not_eq_false', beq_iff_eq, bne_iff_ne, beq_eq_false_iff_ne, bne_eq_false_iff_eq] at hc0
    refine cw_skip ?_
    refine cw_seq (cw_region ?_)
    refine l_buildSlice0 (α := GPeer) el28 hs (by decide) ?_; clear hs; intro b5 w hs
    refine l_pur (p_move e0) (by decide) ?_
    refine l_appendO el28 rfl rfl (Own.ofArr hs) (hl.src hs) rfl (by simp; omega) (by simp; omega) (by decide) ?_
    clear hs
    intro v w ho
    obtain ⟨a2, c2, rfl⟩ := ho.len
    refine l_pur (p_assignL rfl) (by decide) ?_
    refine lw_nil ?_
    refine cw_ret ?_
    repeat (with_reducible first | refine tf_ret ?_ | refine ib_ret ?_)
    refine fin1 (fn := Tryz.f48) rfl (rv_tmpL rfl) ?_
    first
    | exact Own.nil hs
    | simpa using ho
theorem s_clone_Route {a : Option Addr} {cap : Nat} {xs : List GRoute} (hs : St W0 V w L) (hl : Sl V 73 a cap xs) (hlen : xs.length < 1000000) :
    Calls Tryz.prog 50 #[.slice a xs.length cap] w (okR fun v w' => Own W0 V w' L 73 v xs) := by
  refine fn_enter (n := 8) Tryz.func50 rfl rfl rfl ?_
  intro f hf
  have e0 := hf 0
  simp only [Array.getD_eq_getD_getElem?, List.getElem?_toArray, List.getElem?_cons_zero, List.getElem?_cons_succ, Option.getD_some] at e0
  clear hf
  refine cw_seq (cw_region ?_)
  refine l_pur (p_assignC) (by decide) ?_
  refine lw_nil ?_
  refine cw_seq ?_
  refine cw_seq (cw_region ?_)
  refine l_pur (p_move e0) (by decide) ?_
  refine l_pur (p_eqlSlNil Tryz.underlying29 rfl rfl) (by decide) ?_
  refine lw_nil ?_
  refine cw_cond _ rfl (fun hc0 => ?_) (fun hc0 => ?_)
  · have hn : a = none := by simpa using hc0
    subst hn
    have hx := hl.none
    subst hx
    refine cw_seq (cw_region ?_)
    refine l_pur (p_assignC) (by decide) ?_
    refine lw_nil ?_
    refine cw_ret ?_
    repeat (with_reducible first | refine tf_ret ?_ | refine ib_ret ?_)
    refine fin1 (fn := Tryz.f50) rfl (rv_tmpL rfl) ?_
    first
    | exact Own.nil hs
    | simpa using ho
  · try simp only [decide_eq_true_eq, decide_eq_false_iff_not, Bool.not_eq_true', Bool.not_eq_false', beq_iff_eq, bne_iff_ne, beq_eq_false_iff_ne, bne_eq_false_iff_eq] at hc0
    refine cw_skip ?_
    refine cw_seq (cw_region ?_)
    refine l_buildSlice0 (α := GRoute) el29 hs (by decide) ?_; clear hs; intro b5 w hs
    refine l_pur (p_move e0) (by decide) ?_
    refine l_appendO el29 rfl rfl (Own.ofArr hs) (hl.src hs) rfl (by simp; omega) (by simp; omega) (by decide) ?_
    clear hs
    intro v w ho
    obtain ⟨a2, c2, rfl⟩ := ho.len
    refine l_pur (p_assignL rfl) (by decide) ?_
    refine lw_nil ?_
    refine cw_ret ?_
    repeat (with_reducible first | refine tf_ret ?_ | refine ib_ret ?_)
    refine fin1 (fn := Tryz.f50) rfl (rv_tmpL rfl) ?_
    first
    | exact Own.nil hs
    | simpa using ho
theorem s_clone_Slot {a : Option Addr} {cap : Nat} {xs : List GSlot} (hs : St W0 V w L) (hl : Sl V 69 a cap xs) (hlen : xs.length < 1000000) :
    Calls Tryz.prog 51 #[.slice a xs.length cap] w (okR fun v w' => Own W0 V w' L 69 v xs) := by
  refine fn_enter (n := 8) Tryz.func51 rfl rfl rfl ?_
  intro f hf
  have e0 := hf 0
  simp only [Array.getD_eq_getD_getElem?, List.getElem?_toArray, List.getElem?_cons_zero, List.getElem?_cons_succ, Option.getD_some] at e0
  clear hf
  refine cw_seq (cw_region ?_)
  refine l_pur (p_assignC) (by decide) ?_
  refine lw_nil ?_
  refine cw_seq ?_
  refine cw_seq (cw_region ?_)
  refine l_pur (p_move e0) (by decide) ?_
  refine l_pur (p_eqlSlNil Tryz.underlying30 rfl rfl) (by decide) ?_
  refine lw_nil ?_
  refine cw_cond _ rfl (fun hc0 => ?_) (fun hc0 => ?_)
  · have hn : a = none := by simpa using hc0
    subst hn
    have hx := hl.none
    subst hx
    refine cw_seq (cw_region ?_)
    refine l_pur (p_assignC) (by decide) ?_
    refine lw_nil ?_
    refine cw_ret ?_
    repeat (with_reducible first | refine tf_ret ?_ | refine ib_ret ?_)
    refine fin1 (fn := Tryz.f51) rfl (rv_tmpL rfl) ?_
    first
    | exact Own.nil hs
    | simpa using ho
  · try simp only [decide_eq_true_eq, decide_eq_false_iff_not, Bool.not_eq_true', Bool.not_eq_false', beq_iff_eq, bne_iff_ne, beq_eq_false_iff_ne, bne_eq_false_iff_eq] at hc0
    refine cw_skip ?_
    refine cw_seq (cw_region ?_)
    refine l_buildSlice0 (α := GSlot) el30 hs (by decide) ?_; clear hs; intro b5 w hs
    refine l_pur (p_move e0) (by decide) ?_
    refine l_appendO el30 rfl rfl (Own.ofArr hs) (hl.src hs) rfl (by simp; omega) (by simp; omega) (by decide) ?_
    clear hs
    intro v w ho
    obtain ⟨a2, c2, rfl⟩ := ho.len
    refine l_pur (p_assignL rfl) (by decide) ?_
    refine lw_nil ?_
    refine cw_ret ?_
    repeat (with_reducible first | refine tf_ret ?_ | refine ib_ret ?_)
    refine fin1 (fn := Tryz.f51) rfl (rv_tmpL rfl) ?_
    first
    | exact Own.nil hs
    | simpa using ho
theorem s_clone_Timer {a : Option Addr} {cap : Nat} {xs : List GTimer} (hs : St W0 V w L) (hl : Sl V 75 a cap xs) (hlen : xs.length < 1000000) :
    Calls Tryz.prog 52 #[.slice a xs.length cap] w (okR fun v w' => Own W0 V w' L 75 v xs) := by
  refine fn_enter (n := 8) Tryz.func52 rfl rfl rfl ?_
  intro f hf
  have e0 := hf 0
  simp only [Array.getD_eq_getD_getElem?, List.getElem?_toArray, List.getElem?_cons_zero, List.getElem?_cons_succ, Option.getD_some] at e0
  clear hf
  refine cw_seq (cw_region ?_)
  refine l_pur (p_assignC) (by decide) ?_
  refine lw_nil ?_
  refine cw_seq ?_
  refine cw_seq (cw_region ?_)
  refine l_pur (p_move e0) (by decide) ?_
  refine l_pur (p_eqlSlNil Tryz.underlying31 rfl rfl) (by decide) ?_
  refine lw_nil ?_
  refine cw_cond _ rfl (fun hc0 => ?_) (fun hc0 => ?_)
  · have hn : a = none := by simpa using hc0
    subst hn
    have hx := hl.none
    subst hx
    refine cw_seq (cw_region ?_)
    refine l_pur (p_assignC) (by decide) ?_
    refine lw_nil ?_
    refine cw_ret ?_
    repeat (with_reducible first | refine tf_ret ?_ | refine ib_ret ?_)
    refine fin1 (fn := Tryz.f52) rfl (rv_tmpL rfl) ?_
    first
    | exact Own.nil hs
    | simpa using ho
  · try simp only [decide_eq_true_eq, decide_eq_false_iff_not, Bool.not_eq_true', Bool.not_eq_false', beq_iff_eq, bne_iff_ne, beq_eq_false_iff_ne, bne_eq_false_iff_eq] at hc0
    refine cw_skip ?_
    refine cw_seq (cw_region ?_)
    refine l_buildSlice0 (α := GTimer) el31 hs (by decide) ?_; clear hs; intro b5 w hs
    refine l_pur (p_move e0) (by decide) ?_
    refine l_appendO el31 rfl rfl (Own.ofArr hs) (hl.src hs) rfl (by simp; omega) (by simp; omega) (by decide) ?_
    clear hs
    intro v w ho
    obtain ⟨a2, c2, rfl⟩ := ho.len
    refine l_pur (p_assignL rfl) (by decide) ?_
    refine lw_nil ?_
    refine cw_ret ?_
    repeat (with_reducible first | refine tf_ret ?_ | refine ib_ret ?_)
    refine fin1 (fn := Tryz.f52) rfl (rv_tmpL rfl) ?_
    first
    | exact Own.nil hs
    | simpa using ho
theorem s_clone0_Int {q : GSl} (hq : q = ⟨none, 0, 0⟩) (hs : St W0 V w L) :
    Calls Tryz.prog 53 #[val q] w (okR fun v w' => v = .slice none 0 0 ∧ St W0 V w' L) := by
  subst hq
  refine fn_enter (n := 8) Tryz.func53 rfl rfl rfl ?_
  intro f hf
  have e0 := hf 0
  simp only [Array.getD_eq_getD_getElem?, List.getElem?_toArray, List.getElem?_cons_zero, List.getElem?_cons_succ, Option.getD_some] at e0
  clear hf
  refine cw_seq (cw_region ?_)
  refine l_pur (p_assignC) (by decide) ?_
  refine lw_nil ?_
  refine cw_seq ?_
  refine cw_seq (cw_region ?_)
  refine l_pur (p_move e0) (by decide) ?_
  refine l_pur (p_eqlSlNil Tryz.underlying32 rfl rfl) (by decide) ?_
  refine lw_nil ?_
  refine cw_cond _ rfl (fun hc0 => ?_) (fun hc0 => ?_)
  · try simp only [decide_eq_true_eq, decide_eq_false_iff_not, Bool.not_eq_true', Bool.not_eq_false', beq_iff_eq, bne_iff_ne, beq_eq_false_iff_ne, bne_eq_false_iff_eq] at hc0
    refine cw_seq (cw_region ?_)
    refine l_pur (p_assignC) (by decide) ?_
    refine lw_nil ?_
    refine cw_ret ?_
    repeat (with_reducible first | refine tf_ret ?_ | refine ib_ret ?_)
    refine fin1 (fn := Tryz.f53) rfl (rv_tmpL rfl) ?_
    exact ⟨rfl, hs⟩
  · exact absurd hc0 (by decide)
theorem s_clone0_Bucket {q : GSl} (hq : q = ⟨none, 0, 0⟩) (hs : St W0 V w L) :
    Calls Tryz.prog 54 #[val q] w (okR fun v w' => v = .slice none 0 0 ∧ St W0 V w' L) := by
  subst hq
  refine fn_enter (n := 8) Tryz.func54 rfl rfl rfl ?_
  intro f hf
  have e0 := hf 0
  simp only [Array.getD_eq_getD_getElem?, List.getElem?_toArray, List.getElem?_cons_zero, List.getElem?_cons_succ, Option.getD_some] at e0
  clear hf
  refine cw_seq (cw_region ?_)
  refine l_pur (p_assignC) (by decide) ?_
  refine lw_nil ?_
  refine cw_seq ?_
  refine cw_seq (cw_region ?_)
  refine l_pur (p_move e0) (by decide) ?_
  refine l_pur (p_eqlSlNil Tryz.underlying33 rfl rfl) (by decide) ?_
  refine lw_nil ?_
  refine cw_cond _ rfl (fun hc0 => ?_) (fun hc0 => ?_)
  · try simp only [decide_eq_true_eq, decide_eq_false_iff_not, Bool.not_eq_true', Bool.not_eq_false', beq_iff_eq, bne_iff_ne, beq_eq_false_iff_ne, bne_eq_false_iff_eq] at hc0
    refine cw_seq (cw_region ?_)
    refine l_pur (p_assignC) (by decide) ?_
    refine lw_nil ?_
    refine cw_ret ?_
    repeat (with_reducible first | refine tf_ret ?_ | refine ib_ret ?_)
    refine fin1 (fn := Tryz.f54) rfl (rv_tmpL rfl) ?_
    exact ⟨rfl, hs⟩
  · exact absurd hc0 (by decide)
theorem s_clone0_Bytes {q : GSl} (hq : q = ⟨none, 0, 0⟩) (hs : St W0 V w L) :
    Calls Tryz.prog 80 #[val q] w (okR fun v w' => v = .slice none 0 0 ∧ St W0 V w' L) := by
  subst hq
  refine fn_enter (n := 8) Tryz.func80 rfl rfl rfl ?_
  intro f hf
  have e0 := hf 0
  simp only [Array.getD_eq_getD_getElem?, List.getElem?_toArray, List.getElem?_cons_zero, List.getElem?_cons_succ, Option.getD_some] at e0
  clear hf
  refine cw_seq (cw_region ?_)
  refine l_pur (p_assignC) (by decide) ?_
  refine lw_nil ?_
  refine cw_seq ?_
  refine cw_seq (cw_region ?_)
  refine l_pur (p_move e0) (by decide) ?_
  refine l_pur (p_eqlSlNil Tryz.underlying61 rfl rfl) (by decide) ?_
  refine lw_nil ?_
  refine cw_cond _ rfl (fun hc0 => ?_) (fun hc0 => ?_)
  · try simp only [decide_eq_true_eq, decide_eq_false_iff_not, Bool.not_eq_true', Bool.not_eq_false', beq_iff_eq, bne_iff_ne, beq_eq_false_iff_ne, bne_eq_false_iff_eq] at hc0
    refine cw_seq (cw_region ?_)
    refine l_pur (p_assignC) (by decide) ?_
    refine lw_nil ?_
    refine cw_ret ?_
    repeat (with_reducible first | refine tf_ret ?_ | refine ib_ret ?_)
    refine fin1 (fn := Tryz.f80) rfl (rv_tmpL rfl) ?_
    exact ⟨rfl, hs⟩
  · exact absurd hc0 (by decide)
theorem s_ownbytes0 {q : GSl} (hq : q = ⟨none, 0, 0⟩) (hs : St W0 V w L) :
    Calls Tryz.prog 49 #[val q] w (okR fun v w' => v = .slice none 0 0 ∧ St W0 V w' L) := by
  refine fn_enter (n := 22) Tryz.func49 rfl rfl rfl ?_
  intro f hf
  have e0 := hf 0
  simp only [Array.getD_eq_getD_getElem?, List.getElem?_toArray, List.getElem?_cons_zero, List.getElem?_cons_succ, Option.getD_some] at e0
  clear hf
  refine cw_seq (cw_region ?_)
  refine l_pur (p_assignC) (by decide) ?_
  refine lw_nil ?_
  refine cw_seq (cw_region ?_)
  refine l_pur (p_move e0) (by decide) ?_
  refine l_call1 fn80 (s_clone0_Bytes hq hs) rfl ?_ (by decide)
  clear hs; rintro _ w ⟨rfl, hs⟩
  refine l_pur (p_assignL rfl) (by decide) ?_
  refine lw_nil ?_
  refine cw_seq ?_
  refine cw_seq (cw_region ?_)
  refine l_pur (p_moveL rfl) (by decide) ?_
  refine l_pur (p_len Tryz.underlying61 rfl) (by decide) ?_
  refine l_pur (p_moveC) (by decide) ?_
  refine lw_nil ?_
  refine cw_block ?_
  refine cw_loop (fun q f w => f 10 = vi 0 ∧ f 9 = vi 0 ∧ f 3 = .slice none 0 0 ∧ St W0 V w L) (0) ?_ ?_
  · exact ⟨rfl, rfl, rfl, hs⟩
  · intro q f w hI
    obtain ⟨e10, e9, e3, hs⟩ := hI
    refine cw_seq (cw_region ?_)
    refine l_pur (p_lss e10 e9) (by decide) ?_
    refine lw_nil ?_
    refine cw_seq ?_
    refine cw_cond _ rfl (fun hc0 => ?_) (fun hc0 => ?_)
    · exact absurd hc0 (by decide)
    · try simp only [decide_eq_true_eq, decide_eq_false_iff_not, Bool.not_eq_true', Bool.not_eq_false', beq_iff_eq, bne_iff_ne, beq_eq_false_iff_ne, bne_eq_false_iff_eq] at hc0
      refine cw_exit ?_
      refine cw_seq (cw_region ?_)
      refine l_pur (p_move e3) (by decide) ?_
      refine l_pur (p_assignL rfl) (by decide) ?_
      refine lw_nil ?_
      refine cw_ret ?_
      repeat (with_reducible first | refine tf_ret ?_ | refine ib_ret ?_)
      refine fin1 (fn := Tryz.f49) rfl (rv_tmpL rfl) ?_
      exact ⟨rfl, hs⟩
theorem s_owndaemon {d : GDaemon} {ps : List GPeer} {rs : List GRoute} {ss : List GSlot} {ts : List GTimer} (hs : St W0 V w L) (hd : DSl V d ps rs ss ts) (hst : ∀ i (h : i < ps.length), ps[i].staged = ⟨none, 0, 0⟩) (hn : ps.length < 1000) (hrn : rs.length < 1000) (hsn : ss.length < 1000) (htn : ts.length < 1000) :
    Calls Tryz.prog 23 #[val d] w (okR fun v w' => ∃ (V' : PH) (q1 q2 q3 q4 : GSl) (A : List (Nat × Obj)), V ≤ V' ∧ v = val { d with peers := q1, routes := q2, slots := q3, timers := q4 } ∧ OwnA 63 (val q1) ps A ∧
      Sl V' 73 q2.a q2.cap rs ∧ q2.len = rs.length ∧ Sl V' 69 q3.a q3.cap ss ∧ q3.len = ss.length ∧ Sl V' 75 q4.a q4.cap ts ∧ q4.len = ts.length ∧ St W0 V' w' (A ++ L)) := by
  have hcp := fun (w : World) (L : List (Nat × Obj)) (hs : St W0 V w L) => s_clone_Peer hs hd.p (by omega)
  rw [← hd.pl] at hcp
  refine fn_enter (n := 48) Tryz.func23 rfl rfl rfl ?_
  intro f hf
  have e0 := hf 0
  simp only [Array.getD_eq_getD_getElem?, List.getElem?_toArray, List.getElem?_cons_zero, List.getElem?_cons_succ, Option.getD_some] at e0
  clear hf
  refine cw_seq (cw_region ?_)
  refine l_box (α := GDaemon) e0 hs (by decide) ?_; clear hs; intro b1 w hs
  refine l_alloc z35 hs (by decide) ?_; clear hs; intro b2 w hs
  refine lw_nil ?_
  refine cw_seq (cw_region ?_)
  refine l_pur (p_fieldAddr fo35_6 rfl) (by decide) ?_
  refine l_loadO (α := GDaemon) (β := GSl) ty28 rfl GDaemon.l_peers hs (List.Mem.tail _ (List.Mem.head _)) (by decide) ?_
  refine l_call1 fn48 (hcp _ _ hs) rfl ?_ (by decide)
  clear hs
  intro v w ho
  obtain ⟨a2, cp2, rfl⟩ := ho.len
  obtain ⟨A, hs, hA⟩ := ho.openX (X := [_, _])
  refine l_pur (p_fieldAddr fo35_6 rfl) (by decide) ?_
  refine l_store1 (α := GDaemon) (β := GSl) (z := (⟨_, _, _⟩ : GSl)) ty28 rfl rfl GDaemon.l_peers hs ?_; clear hs; intro w hs
  refine lw_nil ?_
  refine cw_seq ?_
  refine cw_seq (cw_region ?_)
  refine l_pur (p_fieldAddr fo35_6 rfl) (by decide) ?_
  refine l_loadO (α := GDaemon) (β := GSl) ty28 rfl GDaemon.l_peers hs (List.Mem.tail _ (List.Mem.head _)) (by decide) ?_
  refine l_pur (p_len Tryz.underlying28 rfl) (by decide) ?_
  refine l_pur (p_moveC) (by decide) ?_
  refine lw_nil ?_
  refine cw_block ?_
  refine cw_loop (fun q f w => ∃ (i : Nat), q = ps.length - i ∧ i ≤ ps.length ∧ f 11 = vi i ∧ f 10 = vi ps.length ∧ f 1 = ptr b1 0 ∧ f 2 = ptr b2 0 ∧ St W0 V w ((b2, blk 35 GDaemon.zero) :: (b1, blk 35 (d.s_peers ⟨a2, ps.length, cp2⟩)) :: (A ++ L))) (ps.length) ?_ ?_
  · exact ⟨0, rfl, Nat.zero_le _, rfl, rfl, rfl, rfl, hs⟩
  · intro q f w hI
    clear hs
    obtain ⟨i, rfl, hi, e11, e10, e1, e2, hs⟩ := hI
    refine cw_seq (cw_region ?_)
    refine l_pur (p_lss e11 e10) (by decide) ?_
    refine lw_nil ?_
    refine cw_seq ?_
    refine cw_cond _ rfl (fun hc0 => ?_) (fun hc0 => ?_)
    · have hlt : i < ps.length := by have := of_decide_eq_true hc0; omega
      obtain ⟨bp, cp, sp, hv, hcc, hle, rfl⟩ := hA.blk (by omega)
      obtain ⟨rfl, rfl⟩ : a2 = some ⟨bp, 0, none⟩ ∧ cp2 = cp := by injection hv with h1 h2 h3; exact ⟨h1, h3⟩
      refine cw_skip ?_
      refine cw_seq ?_
      refine cw_block ?_
      refine cw_seq (cw_region ?_)
      refine l_pur (p_move e11) (by decide) ?_
      refine l_pur (p_assignI rfl) (by decide) ?_
      refine lw_nil ?_
      have hS := Hold.cons hs (List.Mem.tail _ (List.Mem.head _)) (Hold.cons hs (List.Mem.tail _ (List.Mem.tail _ (List.Mem.head _))) (Hold.nil hs (PH.refl _)))
      refine cw_planH (.take 0 (.take 1 (.take 2 (.take 3 (.take 4 (.take 5 (.take 6 (.take 7 (.take 8 (.one 9 (.take 10 (.take 11 (.one 12 .done))))))))))))) 1023 hmix (by kernel_rfl) (fun _ _ _ h => h) hs hS ?_
      clear hS; clear hs; intro w hs; have hS := Hold.cons hs (List.Mem.tail _ (List.Mem.head _)) (Hold.cons hs (List.Mem.tail _ (List.Mem.tail _ (List.Mem.head _))) (Hold.nil hs (PH.refl _)))
      refine pw_pur rfl (wt_free rfl) (p_fieldAddr fo35_6 e1) (by decide) (fun _ => hS) ?_
      refine pw_ld rfl (wt_free rfl) (by kernel_rfl) (Hold.runs_loadO (α := GDaemon) (β := GSl) ty28 rfl GDaemon.l_peers (List.Mem.head _)) (by decide) hS ?_
      refine pw_pur rfl (wt_free rfl) (p_moveI rfl) (by decide) (fun _ => hS) ?_
      refine pw_pur rfl (wt_free rfl) (p_fieldAddr fo35_6 e1) (by decide) (fun _ => hS) ?_
      refine pw_ld rfl (wt_free rfl) (by kernel_rfl) (Hold.runs_loadO (α := GDaemon) (β := GSl) ty28 rfl GDaemon.l_peers (List.Mem.head _)) (by decide) hS ?_
      refine pw_pur rfl (wt_free rfl) (p_moveI rfl) (by decide) (fun _ => hS) ?_
      refine pw_pur rfl (wt_free rfl) (p_indexON el28.sl el28.ty.size rfl rfl (by (first | omega | decide | (dsimp only; omega) | (simp; omega)))) (by decide) (fun _ => hS) ?_
      refine pw_pur rfl (wt_free rfl) (p_fieldAddr fo63_14 rfl) (by decide) (fun _ => hS) ?_
      refine pw_ld rfl (wt_free rfl) (by kernel_rfl) (Hold.runs_loadE (α := GPeer) (β := GSl) ty61 rfl rfl GPeer.l_staged (by first | omega | (simp; omega)) (List.Mem.tail _ (List.Mem.head _))) (by decide) hS ?_
      refine pw_one ?_
      refine ow_call1 rfl (wt_free rfl) fn49 (s_ownbytes0 (hst i hlt) hs) rfl ?_ (by decide)
      clear hs; rintro _ w ⟨rfl, hs⟩
      refine ⟨fun _ => Hold.cons hs (List.Mem.tail _ (List.Mem.head _)) (Hold.cons hs (List.Mem.tail _ (List.Mem.tail _ (List.Mem.head _))) (Hold.nil hs (PH.refl _))), ?_⟩; have hS := Hold.cons hs (List.Mem.tail _ (List.Mem.head _)) (Hold.cons hs (List.Mem.tail _ (List.Mem.tail _ (List.Mem.head _))) (Hold.nil hs (PH.refl _)))
      refine pw_pur rfl (wt_free rfl) (p_indexON el28.sl el28.ty.size rfl rfl (by (first | omega | decide | (dsimp only; omega) | (simp; omega)))) (by decide) (fun h => absurd h (by decide)) ?_
      refine pw_pur rfl (wt_free rfl) (p_fieldAddr fo63_14 rfl) (by decide) (fun h => absurd h (by decide)) ?_
      refine pw_one ?_
      refine ow_storeE (α := GPeer) (β := GSl) (z := (⟨_, _, _⟩ : GSl)) rfl (wt_free rfl) ty61 rfl rfl rfl GPeer.l_staged (by first | omega | (simp; omega)) hs (Rep.tail (Rep.tail Rep.head)) ?_; clear hs; intro w hs
      refine ⟨fun h => absurd h (by decide), ?_⟩; have hS := True.intro
      refine pw_done ?_
      refine cw_region ?_
      refine l_pur (p_add64 e11 rfl (by first | omega | (dsimp only; omega) | (simp; omega))) (by decide) ?_
      refine l_pur (p_moveI rfl) (by decide) ?_
      refine lw_nil ?_
      have hself : ps.set i (GPeer.s_staged ps[i] ⟨none, 0, 0⟩) = ps := by
        have e : GPeer.s_staged ps[i] ⟨none, 0, 0⟩ = ps[i] := by rw [← hst i hlt]; rfl
        rw [e, list_set_self]
      rw [hself] at hs
      exact ⟨_, by omega, i + 1, rfl, hlt, rfl, e10, e1, e2, hs⟩
    · try simp only [decide_eq_true_eq, decide_eq_false_iff_not, Bool.not_eq_true', Bool.not_eq_false', beq_iff_eq, bne_iff_ne, beq_eq_false_iff_ne, bne_eq_false_iff_eq] at hc0
      refine cw_exit ?_
      refine cw_seq ?_
      have hcr := fun (w : World) (L : List (Nat × Obj)) (hs : St W0 V w L) => s_clone_Route hs hd.r (by omega)
      rw [← hd.rl] at hcr
      have hcs := fun (V' : PH) (hV : V ≤ V') (w : World) (L : List (Nat × Obj)) (hs : St W0 V' w L) => s_clone_Slot hs (hd.s.mono hV) (by omega)
      rw [← hd.sl] at hcs
      have hct := fun (V' : PH) (hV : V ≤ V') (w : World) (L : List (Nat × Obj)) (hs : St W0 V' w L) => s_clone_Timer hs (hd.t.mono hV) (by omega)
      rw [← hd.tl] at hct
      have hS := Hold.cons hs (List.Mem.tail _ (List.Mem.head _)) (Hold.nil hs (PH.refl _))
      refine cw_planH (.take 0 (.take 1 (.take 3 (.take 4 (.take 6 (.take 7 (.one 2 (.take 9 (.one 5 (.one 8 (.one 10 (.take 11 (.one 12 (.take 13 (.one 14 .done))))))))))))))) 255 hmix (by kernel_rfl) (fun _ _ _ h => h) hs hS ?_
      clear hS; clear hs; intro w hs; have hS := Hold.cons hs (List.Mem.tail _ (List.Mem.head _)) (Hold.nil hs (PH.refl _))
      refine pw_pur rfl (wt_free rfl) (p_fieldAddr fo35_7 e1) (by decide) (fun _ => hS) ?_
      refine pw_ld rfl (wt_free rfl) (by kernel_rfl) (Hold.runs_loadO (α := GDaemon) (β := GSl) ty29 rfl GDaemon.l_routes (List.Mem.head _)) (by decide) hS ?_
      refine pw_pur rfl (wt_free rfl) (p_fieldAddr fo35_8 e1) (by decide) (fun _ => hS) ?_
      refine pw_ld rfl (wt_free rfl) (by kernel_rfl) (Hold.runs_loadO (α := GDaemon) (β := GSl) ty30 rfl GDaemon.l_slots (List.Mem.head _)) (by decide) hS ?_
      refine pw_pur rfl (wt_free rfl) (p_fieldAddr fo35_9 e1) (by decide) (fun _ => hS) ?_
      refine pw_ld rfl (wt_free rfl) (by kernel_rfl) (Hold.runs_loadO (α := GDaemon) (β := GSl) ty31 rfl GDaemon.l_timers (List.Mem.head _)) (by decide) hS ?_
      refine pw_one ?_
      refine ow_call1 rfl (wt_free rfl) fn50 (hcr _ _ hs) rfl ?_ (by decide)
      clear hs hS
      intro v w ho
      obtain ⟨V3, a3, cp3, hV3, hs, rfl, hl3⟩ := ho.freeze
      refine ⟨fun _ => Hold.cons hs (List.Mem.tail _ (List.Mem.head _)) (Hold.nil hs hV3), ?_⟩; have hS := Hold.cons hs (List.Mem.tail _ (List.Mem.head _)) (Hold.nil hs hV3)
      refine pw_pur rfl (wt_free rfl) (p_fieldAddr fo35_7 e1) (by decide) (fun h => absurd h (by decide)) ?_
      refine pw_one ?_
      refine ow_call1 rfl (wt_free rfl) fn51 (hcs _ hV3 _ _ hs) rfl ?_ (by decide)
      clear hs hS
      intro v w ho
      obtain ⟨V4, a4, cp4, hV4, hs, rfl, hl4⟩ := ho.freeze
      have hV34 := hV4
      replace hV4 := PH.trans hV3 hV4
      refine ⟨fun _ => Hold.cons hs (List.Mem.tail _ (List.Mem.head _)) (Hold.nil hs hV4), ?_⟩; have hS := Hold.cons hs (List.Mem.tail _ (List.Mem.head _)) (Hold.nil hs hV4)
      refine pw_one ?_
      refine ow_call1 rfl (wt_free rfl) fn52 (hct _ hV4 _ _ hs) rfl ?_ (by decide)
      clear hs hS
      intro v w ho
      obtain ⟨V5, a5, cp5, hV5, hs, rfl, hl5⟩ := ho.freeze
      have hV45 := hV5
      replace hV5 := PH.trans hV4 hV5
      refine ⟨fun h => absurd h (by decide), ?_⟩; have hS := True.intro
      refine pw_one ?_
      refine ow_store1 (α := GDaemon) (β := GSl) (z := (⟨_, _, _⟩ : GSl)) rfl (wt_free rfl) ty29 rfl rfl GDaemon.l_routes hs ?_; clear hs; intro w hs
      refine ⟨fun h => absurd h (by decide), ?_⟩; have hS := True.intro
      refine pw_pur rfl (wt_free rfl) (p_fieldAddr fo35_8 e1) (by decide) (fun h => absurd h (by decide)) ?_
      refine pw_one ?_
      refine ow_store1 (α := GDaemon) (β := GSl) (z := (⟨_, _, _⟩ : GSl)) rfl (wt_free rfl) ty30 rfl rfl GDaemon.l_slots hs ?_; clear hs; intro w hs
      refine ⟨fun h => absurd h (by decide), ?_⟩; have hS := True.intro
      refine pw_pur rfl (wt_free rfl) (p_fieldAddr fo35_9 e1) (by decide) (fun h => absurd h (by decide)) ?_
      refine pw_one ?_
      refine ow_store1 (α := GDaemon) (β := GSl) (z := (⟨_, _, _⟩ : GSl)) rfl (wt_free rfl) ty31 rfl rfl GDaemon.l_timers hs ?_; clear hs; intro w hs
      refine ⟨fun h => absurd h (by decide), ?_⟩; have hS := True.intro
      refine pw_done ?_
      refine cw_seq ?_
      have hS := Hold.cons hs (List.Mem.tail _ (List.Mem.head _)) (Hold.nil hs (PH.refl _))
      refine cw_planH (.take 0 (.take 1 (.take 3 (.take 4 (.one 2 (.take 6 (.one 5 (.one 7 (.take 8 (.one 9 .done)))))))))) 31 hmix (by kernel_rfl) (fun _ _ _ h => h) hs hS ?_
      clear hS; clear hs; intro w hs; have hS := Hold.cons hs (List.Mem.tail _ (List.Mem.head _)) (Hold.nil hs (PH.refl _))
      refine pw_pur rfl (wt_free rfl) (p_fieldAddr fo35_12 e1) (by decide) (fun _ => hS) ?_
      refine pw_ld rfl (wt_free rfl) (by kernel_rfl) (Hold.runs_loadO (α := GDaemon) (β := GSl) ty32 rfl GDaemon.l_recent (List.Mem.head _)) (by decide) hS ?_
      refine pw_pur rfl (wt_free rfl) (p_fieldAddr fo35_13 e1) (by decide) (fun _ => hS) ?_
      refine pw_ld rfl (wt_free rfl) (by kernel_rfl) (Hold.runs_loadO (α := GDaemon) (β := GSl) ty33 rfl GDaemon.l_buckets (List.Mem.head _)) (by decide) hS ?_
      refine pw_one ?_
      refine ow_call1 rfl (wt_free rfl) fn53 (s_clone0_Int hd.re hs) rfl ?_ (by decide)
      clear hs; rintro _ w ⟨rfl, hs⟩
      refine ⟨fun _ => Hold.cons hs (List.Mem.tail _ (List.Mem.head _)) (Hold.nil hs (PH.refl _)), ?_⟩; have hS := Hold.cons hs (List.Mem.tail _ (List.Mem.head _)) (Hold.nil hs (PH.refl _))
      refine pw_pur rfl (wt_free rfl) (p_fieldAddr fo35_12 e1) (by decide) (fun h => absurd h (by decide)) ?_
      refine pw_one ?_
      refine ow_call1 rfl (wt_free rfl) fn54 (s_clone0_Bucket hd.bu hs) rfl ?_ (by decide)
      clear hs; rintro _ w ⟨rfl, hs⟩
      refine ⟨fun h => absurd h (by decide), ?_⟩; have hS := True.intro
      refine pw_one ?_
      refine ow_store1 (α := GDaemon) (β := GSl) (z := (⟨_, _, _⟩ : GSl)) rfl (wt_free rfl) ty32 rfl rfl GDaemon.l_recent hs ?_; clear hs; intro w hs
      refine ⟨fun h => absurd h (by decide), ?_⟩; have hS := True.intro
      refine pw_pur rfl (wt_free rfl) (p_fieldAddr fo35_13 e1) (by decide) (fun h => absurd h (by decide)) ?_
      refine pw_one ?_
      refine ow_store1 (α := GDaemon) (β := GSl) (z := (⟨_, _, _⟩ : GSl)) rfl (wt_free rfl) ty33 rfl rfl GDaemon.l_buckets hs ?_; clear hs; intro w hs
      refine ⟨fun h => absurd h (by decide), ?_⟩; have hS := True.intro
      refine pw_done ?_
      refine cw_seq (cw_region ?_)
      refine l_loadO (α := GDaemon) (β := GDaemon) ty35 e1 (Lens.id GDaemon) hs (List.Mem.tail _ (List.Mem.head _)) (by decide) ?_
      refine l_store0 (α := GDaemon) (β := GDaemon) ty35 e2 rfl (Lens.id GDaemon) hs ?_; clear hs; intro w hs
      refine lw_nil ?_
      refine cw_ret ?_
      repeat (with_reducible first | refine tf_ret ?_ | refine ib_ret ?_)
      refine fin1 (fn := Tryz.f23) rfl (rv_own (α := GDaemon) ty35 e2 (hs.mem (List.Mem.head _))) ?_
      have e : val ({ d with peers := ⟨a2, ps.length, cp2⟩, routes := ⟨a3, rs.length, cp3⟩, slots := ⟨a4, ss.length, cp4⟩, timers := ⟨a5, ts.length, cp5⟩, recent := ⟨none, 0, 0⟩, buckets := ⟨none, 0, 0⟩ } : GDaemon) = val { d with peers := ⟨a2, ps.length, cp2⟩, routes := ⟨a3, rs.length, cp3⟩, slots := ⟨a4, ss.length, cp4⟩, timers := ⟨a5, ts.length, cp5⟩ } := by
        rw [hd.re, hd.bu]
      exact ⟨V5, ⟨a2, ps.length, cp2⟩, ⟨a3, rs.length, cp3⟩, ⟨a4, ss.length, cp4⟩, ⟨a5, ts.length, cp5⟩, A, hV5, e, hA, (hl3.mono hV34).mono hV45, rfl, hl4.mono hV45, rfl, hl5, rfl, hs.drop1.drop1⟩
end Go.Bur
namespace Go.Bur
open Go Go.RowKit Go.Proofs
set_option maxHeartbeats 4000000
variable {W0 : World} {V : PH} {w : World} {L : List (Nat × Obj)}
theorem s_ifn_Peer {a : Option Addr} {cap : Nat} {xs : List GPeer} {p : GPeer → Bool} {k : FuncId} {cl : List Value} (hs : St W0 V w L) (hl : Sl V 63 a cap xs) (hlen : xs.length < 1000000) (hk : FnOk Tryz.prog k)
    (hf : ∀ (x : GPeer) (w : World) (L : List (Nat × Obj)), St W0 V w L → Calls Tryz.prog k (val x :: cl).toArray w (okR fun v w' => v = .bool (p x) ∧ St W0 V w' L)) :
    Calls Tryz.prog 66 #[.slice a xs.length cap, .func (.func k) #[] cl.toArray] w (okR fun v w' => v = vi (idxP p xs) ∧ St W0 V w' L) := by
  refine fn_enter (n := 19) Tryz.func66 rfl rfl rfl ?_
  intro f hf
  have e0 := hf 0
  have e1 := hf 1
  simp only [Array.getD_eq_getD_getElem?, List.getElem?_toArray, List.getElem?_cons_zero, List.getElem?_cons_succ, Option.getD_some] at e0 e1
  clear hf
  refine cw_seq (cw_region ?_)
  refine l_pur (p_assignC) (by decide) ?_
  refine lw_nil ?_
  refine cw_seq ?_
  refine cw_seq (cw_region ?_)
  refine l_pur (p_move e0) (by decide) ?_
  refine l_pur (p_len Tryz.underlying28 rfl) (by decide) ?_
  refine l_pur (p_moveC) (by decide) ?_
  refine lw_nil ?_
  refine cw_block ?_
  refine cw_loop (fun q f w => ∃ (i : Nat), q = xs.length - i ∧ i ≤ xs.length ∧ f 8 = vi i ∧ f 7 = vi xs.length ∧ f 0 = .slice a xs.length cap ∧ f 1 = .func (.func k) #[] cl.toArray ∧ (∀ j (h : j < xs.length), j < i → p xs[j] = false) ∧ St W0 V w L) (xs.length) ?_ ?_
  · exact ⟨0, rfl, Nat.zero_le _, rfl, rfl, e0, e1, fun j _ h => by omega, hs⟩
  · intro q f w hI
    clear hs
    obtain ⟨i, rfl, hi, e8, e7, e0, e1, hno, hs⟩ := hI
    refine cw_seq (cw_region ?_)
    refine l_pur (p_lss e8 e7) (by decide) ?_
    refine lw_nil ?_
    refine cw_seq ?_
    refine cw_cond _ rfl (fun hc0 => ?_) (fun hc0 => ?_)
    · have hlt : i < xs.length := by have := of_decide_eq_true hc0; omega
      refine cw_skip ?_
      refine cw_seq ?_
      refine cw_block ?_
      refine cw_seq (cw_region ?_)
      refine l_pur (p_move e8) (by decide) ?_
      refine l_pur (p_assignI rfl) (by decide) ?_
      refine lw_nil ?_
      refine cw_seq (cw_region ?_)
      refine l_pur (p_move e1) (by decide) ?_
      refine l_pur (p_move e0) (by decide) ?_
      refine l_pur (p_moveI rfl) (by decide) ?_
      refine l_indexSl (α := GPeer) el28.sl ty63 rfl rfl rfl (by first | omega | (dsimp only; omega) | (simp; omega)) hl (by decide) ?_; intro bb14 oo14 cc14 hb14 ha14
      refine l_loadV (α := GPeer) ty63 rfl hs hb14 ha14 (by decide) ?_
      refine l_callF1 (cl := cl) rfl hk (hf xs[i] _ _ hs) rfl ?_ (by decide)
      clear hs
      rintro _ w ⟨rfl, hs⟩
      refine lw_nil ?_
      refine cw_cond _ rfl (fun hc1 => ?_) (fun hc1 => ?_)
      · have hy : p xs[i] = true := hc1
        refine cw_seq (cw_region ?_)
        refine l_pur (p_moveI rfl) (by decide) ?_
        refine l_pur (p_assignI rfl) (by decide) ?_
        refine lw_nil ?_
        refine cw_ret ?_
        repeat (with_reducible first | refine tf_ret ?_ | refine ib_ret ?_)
        refine fin1 (fn := Tryz.f66) rfl (rv_tmpI rfl) ?_
        exact ⟨by rw [idxP_some hlt hno hy], hs⟩
      · have hno1 : p xs[i] = false := hc1
        refine cw_skip ?_
        refine cw_region ?_
        refine l_pur (p_add64 e8 rfl (by first | omega | (dsimp only; omega) | (simp; omega))) (by decide) ?_
        refine l_pur (p_moveI rfl) (by decide) ?_
        refine lw_nil ?_
        refine ⟨_, by omega, i + 1, rfl, hlt, rfl, e7, e0, e1, fun j h hj => ?_, hs⟩
        by_cases hji : j < i
        · exact hno j h hji
        · obtain rfl : j = i := by omega
          exact hno1
    · try simp only [decide_eq_true_eq, decide_eq_false_iff_not, Bool.not_eq_true', Bool.not_eq_false', beq_iff_eq, bne_iff_ne, beq_eq_false_iff_ne, bne_eq_false_iff_eq] at hc0
      refine cw_exit ?_
      refine cw_seq (cw_region ?_)
      refine l_pur (p_assignC) (by decide) ?_
      refine lw_nil ?_
      refine cw_ret ?_
      repeat (with_reducible first | refine tf_ret ?_ | refine ib_ret ?_)
      refine fin1 (fn := Tryz.f66) rfl (rv_tmpI rfl) ?_
      have hge : i = xs.length := by omega
      exact ⟨by rw [idxP_none fun j h => hno j h (by omega)], hs⟩
theorem s_ifn_Route {a : Option Addr} {cap : Nat} {xs : List GRoute} {p : GRoute → Bool} {k : FuncId} {cl : List Value} (hs : St W0 V w L) (hl : Sl V 73 a cap xs) (hlen : xs.length < 1000000) (hk : FnOk Tryz.prog k)
    (hf : ∀ (x : GRoute) (w : World) (L : List (Nat × Obj)), St W0 V w L → Calls Tryz.prog k (val x :: cl).toArray w (okR fun v w' => v = .bool (p x) ∧ St W0 V w' L)) :
    Calls Tryz.prog 154 #[.slice a xs.length cap, .func (.func k) #[] cl.toArray] w (okR fun v w' => v = vi (idxP p xs) ∧ St W0 V w' L) := by
  refine fn_enter (n := 19) Tryz.func154 rfl rfl rfl ?_
  intro f hf
  have e0 := hf 0
  have e1 := hf 1
  simp only [Array.getD_eq_getD_getElem?, List.getElem?_toArray, List.getElem?_cons_zero, List.getElem?_cons_succ, Option.getD_some] at e0 e1
  clear hf
  refine cw_seq (cw_region ?_)
  refine l_pur (p_assignC) (by decide) ?_
  refine lw_nil ?_
  refine cw_seq ?_
  refine cw_seq (cw_region ?_)
  refine l_pur (p_move e0) (by decide) ?_
  refine l_pur (p_len Tryz.underlying29 rfl) (by decide) ?_
  refine l_pur (p_moveC) (by decide) ?_
  refine lw_nil ?_
  refine cw_block ?_
  refine cw_loop (fun q f w => ∃ (i : Nat), q = xs.length - i ∧ i ≤ xs.length ∧ f 8 = vi i ∧ f 7 = vi xs.length ∧ f 0 = .slice a xs.length cap ∧ f 1 = .func (.func k) #[] cl.toArray ∧ (∀ j (h : j < xs.length), j < i → p xs[j] = false) ∧ St W0 V w L) (xs.length) ?_ ?_
  · exact ⟨0, rfl, Nat.zero_le _, rfl, rfl, e0, e1, fun j _ h => by omega, hs⟩
  · intro q f w hI
    clear hs
    obtain ⟨i, rfl, hi, e8, e7, e0, e1, hno, hs⟩ := hI
    refine cw_seq (cw_region ?_)
    refine l_pur (p_lss e8 e7) (by decide) ?_
    refine lw_nil ?_
    refine cw_seq ?_
    refine cw_cond _ rfl (fun hc0 => ?_) (fun hc0 => ?_)
    · have hlt : i < xs.length := by have := of_decide_eq_true hc0; omega
      refine cw_skip ?_
      refine cw_seq ?_
      refine cw_block ?_
      refine cw_seq (cw_region ?_)
      refine l_pur (p_move e8) (by decide) ?_
      refine l_pur (p_assignI rfl) (by decide) ?_
      refine lw_nil ?_
      refine cw_seq (cw_region ?_)
      refine l_pur (p_move e1) (by decide) ?_
      refine l_pur (p_move e0) (by decide) ?_
      refine l_pur (p_moveI rfl) (by decide) ?_
      refine l_indexSl (α := GRoute) el29.sl ty73 rfl rfl rfl (by first | omega | (dsimp only; omega) | (simp; omega)) hl (by decide) ?_; intro bb14 oo14 cc14 hb14 ha14
      refine l_loadV (α := GRoute) ty73 rfl hs hb14 ha14 (by decide) ?_
      refine l_callF1 (cl := cl) rfl hk (hf xs[i] _ _ hs) rfl ?_ (by decide)
      clear hs
      rintro _ w ⟨rfl, hs⟩
      refine lw_nil ?_
      refine cw_cond _ rfl (fun hc1 => ?_) (fun hc1 => ?_)
      · have hy : p xs[i] = true := hc1
        refine cw_seq (cw_region ?_)
        refine l_pur (p_moveI rfl) (by decide) ?_
        refine l_pur (p_assignI rfl) (by decide) ?_
        refine lw_nil ?_
        refine cw_ret ?_
        repeat (with_reducible first | refine tf_ret ?_ | refine ib_ret ?_)
        refine fin1 (fn := Tryz.f154) rfl (rv_tmpI rfl) ?_
        exact ⟨by rw [idxP_some hlt hno hy], hs⟩
      · have hno1 : p xs[i] = false := hc1
        refine cw_skip ?_
        refine cw_region ?_
        refine l_pur (p_add64 e8 rfl (by first | omega | (dsimp only; omega) | (simp; omega))) (by decide) ?_
        refine l_pur (p_moveI rfl) (by decide) ?_
        refine lw_nil ?_
        refine ⟨_, by omega, i + 1, rfl, hlt, rfl, e7, e0, e1, fun j h hj => ?_, hs⟩
        by_cases hji : j < i
        · exact hno j h hji
        · obtain rfl : j = i := by omega
          exact hno1
    · try simp only [decide_eq_true_eq, decide_eq_false_iff_not, Bool.not_eq_true', Bool.not_eq_false', beq_iff_eq, bne_iff_ne, beq_eq_false_iff_ne, bne_eq_false_iff_eq] at hc0
      refine cw_exit ?_
      refine cw_seq (cw_region ?_)
      refine l_pur (p_assignC) (by decide) ?_
      refine lw_nil ?_
      refine cw_ret ?_
      repeat (with_reducible first | refine tf_ret ?_ | refine ib_ret ?_)
      refine fin1 (fn := Tryz.f154) rfl (rv_tmpI rfl) ?_
      have hge : i = xs.length := by omega
      exact ⟨by rw [idxP_none fun j h => hno j h (by omega)], hs⟩
theorem s_ifn_Slot {a : Option Addr} {cap : Nat} {xs : List GSlot} {p : GSlot → Bool} {k : FuncId} {cl : List Value} (hs : St W0 V w L) (hl : Sl V 69 a cap xs) (hlen : xs.length < 1000000) (hk : FnOk Tryz.prog k)
    (hf : ∀ (x : GSlot) (w : World) (L : List (Nat × Obj)), St W0 V w L → Calls Tryz.prog k (val x :: cl).toArray w (okR fun v w' => v = .bool (p x) ∧ St W0 V w' L)) :
    Calls Tryz.prog 203 #[.slice a xs.length cap, .func (.func k) #[] cl.toArray] w (okR fun v w' => v = vi (idxP p xs) ∧ St W0 V w' L) := by
  refine fn_enter (n := 19) Tryz.func203 rfl rfl rfl ?_
  intro f hf
  have e0 := hf 0
  have e1 := hf 1
  simp only [Array.getD_eq_getD_getElem?, List.getElem?_toArray, List.getElem?_cons_zero, List.getElem?_cons_succ, Option.getD_some] at e0 e1
  clear hf
  refine cw_seq (cw_region ?_)
  refine l_pur (p_assignC) (by decide) ?_
  refine lw_nil ?_
  refine cw_seq ?_
  refine cw_seq (cw_region ?_)
  refine l_pur (p_move e0) (by decide) ?_
  refine l_pur (p_len Tryz.underlying30 rfl) (by decide) ?_
  refine l_pur (p_moveC) (by decide) ?_
  refine lw_nil ?_
  refine cw_block ?_
  refine cw_loop (fun q f w => ∃ (i : Nat), q = xs.length - i ∧ i ≤ xs.length ∧ f 8 = vi i ∧ f 7 = vi xs.length ∧ f 0 = .slice a xs.length cap ∧ f 1 = .func (.func k) #[] cl.toArray ∧ (∀ j (h : j < xs.length), j < i → p xs[j] = false) ∧ St W0 V w L) (xs.length) ?_ ?_
  · exact ⟨0, rfl, Nat.zero_le _, rfl, rfl, e0, e1, fun j _ h => by omega, hs⟩
  · intro q f w hI
    clear hs
    obtain ⟨i, rfl, hi, e8, e7, e0, e1, hno, hs⟩ := hI
    refine cw_seq (cw_region ?_)
    refine l_pur (p_lss e8 e7) (by decide) ?_
    refine lw_nil ?_
    refine cw_seq ?_
    refine cw_cond _ rfl (fun hc0 => ?_) (fun hc0 => ?_)
    · have hlt : i < xs.length := by have := of_decide_eq_true hc0; omega
      refine cw_skip ?_
      refine cw_seq ?_
      refine cw_block ?_
      refine cw_seq (cw_region ?_)
      refine l_pur (p_move e8) (by decide) ?_
      refine l_pur (p_assignI rfl) (by decide) ?_
      refine lw_nil ?_
      refine cw_seq (cw_region ?_)
      refine l_pur (p_move e1) (by decide) ?_
      refine l_pur (p_move e0) (by decide) ?_
      refine l_pur (p_moveI rfl) (by decide) ?_
      refine l_indexSl (α := GSlot) el30.sl ty69 rfl rfl rfl (by first | omega | (dsimp only; omega) | (simp; omega)) hl (by decide) ?_; intro bb14 oo14 cc14 hb14 ha14
      refine l_loadV (α := GSlot) ty69 rfl hs hb14 ha14 (by decide) ?_
      refine l_callF1 (cl := cl) rfl hk (hf xs[i] _ _ hs) rfl ?_ (by decide)
      clear hs
      rintro _ w ⟨rfl, hs⟩
      refine lw_nil ?_
      refine cw_cond _ rfl (fun hc1 => ?_) (fun hc1 => ?_)
      · have hy : p xs[i] = true := hc1
        refine cw_seq (cw_region ?_)
        refine l_pur (p_moveI rfl) (by decide) ?_
        refine l_pur (p_assignI rfl) (by decide) ?_
        refine lw_nil ?_
        refine cw_ret ?_
        repeat (with_reducible first | refine tf_ret ?_ | refine ib_ret ?_)
        refine fin1 (fn := Tryz.f203) rfl (rv_tmpI rfl) ?_
        exact ⟨by rw [idxP_some hlt hno hy], hs⟩
      · have hno1 : p xs[i] = false := hc1
        refine cw_skip ?_
        refine cw_region ?_
        refine l_pur (p_add64 e8 rfl (by first | omega | (dsimp only; omega) | (simp; omega))) (by decide) ?_
        refine l_pur (p_moveI rfl) (by decide) ?_
        refine lw_nil ?_
        refine ⟨_, by omega, i + 1, rfl, hlt, rfl, e7, e0, e1, fun j h hj => ?_, hs⟩
        by_cases hji : j < i
        · exact hno j h hji
        · obtain rfl : j = i := by omega
          exact hno1
    · try simp only [decide_eq_true_eq, decide_eq_false_iff_not, Bool.not_eq_true', Bool.not_eq_false', beq_iff_eq, bne_iff_ne, beq_eq_false_iff_ne, bne_eq_false_iff_eq] at hc0
      refine cw_exit ?_
      refine cw_seq (cw_region ?_)
      refine l_pur (p_assignC) (by decide) ?_
      refine lw_nil ?_
      refine cw_ret ?_
      repeat (with_reducible first | refine tf_ret ?_ | refine ib_ret ?_)
      refine fin1 (fn := Tryz.f203) rfl (rv_tmpI rfl) ?_
      have hge : i = xs.length := by omega
      exact ⟨by rw [idxP_none fun j h => hno j h (by omega)], hs⟩
theorem s_ifn_Timer {a : Option Addr} {cap : Nat} {xs : List GTimer} {p : GTimer → Bool} {k : FuncId} {cl : List Value} (hs : St W0 V w L) (hl : Sl V 75 a cap xs) (hlen : xs.length < 1000000) (hk : FnOk Tryz.prog k)
    (hf : ∀ (x : GTimer) (w : World) (L : List (Nat × Obj)), St W0 V w L → Calls Tryz.prog k (val x :: cl).toArray w (okR fun v w' => v = .bool (p x) ∧ St W0 V w' L)) :
    Calls Tryz.prog 148 #[.slice a xs.length cap, .func (.func k) #[] cl.toArray] w (okR fun v w' => v = vi (idxP p xs) ∧ St W0 V w' L) := by
  refine fn_enter (n := 19) Tryz.func148 rfl rfl rfl ?_
  intro f hf
  have e0 := hf 0
  have e1 := hf 1
  simp only [Array.getD_eq_getD_getElem?, List.getElem?_toArray, List.getElem?_cons_zero, List.getElem?_cons_succ, Option.getD_some] at e0 e1
  clear hf
  refine cw_seq (cw_region ?_)
  refine l_pur (p_assignC) (by decide) ?_
  refine lw_nil ?_
  refine cw_seq ?_
  refine cw_seq (cw_region ?_)
  refine l_pur (p_move e0) (by decide) ?_
  refine l_pur (p_len Tryz.underlying31 rfl) (by decide) ?_
  refine l_pur (p_moveC) (by decide) ?_
  refine lw_nil ?_
  refine cw_block ?_
  refine cw_loop (fun q f w => ∃ (i : Nat), q = xs.length - i ∧ i ≤ xs.length ∧ f 8 = vi i ∧ f 7 = vi xs.length ∧ f 0 = .slice a xs.length cap ∧ f 1 = .func (.func k) #[] cl.toArray ∧ (∀ j (h : j < xs.length), j < i → p xs[j] = false) ∧ St W0 V w L) (xs.length) ?_ ?_
  · exact ⟨0, rfl, Nat.zero_le _, rfl, rfl, e0, e1, fun j _ h => by omega, hs⟩
  · intro q f w hI
    clear hs
    obtain ⟨i, rfl, hi, e8, e7, e0, e1, hno, hs⟩ := hI
    refine cw_seq (cw_region ?_)
    refine l_pur (p_lss e8 e7) (by decide) ?_
    refine lw_nil ?_
    refine cw_seq ?_
    refine cw_cond _ rfl (fun hc0 => ?_) (fun hc0 => ?_)
    · have hlt : i < xs.length := by have := of_decide_eq_true hc0; omega
      refine cw_skip ?_
      refine cw_seq ?_
      refine cw_block ?_
      refine cw_seq (cw_region ?_)
      refine l_pur (p_move e8) (by decide) ?_
      refine l_pur (p_assignI rfl) (by decide) ?_
      refine lw_nil ?_
      refine cw_seq (cw_region ?_)
      refine l_pur (p_move e1) (by decide) ?_
      refine l_pur (p_move e0) (by decide) ?_
      refine l_pur (p_moveI rfl) (by decide) ?_
      refine l_indexSl (α := GTimer) el31.sl ty75 rfl rfl rfl (by first | omega | (dsimp only; omega) | (simp; omega)) hl (by decide) ?_; intro bb14 oo14 cc14 hb14 ha14
      refine l_loadV (α := GTimer) ty75 rfl hs hb14 ha14 (by decide) ?_
      refine l_callF1 (cl := cl) rfl hk (hf xs[i] _ _ hs) rfl ?_ (by decide)
      clear hs
      rintro _ w ⟨rfl, hs⟩
      refine lw_nil ?_
      refine cw_cond _ rfl (fun hc1 => ?_) (fun hc1 => ?_)
      · have hy : p xs[i] = true := hc1
        refine cw_seq (cw_region ?_)
        refine l_pur (p_moveI rfl) (by decide) ?_
        refine l_pur (p_assignI rfl) (by decide) ?_
        refine lw_nil ?_
        refine cw_ret ?_
        repeat (with_reducible first | refine tf_ret ?_ | refine ib_ret ?_)
        refine fin1 (fn := Tryz.f148) rfl (rv_tmpI rfl) ?_
        exact ⟨by rw [idxP_some hlt hno hy], hs⟩
      · have hno1 : p xs[i] = false := hc1
        refine cw_skip ?_
        refine cw_region ?_
        refine l_pur (p_add64 e8 rfl (by first | omega | (dsimp only; omega) | (simp; omega))) (by decide) ?_
        refine l_pur (p_moveI rfl) (by decide) ?_
        refine lw_nil ?_
        refine ⟨_, by omega, i + 1, rfl, hlt, rfl, e7, e0, e1, fun j h hj => ?_, hs⟩
        by_cases hji : j < i
        · exact hno j h hji
        · obtain rfl : j = i := by omega
          exact hno1
    · try simp only [decide_eq_true_eq, decide_eq_false_iff_not, Bool.not_eq_true', Bool.not_eq_false', beq_iff_eq, bne_iff_ne, beq_eq_false_iff_ne, bne_eq_false_iff_eq] at hc0
      refine cw_exit ?_
      refine cw_seq (cw_region ?_)
      refine l_pur (p_assignC) (by decide) ?_
      refine lw_nil ?_
      refine cw_ret ?_
      repeat (with_reducible first | refine tf_ret ?_ | refine ib_ret ?_)
      refine fin1 (fn := Tryz.f148) rfl (rv_tmpI rfl) ?_
      have hge : i = xs.length := by omega
      exact ⟨by rw [idxP_none fun j h => hno j h (by omega)], hs⟩
end Go.Bur
namespace Go.Bur
open Go Go.RowKit Go.Proofs
set_option maxHeartbeats 4000000
variable {W0 : World} {V : PH} {w : World} {L : List (Nat × Obj)}
theorem s_delf_Route {v : Value} {xs : List GRoute} {p : GRoute → Bool} {k : FuncId} {cl : List Value} (ho : Own W0 V w L 73 v xs) (hlen : xs.length < 1000000) (hk : FnOk Tryz.prog k)
    (hf : ∀ (V' : PH) (x : GRoute) (w : World) (L : List (Nat × Obj)), V ≤ V' → St W0 V' w L → Calls Tryz.prog k (val x :: cl).toArray w (okR fun v w' => v = .bool (p x) ∧ St W0 V' w' L)) :
    Calls Tryz.prog 134 #[v, .func (.func k) #[] cl.toArray] w (okR fun v w' => Own W0 V w' L 73 v (xs.filter fun x => !p x)) := by
  cases ho with
  | nil hs =>
    have hl : Sl V 73 none 0 ([] : List GRoute) := .inl rfl
    have hif := s_ifn_Route hs hl (by decide) hk (fun x w L hs => hf V x w L (PH.refl _) hs)
    refine fn_enter (n := 42) Tryz.func134 rfl rfl rfl ?_
    intro f hf
    have e0 := hf 0
    have e1 := hf 1
    simp only [Array.getD_eq_getD_getElem?, List.getElem?_toArray, List.getElem?_cons_zero, List.getElem?_cons_succ, Option.getD_some] at e0 e1
    clear hf
    refine cw_seq (cw_region ?_)
    refine l_pur (p_assignC) (by decide) ?_
    refine lw_nil ?_
    refine cw_seq (cw_region ?_)
    refine l_pur (p_move e0) (by decide) ?_
    refine l_pur (p_move e1) (by decide) ?_
    refine l_call2 fn154 hif rfl rfl ?_ (by decide)
    clear hs
    rintro _ w ⟨rfl, hs⟩
    refine l_pur (p_assignI rfl) (by decide) ?_
    refine lw_nil ?_
    refine cw_seq ?_
    refine cw_seq (cw_region ?_)
    refine l_pur (p_moveI rfl) (by decide) ?_
    refine l_purIs (c := true) (p_eql rfl rfl) (by rfl) (by decide) ?_
    refine lw_nil ?_
    refine cw_true rfl ?_
    refine cw_seq (cw_region ?_)
    refine l_pur (p_move e0) (by decide) ?_
    refine l_pur (p_assignL rfl) (by decide) ?_
    refine lw_nil ?_
    refine cw_ret ?_
    repeat (with_reducible first | refine tf_ret ?_ | refine ib_ret ?_)
    refine fin1 (fn := Tryz.f134) rfl (rv_tmpL rfl) ?_
    exact Own.nil hs
  | blk b cap _ sp hc hle hs =>
    obtain ⟨hs1, hV1, hback⟩ := hs.borrow
    have hif := s_ifn_Route hs1 (sl_add hle) hlen hk (fun x w L hs => hf _ x w L hV1 hs)
    rcases idxP_cases p xs with ⟨hidx, hall⟩ | ⟨i0, hi0, hidx, hyes, hall⟩
    · rw [hidx] at hif
      refine fn_enter (n := 42) Tryz.func134 rfl rfl rfl ?_
      intro f hf
      have e0 := hf 0
      have e1 := hf 1
      simp only [Array.getD_eq_getD_getElem?, List.getElem?_toArray, List.getElem?_cons_zero, List.getElem?_cons_succ, Option.getD_some] at e0 e1
      clear hf
      refine cw_seq (cw_region ?_)
      refine l_pur (p_assignC) (by decide) ?_
      refine lw_nil ?_
      refine cw_seq (cw_region ?_)
      refine l_pur (p_move e0) (by decide) ?_
      refine l_pur (p_move e1) (by decide) ?_
      refine l_call2 fn154 hif rfl rfl ?_ (by decide)
      clear hs
      rintro _ w ⟨rfl, hs1⟩
      have hs := hback _ hs1
      refine l_pur (p_assignI rfl) (by decide) ?_
      refine lw_nil ?_
      refine cw_seq ?_
      refine cw_seq (cw_region ?_)
      refine l_pur (p_moveI rfl) (by decide) ?_
      refine l_purIs (c := true) (p_eql rfl rfl) (by rfl) (by decide) ?_
      refine lw_nil ?_
      refine cw_true rfl ?_
      refine cw_seq (cw_region ?_)
      refine l_pur (p_move e0) (by decide) ?_
      refine l_pur (p_assignL rfl) (by decide) ?_
      refine lw_nil ?_
      refine cw_ret ?_
      repeat (with_reducible first | refine tf_ret ?_ | refine ib_ret ?_)
      refine fin1 (fn := Tryz.f134) rfl (rv_tmpL rfl) ?_
      have e : xs.filter (fun x => !p x) = xs := by
        rw [List.filter_eq_self]
        intro x hx
        obtain ⟨j, hj, rfl⟩ := List.getElem_of_mem hx
        simp [hall j hj]
      rw [e]
      exact Own.blk b cap xs sp hc hle hs
    · rw [hidx] at hif
      have hpre : (xs.take i0).filter (fun x => !p x) = xs.take i0 := by
        rw [List.filter_eq_self]
        intro x hx
        obtain ⟨j, hj, rfl⟩ := List.getElem_of_mem hx
        have hj' : j < i0 := by simp at hj; omega
        rw [List.getElem_take]
        simp [hall j (by omega) hj']
      refine fn_enter (n := 42) Tryz.func134 rfl rfl rfl ?_
      intro f hf
      have e0 := hf 0
      have e1 := hf 1
      simp only [Array.getD_eq_getD_getElem?, List.getElem?_toArray, List.getElem?_cons_zero, List.getElem?_cons_succ, Option.getD_some] at e0 e1
      clear hf
      refine cw_seq (cw_region ?_)
      refine l_pur (p_assignC) (by decide) ?_
      refine lw_nil ?_
      refine cw_seq (cw_region ?_)
      refine l_pur (p_move e0) (by decide) ?_
      refine l_pur (p_move e1) (by decide) ?_
      refine l_call2 fn154 hif rfl rfl ?_ (by decide)
      clear hs
      rintro _ w ⟨rfl, hs1⟩
      have hs := hback _ hs1
      clear hs1
      refine l_pur (p_assignI rfl) (by decide) ?_
      refine lw_nil ?_
      refine cw_seq ?_
      refine cw_seq (cw_region ?_)
      refine l_pur (p_moveI rfl) (by decide) ?_
      refine l_purIs (c := false) (p_eql rfl rfl) (by exact decide_eq_false (by omega)) (by decide) ?_
      refine lw_nil ?_
      refine cw_false rfl ?_
      refine cw_skip ?_
      refine cw_seq ?_
      refine cw_seq (cw_region ?_)
      refine l_pur (p_moveI rfl) (by decide) ?_
      refine l_pur (p_add64 rfl rfl (by first | omega | (dsimp only; omega) | (simp; omega))) (by decide) ?_
      refine l_pur (p_assignI rfl) (by decide) ?_
      refine lw_nil ?_
      refine cw_block ?_
      refine cw_loop (fun q f w => ∃ (i j : Nat) (ys : List GRoute), q = xs.length - j ∧ i < j ∧ j ≤ xs.length ∧ ys.length = xs.length ∧ f 6 = vi j ∧ f 5 = vi i ∧ f 0 = .slice (some ⟨b, 0, none⟩) xs.length cap ∧ f 1 = .func (.func k) #[] cl.toArray ∧ ys.take i = (xs.take j).filter (fun x => !p x) ∧ ys.drop j = xs.drop j ∧ St W0 V w ((b, arr 73 ys sp) :: L)) (xs.length - (i0 + 1)) ?_ ?_
      · refine ⟨i0, i0 + 1, xs, rfl, by omega, hi0, rfl, rfl, rfl, e0, e1, ?_, rfl, hs⟩
        rw [List.take_succ_eq_append_getElem hi0, List.filter_append, hpre]
        simp [hyes]
      · intro q f w hI
        clear hs
        obtain ⟨i, j, ys, rfl, hij, hj, hys, e6, e5, e0, e1, ht1, ht2, hs⟩ := hI
        refine cw_seq ?_
        refine cw_seq (cw_region ?_)
        refine l_pur (p_move e6) (by decide) ?_
        refine l_pur (p_move e0) (by decide) ?_
        refine l_pur (p_len Tryz.underlying29 rfl) (by decide) ?_
        refine l_pur (p_lss rfl rfl) (by decide) ?_
        refine lw_nil ?_
        refine cw_cond _ rfl (fun hc1 => ?_) (fun hc1 => ?_)
        · have hlt : j < xs.length := by have := of_decide_eq_true hc1; omega
          have hyj : ys[j]'(by omega) = xs[j] := by
            have h1 := List.getElem_drop (xs := ys) (i := j) (j := 0) (h := by simp; omega)
            have h2 := List.getElem_drop (xs := xs) (i := j) (j := 0) (h := by simp; omega)
            simp only [Nat.add_zero] at h1 h2
            rw [← h1, ← h2]
            simp only [ht2]
          have hsn : (xs.take (j + 1)).filter (fun x => !p x) = (xs.take j).filter (fun x => !p x) ++ if p xs[j] = true then [] else [xs[j]] := by
            rw [List.take_succ_eq_append_getElem hlt, List.filter_append]
            congr 1
            cases hq : p xs[j] <;> simp [hq]
          have hdr : ys.drop (j + 1) = xs.drop (j + 1) := by
            rw [← List.drop_drop, ← List.drop_drop, ht2]
          refine cw_skip ?_
          refine cw_seq ?_
          refine cw_block ?_
          refine cw_seq (cw_region ?_)
          refine l_pur (p_move e0) (by decide) ?_
          refine l_pur (p_move e6) (by decide) ?_
          refine l_pur (p_indexON el29.sl el29.ty.size rfl rfl (by (first | omega | decide | (dsimp only; omega) | (simp; omega)))) (by decide) ?_
          refine l_loadEN (α := GRoute) ty73 rfl (by first | omega | (simp; omega)) hs (List.Mem.head _) (by decide) ?_
          refine l_alloc z73 hs (by decide) ?_; clear hs; intro b7 w hs
          refine l_store0 (α := GRoute) (β := GRoute) ty73 rfl rfl (Lens.id GRoute) hs ?_; clear hs; intro w hs
          refine lw_nil ?_
          refine cw_seq (cw_region ?_)
          refine l_pur (p_move e1) (by decide) ?_
          refine l_loadO (α := GRoute) (β := GRoute) ty73 rfl (Lens.id GRoute) hs (List.Mem.head _) (by decide) ?_
          rw [hyj] at *
          refine l_callF1 (cl := cl) rfl hk (hf V xs[j] _ _ (PH.refl _) hs) rfl ?_ (by decide)
          clear hs
          rintro _ w ⟨rfl, hs⟩
          refine l_pur (p_not rfl) (by decide) ?_
          refine lw_nil ?_
          refine cw_cond _ rfl (fun hc2 => ?_) (fun hc2 => ?_)
          · have hpj : p xs[j] = false := by simpa using hc2
            rw [if_neg (by rw [hpj]; decide)] at hsn
            refine cw_seq (cw_region ?_)
            refine l_pur (p_move e0) (by decide) ?_
            refine l_pur (p_move e5) (by decide) ?_
            refine l_loadO (α := GRoute) (β := GRoute) ty73 rfl (Lens.id GRoute) hs (List.Mem.head _) (by decide) ?_
            refine l_pur (p_indexON el29.sl el29.ty.size rfl rfl (by (first | omega | decide | (dsimp only; omega) | (simp; omega)))) (by decide) ?_
            refine l_storeEN (α := GRoute) ty73 rfl rfl (by first | omega | (simp; omega)) hs (Rep.tail Rep.head) ?_; clear hs; intro w hs
            refine lw_nil ?_
            refine cw_region ?_
            refine l_pur (p_move e5) (by decide) ?_
            refine l_pur (p_add64 rfl rfl (by first | omega | (dsimp only; omega) | (simp; omega))) (by decide) ?_
            refine l_pur (p_assignI rfl) (by decide) ?_
            refine lw_nil ?_
            refine cw_region ?_
            refine l_pur (p_move e6) (by decide) ?_
            refine l_pur (p_add64 rfl rfl (by first | omega | (dsimp only; omega) | (simp; omega))) (by decide) ?_
            refine l_pur (p_assignI rfl) (by decide) ?_
            refine lw_nil ?_
            first
            | exact ⟨_, by omega, i, j + 1, ys, rfl, by omega, hlt, hys, rfl, e5, e0, e1, by rw [hsn]; exact ht1, hdr, hs.drop1⟩
            | (refine ⟨_, by omega, i + 1, j + 1, _, rfl, by omega, hlt, by rw [List.length_set]; exact hys, rfl, rfl, e0, e1, ?_, ?_, hs.drop1⟩
               · rw [hsn, ← ht1]
                 have h1 : i < (ys.set i xs[j]).length := by rw [List.length_set]; omega
                 rw [List.take_succ_eq_append_getElem h1, List.take_set_of_le (Nat.le_refl _), List.getElem_set_self]
               · rw [List.drop_set_of_lt (by omega)]; exact hdr)
          · have hpj : p xs[j] = true := by simpa using hc2
            rw [if_pos hpj, List.append_nil] at hsn
            refine cw_skip ?_
            refine cw_region ?_
            refine l_pur (p_move e6) (by decide) ?_
            refine l_pur (p_add64 rfl rfl (by first | omega | (dsimp only; omega) | (simp; omega))) (by decide) ?_
            refine l_pur (p_assignI rfl) (by decide) ?_
            refine lw_nil ?_
            first
            | exact ⟨_, by omega, i, j + 1, ys, rfl, by omega, hlt, hys, rfl, e5, e0, e1, by rw [hsn]; exact ht1, hdr, hs.drop1⟩
            | (refine ⟨_, by omega, i + 1, j + 1, _, rfl, by omega, hlt, by rw [List.length_set]; exact hys, rfl, rfl, e0, e1, ?_, ?_, hs.drop1⟩
               · rw [hsn, ← ht1]
                 have h1 : i < (ys.set i xs[j]).length := by rw [List.length_set]; omega
                 rw [List.take_succ_eq_append_getElem h1, List.take_set_of_le (Nat.le_refl _), List.getElem_set_self]
               · rw [List.drop_set_of_lt (by omega)]; exact hdr)
        · try simp only [decide_eq_true_eq, decide_eq_false_iff_not, Bool.not_eq_true', Bool.not_eq_false', beq_iff_eq, bne_iff_ne, beq_eq_false_iff_ne, bne_eq_false_iff_eq] at hc1
          refine cw_exit ?_
          refine cw_seq ?_
          have hjj : j = xs.length := by omega
          subst hjj
          rw [List.take_length] at ht1
          have hmul : i * Enc.size GRoute ≤ cap * Enc.size GRoute := Nat.mul_le_mul_right _ (by omega)
          refine cw_region ?_
          refine l_pur (p_move e0) (by decide) ?_
          refine l_pur (p_move e5) (by decide) ?_
          refine l_pur (p_slice el29.sl el29.ty.size rfl (.at_ _ rfl) (.no _) (.no _) (.inl rfl) (by first | omega | (dsimp only; omega) | (simp; omega))) (by decide) ?_
          refine l_clear (α := GRoute) (j := i) (b := b) (k := xs.length - i) (sp := sp) (xs := ys) el29.sl z73 rfl (.inr (by unfold slA; rw [if_neg (by simp; omega)]; simp [addr_add])) (by omega) hs Rep.head ?_ rfl
          clear hs
          intro w hs
          refine lw_nil ?_
          refine cw_seq (cw_region ?_)
          refine l_pur (p_move e0) (by decide) ?_
          refine l_pur (p_move e5) (by decide) ?_
          refine l_pur (p_slice el29.sl el29.ty.size rfl (.no _) (.at_ _ rfl) (.no _) (.inl rfl) (by first | omega | (dsimp only; omega) | (simp; omega))) (by decide) ?_
          refine l_pur (p_assignL rfl) (by decide) ?_
          refine lw_nil ?_
          refine cw_ret ?_
          repeat (with_reducible first | refine tf_ret ?_ | refine ib_ret ?_)
          refine fin1 (fn := Tryz.f134) rfl (rv_tmpL rfl) ?_
          have hfl : (xs.filter fun x => !p x).length = i := by rw [← ht1]; simp; omega
          rw [ht1, arr_split] at hs
          have h5 := Own.blk b cap (xs.filter fun x => !p x) (flat (List.replicate (xs.length - i) GRoute.zero) ++ sp) (by rw [List.length_append, flat_length, List.length_replicate, hfl, ← hc, Nat.sub_mul]; have : i * Enc.size GRoute ≤ xs.length * Enc.size GRoute := Nat.mul_le_mul_right _ (by omega); omega) (by omega) hs
          rw [hfl] at h5
          have e : slA (some ⟨b, 0, none⟩) cap 0 (Enc.size GRoute) = some ⟨b, 0, none⟩ := by
            unfold slA; split
            · rfl
            · simp [addr_add]
          simp only [Int.toNat_natCast, Int.toNat_zero, Nat.sub_zero]
          first
          | (rw [e]; exact h5)
          | exact h5
theorem s_delf_Slot {v : Value} {xs : List GSlot} {p : GSlot → Bool} {k : FuncId} {cl : List Value} (ho : Own W0 V w L 69 v xs) (hlen : xs.length < 1000000) (hk : FnOk Tryz.prog k)
    (hf : ∀ (V' : PH) (x : GSlot) (w : World) (L : List (Nat × Obj)), V ≤ V' → St W0 V' w L → Calls Tryz.prog k (val x :: cl).toArray w (okR fun v w' => v = .bool (p x) ∧ St W0 V' w' L)) :
    Calls Tryz.prog 138 #[v, .func (.func k) #[] cl.toArray] w (okR fun v w' => Own W0 V w' L 69 v (xs.filter fun x => !p x)) := by
  cases ho with
  | nil hs =>
    have hl : Sl V 69 none 0 ([] : List GSlot) := .inl rfl
    have hif := s_ifn_Slot hs hl (by decide) hk (fun x w L hs => hf V x w L (PH.refl _) hs)
    refine fn_enter (n := 42) Tryz.func138 rfl rfl rfl ?_
    intro f hf
    have e0 := hf 0
    have e1 := hf 1
    simp only [Array.getD_eq_getD_getElem?, List.getElem?_toArray, List.getElem?_cons_zero, List.getElem?_cons_succ, Option.getD_some] at e0 e1
    clear hf
    refine cw_seq (cw_region ?_)
    refine l_pur (p_assignC) (by decide) ?_
    refine lw_nil ?_
    refine cw_seq (cw_region ?_)
    refine l_pur (p_move e0) (by decide) ?_
    refine l_pur (p_move e1) (by decide) ?_
    refine l_call2 fn203 hif rfl rfl ?_ (by decide)
    clear hs
    rintro _ w ⟨rfl, hs⟩
    refine l_pur (p_assignI rfl) (by decide) ?_
    refine lw_nil ?_
    refine cw_seq ?_
    refine cw_seq (cw_region ?_)
    refine l_pur (p_moveI rfl) (by decide) ?_
    refine l_purIs (c := true) (p_eql rfl rfl) (by rfl) (by decide) ?_
    refine lw_nil ?_
    refine cw_true rfl ?_
    refine cw_seq (cw_region ?_)
    refine l_pur (p_move e0) (by decide) ?_
    refine l_pur (p_assignL rfl) (by decide) ?_
    refine lw_nil ?_
    refine cw_ret ?_
    repeat (with_reducible first | refine tf_ret ?_ | refine ib_ret ?_)
    refine fin1 (fn := Tryz.f138) rfl (rv_tmpL rfl) ?_
    exact Own.nil hs
  | blk b cap _ sp hc hle hs =>
    obtain ⟨hs1, hV1, hback⟩ := hs.borrow
    have hif := s_ifn_Slot hs1 (sl_add hle) hlen hk (fun x w L hs => hf _ x w L hV1 hs)
    rcases idxP_cases p xs with ⟨hidx, hall⟩ | ⟨i0, hi0, hidx, hyes, hall⟩
    · rw [hidx] at hif
      refine fn_enter (n := 42) Tryz.func138 rfl rfl rfl ?_
      intro f hf
      have e0 := hf 0
      have e1 := hf 1
      simp only [Array.getD_eq_getD_getElem?, List.getElem?_toArray, List.getElem?_cons_zero, List.getElem?_cons_succ, Option.getD_some] at e0 e1
      clear hf
      refine cw_seq (cw_region ?_)
      refine l_pur (p_assignC) (by decide) ?_
      refine lw_nil ?_
      refine cw_seq (cw_region ?_)
      refine l_pur (p_move e0) (by decide) ?_
      refine l_pur (p_move e1) (by decide) ?_
      refine l_call2 fn203 hif rfl rfl ?_ (by decide)
      clear hs
      rintro _ w ⟨rfl, hs1⟩
      have hs := hback _ hs1
      refine l_pur (p_assignI rfl) (by decide) ?_
      refine lw_nil ?_
      refine cw_seq ?_
      refine cw_seq (cw_region ?_)
      refine l_pur (p_moveI rfl) (by decide) ?_
      refine l_purIs (c := true) (p_eql rfl rfl) (by rfl) (by decide) ?_
      refine lw_nil ?_
      refine cw_true rfl ?_
      refine cw_seq (cw_region ?_)
      refine l_pur (p_move e0) (by decide) ?_
      refine l_pur (p_assignL rfl) (by decide) ?_
      refine lw_nil ?_
      refine cw_ret ?_
      repeat (with_reducible first | refine tf_ret ?_ | refine ib_ret ?_)
      refine fin1 (fn := Tryz.f138) rfl (rv_tmpL rfl) ?_
      have e : xs.filter (fun x => !p x) = xs := by
        rw [List.filter_eq_self]
        intro x hx
        obtain ⟨j, hj, rfl⟩ := List.getElem_of_mem hx
        simp [hall j hj]
      rw [e]
      exact Own.blk b cap xs sp hc hle hs
    · rw [hidx] at hif
      have hpre : (xs.take i0).filter (fun x => !p x) = xs.take i0 := by
        rw [List.filter_eq_self]
        intro x hx
        obtain ⟨j, hj, rfl⟩ := List.getElem_of_mem hx
        have hj' : j < i0 := by simp at hj; omega
        rw [List.getElem_take]
        simp [hall j (by omega) hj']
      refine fn_enter (n := 42) Tryz.func138 rfl rfl rfl ?_
      intro f hf
      have e0 := hf 0
      have e1 := hf 1
      simp only [Array.getD_eq_getD_getElem?, List.getElem?_toArray, List.getElem?_cons_zero, List.getElem?_cons_succ, Option.getD_some] at e0 e1
      clear hf
      refine cw_seq (cw_region ?_)
      refine l_pur (p_assignC) (by decide) ?_
      refine lw_nil ?_
      refine cw_seq (cw_region ?_)
      refine l_pur (p_move e0) (by decide) ?_
      refine l_pur (p_move e1) (by decide) ?_
      refine l_call2 fn203 hif rfl rfl ?_ (by decide)
      clear hs
      rintro _ w ⟨rfl, hs1⟩
      have hs := hback _ hs1
      clear hs1
      refine l_pur (p_assignI rfl) (by decide) ?_
      refine lw_nil ?_
      refine cw_seq ?_
      refine cw_seq (cw_region ?_)
      refine l_pur (p_moveI rfl) (by decide) ?_
      refine l_purIs (c := false) (p_eql rfl rfl) (by exact decide_eq_false (by omega)) (by decide) ?_
      refine lw_nil ?_
      refine cw_false rfl ?_
      refine cw_skip ?_
      refine cw_seq ?_
      refine cw_seq (cw_region ?_)
      refine l_pur (p_moveI rfl) (by decide) ?_
      refine l_pur (p_add64 rfl rfl (by first | omega | (dsimp only; omega) | (simp; omega))) (by decide) ?_
      refine l_pur (p_assignI rfl) (by decide) ?_
      refine lw_nil ?_
      refine cw_block ?_
      refine cw_loop (fun q f w => ∃ (i j : Nat) (ys : List GSlot), q = xs.length - j ∧ i < j ∧ j ≤ xs.length ∧ ys.length = xs.length ∧ f 6 = vi j ∧ f 5 = vi i ∧ f 0 = .slice (some ⟨b, 0, none⟩) xs.length cap ∧ f 1 = .func (.func k) #[] cl.toArray ∧ ys.take i = (xs.take j).filter (fun x => !p x) ∧ ys.drop j = xs.drop j ∧ St W0 V w ((b, arr 69 ys sp) :: L)) (xs.length - (i0 + 1)) ?_ ?_
      · refine ⟨i0, i0 + 1, xs, rfl, by omega, hi0, rfl, rfl, rfl, e0, e1, ?_, rfl, hs⟩
        rw [List.take_succ_eq_append_getElem hi0, List.filter_append, hpre]
        simp [hyes]
      · intro q f w hI
        clear hs
        obtain ⟨i, j, ys, rfl, hij, hj, hys, e6, e5, e0, e1, ht1, ht2, hs⟩ := hI
        refine cw_seq ?_
        refine cw_seq (cw_region ?_)
        refine l_pur (p_move e6) (by decide) ?_
        refine l_pur (p_move e0) (by decide) ?_
        refine l_pur (p_len Tryz.underlying30 rfl) (by decide) ?_
        refine l_pur (p_lss rfl rfl) (by decide) ?_
        refine lw_nil ?_
        refine cw_cond _ rfl (fun hc1 => ?_) (fun hc1 => ?_)
        · have hlt : j < xs.length := by have := of_decide_eq_true hc1; omega
          have hyj : ys[j]'(by omega) = xs[j] := by
            have h1 := List.getElem_drop (xs := ys) (i := j) (j := 0) (h := by simp; omega)
            have h2 := List.getElem_drop (xs := xs) (i := j) (j := 0) (h := by simp; omega)
            simp only [Nat.add_zero] at h1 h2
            rw [← h1, ← h2]
            simp only [ht2]
          have hsn : (xs.take (j + 1)).filter (fun x => !p x) = (xs.take j).filter (fun x => !p x) ++ if p xs[j] = true then [] else [xs[j]] := by
            rw [List.take_succ_eq_append_getElem hlt, List.filter_append]
            congr 1
            cases hq : p xs[j] <;> simp [hq]
          have hdr : ys.drop (j + 1) = xs.drop (j + 1) := by
            rw [← List.drop_drop, ← List.drop_drop, ht2]
          refine cw_skip ?_
          refine cw_seq ?_
          refine cw_block ?_
          refine cw_seq (cw_region ?_)
          refine l_pur (p_move e0) (by decide) ?_
          refine l_pur (p_move e6) (by decide) ?_
          refine l_pur (p_indexON el30.sl el30.ty.size rfl rfl (by (first | omega | decide | (dsimp only; omega) | (simp; omega)))) (by decide) ?_
          refine l_loadEN (α := GSlot) ty69 rfl (by first | omega | (simp; omega)) hs (List.Mem.head _) (by decide) ?_
          refine l_alloc z69 hs (by decide) ?_; clear hs; intro b7 w hs
          refine l_store0 (α := GSlot) (β := GSlot) ty69 rfl rfl (Lens.id GSlot) hs ?_; clear hs; intro w hs
          refine lw_nil ?_
          refine cw_seq (cw_region ?_)
          refine l_pur (p_move e1) (by decide) ?_
          refine l_loadO (α := GSlot) (β := GSlot) ty69 rfl (Lens.id GSlot) hs (List.Mem.head _) (by decide) ?_
          rw [hyj] at *
          refine l_callF1 (cl := cl) rfl hk (hf V xs[j] _ _ (PH.refl _) hs) rfl ?_ (by decide)
          clear hs
          rintro _ w ⟨rfl, hs⟩
          refine l_pur (p_not rfl) (by decide) ?_
          refine lw_nil ?_
          refine cw_cond _ rfl (fun hc2 => ?_) (fun hc2 => ?_)
          · have hpj : p xs[j] = false := by simpa using hc2
            rw [if_neg (by rw [hpj]; decide)] at hsn
            refine cw_seq (cw_region ?_)
            refine l_pur (p_move e0) (by decide) ?_
            refine l_pur (p_move e5) (by decide) ?_
            refine l_loadO (α := GSlot) (β := GSlot) ty69 rfl (Lens.id GSlot) hs (List.Mem.head _) (by decide) ?_
            refine l_pur (p_indexON el30.sl el30.ty.size rfl rfl (by (first | omega | decide | (dsimp only; omega) | (simp; omega)))) (by decide) ?_
            refine l_storeEN (α := GSlot) ty69 rfl rfl (by first | omega | (simp; omega)) hs (Rep.tail Rep.head) ?_; clear hs; intro w hs
            refine lw_nil ?_
            refine cw_region ?_
            refine l_pur (p_move e5) (by decide) ?_
            refine l_pur (p_add64 rfl rfl (by first | omega | (dsimp only; omega) | (simp; omega))) (by decide) ?_
            refine l_pur (p_assignI rfl) (by decide) ?_
            refine lw_nil ?_
            refine cw_region ?_
            refine l_pur (p_move e6) (by decide) ?_
            refine l_pur (p_add64 rfl rfl (by first | omega | (dsimp only; omega) | (simp; omega))) (by decide) ?_
            refine l_pur (p_assignI rfl) (by decide) ?_
            refine lw_nil ?_
            first
            | exact ⟨_, by omega, i, j + 1, ys, rfl, by omega, hlt, hys, rfl, e5, e0, e1, by rw [hsn]; exact ht1, hdr, hs.drop1⟩
            | (refine ⟨_, by omega, i + 1, j + 1, _, rfl, by omega, hlt, by rw [List.length_set]; exact hys, rfl, rfl, e0, e1, ?_, ?_, hs.drop1⟩
               · rw [hsn, ← ht1]
                 have h1 : i < (ys.set i xs[j]).length := by rw [List.length_set]; omega
                 rw [List.take_succ_eq_append_getElem h1, List.take_set_of_le (Nat.le_refl _), List.getElem_set_self]
               · rw [List.drop_set_of_lt (by omega)]; exact hdr)
          · have hpj : p xs[j] = true := by simpa using hc2
            rw [if_pos hpj, List.append_nil] at hsn
            refine cw_skip ?_
            refine cw_region ?_
            refine l_pur (p_move e6) (by decide) ?_
            refine l_pur (p_add64 rfl rfl (by first | omega | (dsimp only; omega) | (simp; omega))) (by decide) ?_
            refine l_pur (p_assignI rfl) (by decide) ?_
            refine lw_nil ?_
            first
            | exact ⟨_, by omega, i, j + 1, ys, rfl, by omega, hlt, hys, rfl, e5, e0, e1, by rw [hsn]; exact ht1, hdr, hs.drop1⟩
            | (refine ⟨_, by omega, i + 1, j + 1, _, rfl, by omega, hlt, by rw [List.length_set]; exact hys, rfl, rfl, e0, e1, ?_, ?_, hs.drop1⟩
               · rw [hsn, ← ht1]
                 have h1 : i < (ys.set i xs[j]).length := by rw [List.length_set]; omega
                 rw [List.take_succ_eq_append_getElem h1, List.take_set_of_le (Nat.le_refl _), List.getElem_set_self]
               · rw [List.drop_set_of_lt (by omega)]; exact hdr)
        · try simp only [decide_eq_true_eq, decide_eq_false_iff_not, Bool.not_eq_true', Bool.not_eq_false', beq_iff_eq, bne_iff_ne, beq_eq_false_iff_ne, bne_eq_false_iff_eq] at hc1
          refine cw_exit ?_
          refine cw_seq ?_
          have hjj : j = xs.length := by omega
          subst hjj
          rw [List.take_length] at ht1
          have hmul : i * Enc.size GSlot ≤ cap * Enc.size GSlot := Nat.mul_le_mul_right _ (by omega)
          refine cw_region ?_
          refine l_pur (p_move e0) (by decide) ?_
          refine l_pur (p_move e5) (by decide) ?_
          refine l_pur (p_slice el30.sl el30.ty.size rfl (.at_ _ rfl) (.no _) (.no _) (.inl rfl) (by first | omega | (dsimp only; omega) | (simp; omega))) (by decide) ?_
          refine l_clear (α := GSlot) (j := i) (b := b) (k := xs.length - i) (sp := sp) (xs := ys) el30.sl z69 rfl (.inr (by unfold slA; rw [if_neg (by simp; omega)]; simp [addr_add])) (by omega) hs Rep.head ?_ rfl
          clear hs
          intro w hs
          refine lw_nil ?_
          refine cw_seq (cw_region ?_)
          refine l_pur (p_move e0) (by decide) ?_
          refine l_pur (p_move e5) (by decide) ?_
          refine l_pur (p_slice el30.sl el30.ty.size rfl (.no _) (.at_ _ rfl) (.no _) (.inl rfl) (by first | omega | (dsimp only; omega) | (simp; omega))) (by decide) ?_
          refine l_pur (p_assignL rfl) (by decide) ?_
          refine lw_nil ?_
          refine cw_ret ?_
          repeat (with_reducible first | refine tf_ret ?_ | refine ib_ret ?_)
          refine fin1 (fn := Tryz.f138) rfl (rv_tmpL rfl) ?_
          have hfl : (xs.filter fun x => !p x).length = i := by rw [← ht1]; simp; omega
          rw [ht1, arr_split] at hs
          have h5 := Own.blk b cap (xs.filter fun x => !p x) (flat (List.replicate (xs.length - i) GSlot.zero) ++ sp) (by rw [List.length_append, flat_length, List.length_replicate, hfl, ← hc, Nat.sub_mul]; have : i * Enc.size GSlot ≤ xs.length * Enc.size GSlot := Nat.mul_le_mul_right _ (by omega); omega) (by omega) hs
          rw [hfl] at h5
          have e : slA (some ⟨b, 0, none⟩) cap 0 (Enc.size GSlot) = some ⟨b, 0, none⟩ := by
            unfold slA; split
            · rfl
            · simp [addr_add]
          simp only [Int.toNat_natCast, Int.toNat_zero, Nat.sub_zero]
          first
          | (rw [e]; exact h5)
          | exact h5
theorem s_delf_Timer {v : Value} {xs : List GTimer} {p : GTimer → Bool} {k : FuncId} {cl : List Value} (ho : Own W0 V w L 75 v xs) (hlen : xs.length < 1000000) (hk : FnOk Tryz.prog k)
    (hf : ∀ (V' : PH) (x : GTimer) (w : World) (L : List (Nat × Obj)), V ≤ V' → St W0 V' w L → Calls Tryz.prog k (val x :: cl).toArray w (okR fun v w' => v = .bool (p x) ∧ St W0 V' w' L)) :
    Calls Tryz.prog 136 #[v, .func (.func k) #[] cl.toArray] w (okR fun v w' => Own W0 V w' L 75 v (xs.filter fun x => !p x)) := by
  cases ho with
  | nil hs =>
    have hl : Sl V 75 none 0 ([] : List GTimer) := .inl rfl
    have hif := s_ifn_Timer hs hl (by decide) hk (fun x w L hs => hf V x w L (PH.refl _) hs)
    refine fn_enter (n := 42) Tryz.func136 rfl rfl rfl ?_
    intro f hf
    have e0 := hf 0
    have e1 := hf 1
    simp only [Array.getD_eq_getD_getElem?, List.getElem?_toArray, List.getElem?_cons_zero, List.getElem?_cons_succ, Option.getD_some] at e0 e1
    clear hf
    refine cw_seq (cw_region ?_)
    refine l_pur (p_assignC) (by decide) ?_
    refine lw_nil ?_
    refine cw_seq (cw_region ?_)
    refine l_pur (p_move e0) (by decide) ?_
    refine l_pur (p_move e1) (by decide) ?_
    refine l_call2 fn148 hif rfl rfl ?_ (by decide)
    clear hs
    rintro _ w ⟨rfl, hs⟩
    refine l_pur (p_assignI rfl) (by decide) ?_
    refine lw_nil ?_
    refine cw_seq ?_
    refine cw_seq (cw_region ?_)
    refine l_pur (p_moveI rfl) (by decide) ?_
    refine l_purIs (c := true) (p_eql rfl rfl) (by rfl) (by decide) ?_
    refine lw_nil ?_
    refine cw_true rfl ?_
    refine cw_seq (cw_region ?_)
    refine l_pur (p_move e0) (by decide) ?_
    refine l_pur (p_assignL rfl) (by decide) ?_
    refine lw_nil ?_
    refine cw_ret ?_
    repeat (with_reducible first | refine tf_ret ?_ | refine ib_ret ?_)
    refine fin1 (fn := Tryz.f136) rfl (rv_tmpL rfl) ?_
    exact Own.nil hs
  | blk b cap _ sp hc hle hs =>
    obtain ⟨hs1, hV1, hback⟩ := hs.borrow
    have hif := s_ifn_Timer hs1 (sl_add hle) hlen hk (fun x w L hs => hf _ x w L hV1 hs)
    rcases idxP_cases p xs with ⟨hidx, hall⟩ | ⟨i0, hi0, hidx, hyes, hall⟩
    · rw [hidx] at hif
      refine fn_enter (n := 42) Tryz.func136 rfl rfl rfl ?_
      intro f hf
      have e0 := hf 0
      have e1 := hf 1
      simp only [Array.getD_eq_getD_getElem?, List.getElem?_toArray, List.getElem?_cons_zero, List.getElem?_cons_succ, Option.getD_some] at e0 e1
      clear hf
      refine cw_seq (cw_region ?_)
      refine l_pur (p_assignC) (by decide) ?_
      refine lw_nil ?_
      refine cw_seq (cw_region ?_)
      refine l_pur (p_move e0) (by decide) ?_
      refine l_pur (p_move e1) (by decide) ?_
      refine l_call2 fn148 hif rfl rfl ?_ (by decide)
      clear hs
      rintro _ w ⟨rfl, hs1⟩
      have hs := hback _ hs1
      refine l_pur (p_assignI rfl) (by decide) ?_
      refine lw_nil ?_
      refine cw_seq ?_
      refine cw_seq (cw_region ?_)
      refine l_pur (p_moveI rfl) (by decide) ?_
      refine l_purIs (c := true) (p_eql rfl rfl) (by rfl) (by decide) ?_
      refine lw_nil ?_
      refine cw_true rfl ?_
      refine cw_seq (cw_region ?_)
      refine l_pur (p_move e0) (by decide) ?_
      refine l_pur (p_assignL rfl) (by decide) ?_
      refine lw_nil ?_
      refine cw_ret ?_
      repeat (with_reducible first | refine tf_ret ?_ | refine ib_ret ?_)
      refine fin1 (fn := Tryz.f136) rfl (rv_tmpL rfl) ?_
      have e : xs.filter (fun x => !p x) = xs := by
        rw [List.filter_eq_self]
        intro x hx
        obtain ⟨j, hj, rfl⟩ := List.getElem_of_mem hx
        simp [hall j hj]
      rw [e]
      exact Own.blk b cap xs sp hc hle hs
    · rw [hidx] at hif
      have hpre : (xs.take i0).filter (fun x => !p x) = xs.take i0 := by
        rw [List.filter_eq_self]
        intro x hx
        obtain ⟨j, hj, rfl⟩ := List.getElem_of_mem hx
        have hj' : j < i0 := by simp at hj; omega
        rw [List.getElem_take]
        simp [hall j (by omega) hj']
      refine fn_enter (n := 42) Tryz.func136 rfl rfl rfl ?_
      intro f hf
      have e0 := hf 0
      have e1 := hf 1
      simp only [Array.getD_eq_getD_getElem?, List.getElem?_toArray, List.getElem?_cons_zero, List.getElem?_cons_succ, Option.getD_some] at e0 e1
      clear hf
      refine cw_seq (cw_region ?_)
      refine l_pur (p_assignC) (by decide) ?_
      refine lw_nil ?_
      refine cw_seq (cw_region ?_)
      refine l_pur (p_move e0) (by decide) ?_
      refine l_pur (p_move e1) (by decide) ?_
      refine l_call2 fn148 hif rfl rfl ?_ (by decide)
      clear hs
      rintro _ w ⟨rfl, hs1⟩
      have hs := hback _ hs1
      clear hs1
      refine l_pur (p_assignI rfl) (by decide) ?_
      refine lw_nil ?_
      refine cw_seq ?_
      refine cw_seq (cw_region ?_)
      refine l_pur (p_moveI rfl) (by decide) ?_
      refine l_purIs (c := false) (p_eql rfl rfl) (by exact decide_eq_false (by omega)) (by decide) ?_
      refine lw_nil ?_
      refine cw_false rfl ?_
      refine cw_skip ?_
      refine cw_seq ?_
      refine cw_seq (cw_region ?_)
      refine l_pur (p_moveI rfl) (by decide) ?_
      refine l_pur (p_add64 rfl rfl (by first | omega | (dsimp only; omega) | (simp; omega))) (by decide) ?_
      refine l_pur (p_assignI rfl) (by decide) ?_
      refine lw_nil ?_
      refine cw_block ?_
      refine cw_loop (fun q f w => ∃ (i j : Nat) (ys : List GTimer), q = xs.length - j ∧ i < j ∧ j ≤ xs.length ∧ ys.length = xs.length ∧ f 6 = vi j ∧ f 5 = vi i ∧ f 0 = .slice (some ⟨b, 0, none⟩) xs.length cap ∧ f 1 = .func (.func k) #[] cl.toArray ∧ ys.take i = (xs.take j).filter (fun x => !p x) ∧ ys.drop j = xs.drop j ∧ St W0 V w ((b, arr 75 ys sp) :: L)) (xs.length - (i0 + 1)) ?_ ?_
      · refine ⟨i0, i0 + 1, xs, rfl, by omega, hi0, rfl, rfl, rfl, e0, e1, ?_, rfl, hs⟩
        rw [List.take_succ_eq_append_getElem hi0, List.filter_append, hpre]
        simp [hyes]
      · intro q f w hI
        clear hs
        obtain ⟨i, j, ys, rfl, hij, hj, hys, e6, e5, e0, e1, ht1, ht2, hs⟩ := hI
        refine cw_seq ?_
        refine cw_seq (cw_region ?_)
        refine l_pur (p_move e6) (by decide) ?_
        refine l_pur (p_move e0) (by decide) ?_
        refine l_pur (p_len Tryz.underlying31 rfl) (by decide) ?_
        refine l_pur (p_lss rfl rfl) (by decide) ?_
        refine lw_nil ?_
        refine cw_cond _ rfl (fun hc1 => ?_) (fun hc1 => ?_)
        · have hlt : j < xs.length := by have := of_decide_eq_true hc1; omega
          have hyj : ys[j]'(by omega) = xs[j] := by
            have h1 := List.getElem_drop (xs := ys) (i := j) (j := 0) (h := by simp; omega)
            have h2 := List.getElem_drop (xs := xs) (i := j) (j := 0) (h := by simp; omega)
            simp only [Nat.add_zero] at h1 h2
            rw [← h1, ← h2]
            simp only [ht2]
          have hsn : (xs.take (j + 1)).filter (fun x => !p x) = (xs.take j).filter (fun x => !p x) ++ if p xs[j] = true then [] else [xs[j]] := by
            rw [List.take_succ_eq_append_getElem hlt, List.filter_append]
            congr 1
            cases hq : p xs[j] <;> simp [hq]
          have hdr : ys.drop (j + 1) = xs.drop (j + 1) := by
            rw [← List.drop_drop, ← List.drop_drop, ht2]
          refine cw_skip ?_
          refine cw_seq ?_
          refine cw_block ?_
          refine cw_seq (cw_region ?_)
          refine l_pur (p_move e0) (by decide) ?_
          refine l_pur (p_move e6) (by decide) ?_
          refine l_pur (p_indexON el31.sl el31.ty.size rfl rfl (by (first | omega | decide | (dsimp only; omega) | (simp; omega)))) (by decide) ?_
          refine l_loadEN (α := GTimer) ty75 rfl (by first | omega | (simp; omega)) hs (List.Mem.head _) (by decide) ?_
          refine l_alloc z75 hs (by decide) ?_; clear hs; intro b7 w hs
          refine l_store0 (α := GTimer) (β := GTimer) ty75 rfl rfl (Lens.id GTimer) hs ?_; clear hs; intro w hs
          refine lw_nil ?_
          refine cw_seq (cw_region ?_)
          refine l_pur (p_move e1) (by decide) ?_
          refine l_loadO (α := GTimer) (β := GTimer) ty75 rfl (Lens.id GTimer) hs (List.Mem.head _) (by decide) ?_
          rw [hyj] at *
          refine l_callF1 (cl := cl) rfl hk (hf V xs[j] _ _ (PH.refl _) hs) rfl ?_ (by decide)
          clear hs
          rintro _ w ⟨rfl, hs⟩
          refine l_pur (p_not rfl) (by decide) ?_
          refine lw_nil ?_
          refine cw_cond _ rfl (fun hc2 => ?_) (fun hc2 => ?_)
          · have hpj : p xs[j] = false := by simpa using hc2
            rw [if_neg (by rw [hpj]; decide)] at hsn
            refine cw_seq (cw_region ?_)
            refine l_pur (p_move e0) (by decide) ?_
            refine l_pur (p_move e5) (by decide) ?_
            refine l_loadO (α := GTimer) (β := GTimer) ty75 rfl (Lens.id GTimer) hs (List.Mem.head _) (by decide) ?_
            refine l_pur (p_indexON el31.sl el31.ty.size rfl rfl (by (first | omega | decide | (dsimp only; omega) | (simp; omega)))) (by decide) ?_
            refine l_storeEN (α := GTimer) ty75 rfl rfl (by first | omega | (simp; omega)) hs (Rep.tail Rep.head) ?_; clear hs; intro w hs
            refine lw_nil ?_
            refine cw_region ?_
            refine l_pur (p_move e5) (by decide) ?_
            refine l_pur (p_add64 rfl rfl (by first | omega | (dsimp only; omega) | (simp; omega))) (by decide) ?_
            refine l_pur (p_assignI rfl) (by decide) ?_
            refine lw_nil ?_
            refine cw_region ?_
            refine l_pur (p_move e6) (by decide) ?_
            refine l_pur (p_add64 rfl rfl (by first | omega | (dsimp only; omega) | (simp; omega))) (by decide) ?_
            refine l_pur (p_assignI rfl) (by decide) ?_
            refine lw_nil ?_
            first
            | exact ⟨_, by omega, i, j + 1, ys, rfl, by omega, hlt, hys, rfl, e5, e0, e1, by rw [hsn]; exact ht1, hdr, hs.drop1⟩
            | (refine ⟨_, by omega, i + 1, j + 1, _, rfl, by omega, hlt, by rw [List.length_set]; exact hys, rfl, rfl, e0, e1, ?_, ?_, hs.drop1⟩
               · rw [hsn, ← ht1]
                 have h1 : i < (ys.set i xs[j]).length := by rw [List.length_set]; omega
                 rw [List.take_succ_eq_append_getElem h1, List.take_set_of_le (Nat.le_refl _), List.getElem_set_self]
               · rw [List.drop_set_of_lt (by omega)]; exact hdr)
          · have hpj : p xs[j] = true := by simpa using hc2
            rw [if_pos hpj, List.append_nil] at hsn
            refine cw_skip ?_
            refine cw_region ?_
            refine l_pur (p_move e6) (by decide) ?_
            refine l_pur (p_add64 rfl rfl (by first | omega | (dsimp only; omega) | (simp; omega))) (by decide) ?_
            refine l_pur (p_assignI rfl) (by decide) ?_
            refine lw_nil ?_
            first
            | exact ⟨_, by omega, i, j + 1, ys, rfl, by omega, hlt, hys, rfl, e5, e0, e1, by rw [hsn]; exact ht1, hdr, hs.drop1⟩
            | (refine ⟨_, by omega, i + 1, j + 1, _, rfl, by omega, hlt, by rw [List.length_set]; exact hys, rfl, rfl, e0, e1, ?_, ?_, hs.drop1⟩
               · rw [hsn, ← ht1]
                 have h1 : i < (ys.set i xs[j]).length := by rw [List.length_set]; omega
                 rw [List.take_succ_eq_append_getElem h1, List.take_set_of_le (Nat.le_refl _), List.getElem_set_self]
               · rw [List.drop_set_of_lt (by omega)]; exact hdr)
        · try simp only [decide_eq_true_eq, decide_eq_false_iff_not, Bool.not_eq_true', Bool.not_eq_false', beq_iff_eq, bne_iff_ne, beq_eq_false_iff_ne, bne_eq_false_iff_eq] at hc1
          refine cw_exit ?_
          refine cw_seq ?_
          have hjj : j = xs.length := by omega
          subst hjj
          rw [List.take_length] at ht1
          have hmul : i * Enc.size GTimer ≤ cap * Enc.size GTimer := Nat.mul_le_mul_right _ (by omega)
          refine cw_region ?_
          refine l_pur (p_move e0) (by decide) ?_
          refine l_pur (p_move e5) (by decide) ?_
          refine l_pur (p_slice el31.sl el31.ty.size rfl (.at_ _ rfl) (.no _) (.no _) (.inl rfl) (by first | omega | (dsimp only; omega) | (simp; omega))) (by decide) ?_
          refine l_clear (α := GTimer) (j := i) (b := b) (k := xs.length - i) (sp := sp) (xs := ys) el31.sl z75 rfl (.inr (by unfold slA; rw [if_neg (by simp; omega)]; simp [addr_add])) (by omega) hs Rep.head ?_ rfl
          clear hs
          intro w hs
          refine lw_nil ?_
          refine cw_seq (cw_region ?_)
          refine l_pur (p_move e0) (by decide) ?_
          refine l_pur (p_move e5) (by decide) ?_
          refine l_pur (p_slice el31.sl el31.ty.size rfl (.no _) (.at_ _ rfl) (.no _) (.inl rfl) (by first | omega | (dsimp only; omega) | (simp; omega))) (by decide) ?_
          refine l_pur (p_assignL rfl) (by decide) ?_
          refine lw_nil ?_
          refine cw_ret ?_
          repeat (with_reducible first | refine tf_ret ?_ | refine ib_ret ?_)
          refine fin1 (fn := Tryz.f136) rfl (rv_tmpL rfl) ?_
          have hfl : (xs.filter fun x => !p x).length = i := by rw [← ht1]; simp; omega
          rw [ht1, arr_split] at hs
          have h5 := Own.blk b cap (xs.filter fun x => !p x) (flat (List.replicate (xs.length - i) GTimer.zero) ++ sp) (by rw [List.length_append, flat_length, List.length_replicate, hfl, ← hc, Nat.sub_mul]; have : i * Enc.size GTimer ≤ xs.length * Enc.size GTimer := Nat.mul_le_mul_right _ (by omega); omega) (by omega) hs
          rw [hfl] at h5
          have e : slA (some ⟨b, 0, none⟩) cap 0 (Enc.size GTimer) = some ⟨b, 0, none⟩ := by
            unfold slA; split
            · rfl
            · simp [addr_add]
          simp only [Int.toNat_natCast, Int.toNat_zero, Nat.sub_zero]
          first
          | (rw [e]; exact h5)
          | exact h5
end Go.Bur
namespace Go.Bur
open Go Go.RowKit Go.Proofs
set_option maxHeartbeats 4000000
variable {W0 : World} {V : PH} {w : World} {L : List (Nat × Obj)}
theorem s_idxbyte {s : Str} {c : UInt8} (hs : St W0 V w L) : Calls Tryz.prog 190 #[vs s, val c] w (okR fun v w' => v = vi (Lib.indexByte s c) ∧ St W0 V w' L) := by
  refine fn_enter (n := 8) Tryz.func190 rfl rfl rfl ?_
  intro f hf
  have e0 := hf 0
  have e1 := hf 1
  simp only [Array.getD_eq_getD_getElem?, List.getElem?_toArray, List.getElem?_cons_zero, List.getElem?_cons_succ, Option.getD_some] at e0 e1
  clear hf
  refine cw_seq (cw_region ?_)
  refine l_pur (p_assignC) (by decide) ?_
  refine lw_nil ?_
  refine cw_seq (cw_region ?_)
  refine l_pur (p_move e0) (by decide) ?_
  refine l_pur (p_move e1) (by decide) ?_
  refine l_pur (p_ext2 ex286 rfl rfl (run_idxB s c)) (by decide) ?_
  refine l_pur (p_assignI rfl) (by decide) ?_
  refine lw_nil ?_
  refine cw_ret ?_
  repeat (with_reducible first | refine tf_ret ?_ | refine ib_ret ?_)
  refine fin1 (fn := Tryz.f190) rfl (rv_tmpI rfl) ?_
  exact ⟨rfl, hs⟩
theorem s_index1 {s : Str} {c : UInt8} (hs : St W0 V w L) : Calls Tryz.prog 120 #[vs s, vs [c]] w (okR fun v w' => v = vi (Lib.indexByte s c) ∧ St W0 V w' L) := by
  refine fn_enter (n := 143) Tryz.func120 rfl rfl rfl ?_
  intro f hf
  have e0 := hf 0
  have e1 := hf 1
  simp only [Array.getD_eq_getD_getElem?, List.getElem?_toArray, List.getElem?_cons_zero, List.getElem?_cons_succ, Option.getD_some] at e0 e1
  clear hf
  refine cw_seq (cw_region ?_)
  refine l_pur (p_assignC) (by decide) ?_
  refine lw_nil ?_
  refine cw_seq (cw_region ?_)
  refine l_pur (p_move e1) (by decide) ?_
  refine l_pur (p_lenStr Tryz.underlying9 rfl) (by decide) ?_
  refine l_pur (p_assignI rfl) (by decide) ?_
  refine lw_nil ?_
  refine cw_seq ?_
  refine cw_block ?_
  refine cw_seq (cw_region ?_)
  refine l_pur (p_moveI rfl) (by decide) ?_
  refine l_purIs (c := false) (p_eql rfl rfl) (by rfl) (by decide) ?_
  refine l_pur (p_moveB rfl) (by decide) ?_
  refine lw_do rfl rfl rfl ?_
  refine l_pur (p_move e1) (by decide) ?_
  refine lw_do rfl rfl rfl ?_
  refine l_pur (p_move e0) (by decide) ?_
  refine lw_do rfl rfl rfl ?_
  refine l_purB (p_eqlStr rfl rfl) (by decide) (fun hg5 => ?_) (fun hg5 => ?_)
  · try simp only [decide_eq_true_eq, decide_eq_false_iff_not, Bool.not_eq_true', Bool.not_eq_false', beq_iff_eq, bne_iff_ne, beq_eq_false_iff_ne, bne_eq_false_iff_eq] at hg5
    refine l_pur (p_pickF rfl rfl) (by decide) ?_
    refine l_pur (p_assignB rfl) (by decide) ?_
    refine lw_nil ?_
    refine cw_true rfl ?_
    refine cw_seq (cw_region ?_)
    refine l_pur (p_assignC) (by decide) ?_
    refine lw_nil ?_
    refine cw_ret ?_
    repeat (with_reducible first | refine tf_ret ?_ | refine ib_ret ?_)
    refine fin1 (fn := Tryz.f120) rfl (rv_tmpI rfl) ?_
    have hsc : [c] = s := by simpa using hg5
    subst hsc
    exact ⟨by simp [Lib.indexByte], hs⟩
  · try simp only [decide_eq_true_eq, decide_eq_false_iff_not, Bool.not_eq_true', Bool.not_eq_false', beq_iff_eq, bne_iff_ne, beq_eq_false_iff_ne, bne_eq_false_iff_eq] at hg5
    refine l_pur (p_pickF rfl rfl) (by decide) ?_
    refine l_pur (p_assignB rfl) (by decide) ?_
    refine lw_nil ?_
    refine cw_false rfl ?_
    refine cw_seq (cw_region ?_)
    refine l_pur (p_moveI rfl) (by decide) ?_
    refine l_purIs (c := true) (p_eql rfl rfl) (by rfl) (by decide) ?_
    refine l_pur (p_assignB rfl) (by decide) ?_
    refine lw_nil ?_
    refine cw_true rfl ?_
    refine cw_seq (cw_region ?_)
    refine l_pur (p_move e0) (by decide) ?_
    refine l_pur (p_move e1) (by decide) ?_
    refine l_pur (p_indexStr Tryz.underlying9 rfl rfl (by simp)) (by decide) ?_
    refine l_call2 fn190 (s_idxbyte hs) rfl rfl ?_ (by decide)
    clear hs; rintro _ w ⟨rfl, hs⟩
    refine l_pur (p_assignI rfl) (by decide) ?_
    refine lw_nil ?_
    refine cw_ret ?_
    repeat (with_reducible first | refine tf_ret ?_ | refine ib_ret ?_)
    refine fin1 (fn := Tryz.f120) rfl (rv_tmpI rfl) ?_
    exact ⟨rfl, hs⟩
theorem s_sindex1 {s : Str} {c : UInt8} (hs : St W0 V w L) : Calls Tryz.prog 84 #[vs s, vs [c]] w (okR fun v w' => v = vi (Lib.indexByte s c) ∧ St W0 V w' L) := by
  refine fn_enter (n := 8) Tryz.func84 rfl rfl rfl ?_
  intro f hf
  have e0 := hf 0
  have e1 := hf 1
  simp only [Array.getD_eq_getD_getElem?, List.getElem?_toArray, List.getElem?_cons_zero, List.getElem?_cons_succ, Option.getD_some] at e0 e1
  clear hf
  refine cw_seq (cw_region ?_)
  refine l_pur (p_assignC) (by decide) ?_
  refine lw_nil ?_
  refine cw_seq (cw_region ?_)
  refine l_pur (p_move e0) (by decide) ?_
  refine l_pur (p_move e1) (by decide) ?_
  refine l_call2 fn120 (s_index1 hs) rfl rfl ?_ (by decide)
  clear hs; rintro _ w ⟨rfl, hs⟩
  refine l_pur (p_assignI rfl) (by decide) ?_
  refine lw_nil ?_
  refine cw_ret ?_
  repeat (with_reducible first | refine tf_ret ?_ | refine ib_ret ?_)
  refine fin1 (fn := Tryz.f84) rfl (rv_tmpI rfl) ?_
  exact ⟨rfl, hs⟩
theorem s_count1 {s : Str} {c : UInt8} (hs : St W0 V w L) : Calls Tryz.prog 83 #[vs s, vs [c]] w (okR fun v w' => v = vi ((s.count c : Nat) : Int) ∧ St W0 V w' L) := by
  refine fn_enter (n := 34) Tryz.func83 rfl rfl rfl ?_
  intro f hf
  have e0 := hf 0
  have e1 := hf 1
  simp only [Array.getD_eq_getD_getElem?, List.getElem?_toArray, List.getElem?_cons_zero, List.getElem?_cons_succ, Option.getD_some] at e0 e1
  clear hf
  refine cw_seq (cw_region ?_)
  refine l_pur (p_assignC) (by decide) ?_
  refine lw_nil ?_
  refine cw_seq ?_
  refine cw_seq (cw_region ?_)
  refine l_pur (p_move e1) (by decide) ?_
  refine l_pur (p_lenStr Tryz.underlying9 rfl) (by decide) ?_
  refine l_purIs (c := false) (p_eql rfl rfl) (by rfl) (by decide) ?_
  refine lw_nil ?_
  refine cw_false rfl ?_
  refine cw_skip ?_
  refine cw_seq ?_
  refine cw_seq (cw_region ?_)
  refine l_pur (p_move e1) (by decide) ?_
  refine l_pur (p_lenStr Tryz.underlying9 rfl) (by decide) ?_
  refine l_purIs (c := true) (p_eql rfl rfl) (by rfl) (by decide) ?_
  refine lw_nil ?_
  refine cw_true rfl ?_
  refine cw_seq (cw_region ?_)
  refine l_pur (p_move e0) (by decide) ?_
  refine l_pur (p_move e1) (by decide) ?_
  refine l_pur (p_indexStr Tryz.underlying9 rfl rfl (by simp)) (by decide) ?_
  refine l_pur (p_ext2 ex119 rfl rfl (run_cntB s c)) (by decide) ?_
  refine l_pur (p_assignI rfl) (by decide) ?_
  refine lw_nil ?_
  refine cw_ret ?_
  repeat (with_reducible first | refine tf_ret ?_ | refine ib_ret ?_)
  refine fin1 (fn := Tryz.f83) rfl (rv_tmpI rfl) ?_
  exact ⟨rfl, hs⟩
theorem s_gensplit {s : Str} {c : UInt8} (hs : St W0 V w L) (hlen : s.length < 1000000) : Calls Tryz.prog 55 #[vs s, vs [c], vi 0, vi (-1)] w (okR fun v w' => Own W0 V w' L 9 v (splitB c s)) := by
  have hcl : s.count c ≤ s.length := List.count_le_length
  have hmin : min (((s.count c : Nat) : Int) + 1) ((s.length : Int) + 1) = ((s.count c + 1 : Nat) : Int) := by omega
  refine fn_enter (n := 66) Tryz.func55 rfl rfl rfl ?_
  intro f hf
  have e0 := hf 0
  have e1 := hf 1
  have e2 := hf 2
  have e3 := hf 3
  simp only [Array.getD_eq_getD_getElem?, List.getElem?_toArray, List.getElem?_cons_zero, List.getElem?_cons_succ, Option.getD_some] at e0 e1 e2 e3
  clear hf
  refine cw_seq (cw_region ?_)
  refine l_pur (p_assignC) (by decide) ?_
  refine lw_nil ?_
  refine cw_seq ?_
  refine cw_seq (cw_region ?_)
  refine l_pur (p_move e3) (by decide) ?_
  refine l_purIs (c := false) (p_eql rfl rfl) (by rfl) (by decide) ?_
  refine lw_nil ?_
  refine cw_false rfl ?_
  refine cw_skip ?_
  refine cw_seq ?_
  refine cw_seq (cw_region ?_)
  refine l_pur (p_move e1) (by decide) ?_
  refine l_purIs (c := false) (p_eqlStr rfl rfl) (by rfl) (by decide) ?_
  refine lw_nil ?_
  refine cw_false rfl ?_
  refine cw_skip ?_
  refine cw_seq ?_
  refine cw_seq (cw_region ?_)
  refine l_pur (p_move e3) (by decide) ?_
  refine l_purIs (c := true) (p_lss rfl rfl) (by rfl) (by decide) ?_
  refine lw_nil ?_
  refine cw_true rfl ?_
  refine cw_region ?_
  refine l_pur (p_move e0) (by decide) ?_
  refine l_pur (p_move e1) (by decide) ?_
  refine l_call2 fn83 (s_count1 hs) rfl rfl ?_ (by decide)
  clear hs; rintro _ w ⟨rfl, hs⟩
  refine l_pur (p_add64 rfl rfl (by first | omega | (dsimp only; omega) | (simp; omega))) (by decide) ?_
  refine l_pur (p_assignI rfl) (by decide) ?_
  refine lw_nil ?_
  refine cw_seq (cw_region ?_)
  refine l_pur (p_moveI rfl) (by decide) ?_
  refine l_pur (p_move e0) (by decide) ?_
  refine l_pur (p_lenStr Tryz.underlying9 rfl) (by decide) ?_
  refine l_pur (p_add64 rfl rfl (by first | omega | (dsimp only; omega) | (simp; omega))) (by decide) ?_
  refine l_pur (p_min rfl rfl) (by decide) ?_
  rw [hmin]
  refine l_pur (p_assignI rfl) (by decide) ?_
  refine lw_nil ?_
  refine cw_seq (cw_region ?_)
  refine l_pur (p_moveI rfl) (by decide) ?_
  refine l_makeSlice (α := Str) el96 zi9 rfl rfl (by omega) (by omega) (by omega) hs (by decide) ?_; clear hs; intro b31 w hs
  refine l_pur (p_assignL rfl) (by decide) ?_
  refine lw_nil ?_
  refine cw_seq (cw_region ?_)
  refine l_pur (p_moveI rfl) (by decide) ?_
  refine l_pur (p_sub64 rfl rfl (by first | omega | (dsimp only; omega) | (simp; omega))) (by decide) ?_
  refine l_pur (p_assignI rfl) (by decide) ?_
  refine lw_nil ?_
  refine cw_seq (cw_region ?_)
  refine l_pur (p_assignC) (by decide) ?_
  refine lw_nil ?_
  refine cw_seq ?_
  refine cw_block ?_
  refine cw_loop (fun q f w => ∃ (i : Nat) (r : Str) (ys : List Str), q = s.count c - i ∧ i ≤ s.count c ∧ f 10 = vi (i : Nat) ∧ f 3 = vi (s.count c : Nat) ∧ f 0 = vs r ∧ f 1 = vs [c] ∧ f 2 = vi 0 ∧ f 9 = .slice (some ⟨b31, 0, none⟩) (s.count c + 1) (s.count c + 1) ∧ ys.length = s.count c + 1 ∧ ys.take i ++ splitB c r = splitB c s ∧ r.count c + i = s.count c ∧ r.length ≤ s.length ∧ St W0 V w ((b31, arr 9 ys []) :: L)) (s.count c) ?_ ?_
  · refine ⟨0, s, List.replicate (s.count c + 1) [], rfl, Nat.zero_le _, rfl, ?_, e0, e1, e2, ?_, by simp, rfl, rfl, Nat.le_refl _, ?_⟩
    · show vi (((s.count c + 1 : Nat) : Int) - 1) = _
      congr 1; omega
    · have e : ((s.count c + 1 : Nat) : Int).toNat = s.count c + 1 := by omega
      show Value.slice _ ((s.count c + 1 : Nat) : Int).toNat ((s.count c + 1 : Nat) : Int).toNat = _
      rw [e]
    · have e : ((s.count c + 1 : Nat) : Int).toNat = s.count c + 1 := by omega
      rw [e] at hs; exact hs
  · intro q f w hI
    clear hs
    obtain ⟨i, r, ys, rfl, hi, e10, e3, e0, e1, e2, e9, hyl, hsp, hcnt, hrl, hs⟩ := hI
    refine cw_seq ?_
    refine cw_seq (cw_region ?_)
    refine l_pur (p_move e10) (by decide) ?_
    refine l_pur (p_move e3) (by decide) ?_
    refine l_pur (p_lss rfl rfl) (by decide) ?_
    refine lw_nil ?_
    refine cw_cond _ rfl (fun hc3 => ?_) (fun hc3 => ?_)
    · have hlt : i < s.count c := by have := of_decide_eq_true hc3; omega
      have hic := idxB_cases c r
      rw [or_iff_right (fun h => by have := h.2.1; omega)] at hic
      obtain ⟨m, hm1, hm2, hm3, hm4, hm5, hm6⟩ := hic
      refine cw_skip ?_
      refine cw_block ?_
      refine cw_seq (cw_region ?_)
      refine l_pur (p_move e0) (by decide) ?_
      refine l_pur (p_move e1) (by decide) ?_
      refine l_call2 fn84 (s_sindex1 hs) rfl rfl ?_ (by decide)
      clear hs
      rintro _ w ⟨rfl, hs⟩
      rw [hm1]
      refine l_pur (p_assignI rfl) (by decide) ?_
      refine lw_nil ?_
      refine cw_seq ?_
      refine cw_seq (cw_region ?_)
      refine l_pur (p_moveI rfl) (by decide) ?_
      refine l_purIs (c := false) (p_lss rfl rfl) (by exact decide_eq_false (by omega)) (by decide) ?_
      refine lw_nil ?_
      refine cw_false rfl ?_
      refine cw_skip ?_
      refine cw_seq (cw_region ?_)
      refine l_pur (p_move e9) (by decide) ?_
      refine l_pur (p_move e10) (by decide) ?_
      refine l_pur (p_move e0) (by decide) ?_
      refine l_pur (p_moveI rfl) (by decide) ?_
      refine l_pur (p_move e2) (by decide) ?_
      refine l_pur (p_add64 rfl rfl (by first | omega | (dsimp only; omega) | (simp; omega))) (by decide) ?_
      refine l_pur (p_sliceStr Tryz.underlying9 rfl (.no _) (.at_ _ rfl) (by first | omega | (dsimp only; omega) | (simp; omega))) (by decide) ?_
      refine l_pur (p_indexON el96.sl el96.ty.size rfl rfl (by (first | omega | decide | (dsimp only; omega) | (simp; omega)))) (by decide) ?_
      refine l_storeEN (α := Str) ty9 rfl rfl (by first | omega | (simp; omega)) hs Rep.head ?_; clear hs; intro w hs
      refine lw_nil ?_
      refine cw_seq (cw_region ?_)
      refine l_pur (p_move e0) (by decide) ?_
      refine l_pur (p_moveI rfl) (by decide) ?_
      refine l_pur (p_move e1) (by decide) ?_
      refine l_pur (p_lenStr Tryz.underlying9 rfl) (by decide) ?_
      refine l_pur (p_add64 rfl rfl (by first | omega | (dsimp only; omega) | (simp; omega))) (by decide) ?_
      refine l_pur (p_sliceStr Tryz.underlying9 rfl (.at_ _ rfl) (.no _) (by first | omega | (dsimp only; omega) | (simp; omega))) (by decide) ?_
      refine l_pur (p_assignS rfl) (by decide) ?_
      refine lw_nil ?_
      refine cw_region ?_
      refine l_pur (p_move e10) (by decide) ?_
      refine l_pur (p_add64 rfl rfl (by first | omega | (dsimp only; omega) | (simp; omega))) (by decide) ?_
      refine l_pur (p_assignI rfl) (by decide) ?_
      refine lw_nil ?_
      refine ⟨_, by omega, i + 1, r.drop (m + 1), ys.set i (r.take m), rfl, hlt, rfl, e3, ?_, e1, e2, e9, by rw [List.length_set]; exact hyl, ?_, by omega, by simp; omega, ?_⟩
      · show vs _ = _
        congr 3
        simp
      · have h1 : i < (ys.set i (r.take m)).length := by rw [List.length_set]; omega
        rw [List.take_succ_eq_append_getElem h1, List.take_set_of_le (Nat.le_refl _), List.getElem_set_self, List.append_assoc, ← hsp, hm3]; rfl
      · simpa using hs
    · try simp only [decide_eq_true_eq, decide_eq_false_iff_not, Bool.not_eq_true', Bool.not_eq_false', beq_iff_eq, bne_iff_ne, beq_eq_false_iff_ne, bne_eq_false_iff_eq] at hc3
      refine cw_exit ?_
      refine cw_seq ?_
      have hii : i = s.count c := by omega
      subst hii
      have hr0 : splitB c r = [r] := by
        rcases idxB_cases c r with h | ⟨m, _, _, _, h, _⟩
        · exact h.2.2
        · omega
      refine cw_region ?_
      refine l_pur (p_move e9) (by decide) ?_
      refine l_pur (p_move e10) (by decide) ?_
      refine l_pur (p_move e0) (by decide) ?_
      refine l_pur (p_indexON el96.sl el96.ty.size rfl rfl (by (first | omega | decide | (dsimp only; omega) | (simp; omega)))) (by decide) ?_
      refine l_storeEN (α := Str) ty9 rfl rfl (by first | omega | (simp; omega)) hs Rep.head ?_; clear hs; intro w hs
      refine lw_nil ?_
      refine cw_seq (cw_region ?_)
      refine l_pur (p_move e9) (by decide) ?_
      refine l_pur (p_move e10) (by decide) ?_
      refine l_pur (p_add64 rfl rfl (by first | omega | (dsimp only; omega) | (simp; omega))) (by decide) ?_
      refine l_pur (p_slice el96.sl el96.ty.size rfl (.no _) (.at_ _ rfl) (.no _) (.inl rfl) (by first | omega | (dsimp only; omega) | (simp; omega))) (by decide) ?_
      refine l_pur (p_assignL rfl) (by decide) ?_
      refine lw_nil ?_
      refine cw_ret ?_
      repeat (with_reducible first | refine tf_ret ?_ | refine ib_ret ?_)
      refine fin1 (fn := Tryz.f55) rfl (rv_tmpL rfl) ?_
      have hfin : ys.set (s.count c) r = splitB c s := by
        rw [← hsp, hr0, List.set_eq_take_append_cons_drop, if_pos (by omega), List.drop_of_length_le (by omega)]
      rw [hfin] at hs
      have h5 := Own.ofArr hs
      rw [splitB_len] at h5
      have e1 : slA (some ⟨b31, 0, none⟩) (s.count c + 1) 0 (Enc.size Str) = some ⟨b31, 0, none⟩ := by
        unfold slA; split
        · rfl
        · simp [addr_add]
      have e2 : ((s.count c : Nat) : Int) + 1 = ((s.count c + 1 : Nat) : Int) := by omega
      simp only [e2, Int.toNat_natCast, Int.toNat_zero, Nat.sub_zero]
      first
      | (rw [e1]; exact h5)
      | exact h5
theorem s_split {s : Str} {c : UInt8} (hs : St W0 V w L) (hlen : s.length < 1000000) : Calls Tryz.prog 24 #[vs s, vs [c]] w (okR fun v w' => Own W0 V w' L 9 v (splitB c s)) := by
  refine fn_enter (n := 8) Tryz.func24 rfl rfl rfl ?_
  intro f hf
  have e0 := hf 0
  have e1 := hf 1
  simp only [Array.getD_eq_getD_getElem?, List.getElem?_toArray, List.getElem?_cons_zero, List.getElem?_cons_succ, Option.getD_some] at e0 e1
  clear hf
  refine cw_seq (cw_region ?_)
  refine l_pur (p_assignC) (by decide) ?_
  refine lw_nil ?_
  refine cw_seq (cw_region ?_)
  refine l_pur (p_move e0) (by decide) ?_
  refine l_pur (p_move e1) (by decide) ?_
  refine l_call4 fn55 (s_gensplit hs hlen) rfl rfl rfl rfl ?_ (by decide)
  clear hs
  intro v w ho
  obtain ⟨a, cp, rfl⟩ := ho.len
  refine l_pur (p_assignL rfl) (by decide) ?_
  refine lw_nil ?_
  refine cw_ret ?_
  repeat (with_reducible first | refine tf_ret ?_ | refine ib_ret ?_)
  refine fin1 (fn := Tryz.f24) rfl (rv_tmpL rfl) ?_
  exact ho
def cutB (c : UInt8) (s : Str) : Str × Str × Bool := if Lib.indexByte s c = -1 then (s, [], false) else (s.take (Lib.indexByte s c).toNat, s.drop ((Lib.indexByte s c).toNat + 1), true)
theorem s_cutl {s : Str} {c : UInt8} (hs : St W0 V w L) (hlen : s.length < 1000000) : Calls Tryz.prog 214 #[vs s, vs [c]] w (okR fun v w' => v = .tuple #[vs (cutB c s).1, vs (cutB c s).2.1, .bool (cutB c s).2.2] ∧ St W0 V w' L) := by
  rcases idxB_cases c s with ⟨h1, h2, h3⟩ | ⟨m, h1, h2, h3, h4, h5⟩
  · skip
    refine fn_enter (n := 23) Tryz.func214 rfl rfl rfl ?_
    intro f hf
    have e0 := hf 0
    have e1 := hf 1
    simp only [Array.getD_eq_getD_getElem?, List.getElem?_toArray, List.getElem?_cons_zero, List.getElem?_cons_succ, Option.getD_some] at e0 e1
    clear hf
    refine cw_seq (cw_region ?_)
    refine l_pur (p_assignC) (by decide) ?_
    refine l_pur (p_assignC) (by decide) ?_
    refine l_pur (p_assignC) (by decide) ?_
    refine lw_nil ?_
    refine cw_seq ?_
    refine cw_seq (cw_region ?_)
    refine l_pur (p_move e0) (by decide) ?_
    refine l_pur (p_move e1) (by decide) ?_
    refine l_call2 fn120 (s_index1 hs) rfl rfl ?_ (by decide)
    clear hs
    rintro _ w ⟨rfl, hs⟩
    rw [h1]
    refine l_pur (p_assignI rfl) (by decide) ?_
    refine lw_nil ?_
    refine cw_seq (cw_region ?_)
    refine l_pur (p_moveI rfl) (by decide) ?_
    refine l_purIs (c := false) (p_geq rfl rfl) (by rfl) (by decide) ?_
    refine lw_nil ?_
    refine cw_false rfl ?_
    refine cw_skip ?_
    refine cw_seq (cw_region ?_)
    refine l_pur (p_move e0) (by decide) ?_
    refine l_pur (p_assignS rfl) (by decide) ?_
    refine l_pur (p_assignC) (by decide) ?_
    refine l_pur (p_assignC) (by decide) ?_
    refine lw_nil ?_
    refine cw_ret ?_
    repeat (with_reducible first | refine tf_ret ?_ | refine ib_ret ?_)
    refine fin3 (fn := Tryz.f214) rfl (rv_tmpS rfl) (rv_tmpS rfl) (rv_tmpB rfl) ?_
    exact ⟨by unfold cutB; rw [if_pos h1], hs⟩
  · skip
    refine fn_enter (n := 23) Tryz.func214 rfl rfl rfl ?_
    intro f hf
    have e0 := hf 0
    have e1 := hf 1
    simp only [Array.getD_eq_getD_getElem?, List.getElem?_toArray, List.getElem?_cons_zero, List.getElem?_cons_succ, Option.getD_some] at e0 e1
    clear hf
    refine cw_seq (cw_region ?_)
    refine l_pur (p_assignC) (by decide) ?_
    refine l_pur (p_assignC) (by decide) ?_
    refine l_pur (p_assignC) (by decide) ?_
    refine lw_nil ?_
    refine cw_seq ?_
    refine cw_seq (cw_region ?_)
    refine l_pur (p_move e0) (by decide) ?_
    refine l_pur (p_move e1) (by decide) ?_
    refine l_call2 fn120 (s_index1 hs) rfl rfl ?_ (by decide)
    clear hs
    rintro _ w ⟨rfl, hs⟩
    rw [h1]
    refine l_pur (p_assignI rfl) (by decide) ?_
    refine lw_nil ?_
    refine cw_seq (cw_region ?_)
    refine l_pur (p_moveI rfl) (by decide) ?_
    refine l_purIs (c := true) (p_geq rfl rfl) (by exact decide_eq_true (by omega)) (by decide) ?_
    refine lw_nil ?_
    refine cw_true rfl ?_
    refine cw_seq ?_
    have hS := Hold.nil hs (PH.refl _)
    refine cw_planH (.take 0 (.take 1 (.take 2 (.take 3 (.take 4 (.take 5 (.take 6 (.take 7 (.take 8 (.take 9 (.take 10 (.take 11 .done)))))))))))) 0 hmix (by kernel_rfl) (fun _ _ _ h => h) hs hS ?_
    clear hS; clear hs; intro w hs; have hS := Hold.nil hs (PH.refl _)
    refine pw_pur rfl (wt_free rfl) (p_move e0) (by decide) (fun h => absurd h (by decide)) ?_
    refine pw_pur rfl (wt_free rfl) (p_moveI rfl) (by decide) (fun h => absurd h (by decide)) ?_
    refine pw_pur rfl (wt_free rfl) (p_sliceStr Tryz.underlying9 rfl (.no _) (.at_ _ rfl) (by first | omega | (dsimp only; omega) | (simp; omega))) (by decide) (fun h => absurd h (by decide)) ?_
    refine pw_pur rfl (wt_free rfl) (p_move e0) (by decide) (fun h => absurd h (by decide)) ?_
    refine pw_pur rfl (wt_free rfl) (p_moveI rfl) (by decide) (fun h => absurd h (by decide)) ?_
    refine pw_pur rfl (wt_free rfl) (p_move e1) (by decide) (fun h => absurd h (by decide)) ?_
    refine pw_pur rfl (wt_free rfl) (p_lenStr Tryz.underlying9 rfl) (by decide) (fun h => absurd h (by decide)) ?_
    refine pw_pur rfl (wt_free rfl) (p_add64 rfl rfl (by first | omega | (dsimp only; omega) | (simp; omega))) (by decide) (fun h => absurd h (by decide)) ?_
    refine pw_pur rfl (wt_free rfl) (p_sliceStr Tryz.underlying9 rfl (.at_ _ rfl) (.no _) (by simp; omega)) (by decide) (fun h => absurd h (by decide)) ?_
    refine pw_pur rfl (wt_free rfl) (p_assignS rfl) (by decide) (fun h => absurd h (by decide)) ?_
    refine pw_pur rfl (wt_free rfl) (p_assignS rfl) (by decide) (fun h => absurd h (by decide)) ?_
    refine pw_pur rfl (wt_free rfl) (p_assignC) (by decide) (fun h => absurd h (by decide)) ?_
    refine pw_done ?_
    refine cw_ret ?_
    repeat (with_reducible first | refine tf_ret ?_ | refine ib_ret ?_)
    refine fin3 (fn := Tryz.f214) rfl (rv_tmpS rfl) (rv_tmpS rfl) (rv_tmpB rfl) ?_
    refine ⟨?_, hs⟩
    unfold cutB
    rw [if_neg (by omega), h1]
    simp
theorem s_cut {s : Str} {c : UInt8} (hs : St W0 V w L) (hlen : s.length < 1000000) : Calls Tryz.prog 152 #[vs s, vs [c]] w (okR fun v w' => v = .tuple #[vs (cutB c s).1, vs (cutB c s).2.1, .bool (cutB c s).2.2] ∧ St W0 V w' L) := by
  refine fn_enter (n := 13) Tryz.func152 rfl rfl rfl ?_
  intro f hf
  have e0 := hf 0
  have e1 := hf 1
  simp only [Array.getD_eq_getD_getElem?, List.getElem?_toArray, List.getElem?_cons_zero, List.getElem?_cons_succ, Option.getD_some] at e0 e1
  clear hf
  refine cw_seq (cw_region ?_)
  refine l_pur (p_assignC) (by decide) ?_
  refine l_pur (p_assignC) (by decide) ?_
  refine l_pur (p_assignC) (by decide) ?_
  refine lw_nil ?_
  refine cw_seq (cw_region ?_)
  refine l_pur (p_move e0) (by decide) ?_
  refine l_pur (p_move e1) (by decide) ?_
  refine l_call2 fn214 (s_cutl hs hlen) rfl rfl ?_ (by decide)
  clear hs; rintro _ w ⟨rfl, hs⟩
  refine l_pur (p_extract rfl rfl) (by decide) ?_
  refine l_pur (p_extract rfl rfl) (by decide) ?_
  refine l_pur (p_extract rfl rfl) (by decide) ?_
  refine l_pur (p_assignS rfl) (by decide) ?_
  refine l_pur (p_assignS rfl) (by decide) ?_
  refine l_pur (p_assignB rfl) (by decide) ?_
  refine lw_nil ?_
  refine cw_ret ?_
  repeat (with_reducible first | refine tf_ret ?_ | refine ib_ret ?_)
  refine fin3 (fn := Tryz.f152) rfl (rv_tmpS rfl) (rv_tmpS rfl) (rv_tmpB rfl) ?_
  exact ⟨rfl, hs⟩
end Go.Bur
namespace Go.Bur
open Go Go.RowKit Go.Proofs
set_option maxHeartbeats 4000000
variable {W0 : World} {V : PH} {w : World} {L : List (Nat × Obj)}
def lettersL : Str := [65, 66, 67, 68, 69, 70, 71, 72, 73, 74, 75, 76, 77, 78, 79, 80, 81, 82, 83, 84, 85, 86, 87, 88, 89, 90, 97, 98, 99, 100, 101, 102, 103, 104, 105, 106, 107, 108, 109, 110, 111, 112, 113, 114, 115, 116, 117, 118, 119, 120, 121, 122, 48, 49, 50, 51, 52, 53, 54, 55, 56, 57, 43, 47]
def bitT (k : GKey) (p : Nat) : Bool := if h : p < 256 then decide (((k[p / 8]'(by omega)) >>> UInt8.ofNat (7 - p % 8)) &&& 1 = 1) else false
def sext (k : GKey) (p : Nat) : Nat → Nat → Nat
  | 0, n => n
  | f + 1, n => sext k (p + 1) f (if bitT k p then 2 * n + 1 else 2 * n)
def textL (k : GKey) : Nat → Str → Str
  | 0, s => s ++ [61]
  | f + 1, s => textL k f (s ++ (lettersL.take (sext k (6 * (42 - f)) 6 0 + 1)).drop (sext k (6 * (42 - f)) 6 0))
def textK (k : GKey) : Str := textL k 43 []
theorem s_text01 {k : GKey} (hs : St W0 V w L) : Calls Tryz.prog 7 #[val k] w (okR fun v w' => v = vs (textK k) ∧ St W0 V w' L) := by
  refine fn_enter (n := 46) Tryz.func7 rfl rfl rfl ?_
  intro f hf
  have e0 := hf 0
  simp only [Array.getD_eq_getD_getElem?, List.getElem?_toArray, List.getElem?_cons_zero, List.getElem?_cons_succ, Option.getD_some] at e0
  clear hf
  refine cw_seq (cw_region ?_)
  refine l_box (α := (Vec 32 UInt8)) e0 hs (by decide) ?_; clear hs; intro b1 w hs
  refine l_pur (p_assignC) (by decide) ?_
  refine lw_nil ?_
  refine cw_seq (cw_region ?_)
  refine l_pur (p_assignC) (by decide) ?_
  refine lw_nil ?_
  refine cw_seq ?_
  refine cw_seq (cw_region ?_)
  refine l_pur (p_assignC) (by decide) ?_
  refine lw_nil ?_
  refine cw_block ?_
  refine cw_loop (fun q f w => ∃ (i : Nat) (s : Str), q = 43 - i ∧ i ≤ 43 ∧ f 4 = vi (i : Nat) ∧ f 3 = vs s ∧ f 1 = ptr b1 0 ∧ textL k (43 - i) s = textK k ∧ s.length ≤ i ∧ St W0 V w ((b1, blk 27 k) :: L)) (43) ?_ ?_
  · exact ⟨0, [], rfl, by omega, rfl, rfl, rfl, rfl, by simp, hs⟩
  · intro q f w hI
    clear hs
    obtain ⟨i, s, rfl, hi, e4, e3, e1, htx, hsl, hs⟩ := hI
    refine cw_seq ?_
    refine cw_seq (cw_region ?_)
    refine l_pur (p_move e4) (by decide) ?_
    refine l_pur (p_lss rfl rfl) (by decide) ?_
    refine lw_nil ?_
    refine cw_cond _ rfl (fun hc0 => ?_) (fun hc0 => ?_)
    · have hlt : i < 43 := by have := of_decide_eq_true hc0; omega
      refine cw_skip ?_
      refine cw_seq ?_
      refine cw_block ?_
      refine cw_seq (cw_region ?_)
      refine l_pur (p_assignC) (by decide) ?_
      refine lw_nil ?_
      refine cw_seq ?_
      refine cw_seq (cw_region ?_)
      refine l_pur (p_move e4) (by decide) ?_
      refine l_pur (p_mul64 rfl rfl (by first | omega | (dsimp only; omega) | (simp; omega))) (by decide) ?_
      refine l_pur (p_assignI rfl) (by decide) ?_
      refine lw_nil ?_
      refine cw_block ?_
      refine cw_loop (fun q f w => ∃ (j n : Nat), q = 6 - j ∧ j ≤ 6 ∧ f 6 = vi ((6 * i + j : Nat) : Int) ∧ f 5 = vi (n : Nat) ∧ f 4 = vi (i : Nat) ∧ f 3 = vs s ∧ f 1 = ptr b1 0 ∧ sext k (6 * i + j) (6 - j) n = sext k (6 * i) 6 0 ∧ n < 2 ^ j ∧ St W0 V w ((b1, blk 27 k) :: L)) (6) ?_ ?_
      · exact ⟨0, 0, rfl, by omega, by show vi (6 * (i : Int)) = _; congr 1, rfl, e4, e3, e1, rfl, by decide, hs⟩
      · intro q f w hI
        clear hs
        obtain ⟨j, n, rfl, hj, e6, e5, e4, e3, e1, hsx, hnb, hs⟩ := hI
        have hn64 : n < 64 := Nat.lt_of_lt_of_le hnb (show 2 ^ j ≤ 2 ^ 6 from Nat.pow_le_pow_right (by decide) hj)
        refine cw_seq ?_
        refine cw_seq (cw_region ?_)
        refine l_pur (p_move e6) (by decide) ?_
        refine l_pur (p_move e4) (by decide) ?_
        refine l_pur (p_mul64 rfl rfl (by first | omega | (dsimp only; omega) | (simp; omega))) (by decide) ?_
        refine l_pur (p_add64 rfl rfl (by first | omega | (dsimp only; omega) | (simp; omega))) (by decide) ?_
        refine l_pur (p_lss rfl rfl) (by decide) ?_
        refine lw_nil ?_
        refine cw_cond _ rfl (fun hc1 => ?_) (fun hc1 => ?_)
        · have hjl : j < 6 := by have := of_decide_eq_true hc1; omega
          have hstep : sext k (6 * i + (j + 1)) (6 - (j + 1)) (if bitT k (6 * i + j) then 2 * n + 1 else 2 * n) = sext k (6 * i) 6 0 := by
            have e : 6 - j = (6 - (j + 1)) + 1 := by omega
            rw [← hsx, e]; rfl
          refine cw_skip ?_
          refine cw_seq ?_
          refine cw_block ?_
          refine cw_seq (cw_region ?_)
          refine l_pur (p_move e5) (by decide) ?_
          refine l_pur (p_mul64 rfl rfl (by first | omega | (dsimp only; omega) | (simp; omega))) (by decide) ?_
          refine l_pur (p_assignI rfl) (by decide) ?_
          refine lw_nil ?_
          refine cw_seq (cw_region ?_)
          refine l_pur (p_move e6) (by decide) ?_
          refine l_purB (p_lss rfl rfl) (by decide) (fun hg1 => ?_) (fun hg1 => ?_)
          · have hp : 6 * i + j < 256 := by have := of_decide_eq_true hg1; omega
            have hbt : bitT k (6 * i + j) = decide (((k[(6 * i + j) / 8]'(by omega)) >>> UInt8.ofNat (7 - (6 * i + j) % 8)) &&& 1 = 1) := by unfold bitT; rw [dif_pos hp]
            refine l_pur (p_moveB rfl) (by decide) ?_
            refine lw_do rfl rfl rfl ?_
            refine l_pur (p_move e6) (by decide) ?_
            refine lw_do rfl rfl rfl ?_
            refine l_pur (p_quoK (b := 8) rfl rfl (by decide) (by first | omega | (dsimp only; omega) | (simp; omega))) (by decide) ?_
            refine lw_do rfl rfl rfl ?_
            refine l_pur (p_indexArr0N Tryz.underlying27 ty5.size e1 rfl (by (first | omega | decide | (dsimp only; omega) | (simp; omega)))) (by decide) ?_
            refine lw_do rfl rfl rfl ?_
            refine l_loadO (α := (Vec 32 UInt8)) (β := UInt8) ty5 rfl (Lens.idx (α := UInt8) (n := 32) _ (by first | omega | decide | (simp; omega) | simp | exact umod4n _)) hs (List.Mem.head _) (by decide) ?_
            refine lw_do rfl rfl rfl ?_
            refine l_pur (p_move e6) (by decide) ?_
            refine lw_do rfl rfl rfl ?_
            refine l_pur (p_remK (b := 8) rfl rfl (by decide)) (by decide) ?_
            refine lw_do rfl rfl rfl ?_
            refine l_pur (p_subN (a := 7) (b := _) rfl rfl (by first | omega | (dsimp only; omega) | (simp; omega)) (by first | omega | (dsimp only; omega) | (simp; omega))) (by decide) ?_
            refine lw_do rfl rfl rfl ?_
            refine l_pur (p_shr_u8 (a := _) (s := _) rfl rfl (by first | omega | (dsimp only; omega) | (simp; omega))) (by decide) ?_
            refine lw_do rfl rfl rfl ?_
            refine l_pur (p_and_u8 (b := (1 : UInt8)) rfl rfl) (by decide) ?_
            refine lw_do rfl rfl rfl ?_
            refine l_pur (p_eql_u8 (b := (1 : UInt8)) rfl rfl) (by decide) ?_
            refine l_pur (p_pickT rfl rfl) (by decide) ?_
            refine lw_nil ?_
            refine cw_cond _ rfl (fun hc2 => ?_) (fun hc2 => ?_)
            · try simp only [decide_eq_true_eq, decide_eq_false_iff_not, Bool.not_eq_true', Bool.not_eq_false', beq_iff_eq, bne_iff_ne, beq_eq_false_iff_ne, bne_eq_false_iff_eq] at hc2
              refine cw_region ?_
              refine l_pur (p_moveI rfl) (by decide) ?_
              refine l_pur (p_add64 rfl rfl (by first | omega | (dsimp only; omega) | (simp; omega))) (by decide) ?_
              refine l_pur (p_assignI rfl) (by decide) ?_
              refine lw_nil ?_
              refine cw_region ?_
              refine l_pur (p_move e6) (by decide) ?_
              refine l_pur (p_add64 rfl rfl (by first | omega | (dsimp only; omega) | (simp; omega))) (by decide) ?_
              refine l_pur (p_assignI rfl) (by decide) ?_
              refine lw_nil ?_
              first
              | (rw [hbt, if_neg (by decide)] at hstep
                 exact ⟨_, by omega, j + 1, 2 * n, rfl, hjl, rfl, rfl, e4, e3, e1, hstep, by rw [Nat.pow_succ]; omega, hs⟩)
              | (have hb1 : bitT k (6 * i + j) = true := by rw [hbt]; simpa using hc2
                 rw [hb1, if_pos rfl] at hstep
                 exact ⟨_, by omega, j + 1, 2 * n + 1, rfl, hjl, rfl, rfl, e4, e3, e1, hstep, by rw [Nat.pow_succ]; omega, hs⟩)
              | (have hb1 : bitT k (6 * i + j) = false := by rw [hbt]; simpa using hc2
                 rw [hb1, if_neg (by decide)] at hstep
                 exact ⟨_, by omega, j + 1, 2 * n, rfl, hjl, rfl, rfl, e4, e3, e1, hstep, by rw [Nat.pow_succ]; omega, hs⟩)
            · try simp only [decide_eq_true_eq, decide_eq_false_iff_not, Bool.not_eq_true', Bool.not_eq_false', beq_iff_eq, bne_iff_ne, beq_eq_false_iff_ne, bne_eq_false_iff_eq] at hc2
              refine cw_skip ?_
              refine cw_region ?_
              refine l_pur (p_move e6) (by decide) ?_
              refine l_pur (p_add64 rfl rfl (by first | omega | (dsimp only; omega) | (simp; omega))) (by decide) ?_
              refine l_pur (p_assignI rfl) (by decide) ?_
              refine lw_nil ?_
              first
              | (rw [hbt, if_neg (by decide)] at hstep
                 exact ⟨_, by omega, j + 1, 2 * n, rfl, hjl, rfl, rfl, e4, e3, e1, hstep, by rw [Nat.pow_succ]; omega, hs⟩)
              | (have hb1 : bitT k (6 * i + j) = true := by rw [hbt]; simpa using hc2
                 rw [hb1, if_pos rfl] at hstep
                 exact ⟨_, by omega, j + 1, 2 * n + 1, rfl, hjl, rfl, rfl, e4, e3, e1, hstep, by rw [Nat.pow_succ]; omega, hs⟩)
              | (have hb1 : bitT k (6 * i + j) = false := by rw [hbt]; simpa using hc2
                 rw [hb1, if_neg (by decide)] at hstep
                 exact ⟨_, by omega, j + 1, 2 * n, rfl, hjl, rfl, rfl, e4, e3, e1, hstep, by rw [Nat.pow_succ]; omega, hs⟩)
          · have hp : ¬ 6 * i + j < 256 := by have := of_decide_eq_false hg1; omega
            have hbt : bitT k (6 * i + j) = false := by unfold bitT; rw [dif_neg hp]
            refine l_pur (p_moveB rfl) (by decide) ?_
            refine lw_pass rfl rfl rfl rfl rfl rfl (by decide) ?_
            refine lw_pass rfl rfl rfl rfl rfl rfl (by decide) ?_
            refine lw_pass rfl rfl rfl rfl rfl rfl (by decide) ?_
            refine lw_pass rfl rfl rfl rfl rfl rfl (by decide) ?_
            refine lw_pass rfl rfl rfl rfl rfl rfl (by decide) ?_
            refine lw_pass rfl rfl rfl rfl rfl rfl (by decide) ?_
            refine lw_pass rfl rfl rfl rfl rfl rfl (by decide) ?_
            refine lw_pass rfl rfl rfl rfl rfl rfl (by decide) ?_
            refine lw_pass rfl rfl rfl rfl rfl rfl (by decide) ?_
            refine lw_pass rfl rfl rfl rfl rfl rfl (by decide) ?_
            refine l_pur (p_pickF rfl rfl) (by decide) ?_
            refine lw_nil ?_
            refine cw_false rfl ?_
            refine cw_skip ?_
            refine cw_region ?_
            refine l_pur (p_move e6) (by decide) ?_
            refine l_pur (p_add64 rfl rfl (by first | omega | (dsimp only; omega) | (simp; omega))) (by decide) ?_
            refine l_pur (p_assignI rfl) (by decide) ?_
            refine lw_nil ?_
            first
            | (rw [hbt, if_neg (by decide)] at hstep
               exact ⟨_, by omega, j + 1, 2 * n, rfl, hjl, rfl, rfl, e4, e3, e1, hstep, by rw [Nat.pow_succ]; omega, hs⟩)
            | (have hb1 : bitT k (6 * i + j) = true := by rw [hbt]; simpa using hc2
               rw [hb1, if_pos rfl] at hstep
               exact ⟨_, by omega, j + 1, 2 * n + 1, rfl, hjl, rfl, rfl, e4, e3, e1, hstep, by rw [Nat.pow_succ]; omega, hs⟩)
            | (have hb1 : bitT k (6 * i + j) = false := by rw [hbt]; simpa using hc2
               rw [hb1, if_neg (by decide)] at hstep
               exact ⟨_, by omega, j + 1, 2 * n, rfl, hjl, rfl, rfl, e4, e3, e1, hstep, by rw [Nat.pow_succ]; omega, hs⟩)
        · try simp only [decide_eq_true_eq, decide_eq_false_iff_not, Bool.not_eq_true', Bool.not_eq_false', beq_iff_eq, bne_iff_ne, beq_eq_false_iff_ne, bne_eq_false_iff_eq] at hc1
          refine cw_exit ?_
          refine cw_region ?_
          refine l_pur (p_move e3) (by decide) ?_
          refine l_pur (p_move e5) (by decide) ?_
          refine l_pur (p_move e5) (by decide) ?_
          refine l_pur (p_add64 rfl rfl (by first | omega | (dsimp only; omega) | (simp; omega))) (by decide) ?_
          refine l_pur (p_sliceStr Tryz.underlying9 rfl (.at_ _ rfl) (.at_ _ rfl) (by simp; omega)) (by decide) ?_
          refine l_pur (p_addStr rfl rfl (by simp; omega)) (by decide) ?_
          refine l_pur (p_assignS rfl) (by decide) ?_
          refine lw_nil ?_
          refine cw_region ?_
          refine l_pur (p_move e4) (by decide) ?_
          refine l_pur (p_add64 rfl rfl (by first | omega | (dsimp only; omega) | (simp; omega))) (by decide) ?_
          refine l_pur (p_assignI rfl) (by decide) ?_
          refine lw_nil ?_
          have hj6 : j = 6 := by omega
          subst hj6
          have hn : n = sext k (6 * i) 6 0 := hsx
          have e1' : 43 - i = (43 - (i + 1)) + 1 := by omega
          have e2' : 42 - (43 - (i + 1)) = i := by omega
          rw [e1'] at htx
          unfold textL at htx
          rw [e2', ← hn] at htx
          have en : ((n : Int) + 1).toNat = n + 1 := by omega
          refine ⟨_, by omega, i + 1, s ++ (lettersL.take (n + 1)).drop n, rfl, hlt, rfl, ?_, e1, htx, ?_, hs⟩
          · show vs (s ++ (lettersL.take ((n : Int) + 1).toNat).drop (n : Int).toNat) = _
            rw [en, Int.toNat_natCast]
          · rw [List.length_append, List.length_drop, List.length_take]
            omega
    · try simp only [decide_eq_true_eq, decide_eq_false_iff_not, Bool.not_eq_true', Bool.not_eq_false', beq_iff_eq, bne_iff_ne, beq_eq_false_iff_ne, bne_eq_false_iff_eq] at hc0
      refine cw_exit ?_
      refine cw_seq (cw_region ?_)
      refine l_pur (p_move e3) (by decide) ?_
      refine l_pur (p_addStr rfl rfl (by simp; omega)) (by decide) ?_
      refine l_pur (p_assignS rfl) (by decide) ?_
      refine lw_nil ?_
      refine cw_ret ?_
      repeat (with_reducible first | refine tf_ret ?_ | refine ib_ret ?_)
      refine fin1 (fn := Tryz.f7) rfl (rv_tmpS rfl) ?_
      have hi43 : i = 43 := by omega
      subst hi43
      exact ⟨by rw [← htx]; rfl, hs.drop1⟩
def markI (c : UInt8) : Option Nat := lettersL.findIdx? fun x => decide (x = c)
theorem s_mark {c : UInt8} (hs : St W0 V w L) : Calls Tryz.prog 65 #[val c] w (okR fun v w' => v = .tuple #[vi (((markI c).getD 0 : Nat) : Int), .bool (markI c).isSome] ∧ St W0 V w' L) := by
  have hll : lettersL.length = 64 := rfl
  refine fn_enter (n := 14) Tryz.func65 rfl rfl rfl ?_
  intro f hf
  have e0 := hf 0
  simp only [Array.getD_eq_getD_getElem?, List.getElem?_toArray, List.getElem?_cons_zero, List.getElem?_cons_succ, Option.getD_some] at e0
  clear hf
  refine cw_seq (cw_region ?_)
  refine l_pur (p_assignC) (by decide) ?_
  refine l_pur (p_assignC) (by decide) ?_
  refine lw_nil ?_
  refine cw_seq ?_
  refine cw_seq (cw_region ?_)
  refine l_pur (p_moveC) (by decide) ?_
  refine lw_nil ?_
  refine cw_block ?_
  refine cw_loop (fun q f w => ∃ (i : Nat), q = 64 - i ∧ i ≤ 64 ∧ f 5 = vi (i : Nat) ∧ f 0 = val c ∧ (∀ j (h : j < lettersL.length), j < i → lettersL[j] ≠ c) ∧ St W0 V w L) (64) ?_ ?_
  · exact ⟨0, rfl, by omega, rfl, e0, fun j _ h => by omega, hs⟩
  · intro q f w hI
    clear hs
    obtain ⟨i, rfl, hi, e5, e0, hno, hs⟩ := hI
    refine cw_seq (cw_region ?_)
    refine l_pur (p_lss e5 rfl) (by decide) ?_
    refine lw_nil ?_
    refine cw_seq ?_
    refine cw_cond _ rfl (fun hc0 => ?_) (fun hc0 => ?_)
    · have hlt : i < lettersL.length := by have := of_decide_eq_true hc0; omega
      refine cw_skip ?_
      refine cw_seq ?_
      refine cw_block ?_
      refine cw_seq (cw_region ?_)
      refine l_pur (p_move e5) (by decide) ?_
      refine l_pur (p_assignI rfl) (by decide) ?_
      refine lw_nil ?_
      refine cw_seq (cw_region ?_)
      refine l_pur (p_moveI rfl) (by decide) ?_
      refine l_pur (p_indexStr (a := lettersL) (j := (i : Nat)) Tryz.underlying9 rfl rfl (by omega)) (by decide) ?_
      refine l_pur (p_move e0) (by decide) ?_
      refine l_pur (p_eql_u8 rfl rfl) (by decide) ?_
      refine lw_nil ?_
      refine cw_cond _ rfl (fun hc1 => ?_) (fun hc1 => ?_)
      · have hy : lettersL[i] = c := by simpa using hc1
        refine cw_seq (cw_region ?_)
        refine l_pur (p_moveI rfl) (by decide) ?_
        refine l_pur (p_assignI rfl) (by decide) ?_
        refine l_pur (p_assignC) (by decide) ?_
        refine lw_nil ?_
        refine cw_ret ?_
        repeat (with_reducible first | refine tf_ret ?_ | refine ib_ret ?_)
        refine fin2 (fn := Tryz.f65) rfl (rv_tmpI rfl) (rv_tmpB rfl) ?_
        have hm : markI c = some i := by
          unfold markI
          rw [List.findIdx?_eq_some_iff_getElem]
          exact ⟨hlt, by simpa using hy, fun j hj => by simpa using hno j (by omega) hj⟩
        exact ⟨by rw [hm]; rfl, hs⟩
      · have hne : lettersL[i] ≠ c := by simpa using hc1
        refine cw_skip ?_
        refine cw_region ?_
        refine l_pur (p_add64 e5 rfl (by first | omega | (dsimp only; omega) | (simp; omega))) (by decide) ?_
        refine l_pur (p_moveI rfl) (by decide) ?_
        refine lw_nil ?_
        refine ⟨_, by omega, i + 1, rfl, by omega, rfl, e0, fun j h hj => ?_, hs⟩
        by_cases hji : j < i
        · exact hno j h hji
        · obtain rfl : j = i := by omega
          exact hne
    · try simp only [decide_eq_true_eq, decide_eq_false_iff_not, Bool.not_eq_true', Bool.not_eq_false', beq_iff_eq, bne_iff_ne, beq_eq_false_iff_ne, bne_eq_false_iff_eq] at hc0
      refine cw_exit ?_
      refine cw_seq (cw_region ?_)
      refine l_pur (p_assignC) (by decide) ?_
      refine l_pur (p_assignC) (by decide) ?_
      refine lw_nil ?_
      refine cw_ret ?_
      repeat (with_reducible first | refine tf_ret ?_ | refine ib_ret ?_)
      refine fin2 (fn := Tryz.f65) rfl (rv_tmpI rfl) (rv_tmpB rfl) ?_
      have hge : ¬ i < lettersL.length := by omega
      have hm : markI c = none := by
        unfold markI
        rw [List.findIdx?_eq_none_iff]
        intro x hx
        obtain ⟨j, hj, rfl⟩ := List.getElem_of_mem hx
        simpa using hno j hj (by omega)
      exact ⟨by rw [hm]; rfl, hs⟩
def pkAt (k : GKey) (p bit : Nat) (h : p / 8 < 32) : GKey := k.set (p / 8) (k[p / 8] ||| UInt8.ofInt ((bit * 2 ^ (7 - p % 8) : Nat) : Int))
def pkIn (i v : Nat) : Nat → GKey → Option GKey
  | 0, k => some k
  | n + 1, k => if h : 6 * i + (5 - n) < 256 then pkIn i v n (pkAt k (6 * i + (5 - n)) (v / 2 ^ n &&& 1) (by omega)) else if (v / 2 ^ n &&& 1) ≠ 0 then none else pkIn i v n k
def pkOut (s : Str) : Nat → GKey → Option GKey
  | 0, k => some k
  | n + 1, k => match markI (s.getD (42 - n) 0) with
    | none => none
    | some v => match pkIn (42 - n) v 6 k with
      | none => none
      | some k' => pkOut s n k'
def parseKey (s : Str) : Option GKey := if s.length = 44 ∧ s.getD 43 0 = 61 then pkOut s 43 (Vector.replicate 32 0) else none
def keyRes (o : Option GKey) : Value := .tuple #[val (o.getD (Vector.replicate 32 0 : GKey)), vi (if o.isSome then 0 else 5)]
theorem pkIn_step (i v j : Nat) (k : GKey) (hj : j < 6) : pkIn i v (6 - j) k = if h : 6 * i + j < 256 then pkIn i v (6 - (j + 1)) (pkAt k (6 * i + j) (v / 2 ^ (5 - j) &&& 1) (by omega)) else if (v / 2 ^ (5 - j) &&& 1) ≠ 0 then none else pkIn i v (6 - (j + 1)) k := by
  match j, hj with
  | 0, _ => rfl
  | 1, _ => rfl
  | 2, _ => rfl
  | 3, _ => rfl
  | 4, _ => rfl
  | 5, _ => rfl
theorem markI_lt {c : UInt8} {v : Nat} (h : markI c = some v) : v < 64 := by
  unfold markI at h
  rw [List.findIdx?_eq_some_iff_getElem] at h
  exact h.1
theorem s_parsekey {s : Str} (hs : St W0 V w L) (hlen : s.length < 1000000) : Calls Tryz.prog 26 #[vs s] w (okR fun v w' => v = keyRes (parseKey s) ∧ St W0 V w' L) := by
  refine fn_enter (n := 65) Tryz.func26 rfl rfl rfl ?_
  intro f hf
  have e0 := hf 0
  simp only [Array.getD_eq_getD_getElem?, List.getElem?_toArray, List.getElem?_cons_zero, List.getElem?_cons_succ, Option.getD_some] at e0
  clear hf
  refine cw_seq (cw_region ?_)
  refine l_alloc z27 hs (by decide) ?_; clear hs; intro b2 w hs
  refine l_pur (p_assignC) (by decide) ?_
  refine lw_nil ?_
  refine cw_seq ?_
  refine cw_seq (cw_region ?_)
  refine l_pur (p_move e0) (by decide) ?_
  refine l_pur (p_lenStr Tryz.underlying9 rfl) (by decide) ?_
  refine l_purB (p_neq rfl rfl) (by decide) (fun hg2 => ?_) (fun hg2 => ?_)
  · have hbad : parseKey s = none := by unfold parseKey; rw [if_neg (fun h => by have := h.1; simp at hg2; omega)]
    refine l_pur (p_moveB rfl) (by decide) ?_
    refine lw_pass rfl rfl rfl rfl rfl rfl (by decide) ?_
    refine lw_pass rfl rfl rfl rfl rfl rfl (by decide) ?_
    refine lw_pass rfl rfl rfl rfl rfl rfl (by decide) ?_
    refine l_pur (p_pickT rfl rfl) (by decide) ?_
    refine lw_nil ?_
    refine cw_true rfl ?_
    refine cw_seq (cw_region ?_)
    refine l_pur (p_buildA (α := UInt8) Tryz.underlying27 ty5 z27 (.nil _)) (by decide) ?_
    refine l_store0 (α := (Vec 32 UInt8)) (β := (Vec 32 UInt8)) ty27 rfl rfl (Lens.id (Vec 32 UInt8)) hs ?_; clear hs; intro w hs
    refine l_pur (p_assignC) (by decide) ?_
    refine lw_nil ?_
    refine cw_ret ?_
    repeat (with_reducible first | refine tf_ret ?_ | refine ib_ret ?_)
    refine fin2 (fn := Tryz.f26) rfl (rv_own (α := (Vec 32 UInt8)) ty27 rfl (hs.mem (List.Mem.head _))) (rv_tmpI rfl) ?_
    first
    | exact ⟨by rw [hbad]; rfl, hs.drop1⟩
    | exact ⟨by rw [← hpk]; rfl, hs.drop1.drop1⟩
    | (have hi43 : i = 43 := by omega
       subst hi43
       exact ⟨by rw [← hpk]; rfl, hs.drop1.drop1⟩)
  · have hl44 : s.length = 44 := by simp at hg2; omega
    have hl43 : s.getD 43 0 = s[43]'(by omega) := by simp [List.getD, List.getElem?_eq_getElem (show 43 < s.length by omega)]
    refine l_pur (p_moveB rfl) (by decide) ?_
    refine lw_do rfl rfl rfl ?_
    refine l_pur (p_move e0) (by decide) ?_
    refine lw_do rfl rfl rfl ?_
    refine l_pur (p_indexStr Tryz.underlying9 rfl rfl (by first | omega | (dsimp only; omega) | (simp; omega))) (by decide) ?_
    refine lw_do rfl rfl rfl ?_
    refine l_purB (p_neq_u8 (b := (61 : UInt8)) rfl rfl) (by decide) (fun hg6 => ?_) (fun hg6 => ?_)
    · have hbad : parseKey s = none := by
        unfold parseKey
        rw [if_neg (fun h => ?_)]
        have h2 := h.2
        rw [hl43] at h2
        simp at hg6
        exact hg6 h2
      refine l_pur (p_pickF rfl rfl) (by decide) ?_
      refine lw_nil ?_
      refine cw_true rfl ?_
      refine cw_seq (cw_region ?_)
      refine l_pur (p_buildA (α := UInt8) Tryz.underlying27 ty5 z27 (.nil _)) (by decide) ?_
      refine l_store0 (α := (Vec 32 UInt8)) (β := (Vec 32 UInt8)) ty27 rfl rfl (Lens.id (Vec 32 UInt8)) hs ?_; clear hs; intro w hs
      refine l_pur (p_assignC) (by decide) ?_
      refine lw_nil ?_
      refine cw_ret ?_
      repeat (with_reducible first | refine tf_ret ?_ | refine ib_ret ?_)
      refine fin2 (fn := Tryz.f26) rfl (rv_own (α := (Vec 32 UInt8)) ty27 rfl (hs.mem (List.Mem.head _))) (rv_tmpI rfl) ?_
      first
      | exact ⟨by rw [hbad]; rfl, hs.drop1⟩
      | exact ⟨by rw [← hpk]; rfl, hs.drop1.drop1⟩
      | (have hi43 : i = 43 := by omega
         subst hi43
         exact ⟨by rw [← hpk]; rfl, hs.drop1.drop1⟩)
    · have hgood : parseKey s = pkOut s 43 (Vector.replicate 32 0) := by
        unfold parseKey
        rw [if_pos ⟨hl44, by rw [hl43]; simpa using hg6⟩]
      refine l_pur (p_pickF rfl rfl) (by decide) ?_
      refine lw_nil ?_
      refine cw_false rfl ?_
      refine cw_skip ?_
      refine cw_seq (cw_region ?_)
      refine l_alloc z27 hs (by decide) ?_; clear hs; intro b4 w hs
      refine lw_nil ?_
      refine cw_seq ?_
      refine cw_seq (cw_region ?_)
      refine l_pur (p_moveC) (by decide) ?_
      refine lw_nil ?_
      refine cw_block ?_
      refine cw_loop (fun q f w => ∃ (i : Nat) (k : GKey), q = 43 - i ∧ i ≤ 43 ∧ f 20 = vi (i : Nat) ∧ f 0 = vs s ∧ f 2 = ptr b2 0 ∧ f 4 = ptr b4 0 ∧ pkOut s (43 - i) k = parseKey s ∧ St W0 V w ((b4, blk 27 k) :: (b2, blk 27 (Vector.replicate 32 0 : GKey)) :: L)) (43) ?_ ?_
      · exact ⟨0, _, rfl, by omega, rfl, e0, rfl, rfl, by rw [hgood], hs⟩
      · intro q f w hI
        clear hs
        obtain ⟨i, k, rfl, hi, e20, e0, e2, e4, hpk, hs⟩ := hI
        refine cw_seq (cw_region ?_)
        refine l_pur (p_lss e20 rfl) (by decide) ?_
        refine lw_nil ?_
        refine cw_seq ?_
        refine cw_cond _ rfl (fun hc1 => ?_) (fun hc1 => ?_)
        · have hlt : i < 43 := by have := of_decide_eq_true hc1; omega
          have hgi : s.getD i 0 = s[i]'(by omega) := by simp [List.getD, List.getElem?_eq_getElem (show i < s.length by omega)]
          have e1' : 43 - i = (43 - (i + 1)) + 1 := by omega
          have e2' : 42 - (43 - (i + 1)) = i := by omega
          rw [e1'] at hpk
          unfold pkOut at hpk
          rw [e2', hgi] at hpk
          refine cw_skip ?_
          refine cw_seq ?_
          refine cw_block ?_
          refine cw_seq (cw_region ?_)
          refine l_pur (p_move e20) (by decide) ?_
          refine l_pur (p_assignI rfl) (by decide) ?_
          refine lw_nil ?_
          refine cw_seq (cw_region ?_)
          refine l_pur (p_move e0) (by decide) ?_
          refine l_pur (p_moveI rfl) (by decide) ?_
          refine l_pur (p_indexStr Tryz.underlying9 rfl rfl (by first | omega | (dsimp only; omega) | (simp; omega))) (by decide) ?_
          refine l_call1 fn65 (s_mark hs) rfl ?_ (by decide)
          clear hs; rintro _ w ⟨rfl, hs⟩
          refine l_pur (p_moveT rfl) (by decide) ?_
          refine l_pur (p_extract rfl rfl) (by decide) ?_
          refine l_pur (p_extract rfl rfl) (by decide) ?_
          refine l_pur (p_assignI rfl) (by decide) ?_
          refine l_pur (p_assignB rfl) (by decide) ?_
          refine lw_nil ?_
          refine cw_seq ?_
          refine cw_seq (cw_region ?_)
          refine l_pur (p_moveB rfl) (by decide) ?_
          refine l_pur (p_not rfl) (by decide) ?_
          refine lw_nil ?_
          refine cw_cond _ rfl (fun hc2 => ?_) (fun hc2 => ?_)
          · have hm : markI (s[i]'(by omega)) = none := by
              cases hq : markI (s[i]'(by omega)) with
              | none => rfl
              | some v =>
                have hc2' : (!(markI (s[i]'(by omega))).isSome) = true := hc2
                rw [hq] at hc2'; cases hc2'
            rw [hm] at hpk
            refine cw_seq (cw_region ?_)
            refine l_pur (p_buildA (α := UInt8) Tryz.underlying27 ty5 z27 (.nil _)) (by decide) ?_
            refine l_store1 (α := (Vec 32 UInt8)) (β := (Vec 32 UInt8)) ty27 e2 rfl (Lens.id (Vec 32 UInt8)) hs ?_; clear hs; intro w hs
            refine l_pur (p_assignC) (by decide) ?_
            refine lw_nil ?_
            refine cw_ret ?_
            repeat (with_reducible first | refine tf_ret ?_ | refine ib_ret ?_)
            refine fin2 (fn := Tryz.f26) rfl (rv_own (α := (Vec 32 UInt8)) ty27 e2 (hs.mem (List.Mem.tail _ (List.Mem.head _)))) (rv_tmpI rfl) ?_
            first
            | exact ⟨by rw [hbad]; rfl, hs.drop1⟩
            | exact ⟨by rw [← hpk]; rfl, hs.drop1.drop1⟩
            | (have hi43 : i = 43 := by omega
               subst hi43
               exact ⟨by rw [← hpk]; rfl, hs.drop1.drop1⟩)
          · obtain ⟨v, hm⟩ : ∃ v, markI (s[i]'(by omega)) = some v := by
              cases hq : markI (s[i]'(by omega)) with
              | some v => exact ⟨v, rfl⟩
              | none =>
                have hc2' : (!(markI (s[i]'(by omega))).isSome) = false := hc2
                rw [hq] at hc2'; cases hc2'
            have hv64 := markI_lt hm
            simp only [hm] at hpk
            refine cw_skip ?_
            refine cw_seq (cw_region ?_)
            refine l_pur (p_moveC) (by decide) ?_
            refine lw_nil ?_
            refine cw_block ?_
            refine cw_loop (fun q f w => ∃ (j : Nat) (k : GKey), q = 6 - j ∧ j ≤ 6 ∧ f 33 = vi (j : Nat) ∧ f 6 = vi (v : Nat) ∧ f 5 = vi (i : Nat) ∧ f 20 = vi (i : Nat) ∧ f 0 = vs s ∧ f 2 = ptr b2 0 ∧ f 4 = ptr b4 0 ∧ (match pkIn i v (6 - j) k with | none => none | some k' => pkOut s (43 - (i + 1)) k') = parseKey s ∧ St W0 V w ((b4, blk 27 k) :: (b2, blk 27 (Vector.replicate 32 0 : GKey)) :: L)) (6) ?_ ?_
            · exact ⟨0, k, rfl, by omega, rfl, by show vi (((markI (s[i]'(by omega))).getD 0 : Nat) : Int) = _; rw [hm]; rfl, rfl, e20, e0, e2, e4, hpk, hs⟩
            · intro q f w hI
              clear hs
              obtain ⟨j, k, rfl, hj, e33, e6, e5, e20, e0, e2, e4, hpk, hs⟩ := hI
              refine cw_seq (cw_region ?_)
              refine l_pur (p_lss e33 rfl) (by decide) ?_
              refine lw_nil ?_
              refine cw_seq ?_
              refine cw_cond _ rfl (fun hc3 => ?_) (fun hc3 => ?_)
              · have hjl : j < 6 := by have := of_decide_eq_true hc3; omega
                rw [pkIn_step i v j k hjl] at hpk
                have hbit : (v / 2 ^ (5 - j) &&& 1) ≤ 1 := Nat.and_le_right
                have hvd : v / 2 ^ (5 - j) ≤ v := Nat.div_le_self _ _
                refine cw_skip ?_
                refine cw_seq ?_
                refine cw_block ?_
                refine cw_seq (cw_region ?_)
                refine l_pur (p_move e33) (by decide) ?_
                refine l_pur (p_assignI rfl) (by decide) ?_
                refine lw_nil ?_
                refine cw_seq (cw_region ?_)
                refine l_pur (p_move e6) (by decide) ?_
                refine l_pur (p_moveI rfl) (by decide) ?_
                refine l_pur (p_subN (a := 5) (b := _) rfl rfl (by first | omega | (dsimp only; omega) | (simp; omega)) (by first | omega | (dsimp only; omega) | (simp; omega))) (by decide) ?_
                refine l_pur (p_shr64N rfl rfl (by omega)) (by decide) ?_
                refine l_pur (p_and64 (b := 1) rfl rfl (by omega) (by decide)) (by decide) ?_
                refine l_pur (p_assignI rfl) (by decide) ?_
                refine lw_nil ?_
                refine cw_seq ?_
                have e6i : (6 : Int) * (i : Int) + (j : Int) = ((6 * i + j : Nat) : Int) := by omega
                refine cw_region ?_
                refine l_pur (p_move e5) (by decide) ?_
                refine l_pur (p_mul64 rfl rfl (by first | omega | (dsimp only; omega) | (simp; omega))) (by decide) ?_
                refine l_pur (p_moveI rfl) (by decide) ?_
                refine l_pur (p_add64 rfl rfl (by omega)) (by decide) ?_
                rw [e6i]
                refine l_pur (p_assignI rfl) (by decide) ?_
                refine lw_nil ?_
                refine cw_seq (cw_region ?_)
                refine l_pur (p_moveI rfl) (by decide) ?_
                refine l_pur (p_lss rfl rfl) (by decide) ?_
                refine lw_nil ?_
                refine cw_cond _ rfl (fun hc4 => ?_) (fun hc4 => ?_)
                · have hp : 6 * i + j < 256 := by have := of_decide_eq_true hc4; omega
                  rw [dif_pos hp] at hpk
                  have hS := Hold.cons hs (List.Mem.head _) (Hold.cons hs (List.Mem.tail _ (List.Mem.head _)) (Hold.nil hs (PH.refl _)))
                  refine cw_planH (.take 0 (.take 1 (.take 2 (.take 3 (.take 4 (.take 5 (.take 6 (.take 7 (.take 8 (.take 9 (.take 10 (.take 11 (.one 12 .done))))))))))))) 1023 hmix (by kernel_rfl) (fun _ _ _ h => h) hs hS ?_
                  clear hS; clear hs; intro w hs; have hS := Hold.cons hs (List.Mem.head _) (Hold.cons hs (List.Mem.tail _ (List.Mem.head _)) (Hold.nil hs (PH.refl _)))
                  refine pw_pur rfl (wt_free rfl) (p_moveI rfl) (by decide) (fun _ => hS) ?_
                  refine pw_pur rfl (wt_free rfl) (p_quoK (b := 8) rfl rfl (by decide) (by first | omega | (dsimp only; omega) | (simp; omega))) (by decide) (fun _ => hS) ?_
                  refine pw_pur rfl (wt_free rfl) (p_indexArr0N Tryz.underlying27 ty5.size e4 rfl (by (first | omega | decide | (dsimp only; omega) | (simp; omega)))) (by decide) (fun _ => hS) ?_
                  refine pw_ld rfl (wt_free rfl) (by kernel_rfl) (Hold.runs_loadO (α := (Vec 32 UInt8)) (β := UInt8) ty5 rfl (Lens.idx (α := UInt8) (n := 32) _ (by first | omega | decide | (simp; omega) | simp | exact umod4n _)) (List.Mem.head _)) (by decide) hS ?_
                  refine pw_pur rfl (wt_free rfl) (p_moveI rfl) (by decide) (fun _ => hS) ?_
                  refine pw_pur rfl (wt_free rfl) (p_moveI rfl) (by decide) (fun _ => hS) ?_
                  refine pw_pur rfl (wt_free rfl) (p_remK (b := 8) rfl rfl (by decide)) (by decide) (fun _ => hS) ?_
                  refine pw_pur rfl (wt_free rfl) (p_subN (a := 7) (b := _) rfl rfl (by first | omega | (dsimp only; omega) | (simp; omega)) (by first | omega | (dsimp only; omega) | (simp; omega))) (by decide) (fun _ => hS) ?_
                  refine pw_pur rfl (wt_free rfl) (p_shl64N (s := 7 - (6 * i + j) % 8) rfl rfl (by omega) (shl_bd hbit (by omega))) (by decide) (fun _ => hS) ?_
                  refine pw_pur rfl (wt_free rfl) (p_conv_u8 Tryz.underlying3 Tryz.underlying5 rfl) (by decide) (fun _ => hS) ?_
                  refine pw_pur rfl (wt_free rfl) (p_or_u8 rfl rfl) (by decide) (fun h => absurd h (by decide)) ?_
                  refine pw_pur rfl (wt_free rfl) (p_indexArr0N Tryz.underlying27 ty5.size e4 rfl (by (first | omega | decide | (dsimp only; omega) | (simp; omega)))) (by decide) (fun h => absurd h (by decide)) ?_
                  refine pw_one ?_
                  refine ow_store0 (α := (Vec 32 UInt8)) (β := UInt8) rfl (wt_free rfl) ty5 rfl rfl (Lens.idx (α := UInt8) (n := 32) _ (by first | omega | decide | (simp; omega) | simp | exact umod4n _)) hs ?_; clear hs; intro w hs
                  refine ⟨fun h => absurd h (by decide), ?_⟩; have hS := True.intro
                  refine pw_done ?_
                  refine cw_region ?_
                  refine l_pur (p_add64 e33 rfl (by first | omega | (dsimp only; omega) | (simp; omega))) (by decide) ?_
                  refine l_pur (p_moveI rfl) (by decide) ?_
                  refine lw_nil ?_
                  exact ⟨_, by omega, j + 1, _, rfl, hjl, rfl, e6, e5, e20, e0, e2, e4, hpk, hs⟩
                · have hp : ¬ 6 * i + j < 256 := by have := of_decide_eq_false hc4; omega
                  rw [dif_neg hp] at hpk
                  refine cw_seq (cw_region ?_)
                  refine l_pur (p_moveI rfl) (by decide) ?_
                  refine l_pur (p_neq rfl rfl) (by decide) ?_
                  refine lw_nil ?_
                  refine cw_cond _ rfl (fun hc5 => ?_) (fun hc5 => ?_)
                  · have hb : (v / 2 ^ (5 - j) &&& 1) ≠ 0 := fun h => by
                      rw [bne_iff_ne] at hc5
                      exact hc5 (by rw [h]; rfl)
                    rw [if_pos hb] at hpk
                    refine cw_seq (cw_region ?_)
                    refine l_pur (p_buildA (α := UInt8) Tryz.underlying27 ty5 z27 (.nil _)) (by decide) ?_
                    refine l_store1 (α := (Vec 32 UInt8)) (β := (Vec 32 UInt8)) ty27 e2 rfl (Lens.id (Vec 32 UInt8)) hs ?_; clear hs; intro w hs
                    refine l_pur (p_assignC) (by decide) ?_
                    refine lw_nil ?_
                    refine cw_ret ?_
                    repeat (with_reducible first | refine tf_ret ?_ | refine ib_ret ?_)
                    refine fin2 (fn := Tryz.f26) rfl (rv_own (α := (Vec 32 UInt8)) ty27 e2 (hs.mem (List.Mem.tail _ (List.Mem.head _)))) (rv_tmpI rfl) ?_
                    first
                    | exact ⟨by rw [hbad]; rfl, hs.drop1⟩
                    | exact ⟨by rw [← hpk]; rfl, hs.drop1.drop1⟩
                    | (have hi43 : i = 43 := by omega
                       subst hi43
                       exact ⟨by rw [← hpk]; rfl, hs.drop1.drop1⟩)
                  · have hb : ¬ (v / 2 ^ (5 - j) &&& 1) ≠ 0 := fun h => by
                      rw [bne_eq_false_iff_eq] at hc5
                      exact h (Int.natCast_inj.1 hc5)
                    rw [if_neg hb] at hpk
                    refine cw_skip ?_
                    refine cw_region ?_
                    refine l_pur (p_add64 e33 rfl (by first | omega | (dsimp only; omega) | (simp; omega))) (by decide) ?_
                    refine l_pur (p_moveI rfl) (by decide) ?_
                    refine lw_nil ?_
                    exact ⟨_, by omega, j + 1, _, rfl, hjl, rfl, e6, e5, e20, e0, e2, e4, hpk, hs⟩
              · try simp only [decide_eq_true_eq, decide_eq_false_iff_not, Bool.not_eq_true', Bool.not_eq_false', beq_iff_eq, bne_iff_ne, beq_eq_false_iff_ne, bne_eq_false_iff_eq] at hc3
                refine cw_exit ?_
                refine cw_region ?_
                refine l_pur (p_add64 e20 rfl (by first | omega | (dsimp only; omega) | (simp; omega))) (by decide) ?_
                refine l_pur (p_moveI rfl) (by decide) ?_
                refine lw_nil ?_
                have hj6 : j = 6 := by omega
                subst hj6
                exact ⟨_, by omega, i + 1, k, rfl, hlt, rfl, e0, e2, e4, hpk, hs⟩
        · try simp only [decide_eq_true_eq, decide_eq_false_iff_not, Bool.not_eq_true', Bool.not_eq_false', beq_iff_eq, bne_iff_ne, beq_eq_false_iff_ne, bne_eq_false_iff_eq] at hc1
          refine cw_exit ?_
          refine cw_seq (cw_region ?_)
          refine l_loadO (α := (Vec 32 UInt8)) (β := (Vec 32 UInt8)) ty27 e4 (Lens.id (Vec 32 UInt8)) hs (List.Mem.head _) (by decide) ?_
          refine l_store1 (α := (Vec 32 UInt8)) (β := (Vec 32 UInt8)) ty27 e2 rfl (Lens.id (Vec 32 UInt8)) hs ?_; clear hs; intro w hs
          refine l_pur (p_assignC) (by decide) ?_
          refine lw_nil ?_
          refine cw_ret ?_
          repeat (with_reducible first | refine tf_ret ?_ | refine ib_ret ?_)
          refine fin2 (fn := Tryz.f26) rfl (rv_own (α := (Vec 32 UInt8)) ty27 e2 (hs.mem (List.Mem.tail _ (List.Mem.head _)))) (rv_tmpI rfl) ?_
          first
          | exact ⟨by rw [hbad]; rfl, hs.drop1⟩
          | exact ⟨by rw [← hpk]; rfl, hs.drop1.drop1⟩
          | (have hi43 : i = 43 := by omega
             subst hi43
             exact ⟨by rw [← hpk]; rfl, hs.drop1.drop1⟩)
theorem parse_peer : ∀ i : Nat, i < 3 → parseKey (textK (peerK (i : Nat))) = some (peerK (i : Nat)) := by decide +kernel
end Go.Bur
namespace Go.Bur
open Go Go.RowKit Go.Proofs
set_option maxHeartbeats 4000000
variable {W0 : World} {V : PH} {w : World} {L : List (Nat × Obj)}
theorem at_blk {α : Type} [Enc α] (x : α) : At (cells x).toArray.toList 0 x := by simpa using At.whole x
theorem s_key1_Peer {x : GPeer} {k : GKey} {b : Nat} (hb : V b = some (blk 27 k)) (hs : St W0 V w L) : Calls Tryz.prog 67 #[val x, ptr b 0] w (okR fun v w' => v = .bool (decide (x.pub = k)) ∧ St W0 V w' L) := by
  have hat := at_blk k
  refine fn_enter (n := 8) Tryz.func67 rfl rfl rfl ?_
  intro f hf
  have e0 := hf 0
  have e1 := hf 1
  simp only [Array.getD_eq_getD_getElem?, List.getElem?_toArray, List.getElem?_cons_zero, List.getElem?_cons_succ, Option.getD_some] at e0 e1
  clear hf
  refine cw_seq (cw_region ?_)
  refine l_box (α := GPeer) e0 hs (by decide) ?_; clear hs; intro b2 w hs
  refine l_pur (p_assignC) (by decide) ?_
  refine lw_nil ?_
  refine cw_seq (cw_region ?_)
  refine l_pur (p_fieldAddr fo63_0 rfl) (by decide) ?_
  refine l_loadO (α := GPeer) (β := (Vec 32 UInt8)) ty27 rfl GPeer.l_pub hs (List.Mem.head _) (by decide) ?_
  refine l_loadV (α := (Vec 32 UInt8)) ty27 e1 hs hb hat (by decide) ?_
  refine l_pur (p_eqlS eq27 rfl rfl) (by decide) ?_
  refine l_pur (p_assignB rfl) (by decide) ?_
  refine lw_nil ?_
  refine cw_ret ?_
  repeat (with_reducible first | refine tf_ret ?_ | refine ib_ret ?_)
  refine fin1 (fn := Tryz.f67) rfl (rv_tmpB rfl) ?_
  exact ⟨rfl, hs.drop1⟩
theorem s_key1_PeerD {x : GPeer} {k : GKey} {b : Nat} (hb : V b = some (blk 27 k)) (hs : St W0 V w L) : Calls Tryz.prog 220 #[val x, ptr b 0] w (okR fun v w' => v = .bool (decide (x.pub = k)) ∧ St W0 V w' L) := by
  have hat := at_blk k
  refine fn_enter (n := 8) Tryz.func220 rfl rfl rfl ?_
  intro f hf
  have e0 := hf 0
  have e1 := hf 1
  simp only [Array.getD_eq_getD_getElem?, List.getElem?_toArray, List.getElem?_cons_zero, List.getElem?_cons_succ, Option.getD_some] at e0 e1
  clear hf
  refine cw_seq (cw_region ?_)
  refine l_box (α := GPeer) e0 hs (by decide) ?_; clear hs; intro b2 w hs
  refine l_pur (p_assignC) (by decide) ?_
  refine lw_nil ?_
  refine cw_seq (cw_region ?_)
  refine l_pur (p_fieldAddr fo63_0 rfl) (by decide) ?_
  refine l_loadO (α := GPeer) (β := (Vec 32 UInt8)) ty27 rfl GPeer.l_pub hs (List.Mem.head _) (by decide) ?_
  refine l_loadV (α := (Vec 32 UInt8)) ty27 e1 hs hb hat (by decide) ?_
  refine l_pur (p_eqlS eq27 rfl rfl) (by decide) ?_
  refine l_pur (p_assignB rfl) (by decide) ?_
  refine lw_nil ?_
  refine cw_ret ?_
  repeat (with_reducible first | refine tf_ret ?_ | refine ib_ret ?_)
  refine fin1 (fn := Tryz.f220) rfl (rv_tmpB rfl) ?_
  exact ⟨rfl, hs.drop1⟩
theorem s_key1_Timer {x : GTimer} {k : GKey} {b : Nat} (hb : V b = some (blk 27 k)) (hs : St W0 V w L) : Calls Tryz.prog 137 #[val x, ptr b 0] w (okR fun v w' => v = .bool (decide (x.peer = k)) ∧ St W0 V w' L) := by
  have hat := at_blk k
  refine fn_enter (n := 8) Tryz.func137 rfl rfl rfl ?_
  intro f hf
  have e0 := hf 0
  have e1 := hf 1
  simp only [Array.getD_eq_getD_getElem?, List.getElem?_toArray, List.getElem?_cons_zero, List.getElem?_cons_succ, Option.getD_some] at e0 e1
  clear hf
  refine cw_seq (cw_region ?_)
  refine l_box (α := GTimer) e0 hs (by decide) ?_; clear hs; intro b2 w hs
  refine l_pur (p_assignC) (by decide) ?_
  refine lw_nil ?_
  refine cw_seq (cw_region ?_)
  refine l_pur (p_fieldAddr fo75_1 rfl) (by decide) ?_
  refine l_loadO (α := GTimer) (β := (Vec 32 UInt8)) ty27 rfl GTimer.l_peer hs (List.Mem.head _) (by decide) ?_
  refine l_loadV (α := (Vec 32 UInt8)) ty27 e1 hs hb hat (by decide) ?_
  refine l_pur (p_eqlS eq27 rfl rfl) (by decide) ?_
  refine l_pur (p_assignB rfl) (by decide) ?_
  refine lw_nil ?_
  refine cw_ret ?_
  repeat (with_reducible first | refine tf_ret ?_ | refine ib_ret ?_)
  refine fin1 (fn := Tryz.f137) rfl (rv_tmpB rfl) ?_
  exact ⟨rfl, hs.drop1⟩
theorem s_key1_Route {x : GRoute} {k : GKey} {b : Nat} (hb : V b = some (blk 27 k)) (hs : St W0 V w L) : Calls Tryz.prog 135 #[val x, ptr b 0] w (okR fun v w' => v = .bool (decide (x.peer = k)) ∧ St W0 V w' L) := by
  have hat := at_blk k
  refine fn_enter (n := 8) Tryz.func135 rfl rfl rfl ?_
  intro f hf
  have e0 := hf 0
  have e1 := hf 1
  simp only [Array.getD_eq_getD_getElem?, List.getElem?_toArray, List.getElem?_cons_zero, List.getElem?_cons_succ, Option.getD_some] at e0 e1
  clear hf
  refine cw_seq (cw_region ?_)
  refine l_box (α := GRoute) e0 hs (by decide) ?_; clear hs; intro b2 w hs
  refine l_pur (p_assignC) (by decide) ?_
  refine lw_nil ?_
  refine cw_seq (cw_region ?_)
  refine l_pur (p_fieldAddr fo73_1 rfl) (by decide) ?_
  refine l_loadO (α := GRoute) (β := (Vec 32 UInt8)) ty27 rfl GRoute.l_peer hs (List.Mem.head _) (by decide) ?_
  refine l_loadV (α := (Vec 32 UInt8)) ty27 e1 hs hb hat (by decide) ?_
  refine l_pur (p_eqlS eq27 rfl rfl) (by decide) ?_
  refine l_pur (p_assignB rfl) (by decide) ?_
  refine lw_nil ?_
  refine cw_ret ?_
  repeat (with_reducible first | refine tf_ret ?_ | refine ib_ret ?_)
  refine fin1 (fn := Tryz.f135) rfl (rv_tmpB rfl) ?_
  exact ⟨rfl, hs.drop1⟩
theorem s_idrop1 {x : GSlot} {k : UInt32} {b : Nat} (hb : V b = some (blk 46 k)) (hs : St W0 V w L) : Calls Tryz.prog 139 #[val x, ptr b 0] w (okR fun v w' => v = .bool (decide (x.index = k)) ∧ St W0 V w' L) := by
  have hat := at_blk k
  refine fn_enter (n := 8) Tryz.func139 rfl rfl rfl ?_
  intro f hf
  have e0 := hf 0
  have e1 := hf 1
  simp only [Array.getD_eq_getD_getElem?, List.getElem?_toArray, List.getElem?_cons_zero, List.getElem?_cons_succ, Option.getD_some] at e0 e1
  clear hf
  refine cw_seq (cw_region ?_)
  refine l_box (α := GSlot) e0 hs (by decide) ?_; clear hs; intro b2 w hs
  refine l_pur (p_assignC) (by decide) ?_
  refine lw_nil ?_
  refine cw_seq (cw_region ?_)
  refine l_pur (p_fieldAddr fo69_0 rfl) (by decide) ?_
  refine l_loadO (α := GSlot) (β := UInt32) ty46 rfl GSlot.l_index hs (List.Mem.head _) (by decide) ?_
  refine l_loadV (α := UInt32) ty46 e1 hs hb hat (by decide) ?_
  refine l_pur (p_eql_u32 rfl rfl) (by decide) ?_
  refine l_pur (p_assignB rfl) (by decide) ?_
  refine lw_nil ?_
  refine cw_ret ?_
  repeat (with_reducible first | refine tf_ret ?_ | refine ib_ret ?_)
  refine fin1 (fn := Tryz.f139) rfl (rv_tmpB rfl) ?_
  refine ⟨?_, hs.drop1⟩
  congr 1
theorem s_idrop {a : Option Addr} {cap : Nat} {xs : List GSlot} {k : UInt32} (hs : St W0 V w L) (hl : Sl V 69 a cap xs) (hlen : xs.length < 1000000) :
    Calls Tryz.prog 93 #[.slice a xs.length cap, val k] w (okR fun v w' => Own W0 V w' L 69 v (dropS xs k)) := by
  refine fn_enter (n := 9) Tryz.func93 rfl rfl rfl ?_
  intro f hf
  have e0 := hf 0
  have e1 := hf 1
  simp only [Array.getD_eq_getD_getElem?, List.getElem?_toArray, List.getElem?_cons_zero, List.getElem?_cons_succ, Option.getD_some] at e0 e1
  clear hf
  refine cw_seq (cw_region ?_)
  refine l_box (α := UInt32) e1 hs (by decide) ?_; clear hs; intro b3 w hs
  refine l_pur (p_assignC) (by decide) ?_
  refine lw_nil ?_
  refine cw_seq ?_
  have hn3 := (hs.own _ (List.mem_cons_self ..)).2.1
  obtain ⟨hs, hV1⟩ := hs.freeze
  refine cw_region ?_
  refine l_pur (p_move e0) (by decide) ?_
  refine l_call1 fn51 (s_clone_Slot hs (hl.mono hV1) hlen) rfl ?_ (by decide)
  clear hs
  intro v w ho
  obtain ⟨a2, c2, rfl⟩ := ho.len
  refine l_pur (p_makeFunc1 rfl) (by decide) ?_
  refine l_call2 fn138 (s_delf_Slot (p := fun x => decide (x.index = k)) (cl := [ptr b3 0]) ho hlen fn139 (fun V' x w L hV hs => s_idrop1 (hV _ _ (PH.add_self ..)) hs)) rfl rfl ?_ (by decide)
  clear ho
  intro v w ho
  obtain ⟨a3, c3, rfl⟩ := ho.len
  refine l_pur (p_assignL rfl) (by decide) ?_
  refine lw_nil ?_
  refine cw_ret ?_
  repeat (with_reducible first | refine tf_ret ?_ | refine ib_ret ?_)
  refine fin1 (fn := Tryz.f93) rfl (rv_tmpL rfl) ?_
  have e : xs.filter (fun x => !decide (x.index = k)) = dropS xs k := by
    unfold dropS; congr 1; funext x; simp
  rw [← e]
  exact ho.weaken hV1
def cancelPT (xs : List GTimer) (k : GKey) : List GTimer := xs.filter fun t => !decide (t.peer = k)
theorem s_wcancelp {a : Option Addr} {cap : Nat} {xs : List GTimer} {k : GKey} (hs : St W0 V w L) (hl : Sl V 75 a cap xs) (hlen : xs.length < 1000000) :
    Calls Tryz.prog 92 #[.slice a xs.length cap, val k] w (okR fun v w' => Own W0 V w' L 75 v (cancelPT xs k)) := by
  refine fn_enter (n := 9) Tryz.func92 rfl rfl rfl ?_
  intro f hf
  have e0 := hf 0
  have e1 := hf 1
  simp only [Array.getD_eq_getD_getElem?, List.getElem?_toArray, List.getElem?_cons_zero, List.getElem?_cons_succ, Option.getD_some] at e0 e1
  clear hf
  refine cw_seq (cw_region ?_)
  refine l_box (α := (Vec 32 UInt8)) e1 hs (by decide) ?_; clear hs; intro b3 w hs
  refine l_pur (p_assignC) (by decide) ?_
  refine lw_nil ?_
  refine cw_seq ?_
  obtain ⟨hs, hV1⟩ := hs.freeze
  refine cw_region ?_
  refine l_pur (p_move e0) (by decide) ?_
  refine l_call1 fn52 (s_clone_Timer hs (hl.mono hV1) hlen) rfl ?_ (by decide)
  clear hs
  intro v w ho
  obtain ⟨a2, c2, rfl⟩ := ho.len
  refine l_pur (p_makeFunc1 rfl) (by decide) ?_
  refine l_call2 fn136 (s_delf_Timer (p := fun x => decide (x.peer = k)) (cl := [ptr b3 0]) ho hlen fn137 (fun V' x w L hV hs => s_key1_Timer (hV _ _ (PH.add_self ..)) hs)) rfl rfl ?_ (by decide)
  clear ho
  intro v w ho
  obtain ⟨a3, c3, rfl⟩ := ho.len
  refine l_pur (p_assignL rfl) (by decide) ?_
  refine lw_nil ?_
  refine cw_ret ?_
  repeat (with_reducible first | refine tf_ret ?_ | refine ib_ret ?_)
  refine fin1 (fn := Tryz.f92) rfl (rv_tmpL rfl) ?_
  exact ho.weaken hV1
def removePR (xs : List GRoute) (k : GKey) : List GRoute := xs.filter fun t => !decide (t.peer = k)
theorem s_removep {a : Option Addr} {cap : Nat} {xs : List GRoute} {k : GKey} (hs : St W0 V w L) (hl : Sl V 73 a cap xs) (hlen : xs.length < 1000000) :
    Calls Tryz.prog 91 #[.slice a xs.length cap, val k] w (okR fun v w' => Own W0 V w' L 73 v (removePR xs k)) := by
  refine fn_enter (n := 9) Tryz.func91 rfl rfl rfl ?_
  intro f hf
  have e0 := hf 0
  have e1 := hf 1
  simp only [Array.getD_eq_getD_getElem?, List.getElem?_toArray, List.getElem?_cons_zero, List.getElem?_cons_succ, Option.getD_some] at e0 e1
  clear hf
  refine cw_seq (cw_region ?_)
  refine l_box (α := (Vec 32 UInt8)) e1 hs (by decide) ?_; clear hs; intro b3 w hs
  refine l_pur (p_assignC) (by decide) ?_
  refine lw_nil ?_
  refine cw_seq ?_
  obtain ⟨hs, hV1⟩ := hs.freeze
  refine cw_region ?_
  refine l_pur (p_move e0) (by decide) ?_
  refine l_call1 fn50 (s_clone_Route hs (hl.mono hV1) hlen) rfl ?_ (by decide)
  clear hs
  intro v w ho
  obtain ⟨a2, c2, rfl⟩ := ho.len
  refine l_pur (p_makeFunc1 rfl) (by decide) ?_
  refine l_call2 fn134 (s_delf_Route (p := fun x => decide (x.peer = k)) (cl := [ptr b3 0]) ho hlen fn135 (fun V' x w L hV hs => s_key1_Route (hV _ _ (PH.add_self ..)) hs)) rfl rfl ?_ (by decide)
  clear ho
  intro v w ho
  obtain ⟨a3, c3, rfl⟩ := ho.len
  refine l_pur (p_assignL rfl) (by decide) ?_
  refine lw_nil ?_
  refine cw_ret ?_
  repeat (with_reducible first | refine tf_ret ?_ | refine ib_ret ?_)
  refine fin1 (fn := Tryz.f91) rfl (rv_tmpL rfl) ?_
  exact ho.weaken hV1
theorem s_tof {t : GTimer} {k : GKey} {kind : Int} (hs : St W0 V w L) : Calls Tryz.prog 147 #[val (⟨t⟩ : GWTimer), val k, vi kind] w (okR fun v w' => v = .bool (decide (t.peer = k) && decide (t.kind = kind)) ∧ St W0 V w' L) := by
  refine fn_enter (n := 19) Tryz.func147 rfl rfl rfl ?_
  intro f hf
  have e0 := hf 0
  have e1 := hf 1
  have e2 := hf 2
  simp only [Array.getD_eq_getD_getElem?, List.getElem?_toArray, List.getElem?_cons_zero, List.getElem?_cons_succ, Option.getD_some] at e0 e1 e2
  clear hf
  refine cw_seq (cw_region ?_)
  refine l_box (α := GWTimer) e0 hs (by decide) ?_; clear hs; intro b3 w hs
  refine l_box (α := (Vec 32 UInt8)) e1 hs (by decide) ?_; clear hs; intro b4 w hs
  refine l_pur (p_assignC) (by decide) ?_
  refine lw_nil ?_
  refine cw_seq (cw_region ?_)
  refine l_pur (p_fieldAddr fo238_0 rfl) (by decide) ?_
  refine l_pur (p_fieldAddr fo75_1 rfl) (by decide) ?_
  refine l_loadO (α := GWTimer) (β := (Vec 32 UInt8)) ty27 rfl (Lens.comp GWTimer.l_timer GTimer.l_peer) hs (List.Mem.tail _ (List.Mem.head _)) (by decide) ?_
  refine l_loadO (α := (Vec 32 UInt8)) (β := (Vec 32 UInt8)) ty27 rfl (Lens.id (Vec 32 UInt8)) hs (List.Mem.head _) (by decide) ?_
  refine l_purB (p_eqlS eq27 rfl rfl) (by decide) (fun hg4 => ?_) (fun hg4 => ?_)
  · try simp only [decide_eq_true_eq, decide_eq_false_iff_not, Bool.not_eq_true', Bool.not_eq_false', beq_iff_eq, bne_iff_ne, beq_eq_false_iff_ne, bne_eq_false_iff_eq] at hg4
    refine l_pur (p_moveB rfl) (by decide) ?_
    refine lw_do rfl rfl rfl ?_
    refine l_pur (p_fieldAddr fo238_0 rfl) (by decide) ?_
    refine lw_do rfl rfl rfl ?_
    refine l_pur (p_fieldAddr fo75_2 rfl) (by decide) ?_
    refine lw_do rfl rfl rfl ?_
    refine l_loadO (α := GWTimer) (β := Int) ty3 rfl (Lens.comp GWTimer.l_timer GTimer.l_kind) hs (List.Mem.tail _ (List.Mem.head _)) (by decide) ?_
    refine lw_do rfl rfl rfl ?_
    refine l_pur (p_move e2) (by decide) ?_
    refine lw_do rfl rfl rfl ?_
    refine l_pur (p_eql rfl rfl) (by decide) ?_
    refine l_pur (p_pickT rfl rfl) (by decide) ?_
    refine l_pur (p_assignB rfl) (by decide) ?_
    refine lw_nil ?_
    refine cw_ret ?_
    repeat (with_reducible first | refine tf_ret ?_ | refine ib_ret ?_)
    refine fin1 (fn := Tryz.f147) rfl (rv_tmpB rfl) ?_
    first
    | (refine ⟨?_, hs.drop1.drop1⟩; simp [hg4]; done)
    | (refine ⟨?_, hs.drop1.drop1⟩; simp [hg4]; rfl)
  · try simp only [decide_eq_true_eq, decide_eq_false_iff_not, Bool.not_eq_true', Bool.not_eq_false', beq_iff_eq, bne_iff_ne, beq_eq_false_iff_ne, bne_eq_false_iff_eq] at hg4
    refine l_pur (p_moveB rfl) (by decide) ?_
    refine lw_pass rfl rfl rfl rfl rfl rfl (by decide) ?_
    refine lw_pass rfl rfl rfl rfl rfl rfl (by decide) ?_
    refine lw_pass rfl rfl rfl rfl rfl rfl (by decide) ?_
    refine lw_pass rfl rfl rfl rfl rfl rfl (by decide) ?_
    refine lw_pass rfl rfl rfl rfl rfl rfl (by decide) ?_
    refine l_pur (p_pickF rfl rfl) (by decide) ?_
    refine l_pur (p_assignB rfl) (by decide) ?_
    refine lw_nil ?_
    refine cw_ret ?_
    repeat (with_reducible first | refine tf_ret ?_ | refine ib_ret ?_)
    refine fin1 (fn := Tryz.f147) rfl (rv_tmpB rfl) ?_
    first
    | (refine ⟨?_, hs.drop1.drop1⟩; simp [hg4]; done)
    | (refine ⟨?_, hs.drop1.drop1⟩; simp [hg4]; rfl)
theorem s_wcancel1 {x : GTimer} {k : GKey} {kind : Int} {b b2 : Nat} (hb : V b = some (blk 27 k)) (hb2 : V b2 = some (blk 3 kind)) (hs : St W0 V w L) : Calls Tryz.prog 146 #[val x, ptr b 0, ptr b2 0] w (okR fun v w' => v = .bool (decide (x.peer = k) && decide (x.kind = kind)) ∧ St W0 V w' L) := by
  have hat := at_blk k
  have hat2 := at_blk kind
  refine fn_enter (n := 10) Tryz.func146 rfl rfl rfl ?_
  intro f hf
  have e0 := hf 0
  have e1 := hf 1
  have e2 := hf 2
  simp only [Array.getD_eq_getD_getElem?, List.getElem?_toArray, List.getElem?_cons_zero, List.getElem?_cons_succ, Option.getD_some] at e0 e1 e2
  clear hf
  refine cw_seq (cw_region ?_)
  refine l_box (α := GTimer) e0 hs (by decide) ?_; clear hs; intro b3 w hs
  refine l_pur (p_assignC) (by decide) ?_
  refine lw_nil ?_
  refine cw_seq (cw_region ?_)
  refine l_loadO (α := GTimer) (β := GTimer) ty75 rfl (Lens.id GTimer) hs (List.Mem.head _) (by decide) ?_
  refine l_pur (p_buildO (α := GWTimer) Tryz.underlying238 (by kernel_rfl) z238 rfl (.cons (β := GTimer) rfl pl238_0 GWTimer.l_timer (.nil _))) (by decide) ?_
  refine l_loadV (α := (Vec 32 UInt8)) ty27 e1 hs hb hat (by decide) ?_
  refine l_loadV (α := Int) ty3 e2 hs hb2 hat2 (by decide) ?_
  refine l_call3 fn147 (s_tof hs) rfl rfl rfl ?_ (by decide)
  clear hs; rintro _ w ⟨rfl, hs⟩
  refine l_pur (p_assignB rfl) (by decide) ?_
  refine lw_nil ?_
  refine cw_ret ?_
  repeat (with_reducible first | refine tf_ret ?_ | refine ib_ret ?_)
  refine fin1 (fn := Tryz.f146) rfl (rv_tmpB rfl) ?_
  exact ⟨rfl, hs.drop1⟩
theorem s_wcancel {a : Option Addr} {cap : Nat} {xs : List GTimer} {k : GKey} {kind : Int} (hs : St W0 V w L) (hl : Sl V 75 a cap xs) (hlen : xs.length < 1000000) :
    Calls Tryz.prog 96 #[.slice a xs.length cap, val k, vi kind] w (okR fun v w' => Own W0 V w' L 75 v (cancelT xs k kind)) := by
  refine fn_enter (n := 11) Tryz.func96 rfl rfl rfl ?_
  intro f hf
  have e0 := hf 0
  have e1 := hf 1
  have e2 := hf 2
  simp only [Array.getD_eq_getD_getElem?, List.getElem?_toArray, List.getElem?_cons_zero, List.getElem?_cons_succ, Option.getD_some] at e0 e1 e2
  clear hf
  refine cw_seq (cw_region ?_)
  refine l_box (α := (Vec 32 UInt8)) e1 hs (by decide) ?_; clear hs; intro b4 w hs
  refine l_box (α := Int) e2 hs (by decide) ?_; clear hs; intro b5 w hs
  refine l_pur (p_assignC) (by decide) ?_
  refine lw_nil ?_
  refine cw_seq ?_
  obtain ⟨hs, hV1⟩ := hs.freeze
  obtain ⟨hs, hV2⟩ := hs.freeze
  refine cw_region ?_
  refine l_pur (p_move e0) (by decide) ?_
  refine l_call1 fn52 (s_clone_Timer hs (hl.mono (PH.trans hV1 hV2)) hlen) rfl ?_ (by decide)
  clear hs
  intro v w ho
  obtain ⟨a2, c2, rfl⟩ := ho.len
  refine l_pur (p_makeFunc2 rfl rfl) (by decide) ?_
  refine l_call2 fn136 (s_delf_Timer (p := fun x => decide (x.peer = k) && decide (x.kind = kind)) (cl := [ptr b4 0, ptr b5 0]) ho hlen fn146 (fun V' x w L hV hs => s_wcancel1 (hV _ _ (PH.add_self ..)) (hV _ _ (hV2 _ _ (PH.add_self ..))) hs)) rfl rfl ?_ (by decide)
  clear ho
  intro v w ho
  obtain ⟨a3, c3, rfl⟩ := ho.len
  refine l_pur (p_assignL rfl) (by decide) ?_
  refine lw_nil ?_
  refine cw_ret ?_
  repeat (with_reducible first | refine tf_ret ?_ | refine ib_ret ?_)
  refine fin1 (fn := Tryz.f96) rfl (rv_tmpL rfl) ?_
  have e : xs.filter (fun x => !(decide (x.peer = k) && decide (x.kind = kind))) = cancelT xs k kind := by
    unfold cancelT; congr 1; funext x; simp
  rw [← e]
  exact ho.weaken (PH.trans hV1 hV2)
theorem s_rlocals {a : Option Addr} {cap : Nat} {xs : List GPlace} (hs : St W0 V w L) (hl : Sl V 58 a cap xs) (hlen : xs.length < 1000000) :
    Calls Tryz.prog 304 #[.slice a xs.length cap] w (okR fun v w' => Own W0 V w' L 46 v (localsP xs)) := by
  refine fn_enter (n := 22) Tryz.func304 rfl rfl rfl ?_
  intro f hf
  have e0 := hf 0
  simp only [Array.getD_eq_getD_getElem?, List.getElem?_toArray, List.getElem?_cons_zero, List.getElem?_cons_succ, Option.getD_some] at e0
  clear hf
  refine cw_seq (cw_region ?_)
  refine l_pur (p_assignC) (by decide) ?_
  refine lw_nil ?_
  refine cw_seq (cw_region ?_)
  refine l_pur (p_assignC) (by decide) ?_
  refine lw_nil ?_
  refine cw_seq ?_
  refine cw_seq (cw_region ?_)
  refine l_pur (p_move e0) (by decide) ?_
  refine l_pur (p_len Tryz.underlying201 rfl) (by decide) ?_
  refine l_pur (p_moveC) (by decide) ?_
  refine lw_nil ?_
  refine cw_block ?_
  refine cw_loop (fun q f w => ∃ (i : Nat) (v : Value), q = xs.length - i ∧ i ≤ xs.length ∧ f 8 = vi i ∧ f 6 = .slice a xs.length cap ∧ f 7 = vi xs.length ∧ f 3 = v ∧ Own W0 V w L 46 v (localsP (xs.take i))) (xs.length) ?_ ?_
  · exact ⟨0, _, rfl, Nat.zero_le _, rfl, rfl, rfl, rfl, Own.nil hs⟩
  · intro q f w hI
    obtain ⟨i, v, rfl, hi, e8, e6, e7, e3, ho⟩ := hI
    clear hs
    obtain ⟨A, hs, hA⟩ := ho.open'
    obtain ⟨a2, c2, rfl⟩ := hA.len
    have hll : (localsP (xs.take i)).length ≤ xs.length := Nat.le_trans (localsP_len _) (by simp; omega)
    refine cw_seq (cw_region ?_)
    refine l_pur (p_lss e8 e7) (by decide) ?_
    refine lw_nil ?_
    refine cw_seq ?_
    refine cw_cond _ rfl (fun hc0 => ?_) (fun hc0 => ?_)
    · have hlt : i < xs.length := by have := of_decide_eq_true hc0; omega
      have hsn := localsP_snoc hlt
      refine cw_skip ?_
      refine cw_seq ?_
      refine cw_block ?_
      refine cw_seq (cw_region ?_)
      refine l_indexSl (α := GPlace) el201.sl ty58 e6 rfl e8 (by first | omega | (dsimp only; omega) | (simp; omega)) hl (by decide) ?_; intro bb10 oo10 cc10 hb10 ha10
      refine l_loadV (α := GPlace) ty58 rfl hs hb10 ha10 (by decide) ?_
      refine l_alloc z58 hs (by decide) ?_; clear hs; intro b5 w hs
      refine l_store0 (α := GPlace) (β := GPlace) ty58 rfl rfl (Lens.id GPlace) hs ?_; clear hs; intro w hs
      refine lw_nil ?_
      refine cw_seq (cw_region ?_)
      refine l_pur (p_fieldAddr fo58_0 rfl) (by decide) ?_
      refine l_loadO (α := GPlace) (β := Bool) ty4 rfl GPlace.l_has hs (List.Mem.head _) (by decide) ?_
      refine lw_nil ?_
      refine cw_cond _ rfl (fun hc1 => ?_) (fun hc1 => ?_)
      · try simp only [decide_eq_true_eq, decide_eq_false_iff_not, Bool.not_eq_true', Bool.not_eq_false', beq_iff_eq, bne_iff_ne, beq_eq_false_iff_ne, bne_eq_false_iff_eq] at hc1
        refine cw_region ?_
        refine l_pur (p_move e3) (by decide) ?_
        refine l_pur (p_fieldAddr fo58_1 rfl) (by decide) ?_
        refine l_pur (p_fieldAddr fo56_0 rfl) (by decide) ?_
        refine l_loadO (α := GPlace) (β := UInt32) ty46 rfl (Lens.comp GPlace.l_session GSession.l_loc) hs (List.Mem.head _) (by decide) ?_
        refine l_buildSlice1 (α := UInt32) el130 z46 rfl (by decide) hs (by decide) ?_; clear hs; intro b18 w hs
        refine l_append1 el130 rfl rfl (hA.close2 hs) (by omega) (by omega) (by decide) ?_; intro v2 w ho
        obtain ⟨a3, c3, rfl⟩ := ho.len
        refine l_pur (p_assignL rfl) (by decide) ?_
        refine lw_nil ?_
        refine cw_region ?_
        refine l_pur (p_add64 e8 rfl (by first | omega | (dsimp only; omega) | (simp; omega))) (by decide) ?_
        refine l_pur (p_moveI rfl) (by decide) ?_
        refine lw_nil ?_
        first
        | (rw [if_neg (by simp [hc1])] at hsn; exact ⟨_, by omega, i + 1, _, rfl, hlt, rfl, e6, e7, e3, by rw [hsn, List.append_nil]; exact (hA.close1 hs).drop1⟩)
        | (rw [if_pos (by simp [hc1])] at hsn; exact ⟨_, by omega, i + 1, _, rfl, hlt, rfl, e6, e7, rfl, by rw [hsn]; exact ho.drop1⟩)
      · try simp only [decide_eq_true_eq, decide_eq_false_iff_not, Bool.not_eq_true', Bool.not_eq_false', beq_iff_eq, bne_iff_ne, beq_eq_false_iff_ne, bne_eq_false_iff_eq] at hc1
        refine cw_skip ?_
        refine cw_region ?_
        refine l_pur (p_add64 e8 rfl (by first | omega | (dsimp only; omega) | (simp; omega))) (by decide) ?_
        refine l_pur (p_moveI rfl) (by decide) ?_
        refine lw_nil ?_
        first
        | (rw [if_neg (by simp [hc1])] at hsn; exact ⟨_, by omega, i + 1, _, rfl, hlt, rfl, e6, e7, e3, by rw [hsn, List.append_nil]; exact (hA.close1 hs).drop1⟩)
        | (rw [if_pos (by simp [hc1])] at hsn; exact ⟨_, by omega, i + 1, _, rfl, hlt, rfl, e6, e7, rfl, by rw [hsn]; exact ho.drop1⟩)
    · have hge : i = xs.length := by have := of_decide_eq_false hc0; omega
      refine cw_exit ?_
      refine cw_seq (cw_region ?_)
      refine l_pur (p_move e3) (by decide) ?_
      refine l_pur (p_assignL rfl) (by decide) ?_
      refine lw_nil ?_
      refine cw_ret ?_
      repeat (with_reducible first | refine tf_ret ?_ | refine ib_ret ?_)
      refine fin1 (fn := Tryz.f304) rfl (rv_tmpL rfl) ?_
      subst hge
      have := hA.close0 hs
      rwa [List.take_length] at this ⊢
theorem s_rLocals {r : GRing} (hs : St W0 V w L) : Calls Tryz.prog 222 #[val r] w (okR fun v w' => Own W0 V w' L 46 v (localsR r)) := by
  refine fn_enter (n := 11) Tryz.func222 rfl rfl rfl ?_
  intro f hf
  have e0 := hf 0
  simp only [Array.getD_eq_getD_getElem?, List.getElem?_toArray, List.getElem?_cons_zero, List.getElem?_cons_succ, Option.getD_some] at e0
  clear hf
  refine cw_seq (cw_region ?_)
  refine l_box (α := GRing) e0 hs (by decide) ?_; clear hs; intro b1 w hs
  refine l_pur (p_assignC) (by decide) ?_
  refine lw_nil ?_
  refine cw_seq (cw_region ?_)
  refine l_pur (p_fieldAddr fo60_0 rfl) (by decide) ?_
  refine l_loadO (α := GRing) (β := GPlace) ty58 rfl GRing.l_previous hs (List.Mem.head _) (by decide) ?_
  refine l_pur (p_fieldAddr fo60_1 rfl) (by decide) ?_
  refine l_loadO (α := GRing) (β := GPlace) ty58 rfl GRing.l_current hs (List.Mem.head _) (by decide) ?_
  refine l_pur (p_fieldAddr fo60_2 rfl) (by decide) ?_
  refine l_loadO (α := GRing) (β := GPlace) ty58 rfl GRing.l_next hs (List.Mem.head _) (by decide) ?_
  refine l_buildSlice3 (α := GPlace) el201 z58 rfl rfl rfl (by decide) hs (by decide) ?_; clear hs; intro b9 w hs
  obtain ⟨V1, a1, c1, hV1, hs, hv1, hl1⟩ := (Own.ofArr hs).freeze
  cases hv1
  refine l_call1 fn304 (s_rlocals hs hl1 (by simp)) rfl ?_ (by decide)
  intro v w ho
  obtain ⟨a2, c2, rfl⟩ := ho.len
  refine l_pur (p_assignL rfl) (by decide) ?_
  refine lw_nil ?_
  refine cw_ret ?_
  repeat (with_reducible first | refine tf_ret ?_ | refine ib_ret ?_)
  refine fin1 (fn := Tryz.f222) rfl (rv_tmpL rfl) ?_
  exact (ho.drop1).weaken hV1
theorem s_dmdrop {b : Nat} {m : GMach} {ss : List GSlot} {xs : List UInt32} {a : Option Addr} {cap : Nat} (hs : St W0 V w ((b, blk 192 m) :: L)) (hq : Sl V 69 m.daemon.slots.a m.daemon.slots.cap ss) (hql : m.daemon.slots.len = ss.length) (hn : ss.length < 1000)
    (hx : Sl V 46 a cap xs) (hxn : xs.length < 1000) :
    Calls Tryz.prog 221 #[ptr b 0, .slice a xs.length cap] w (okR fun _ w' => ∃ (V' : PH) (q : GSl), V ≤ V' ∧ Sl V' 69 q.a q.cap (dropAll ss xs) ∧ q.len = (dropAll ss xs).length ∧ St W0 V' w' ((b, blk 192 (m.s_daemon (m.daemon.s_slots q))) :: L)) := by
  refine fn_enter (n := 24) Tryz.func221 rfl rfl rfl ?_
  intro f hf
  have e0 := hf 0
  have e1 := hf 1
  simp only [Array.getD_eq_getD_getElem?, List.getElem?_toArray, List.getElem?_cons_zero, List.getElem?_cons_succ, Option.getD_some] at e0 e1
  clear hf
  refine cw_seq (cw_region ?_)
  refine l_pur (p_move e1) (by decide) ?_
  refine l_pur (p_len Tryz.underlying130 rfl) (by decide) ?_
  refine l_pur (p_moveC) (by decide) ?_
  refine lw_nil ?_
  refine cw_block ?_
  refine cw_loop (fun qq f w => ∃ (i : Nat) (V' : PH) (q : GSl), qq = xs.length - i ∧ i ≤ xs.length ∧ f 8 = vi i ∧ f 6 = .slice a xs.length cap ∧ f 7 = vi xs.length ∧ f 0 = ptr b 0 ∧ V ≤ V' ∧ Sl V' 69 q.a q.cap (dropAll ss (xs.take i)) ∧ q.len = (dropAll ss (xs.take i)).length ∧ St W0 V' w ((b, blk 192 (m.s_daemon (m.daemon.s_slots q))) :: L)) (xs.length) ?_ ?_
  · exact ⟨0, V, m.daemon.slots, rfl, Nat.zero_le _, rfl, rfl, rfl, e0, PH.refl _, hq, hql, hs⟩
  · intro q f w hI
    obtain ⟨i, V', q, rfl, hi, e8, e6, e7, e0, hV, hq', hql', hs⟩ := hI
    have hxV := hx.mono hV
    refine cw_seq (cw_region ?_)
    refine l_pur (p_lss e8 e7) (by decide) ?_
    refine lw_nil ?_
    refine cw_seq ?_
    refine cw_cond _ rfl (fun hc0 => ?_) (fun hc0 => ?_)
    · have hlt : i < xs.length := by have := of_decide_eq_true hc0; omega
      have hdl := dropAll_len ss (xs.take i)
      have hds := fun (w : World) (L : List (Nat × Obj)) (hs : St W0 V' w L) => s_idrop (k := xs[i]) hs hq' (by omega)
      rw [← hql'] at hds
      refine cw_skip ?_
      refine cw_seq ?_
      refine cw_block ?_
      refine cw_seq (cw_region ?_)
      refine l_indexSl (α := UInt32) el130.sl ty46 e6 rfl e8 (by first | omega | (dsimp only; omega) | (simp; omega)) hxV (by decide) ?_; intro bb10 oo10 cc10 hb10 ha10
      refine l_loadV (α := UInt32) ty46 rfl hs hb10 ha10 (by decide) ?_
      refine l_pur (p_assignI rfl) (by decide) ?_
      refine lw_nil ?_
      refine cw_region ?_
      refine l_pur (p_move e0) (by decide) ?_
      refine l_pur (p_move e0) (by decide) ?_
      refine l_pur (p_nilCheck rfl) (by decide) ?_
      refine l_pur (p_fieldAddr fo192_0 rfl) (by decide) ?_
      refine l_pur (p_fieldAddr fo35_8 rfl) (by decide) ?_
      refine l_loadO (α := GMach) (β := GSl) ty30 rfl (Lens.comp GMach.l_daemon GDaemon.l_slots) hs (List.Mem.head _) (by decide) ?_
      refine l_pur (p_moveI rfl) (by decide) ?_
      refine l_call2 fn93 (hds _ _ hs) rfl rfl ?_ (by decide)
      clear hs
      intro v w ho
      obtain ⟨V2, a2, c2, hV2, hs, rfl, hl2⟩ := ho.freeze
      refine l_pur (p_nilCheck rfl) (by decide) ?_
      refine l_pur (p_fieldAddr fo192_0 rfl) (by decide) ?_
      refine l_pur (p_fieldAddr fo35_8 rfl) (by decide) ?_
      refine l_store0 (α := GMach) (β := GSl) (z := (⟨_, _, _⟩ : GSl)) ty30 rfl rfl (Lens.comp GMach.l_daemon GDaemon.l_slots) hs ?_; clear hs; intro w hs
      refine lw_nil ?_
      refine cw_region ?_
      refine l_pur (p_add64 e8 rfl (by first | omega | (dsimp only; omega) | (simp; omega))) (by decide) ?_
      refine l_pur (p_moveI rfl) (by decide) ?_
      refine lw_nil ?_
      exact ⟨_, by omega, i + 1, V2, _, rfl, hlt, rfl, e6, e7, e0, PH.trans hV hV2, by rw [dropAll_snoc hlt]; exact hl2, by rw [dropAll_snoc hlt], hs⟩
    · try simp only [decide_eq_true_eq, decide_eq_false_iff_not, Bool.not_eq_true', Bool.not_eq_false', beq_iff_eq, bne_iff_ne, beq_eq_false_iff_ne, bne_eq_false_iff_eq] at hc0
      refine cw_exit ?_
      repeat (with_reducible first | refine tf_exit ?_ | refine ib_exit ?_ | refine ib_norm ?_)
      refine finN ?_
      refine fin0 (fn := Tryz.f221) rfl  ?_
      have hii : i = xs.length := by omega
      subst hii
      rw [List.take_length] at hq' hql'
      exact ⟨V', q, hV, hq', hql', hs⟩
def cancelAll (ts : List GTimer) (k : GKey) (ks : List Int) : List GTimer := ks.foldl (fun t x => cancelT t k x) ts
theorem cancelAll_snoc {ts : List GTimer} {k : GKey} {ks : List Int} {i : Nat} (h : i < ks.length) : cancelAll ts k (ks.take (i + 1)) = cancelT (cancelAll ts k (ks.take i)) k ks[i] := by
  unfold cancelAll
  rw [List.take_succ_eq_append_getElem h, List.foldl_append]; rfl
theorem cancelAll_len (ts : List GTimer) (k : GKey) (ks : List Int) : (cancelAll ts k ks).length ≤ ts.length := by
  unfold cancelAll
  induction ks generalizing ts with
  | nil => exact Nat.le_refl _
  | cons x xs ih => exact Nat.le_trans (ih _) (List.length_filter_le _ _)
theorem s_dmcancel {b bp i : Nat} {m : GMach} {ps : List GPeer} {sp : List Value} {ts : List GTimer} {ks : List Int} {a : Option Addr} {cap : Nat} (hs : St W0 V w ((b, blk 192 m) :: (bp, arr 63 ps sp) :: L)) (hi : i < ps.length)
    (ht : Sl V 75 m.daemon.timers.a m.daemon.timers.cap ts) (htl : m.daemon.timers.len = ts.length) (hn : ts.length < 1000) (hx : Sl V 3 a cap ks) (hxn : ks.length < 1000) :
    Calls Tryz.prog 162 #[ptr b 0, ptr bp (i * Enc.size GPeer), .slice a ks.length cap] w (okR fun _ w' => ∃ (V' : PH) (q : GSl), V ≤ V' ∧ Sl V' 75 q.a q.cap (cancelAll ts ps[i].pub ks) ∧ q.len = (cancelAll ts ps[i].pub ks).length ∧
      St W0 V' w' ((b, blk 192 (m.s_daemon (m.daemon.s_timers q))) :: (bp, arr 63 ps sp) :: L)) := by
  refine fn_enter (n := 30) Tryz.func162 rfl rfl rfl ?_
  intro f hf
  have e0 := hf 0
  have e1 := hf 1
  have e2 := hf 2
  simp only [Array.getD_eq_getD_getElem?, List.getElem?_toArray, List.getElem?_cons_zero, List.getElem?_cons_succ, Option.getD_some] at e0 e1 e2
  clear hf
  refine cw_seq (cw_region ?_)
  refine l_pur (p_move e2) (by decide) ?_
  refine l_pur (p_len Tryz.underlying305 rfl) (by decide) ?_
  refine l_pur (p_moveC) (by decide) ?_
  refine lw_nil ?_
  refine cw_block ?_
  refine cw_loop (fun qq f w => ∃ (j : Nat) (V' : PH) (q : GSl), qq = ks.length - j ∧ j ≤ ks.length ∧ f 10 = vi j ∧ f 8 = .slice a ks.length cap ∧ f 9 = vi ks.length ∧ f 0 = ptr b 0 ∧ f 1 = ptr bp (i * Enc.size GPeer) ∧ V ≤ V' ∧ Sl V' 75 q.a q.cap (cancelAll ts ps[i].pub (ks.take j)) ∧ q.len = (cancelAll ts ps[i].pub (ks.take j)).length ∧ St W0 V' w ((b, blk 192 (m.s_daemon (m.daemon.s_timers q))) :: (bp, arr 63 ps sp) :: L)) (ks.length) ?_ ?_
  · exact ⟨0, V, m.daemon.timers, rfl, Nat.zero_le _, rfl, rfl, rfl, e0, e1, PH.refl _, ht, htl, hs⟩
  · intro q f w hI
    clear hs
    obtain ⟨j, V', q, rfl, hj, e10, e8, e9, e0, e1, hV, hq', hql', hs⟩ := hI
    have hxV := hx.mono hV
    refine cw_seq (cw_region ?_)
    refine l_pur (p_lss e10 e9) (by decide) ?_
    refine lw_nil ?_
    refine cw_seq ?_
    refine cw_cond _ rfl (fun hc0 => ?_) (fun hc0 => ?_)
    · have hlt : j < ks.length := by have := of_decide_eq_true hc0; omega
      have hdl := cancelAll_len ts ps[i].pub (ks.take j)
      have hds := fun (w : World) (L : List (Nat × Obj)) (hs : St W0 V' w L) => s_wcancel (k := ps[i].pub) (kind := ks[j]) hs hq' (by omega)
      rw [← hql'] at hds
      refine cw_skip ?_
      refine cw_seq ?_
      refine cw_block ?_
      refine cw_seq (cw_region ?_)
      refine l_indexSl (α := Int) el305.sl ty3 e8 rfl e10 (by first | omega | (dsimp only; omega) | (simp; omega)) hxV (by decide) ?_; intro bb12 oo12 cc12 hb12 ha12
      refine l_loadV (α := Int) ty3 rfl hs hb12 ha12 (by decide) ?_
      refine l_pur (p_assignI rfl) (by decide) ?_
      refine lw_nil ?_
      have hS := Hold.cons hs (List.Mem.head _) (Hold.cons hs (List.Mem.tail _ (List.Mem.head _)) (Hold.nil hs (PH.refl _)))
      refine cw_planH (.take 0 (.take 1 (.take 2 (.take 3 (.take 4 (.take 5 (.take 6 (.take 7 (.take 8 (.take 9 (.take 10 (.one 11 (.take 12 (.take 13 (.take 14 (.one 15 .done)))))))))))))))) 2047 hmix (by kernel_rfl) (fun _ _ _ h => h) hs hS ?_
      clear hS; clear hs; intro w hs; have hS := Hold.cons hs (List.Mem.head _) (Hold.cons hs (List.Mem.tail _ (List.Mem.head _)) (Hold.nil hs (PH.refl _)))
      refine pw_pur rfl (wt_free rfl) (p_move e0) (by decide) (fun _ => hS) ?_
      refine pw_pur rfl (wt_free rfl) (p_move e0) (by decide) (fun _ => hS) ?_
      refine pw_pur rfl (wt_free rfl) (p_nilCheck rfl) (by decide) (fun _ => hS) ?_
      refine pw_pur rfl (wt_free rfl) (p_fieldAddr fo192_0 rfl) (by decide) (fun _ => hS) ?_
      refine pw_pur rfl (wt_free rfl) (p_fieldAddr fo35_9 rfl) (by decide) (fun _ => hS) ?_
      refine pw_ld rfl (wt_free rfl) (by kernel_rfl) (Hold.runs_loadO (α := GMach) (β := GSl) ty31 rfl (Lens.comp GMach.l_daemon GDaemon.l_timers) (List.Mem.head _)) (by decide) hS ?_
      refine pw_pur rfl (wt_free rfl) (p_move e1) (by decide) (fun _ => hS) ?_
      refine pw_pur rfl (wt_free rfl) (p_nilCheck rfl) (by decide) (fun _ => hS) ?_
      refine pw_pur rfl (wt_free rfl) (p_fieldAddr fo63_0 rfl) (by decide) (fun _ => hS) ?_
      refine pw_ld rfl (wt_free rfl) (by kernel_rfl) (Hold.runs_loadE (α := GPeer) (β := (Vec 32 UInt8)) ty27 rfl rfl GPeer.l_pub (by first | omega | (simp; omega)) (List.Mem.tail _ (List.Mem.head _))) (by decide) hS ?_
      refine pw_pur rfl (wt_free rfl) (p_moveI rfl) (by decide) (fun _ => hS) ?_
      refine pw_one ?_
      refine ow_call3 rfl (wt_free rfl) fn96 (hds _ _ hs) rfl rfl rfl ?_ (by decide)
      clear hs hS
      intro v w ho
      obtain ⟨V2, a2, c2, hV2, hs, rfl, hl2⟩ := ho.freeze
      refine ⟨fun h => absurd h (by decide), ?_⟩; have hS := True.intro
      refine pw_pur rfl (wt_free rfl) (p_nilCheck rfl) (by decide) (fun h => absurd h (by decide)) ?_
      refine pw_pur rfl (wt_free rfl) (p_fieldAddr fo192_0 rfl) (by decide) (fun h => absurd h (by decide)) ?_
      refine pw_pur rfl (wt_free rfl) (p_fieldAddr fo35_9 rfl) (by decide) (fun h => absurd h (by decide)) ?_
      refine pw_one ?_
      refine ow_store0 (α := GMach) (β := GSl) (z := (⟨_, _, _⟩ : GSl)) rfl (wt_free rfl) ty31 rfl rfl (Lens.comp GMach.l_daemon GDaemon.l_timers) hs ?_; clear hs; intro w hs
      refine ⟨fun h => absurd h (by decide), ?_⟩; have hS := True.intro
      refine pw_done ?_
      refine cw_region ?_
      refine l_pur (p_add64 e10 rfl (by first | omega | (dsimp only; omega) | (simp; omega))) (by decide) ?_
      refine l_pur (p_moveI rfl) (by decide) ?_
      refine lw_nil ?_
      exact ⟨_, by omega, j + 1, V2, _, rfl, hlt, rfl, e8, e9, e0, e1, PH.trans hV hV2, by rw [cancelAll_snoc hlt]; exact hl2, by rw [cancelAll_snoc hlt], hs⟩
    · try simp only [decide_eq_true_eq, decide_eq_false_iff_not, Bool.not_eq_true', Bool.not_eq_false', beq_iff_eq, bne_iff_ne, beq_eq_false_iff_ne, bne_eq_false_iff_eq] at hc0
      refine cw_exit ?_
      repeat (with_reducible first | refine tf_exit ?_ | refine ib_exit ?_ | refine ib_norm ?_)
      refine finN ?_
      refine fin0 (fn := Tryz.f162) rfl  ?_
      have hii : j = ks.length := by omega
      subst hii
      rw [List.take_length] at hq' hql'
      exact ⟨V', q, hV, hq', hql', hs⟩
def dropH (ss : List GSlot) (p : GPeer) : List GSlot := if p.hand.has then dropAll ss [p.hand.loc] else ss
theorem dropH_len (ss : List GSlot) (p : GPeer) : (dropH ss p).length ≤ ss.length := by
  unfold dropH; split
  · exact dropAll_len _ _
  · exact Nat.le_refl _
theorem s_dmforget {b bp i : Nat} {m : GMach} {ps : List GPeer} {sp : List Value} {ss : List GSlot} {ts : List GTimer} (hs : St W0 V w ((b, blk 192 m) :: (bp, arr 63 ps sp) :: L)) (hi : i < ps.length)
    (hq : Sl V 69 m.daemon.slots.a m.daemon.slots.cap ss) (hql : m.daemon.slots.len = ss.length) (hsn : ss.length < 1000) (ht : Sl V 75 m.daemon.timers.a m.daemon.timers.cap ts) (htl : m.daemon.timers.len = ts.length) (hn : ts.length < 1000) :
    Calls Tryz.prog 223 #[ptr b 0, ptr bp (i * Enc.size GPeer)] w (okR fun _ w' => ∃ (V' : PH) (q3 q4 : GSl), V ≤ V' ∧ Sl V' 69 q3.a q3.cap (dropH ss ps[i]) ∧ q3.len = (dropH ss ps[i]).length ∧
      Sl V' 75 q4.a q4.cap (cancelAll ts ps[i].pub [1]) ∧ q4.len = (cancelAll ts ps[i].pub [1]).length ∧
      St W0 V' w' ((b, blk 192 (m.s_daemon { m.daemon with slots := q3, timers := q4 })) :: (bp, arr 63 (ps.set i { ps[i] with hand := GHand.zero }) sp) :: L)) := by
  refine fn_enter (n := 25) Tryz.func223 rfl rfl rfl ?_
  intro f hf
  have e0 := hf 0
  have e1 := hf 1
  simp only [Array.getD_eq_getD_getElem?, List.getElem?_toArray, List.getElem?_cons_zero, List.getElem?_cons_succ, Option.getD_some] at e0 e1
  clear hf
  refine cw_cut (M := fun f w => ∃ (V1 : PH) (q3 : GSl), f 0 = ptr b 0 ∧ f 1 = ptr bp (i * Enc.size GPeer) ∧ V ≤ V1 ∧ Sl V1 69 q3.a q3.cap (dropH ss ps[i]) ∧ q3.len = (dropH ss ps[i]).length ∧ St W0 V1 w ((b, blk 192 (m.s_daemon (m.daemon.s_slots q3))) :: (bp, arr 63 ps sp) :: L)) ?_ ?_
  · refine cw_seq (cw_region ?_)
    refine l_pur (p_move e1) (by decide) ?_
    refine l_pur (p_nilCheck rfl) (by decide) ?_
    refine l_pur (p_fieldAddr fo63_8 rfl) (by decide) ?_
    refine l_pur (p_fieldAddr fo50_0 rfl) (by decide) ?_
    refine l_loadE (α := GPeer) (β := Bool) ty4 rfl (Nat.add_assoc _ _ _) (Lens.comp GPeer.l_hand GHand.l_has) (by first | omega | (simp; omega)) hs (List.Mem.tail _ (List.Mem.head _)) (by decide) ?_
    refine lw_nil ?_
    refine cw_cond _ rfl (fun hc0 => ?_) (fun hc0 => ?_)
    · have hh : ps[i].hand.has = true := by simpa using hc0
      refine cw_region ?_
      refine l_pur (p_move e0) (by decide) ?_
      refine l_pur (p_move e1) (by decide) ?_
      refine l_pur (p_nilCheck rfl) (by decide) ?_
      refine l_pur (p_fieldAddr fo63_8 rfl) (by decide) ?_
      refine l_pur (p_fieldAddr fo50_1 rfl) (by decide) ?_
      refine l_loadE (α := GPeer) (β := UInt32) ty46 rfl (Nat.add_assoc _ _ _) (Lens.comp GPeer.l_hand GHand.l_loc) (by first | omega | (simp; omega)) hs (List.Mem.tail _ (List.Mem.head _)) (by decide) ?_
      refine l_buildSlice1 (α := UInt32) el130 z46 rfl (by decide) hs (by decide) ?_; clear hs; intro b15 w hs
      obtain ⟨V2, a2, c2, hV2, hs, hv2, hl2⟩ := (Own.of1 hs).freeze
      cases hv2
      refine l_call2 fn221 (s_dmdrop hs (hq.mono hV2) hql hsn hl2 (by simp)) rfl rfl ?_ (by decide)
      clear hs
      rintro _ w ⟨V3, q3, hV3, hs3, hs3l, hs⟩
      refine lw_nil ?_
      first
      | (rw [show dropH ss ps[i] = dropAll ss [ps[i].hand.loc] from if_pos hh]
         exact ⟨V3, q3, e0, e1, PH.trans hV2 hV3, hs3, hs3l, hs⟩)
      | (rw [show dropH ss ps[i] = ss from if_neg (by rw [hh]; decide)]
         exact ⟨V, m.daemon.slots, e0, e1, PH.refl _, hq, hql, hs⟩)
    · have hh : ps[i].hand.has = false := by simpa using hc0
      refine cw_skip ?_
      first
      | (rw [show dropH ss ps[i] = dropAll ss [ps[i].hand.loc] from if_pos hh]
         exact ⟨V3, q3, e0, e1, PH.trans hV2 hV3, hs3, hs3l, hs⟩)
      | (rw [show dropH ss ps[i] = ss from if_neg (by rw [hh]; decide)]
         exact ⟨V, m.daemon.slots, e0, e1, PH.refl _, hq, hql, hs⟩)
  · clear hs
    intro f w hI
    obtain ⟨V1, q3, e0, e1, hV1, hs3, hs3l, hs⟩ := hI
    refine cw_seq (cw_region ?_)
    refine l_pur (p_move e1) (by decide) ?_
    refine l_pur (p_buildO (α := GHand) Tryz.underlying50 (by kernel_rfl) z50 rfl (.nil _)) (by decide) ?_
    refine l_pur (p_nilCheck rfl) (by decide) ?_
    refine l_pur (p_fieldAddr fo63_8 rfl) (by decide) ?_
    refine l_storeE (α := GPeer) (β := GHand) ty50 rfl rfl rfl GPeer.l_hand (by first | omega | (simp; omega)) hs (Rep.tail Rep.head) ?_; clear hs; intro w hs
    refine lw_nil ?_
    refine cw_region ?_
    refine l_pur (p_move e0) (by decide) ?_
    refine l_pur (p_move e1) (by decide) ?_
    refine l_buildSlice1 (α := Int) el305 z3 rfl (by decide) hs (by decide) ?_; clear hs; intro b23 w hs
    obtain ⟨V4, a4, c4, hV4, hs, hv4, hl4⟩ := (Own.of1 hs).freeze
    cases hv4
    refine l_call3 fn162 (s_dmcancel hs (by simpa using hi) (ht.mono (PH.trans hV1 hV4)) htl hn hl4 (by simp)) rfl rfl rfl ?_ (by decide)
    clear hs
    rintro _ w ⟨V5, q5, hV5, hs5, hs5l, hs⟩
    refine lw_nil ?_
    repeat (with_reducible first | refine tf_exit ?_ | refine ib_exit ?_ | refine ib_norm ?_)
    refine finN ?_
    refine fin0 (fn := Tryz.f223) rfl  ?_
    have epub2 : ((ps.set i (GPeer.s_hand ps[i] GHand.zero))[i]'(by simpa using hi)).pub = ps[i].pub := by simp
    rw [epub2] at hs5 hs5l
    exact ⟨V5, q3, q5, PH.trans hV1 (PH.trans hV4 hV5), hs3.mono (PH.trans hV4 hV5), hs3l, hs5, hs5l, hs⟩
end Go.Bur
