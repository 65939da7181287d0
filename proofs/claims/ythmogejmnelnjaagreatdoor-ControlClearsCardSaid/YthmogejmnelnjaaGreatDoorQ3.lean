/- A part of a proof over the given seat: how values, memory, calls and regions are told, and the walks of functions, each once. No condition. -/
import Derived.Test.YthmogejmnelnjaaGreatDoorQ2
set_option linter.unusedVariables false
set_option linter.unusedSimpArgs false
namespace Go.Bur
open Go Go.RowKit Go.Proofs
set_option maxHeartbeats 4000000
variable {W0 : World} {V : PH} {w : World} {L : List (Nat × Obj)}
def insBy {α : Type} (p : α → Bool) (y : α) : List α → List α
  | [] => [y]
  | x :: xs => if p x then y :: x :: xs else x :: insBy p y xs
theorem insBy_eq {α : Type} {p : α → Bool} {y : α} : ∀ (xs : List α) (i : Nat) (_ : i ≤ xs.length) (_ : ∀ j (h : j < xs.length), j < i → p xs[j] = false) (_ : i = xs.length ∨ ∃ h : i < xs.length, p xs[i] = true), insBy p y xs = xs.take i ++ y :: xs.drop i
  | [], i, h, _, _ => by
    have : i = 0 := by simpa using h
    subst this; rfl
  | x :: xs, 0, _, _, h => by
    rcases h with h | ⟨_, h⟩
    · simp at h
    · simp only [List.getElem_cons_zero] at h
      simp [insBy, h]
  | x :: xs, i + 1, h, h1, h2 => by
    have hx : p x = false := h1 0 (by simp) (by omega)
    simp only [insBy, hx, Bool.false_eq_true, if_false, List.take_succ_cons, List.drop_succ_cons, List.cons_append]
    rw [insBy_eq xs i (by simpa using h) (fun j hj hji => by have := h1 (j + 1) (by simpa using hj) (by omega); simpa using this) (by
      rcases h2 with h2 | ⟨h2, h3⟩
      · left; simpa using h2
      · right; exact ⟨by simpa using h2, by simpa using h3⟩)]
theorem insBy_length {α : Type} {p : α → Bool} {y : α} (xs : List α) : (insBy p y xs).length = xs.length + 1 := by
  induction xs with
  | nil => rfl
  | cons x xs ih => unfold insBy; split <;> simp [ih]
theorem insBy_mem {α : Type} {p : α → Bool} {y z : α} {xs : List α} : z ∈ insBy p y xs ↔ z = y ∨ z ∈ xs := by
  induction xs with
  | nil => simp [insBy]
  | cons x xs ih =>
    unfold insBy; split
    · simp
    · simp [ih]
      constructor
      · rintro (h | h | h) <;> simp [h]
      · rintro (h | h | h) <;> simp [h]
def lessT (a b : GTimer) : Bool := if a.at_ = b.at_ then (if a.peer = b.peer then decide (a.kind < b.kind) else Op.bytesLess a.peer.toList b.peer.toList) else decide (a.at_ < b.at_)
theorem s_lesst {a b : GTimer} (hs : St W0 V w L) : Calls Tryz.prog 33 #[val a, val b] w (okR fun v w' => v = .bool (lessT a b) ∧ St W0 V w' L) := by
  refine fn_enter (n := 32) Tryz.func33 rfl rfl rfl ?_
  intro f hf
  have e0 := hf 0
  have e1 := hf 1
  simp only [Array.getD_eq_getD_getElem?, List.getElem?_toArray, List.getElem?_cons_zero, List.getElem?_cons_succ, Option.getD_some] at e0 e1
  clear hf
  refine cw_seq (cw_region ?_)
  refine l_box (α := GTimer) e0 hs (by decide) ?_; clear hs; intro b2 w hs
  refine l_box (α := GTimer) e1 hs (by decide) ?_; clear hs; intro b3 w hs
  refine l_pur (p_assignC) (by decide) ?_
  refine lw_nil ?_
  refine cw_seq ?_
  refine cw_seq (cw_region ?_)
  refine l_pur (p_fieldAddr fo75_0 rfl) (by decide) ?_
  refine l_loadO (α := GTimer) (β := Int) ty2 rfl GTimer.l_at_ hs (List.Mem.tail _ (List.Mem.head _)) (by decide) ?_
  refine l_pur (p_fieldAddr fo75_0 rfl) (by decide) ?_
  refine l_loadO (α := GTimer) (β := Int) ty2 rfl GTimer.l_at_ hs (List.Mem.head _) (by decide) ?_
  refine l_pur (p_neq rfl rfl) (by decide) ?_
  refine lw_nil ?_
  refine cw_cond _ rfl (fun hc0 => ?_) (fun hc0 => ?_)
  · try simp only [decide_eq_true_eq, decide_eq_false_iff_not, Bool.not_eq_true', Bool.not_eq_false', beq_iff_eq, bne_iff_ne, beq_eq_false_iff_ne, bne_eq_false_iff_eq] at hc0
    refine cw_seq (cw_region ?_)
    refine l_pur (p_fieldAddr fo75_0 rfl) (by decide) ?_
    refine l_loadO (α := GTimer) (β := Int) ty2 rfl GTimer.l_at_ hs (List.Mem.tail _ (List.Mem.head _)) (by decide) ?_
    refine l_pur (p_fieldAddr fo75_0 rfl) (by decide) ?_
    refine l_loadO (α := GTimer) (β := Int) ty2 rfl GTimer.l_at_ hs (List.Mem.head _) (by decide) ?_
    refine l_pur (p_lss rfl rfl) (by decide) ?_
    refine l_pur (p_assignB rfl) (by decide) ?_
    refine lw_nil ?_
    refine cw_ret ?_
    repeat (with_reducible first | refine tf_ret ?_ | refine ib_ret ?_)
    refine fin1 (fn := Tryz.f33) rfl (rv_tmpB rfl) ?_
    have hne : a.at_ ≠ b.at_ := by simpa using hc0
    exact ⟨by simp only [lessT, if_neg hne], hs.drop1.drop1⟩
  · try simp only [decide_eq_true_eq, decide_eq_false_iff_not, Bool.not_eq_true', Bool.not_eq_false', beq_iff_eq, bne_iff_ne, beq_eq_false_iff_ne, bne_eq_false_iff_eq] at hc0
    refine cw_skip ?_
    refine cw_seq ?_
    refine cw_seq (cw_region ?_)
    refine l_pur (p_fieldAddr fo75_1 rfl) (by decide) ?_
    refine l_loadO (α := GTimer) (β := (Vec 32 UInt8)) ty27 rfl GTimer.l_peer hs (List.Mem.tail _ (List.Mem.head _)) (by decide) ?_
    refine l_pur (p_fieldAddr fo75_1 rfl) (by decide) ?_
    refine l_loadO (α := GTimer) (β := (Vec 32 UInt8)) ty27 rfl GTimer.l_peer hs (List.Mem.head _) (by decide) ?_
    refine l_pur (p_neqS eq27 rfl rfl) (by decide) ?_
    refine lw_nil ?_
    refine cw_cond _ rfl (fun hc1 => ?_) (fun hc1 => ?_)
    · try simp only [decide_eq_true_eq, decide_eq_false_iff_not, Bool.not_eq_true', Bool.not_eq_false', beq_iff_eq, bne_iff_ne, beq_eq_false_iff_ne, bne_eq_false_iff_eq] at hc1
      refine cw_seq ?_
      have hS := Hold.cons hs (List.Mem.head _) (Hold.cons hs (List.Mem.tail _ (List.Mem.head _)) (Hold.nil hs (PH.refl _)))
      refine cw_planH (.take 0 (.take 1 (.take 2 (.take 3 (.take 4 (.take 5 (.take 6 (.take 7 .done)))))))) 63 hmix (by kernel_rfl) (fun _ _ _ h => h) hs hS ?_
      clear hS; clear hs; intro w hs; have hS := Hold.cons hs (List.Mem.head _) (Hold.cons hs (List.Mem.tail _ (List.Mem.head _)) (Hold.nil hs (PH.refl _)))
      refine pw_pur rfl (wt_free rfl) (p_fieldAddr fo75_1 rfl) (by decide) (fun _ => hS) ?_
      refine pw_pur rfl (wt_free rfl) (p_sliceArr Tryz.underlying27 ty5.size rfl (.no _) (.no _) (by decide)) (by decide) (fun _ => hS) ?_
      refine pw_ld rfl (wt_free rfl) (by kernel_rfl) (fun w h => r_bytesStr Tryz.underlying22 Tryz.underlying5 Tryz.underlying9 rfl (Src1.vec (T := 0) (α := GTimer) (β := UInt8) GTimer.l_peer (h.2 _ (List.Mem.tail _ (List.Mem.head _)))) (by simp)) (by decide) hS ?_
      refine pw_pur rfl (wt_free rfl) (p_fieldAddr fo75_1 rfl) (by decide) (fun _ => hS) ?_
      refine pw_pur rfl (wt_free rfl) (p_sliceArr Tryz.underlying27 ty5.size rfl (.no _) (.no _) (by decide)) (by decide) (fun _ => hS) ?_
      refine pw_ld rfl (wt_free rfl) (by kernel_rfl) (fun w h => r_bytesStr Tryz.underlying22 Tryz.underlying5 Tryz.underlying9 rfl (Src1.vec (T := 0) (α := GTimer) (β := UInt8) GTimer.l_peer (h.2 _ (List.Mem.head _))) (by simp)) (by decide) hS ?_
      refine pw_pur rfl (wt_free rfl) (p_lssStr rfl rfl) (by decide) (fun h => absurd h (by decide)) ?_
      refine pw_pur rfl (wt_free rfl) (p_assignB rfl) (by decide) (fun h => absurd h (by decide)) ?_
      refine pw_done ?_
      refine cw_ret ?_
      repeat (with_reducible first | refine tf_ret ?_ | refine ib_ret ?_)
      refine fin1 (fn := Tryz.f33) rfl (rv_tmpB rfl) ?_
      have hne : a.at_ = b.at_ := by simpa using hc0
      exact ⟨by simp only [lessT, if_pos hne, if_neg hc1], hs.drop1.drop1⟩
    · try simp only [decide_eq_true_eq, decide_eq_false_iff_not, Bool.not_eq_true', Bool.not_eq_false', beq_iff_eq, bne_iff_ne, beq_eq_false_iff_ne, bne_eq_false_iff_eq] at hc1
      refine cw_skip ?_
      refine cw_seq (cw_region ?_)
      refine l_pur (p_fieldAddr fo75_2 rfl) (by decide) ?_
      refine l_loadO (α := GTimer) (β := Int) ty3 rfl GTimer.l_kind hs (List.Mem.tail _ (List.Mem.head _)) (by decide) ?_
      refine l_pur (p_fieldAddr fo75_2 rfl) (by decide) ?_
      refine l_loadO (α := GTimer) (β := Int) ty3 rfl GTimer.l_kind hs (List.Mem.head _) (by decide) ?_
      refine l_pur (p_lss rfl rfl) (by decide) ?_
      refine l_pur (p_assignB rfl) (by decide) ?_
      refine lw_nil ?_
      refine cw_ret ?_
      repeat (with_reducible first | refine tf_ret ?_ | refine ib_ret ?_)
      refine fin1 (fn := Tryz.f33) rfl (rv_tmpB rfl) ?_
      have hne : a.at_ = b.at_ := by simpa using hc0
      have hne2 : a.peer = b.peer := by simpa using hc1
      exact ⟨by simp only [lessT, if_pos hne, if_pos hne2], hs.drop1.drop1⟩
def setT (xs : List GTimer) (t : GTimer) : List GTimer := insBy (lessT t) t (cancelT xs t.peer t.kind)
theorem s_set {a : Option Addr} {cap : Nat} {xs : List GTimer} {t : GTimer} (hs : St W0 V w L) (hl : Sl V 75 a cap xs) (hlen : xs.length < 100000) :
    Calls Tryz.prog 16 #[.slice a xs.length cap, val t] w (okR fun v w' => Own W0 V w' L 75 v (setT xs t)) := by
  refine fn_enter (n := 39) Tryz.func16 rfl rfl rfl ?_
  intro f hf
  have e0 := hf 0
  have e1 := hf 1
  simp only [Array.getD_eq_getD_getElem?, List.getElem?_toArray, List.getElem?_cons_zero, List.getElem?_cons_succ, Option.getD_some] at e0 e1
  clear hf
  refine cw_seq (cw_region ?_)
  refine l_box (α := GTimer) e1 hs (by decide) ?_; clear hs; intro b3 w hs
  refine l_pur (p_assignC) (by decide) ?_
  refine lw_nil ?_
  refine cw_seq (cw_region ?_)
  refine l_pur (p_move e0) (by decide) ?_
  refine l_pur (p_fieldAddr fo75_1 rfl) (by decide) ?_
  refine l_loadO (α := GTimer) (β := (Vec 32 UInt8)) ty27 rfl GTimer.l_peer hs (List.Mem.head _) (by decide) ?_
  refine l_pur (p_fieldAddr fo75_2 rfl) (by decide) ?_
  refine l_loadO (α := GTimer) (β := Int) ty3 rfl GTimer.l_kind hs (List.Mem.head _) (by decide) ?_
  refine l_call3 fn32 (s_cancel hs hl (by omega)) rfl rfl rfl ?_ (by decide)
  clear hs
  rintro v w ho
  obtain ⟨V1, a1, c1, hV1, hs, rfl, hl1⟩ := ho.freeze
  refine l_pur (p_assignL rfl) (by decide) ?_
  refine lw_nil ?_
  refine cw_seq ?_
  have hlen1 : (cancelT xs t.peer t.kind).length < 100000 := by
    have := List.length_filter_le (fun u : GTimer => decide (u.peer ≠ t.peer ∨ u.kind ≠ t.kind)) xs
    unfold cancelT; omega
  generalize hrest : cancelT xs t.peer t.kind = rest at *
  refine cw_region ?_
  refine l_pur (p_assignC) (by decide) ?_
  refine lw_nil ?_
  refine cw_seq ?_
  refine cw_block ?_
  refine cw_loop (fun q f w => ∃ (i : Nat), q = rest.length - i ∧ i ≤ rest.length ∧ f 6 = vi i ∧ f 5 = .slice a1 rest.length c1 ∧ f 3 = ptr b3 0 ∧ (∀ j (h : j < rest.length), j < i → lessT t rest[j] = false) ∧ St W0 V1 w ((b3, blk 75 t) :: L)) (rest.length) ?_ ?_
  · exact ⟨0, rfl, Nat.zero_le _, rfl, rfl, rfl, fun j _ hj => by omega, hs⟩
  · intro q f w hI
    obtain ⟨i, rfl, hi, e6, e5, e3, hall, hs⟩ := hI
    refine cw_seq ?_
    refine cw_seq ?_
    have hS := Hold.cons hs (List.Mem.head _) (Hold.nil hs (PH.refl _))
    refine cw_planH (.take 0 (.take 1 (.take 2 (.take 3 (.take 4 (.take 5 (.take 6 (.take 7 (.take 8 (.take 9 (.one 10 (.take 11 (.take 12 .done))))))))))))) 1023 hmix (by kernel_rfl) (fun _ _ _ h => h) hs hS ?_
    clear hS; clear hs; intro w hs; have hS := Hold.cons hs (List.Mem.head _) (Hold.nil hs (PH.refl _))
    refine pw_pur rfl (wt_free rfl) (p_move e6) (by decide) (fun _ => hS) ?_
    refine pw_pur rfl (wt_free rfl) (p_move e5) (by decide) (fun _ => hS) ?_
    refine pw_pur rfl (wt_free rfl) (p_len Tryz.underlying31 rfl) (by decide) (fun _ => hS) ?_
    refine pw_pur rfl (wt_free rfl) (p_lss rfl rfl) (by decide) (fun _ => hS) ?_
    refine pw_purB rfl (wt_free rfl) (p_moveB rfl) (by decide) (fun _ => hS) (fun hg4 => ?_) (fun hg4 => ?_)
    · have hlt : i < rest.length := by simpa using hg4
      refine pw_ld rfl (wt_yes rfl rfl rfl rfl) (by kernel_rfl) (Hold.runs_loadO (α := GTimer) (β := GTimer) ty75 e3 (Lens.id GTimer) (List.Mem.head _)) (by decide) hS ?_
      refine pw_pur rfl (wt_yes rfl rfl rfl rfl) (p_move e5) (by decide) (fun _ => hS) ?_
      refine pw_pur rfl (wt_yes rfl rfl rfl rfl) (p_move e6) (by decide) (fun _ => hS) ?_
      refine pw_indexSlN (α := GTimer) rfl (wt_yes rfl rfl rfl rfl) el31.sl ty75 rfl rfl rfl (by omega) hl1 (by decide) (fun _ => hS) ?_; intro bb21 oo21 cc21 hb21 ha21
      refine pw_ld rfl (wt_yes rfl rfl rfl rfl) (by kernel_rfl) (Hold.runs_loadV (α := GTimer) ty75 rfl hb21 ha21) (by decide) hS ?_
      refine pw_one ?_
      refine ow_call2 rfl (wt_yes rfl rfl rfl rfl) fn33 (s_lesst hs) rfl rfl ?_ (by decide)
      clear hs hS
      rintro _ w ⟨rfl, hs⟩
      refine ⟨fun h => absurd h (by decide), ?_⟩; have hS := True.intro
      refine pw_pur rfl (wt_yes rfl rfl rfl rfl) (p_not rfl) (by decide) (fun h => absurd h (by decide)) ?_
      refine pw_pur rfl (wt_free rfl) (p_pickT rfl rfl) (by decide) (fun h => absurd h (by decide)) ?_
      refine pw_done ?_
      refine cw_cond _ rfl (fun hc0 => ?_) (fun hc0 => ?_)
      · have hno : lessT t rest[i] = false := by simpa using hc0
        refine cw_skip ?_
        refine cw_block ?_
        refine cw_region ?_
        refine l_pur (p_move e6) (by decide) ?_
        refine l_pur (p_add64 rfl rfl (by first | omega | (dsimp only; omega) | (simp; omega))) (by decide) ?_
        refine l_pur (p_assignI rfl) (by decide) ?_
        refine lw_nil ?_
        refine ⟨_, by omega, i + 1, rfl, by omega, rfl, e5, e3, fun j h hj => ?_, hs⟩
        by_cases hji : j < i
        · exact hall j h hji
        · obtain rfl : j = i := by omega
          exact hno
      · have hyes : lessT t rest[i] = true := by simpa using hc0
        refine cw_exit ?_
        refine cw_seq ?_
        have hend : i = rest.length ∨ ∃ h : i < rest.length, lessT t rest[i] = true := by
          first
          | exact .inl hge
          | exact .inr ⟨hlt, hyes⟩
        have hins := insBy_eq (y := t) rest i hi hall hend
        have hcap : rest.length ≤ c1 := by
          by_cases hn : rest = []
          · subst hn; simp
          · exact sl_cap hl1 hn
        have e48 : ∀ x : Nat, x < 200000 → x * 48 ≤ 140737488355328 := fun x hx => by omega
        have hS := Hold.cons hs (List.Mem.head _) (Hold.nil hs (PH.refl _))
        refine cw_planH (.take 0 (.take 1 (.take 2 (.take 3 (.take 4 (.take 6 (.take 7 (.take 8 (.one 5 (.one 9 (.one 10 (.take 11 .done)))))))))))) 479 hmix (by kernel_rfl) (fun _ _ _ h => h) hs hS ?_
        clear hS; clear hs; intro w hs; have hS := Hold.cons hs (List.Mem.head _) (Hold.nil hs (PH.refl _))
        refine pw_pur rfl (wt_free rfl) (p_move e5) (by decide) (fun _ => hS) ?_
        refine pw_pur rfl (wt_free rfl) (p_move e6) (by decide) (fun _ => hS) ?_
        refine pw_pur rfl (wt_free rfl) (p_move e6) (by decide) (fun _ => hS) ?_
        refine pw_pur rfl (wt_free rfl) (p_slice el31.sl el31.ty.size rfl (.no _) (.at_ _ rfl) (.at_ _ rfl) (.inr rfl) (by first | omega | (dsimp only; omega) | (simp; omega))) (by decide) (fun _ => hS) ?_
        refine pw_ld rfl (wt_free rfl) (by kernel_rfl) (Hold.runs_loadO (α := GTimer) (β := GTimer) ty75 e3 (Lens.id GTimer) (List.Mem.head _)) (by decide) hS ?_
        refine pw_pur rfl (wt_free rfl) (p_move e5) (by decide) (fun _ => hS) ?_
        refine pw_pur rfl (wt_free rfl) (p_move e6) (by decide) (fun _ => hS) ?_
        refine pw_pur rfl (wt_free rfl) (p_slice el31.sl el31.ty.size rfl (.at_ _ rfl) (.no _) (.no _) (.inl rfl) (by first | omega | (dsimp only; omega) | (simp; omega))) (by decide) (fun _ => hS) ?_
        refine pw_one ?_
        refine ow_buildSlice1 (α := GTimer) rfl (wt_free rfl) el31 z75 rfl (by decide) hs (by decide) ?_; clear hs; intro b33 w hs
        refine ⟨fun h => absurd h (by decide), ?_⟩; have hS := True.intro
        refine pw_one ?_
        refine ow_appendO rfl (wt_free rfl) el31 rfl rfl (Own.of1 hs) ((hl1.slice (l := i) (h := rest.length) (m := c1) hi (Nat.le_refl _) (Nat.le_refl _) hcap).src hs) (by simp) (by simp; omega) (by simp; omega) (by decide) ?_
        clear hs hS
        intro v w ho2
        obtain ⟨V2, a2, c2, hV2, hs, rfl, hl2⟩ := ho2.freeze
        refine ⟨fun h => absurd h (by decide), ?_⟩; have hS := True.intro
        refine pw_one ?_
        refine ow_appendN rfl (wt_free rfl) el31 rfl rfl hs (((hl1.mono hV2).slice (l := 0) (h := i) (m := i) (Nat.zero_le _) hi (by omega) (Nat.le_refl _)).src hs) (hl2.src hs) (by simp; omega) rfl (by simp) (by simp; omega) (by simp; omega) (by decide) ?_
        clear hs hS
        intro v w ho3
        obtain ⟨a3, c3, rfl⟩ := ho3.len
        refine ⟨fun h => absurd h (by decide), ?_⟩; have hS := True.intro
        refine pw_pur rfl (wt_free rfl) (p_assignL rfl) (by decide) (fun h => absurd h (by decide)) ?_
        refine pw_done ?_
        refine cw_ret ?_
        repeat (with_reducible first | refine tf_ret ?_ | refine ib_ret ?_)
        refine fin1 (fn := Tryz.f16) rfl (rv_tmpL rfl) ?_
        have hfin : setT xs t = rest.take i ++ t :: rest.drop i := by unfold setT; rw [hrest]; exact hins
        rw [hfin]
        have h3 := (ho3.drop1).weaken (PH.trans hV1 hV2)
        simpa using h3
    · have hge : i = rest.length := by simp at hg4; omega
      refine pw_pass rfl (wt_no rfl rfl rfl rfl rfl) (by decide) (fun _ => hS) ?_
      refine pw_pass rfl (wt_no rfl rfl rfl rfl rfl) (by decide) (fun _ => hS) ?_
      refine pw_pass rfl (wt_no rfl rfl rfl rfl rfl) (by decide) (fun _ => hS) ?_
      refine pw_pass rfl (wt_no rfl rfl rfl rfl rfl) (by decide) (fun _ => hS) ?_
      refine pw_pass rfl (wt_no rfl rfl rfl rfl rfl) (by decide) (fun _ => hS) ?_
      refine pw_one ?_
      refine ow_pass rfl (wt_no rfl rfl rfl rfl rfl) (by decide) (fun h => absurd h (by decide)) ?_
      refine pw_pass rfl (wt_no rfl rfl rfl rfl rfl) (by decide) (fun h => absurd h (by decide)) ?_
      refine pw_pur rfl (wt_free rfl) (p_pickF rfl rfl) (by decide) (fun h => absurd h (by decide)) ?_
      refine pw_done ?_
      refine cw_false rfl ?_
      refine cw_exit ?_
      refine cw_seq ?_
      have hend : i = rest.length ∨ ∃ h : i < rest.length, lessT t rest[i] = true := by
        first
        | exact .inl hge
        | exact .inr ⟨hlt, hyes⟩
      have hins := insBy_eq (y := t) rest i hi hall hend
      have hcap : rest.length ≤ c1 := by
        by_cases hn : rest = []
        · subst hn; simp
        · exact sl_cap hl1 hn
      have e48 : ∀ x : Nat, x < 200000 → x * 48 ≤ 140737488355328 := fun x hx => by omega
      have hS := Hold.cons hs (List.Mem.head _) (Hold.nil hs (PH.refl _))
      refine cw_planH (.take 0 (.take 1 (.take 2 (.take 3 (.take 4 (.take 6 (.take 7 (.take 8 (.one 5 (.one 9 (.one 10 (.take 11 .done)))))))))))) 479 hmix (by kernel_rfl) (fun _ _ _ h => h) hs hS ?_
      clear hS; clear hs; intro w hs; have hS := Hold.cons hs (List.Mem.head _) (Hold.nil hs (PH.refl _))
      refine pw_pur rfl (wt_free rfl) (p_move e5) (by decide) (fun _ => hS) ?_
      refine pw_pur rfl (wt_free rfl) (p_move e6) (by decide) (fun _ => hS) ?_
      refine pw_pur rfl (wt_free rfl) (p_move e6) (by decide) (fun _ => hS) ?_
      refine pw_pur rfl (wt_free rfl) (p_slice el31.sl el31.ty.size rfl (.no _) (.at_ _ rfl) (.at_ _ rfl) (.inr rfl) (by first | omega | (dsimp only; omega) | (simp; omega))) (by decide) (fun _ => hS) ?_
      refine pw_ld rfl (wt_free rfl) (by kernel_rfl) (Hold.runs_loadO (α := GTimer) (β := GTimer) ty75 e3 (Lens.id GTimer) (List.Mem.head _)) (by decide) hS ?_
      refine pw_pur rfl (wt_free rfl) (p_move e5) (by decide) (fun _ => hS) ?_
      refine pw_pur rfl (wt_free rfl) (p_move e6) (by decide) (fun _ => hS) ?_
      refine pw_pur rfl (wt_free rfl) (p_slice el31.sl el31.ty.size rfl (.at_ _ rfl) (.no _) (.no _) (.inl rfl) (by first | omega | (dsimp only; omega) | (simp; omega))) (by decide) (fun _ => hS) ?_
      refine pw_one ?_
      refine ow_buildSlice1 (α := GTimer) rfl (wt_free rfl) el31 z75 rfl (by decide) hs (by decide) ?_; clear hs; intro b33 w hs
      refine ⟨fun h => absurd h (by decide), ?_⟩; have hS := True.intro
      refine pw_one ?_
      refine ow_appendO rfl (wt_free rfl) el31 rfl rfl (Own.of1 hs) ((hl1.slice (l := i) (h := rest.length) (m := c1) hi (Nat.le_refl _) (Nat.le_refl _) hcap).src hs) (by simp) (by simp; omega) (by simp; omega) (by decide) ?_
      clear hs hS
      intro v w ho2
      obtain ⟨V2, a2, c2, hV2, hs, rfl, hl2⟩ := ho2.freeze
      refine ⟨fun h => absurd h (by decide), ?_⟩; have hS := True.intro
      refine pw_one ?_
      refine ow_appendN rfl (wt_free rfl) el31 rfl rfl hs (((hl1.mono hV2).slice (l := 0) (h := i) (m := i) (Nat.zero_le _) hi (by omega) (Nat.le_refl _)).src hs) (hl2.src hs) (by simp; omega) rfl (by simp) (by simp; omega) (by simp; omega) (by decide) ?_
      clear hs hS
      intro v w ho3
      obtain ⟨a3, c3, rfl⟩ := ho3.len
      refine ⟨fun h => absurd h (by decide), ?_⟩; have hS := True.intro
      refine pw_pur rfl (wt_free rfl) (p_assignL rfl) (by decide) (fun h => absurd h (by decide)) ?_
      refine pw_done ?_
      refine cw_ret ?_
      repeat (with_reducible first | refine tf_ret ?_ | refine ib_ret ?_)
      refine fin1 (fn := Tryz.f16) rfl (rv_tmpL rfl) ?_
      have hfin : setT xs t = rest.take i ++ t :: rest.drop i := by unfold setT; rw [hrest]; exact hins
      rw [hfin]
      have h3 := (ho3.drop1).weaken (PH.trans hV1 hV2)
      simpa using h3
end Go.Bur
namespace Go.Bur
open Go Go.RowKit Go.Proofs
set_option maxHeartbeats 4000000
variable {W0 : World} {V : PH} {w : World} {L : List (Nat × Obj)}
def hasT (xs : List GTimer) (peer : GKey) (kind : Int) : Bool := xs.any fun t => decide (t.peer = peer) && decide (t.kind = kind)
theorem hasT_snoc {xs : List GTimer} {peer : GKey} {kind : Int} {i : Nat} (h : i < xs.length) : hasT (xs.take (i + 1)) peer kind = (hasT (xs.take i) peer kind || (decide (xs[i].peer = peer) && decide (xs[i].kind = kind))) := by
  unfold hasT
  rw [List.take_succ_eq_append_getElem h, List.any_append]; simp
theorem hasT_of {xs : List GTimer} {peer : GKey} {kind : Int} {i : Nat} (h : i < xs.length) (h1 : xs[i].peer = peer) (h2 : xs[i].kind = kind) : hasT xs peer kind = true := by
  unfold hasT; rw [List.any_eq_true]; exact ⟨xs[i], List.getElem_mem _, by simp [h1, h2]⟩
theorem s_has {a : Option Addr} {cap : Nat} {xs : List GTimer} {peer : GKey} {kind : Int} (hs : St W0 V w L) (hl : Sl V 75 a cap xs) (hlen : xs.length < 1000000) :
    Calls Tryz.prog 188 #[.slice a xs.length cap, val peer, vi kind] w (okR fun v w' => v = .bool (hasT xs peer kind) ∧ St W0 V w' L) := by
  refine fn_enter (n := 26) Tryz.func188 rfl rfl rfl ?_
  intro f hf
  have e0 := hf 0
  have e1 := hf 1
  have e2 := hf 2
  simp only [Array.getD_eq_getD_getElem?, List.getElem?_toArray, List.getElem?_cons_zero, List.getElem?_cons_succ, Option.getD_some] at e0 e1 e2
  clear hf
  refine cw_seq (cw_region ?_)
  refine l_box (α := (Vec 32 UInt8)) e1 hs (by decide) ?_; clear hs; intro b4 w hs
  refine l_pur (p_assignC) (by decide) ?_
  refine lw_nil ?_
  refine cw_seq ?_
  refine cw_seq (cw_region ?_)
  refine l_pur (p_move e0) (by decide) ?_
  refine l_pur (p_len Tryz.underlying31 rfl) (by decide) ?_
  refine l_pur (p_moveC) (by decide) ?_
  refine lw_nil ?_
  refine cw_block ?_
  refine cw_loop (fun q f w => ∃ (i : Nat), q = xs.length - i ∧ i ≤ xs.length ∧ f 11 = vi i ∧ f 9 = .slice a xs.length cap ∧ f 10 = vi xs.length ∧ f 4 = ptr b4 0 ∧ f 2 = vi kind ∧ hasT (xs.take i) peer kind = false ∧ St W0 V w ((b4, blk 27 peer) :: L)) (xs.length) ?_ ?_
  · exact ⟨0, rfl, Nat.zero_le _, rfl, rfl, rfl, rfl, e2, rfl, hs⟩
  · intro q f w hI
    obtain ⟨i, rfl, hi, e11, e9, e10, e4, e2, hno, hs⟩ := hI
    refine cw_seq (cw_region ?_)
    refine l_pur (p_lss e11 e10) (by decide) ?_
    refine lw_nil ?_
    refine cw_seq ?_
    refine cw_cond _ rfl (fun hc0 => ?_) (fun hc0 => ?_)
    · have hlt : i < xs.length := by have := of_decide_eq_true hc0; omega
      refine cw_skip ?_
      refine cw_seq ?_
      refine cw_block ?_
      refine cw_seq (cw_region ?_)
      refine l_indexSl (α := GTimer) el31.sl ty75 e9 rfl e11 (by first | omega | (dsimp only; omega) | (simp; omega)) hl (by decide) ?_; intro bb13 oo13 cc13 hb13 ha13
      refine l_loadV (α := GTimer) ty75 rfl hs hb13 ha13 (by decide) ?_
      refine l_alloc z75 hs (by decide) ?_; clear hs; intro b8 w hs
      refine l_store0 (α := GTimer) (β := GTimer) ty75 rfl rfl (Lens.id GTimer) hs ?_; clear hs; intro w hs
      refine lw_nil ?_
      refine cw_seq (cw_region ?_)
      refine l_pur (p_fieldAddr fo75_1 rfl) (by decide) ?_
      refine l_loadO (α := GTimer) (β := (Vec 32 UInt8)) ty27 rfl GTimer.l_peer hs (List.Mem.head _) (by decide) ?_
      refine l_loadO (α := (Vec 32 UInt8)) (β := (Vec 32 UInt8)) ty27 e4 (Lens.id (Vec 32 UInt8)) hs (List.Mem.tail _ (List.Mem.head _)) (by decide) ?_
      refine l_pur (p_eqlS eq27 rfl rfl) (by decide) ?_
      refine l_purB (p_moveB rfl) (by decide) (fun hg4 => ?_) (fun hg4 => ?_)
      · try simp only [decide_eq_true_eq, decide_eq_false_iff_not, Bool.not_eq_true', Bool.not_eq_false', beq_iff_eq, bne_iff_ne, beq_eq_false_iff_ne, bne_eq_false_iff_eq] at hg4
        refine lw_do rfl rfl rfl ?_
        refine l_pur (p_fieldAddr fo75_2 rfl) (by decide) ?_
        refine lw_do rfl rfl rfl ?_
        refine l_loadO (α := GTimer) (β := Int) ty3 rfl GTimer.l_kind hs (List.Mem.head _) (by decide) ?_
        refine lw_do rfl rfl rfl ?_
        refine l_pur (p_move e2) (by decide) ?_
        refine lw_do rfl rfl rfl ?_
        refine l_pur (p_eql rfl rfl) (by decide) ?_
        refine l_pur (p_pickT rfl rfl) (by decide) ?_
        refine lw_nil ?_
        refine cw_cond _ rfl (fun hc1 => ?_) (fun hc1 => ?_)
        · try simp only [decide_eq_true_eq, decide_eq_false_iff_not, Bool.not_eq_true', Bool.not_eq_false', beq_iff_eq, bne_iff_ne, beq_eq_false_iff_ne, bne_eq_false_iff_eq] at hc1
          refine cw_seq (cw_region ?_)
          refine l_pur (p_assignC) (by decide) ?_
          refine lw_nil ?_
          refine cw_ret ?_
          repeat (with_reducible first | refine tf_ret ?_ | refine ib_ret ?_)
          refine fin1 (fn := Tryz.f188) rfl (rv_tmpB rfl) ?_
          have hk : xs[i].kind = kind := by simpa using hc1
          exact ⟨by rw [hasT_of hlt hg4 hk], hs.drop1.drop1⟩
        · try simp only [decide_eq_true_eq, decide_eq_false_iff_not, Bool.not_eq_true', Bool.not_eq_false', beq_iff_eq, bne_iff_ne, beq_eq_false_iff_ne, bne_eq_false_iff_eq] at hc1
          refine cw_skip ?_
          refine cw_region ?_
          refine l_pur (p_add64 e11 rfl (by first | omega | (dsimp only; omega) | (simp; omega))) (by decide) ?_
          refine l_pur (p_moveI rfl) (by decide) ?_
          refine lw_nil ?_
          refine ⟨_, by omega, i + 1, rfl, hlt, rfl, e9, e10, e4, e2, ?_, hs.drop1⟩
          rw [hasT_snoc hlt, hno]
          first
          | (simp [hg4]; done)
          | (simp [hg4]; exact hc1)
      · try simp only [decide_eq_true_eq, decide_eq_false_iff_not, Bool.not_eq_true', Bool.not_eq_false', beq_iff_eq, bne_iff_ne, beq_eq_false_iff_ne, bne_eq_false_iff_eq] at hg4
        refine lw_pass rfl rfl rfl rfl rfl rfl (by decide) ?_
        refine lw_pass rfl rfl rfl rfl rfl rfl (by decide) ?_
        refine lw_pass rfl rfl rfl rfl rfl rfl (by decide) ?_
        refine lw_pass rfl rfl rfl rfl rfl rfl (by decide) ?_
        refine l_pur (p_pickF rfl rfl) (by decide) ?_
        refine lw_nil ?_
        refine cw_false rfl ?_
        refine cw_skip ?_
        refine cw_region ?_
        refine l_pur (p_add64 e11 rfl (by first | omega | (dsimp only; omega) | (simp; omega))) (by decide) ?_
        refine l_pur (p_moveI rfl) (by decide) ?_
        refine lw_nil ?_
        refine ⟨_, by omega, i + 1, rfl, hlt, rfl, e9, e10, e4, e2, ?_, hs.drop1⟩
        rw [hasT_snoc hlt, hno]
        first
        | (simp [hg4]; done)
        | (simp [hg4]; exact hc1)
    · have hge : i = xs.length := by have := of_decide_eq_false hc0; omega
      refine cw_exit ?_
      refine cw_seq (cw_region ?_)
      refine l_pur (p_assignC) (by decide) ?_
      refine lw_nil ?_
      refine cw_ret ?_
      repeat (with_reducible first | refine tf_ret ?_ | refine ib_ret ?_)
      refine fin1 (fn := Tryz.f188) rfl (rv_tmpB rfl) ?_
      subst hge
      rw [List.take_length] at hno
      exact ⟨by rw [hno], hs.drop1⟩
theorem s_checkw {x : GWindow} {c : UInt64} (hs : St W0 V w L) : Calls Tryz.prog 79 #[val x, val c] w (okR fun v w' => ∃ b : Bool, v = .bool b ∧ St W0 V w' L) := by
  refine fn_enter (n := 34) Tryz.func79 rfl rfl rfl ?_
  intro f hf
  have e0 := hf 0
  have e1 := hf 1
  simp only [Array.getD_eq_getD_getElem?, List.getElem?_toArray, List.getElem?_cons_zero, List.getElem?_cons_succ, Option.getD_some] at e0 e1
  clear hf
  refine cw_seq (cw_region ?_)
  refine l_box (α := GWindow) e0 hs (by decide) ?_; clear hs; intro b2 w hs
  refine l_pur (p_assignC) (by decide) ?_
  refine lw_nil ?_
  refine cw_seq ?_
  refine cw_seq (cw_region ?_)
  refine l_pur (p_fieldAddr fo54_0 rfl) (by decide) ?_
  refine l_loadO (α := GWindow) (β := Bool) ty4 rfl GWindow.l_used hs (List.Mem.head _) (by decide) ?_
  refine l_pur (p_not rfl) (by decide) ?_
  refine l_purB (p_moveB rfl) (by decide) (fun hg3 => ?_) (fun hg3 => ?_)
  · try simp only [decide_eq_true_eq, decide_eq_false_iff_not, Bool.not_eq_true', Bool.not_eq_false', beq_iff_eq, bne_iff_ne, beq_eq_false_iff_ne, bne_eq_false_iff_eq] at hg3
    refine lw_pass rfl rfl rfl rfl rfl rfl (by decide) ?_
    refine lw_pass rfl rfl rfl rfl rfl rfl (by decide) ?_
    refine lw_pass rfl rfl rfl rfl rfl rfl (by decide) ?_
    refine lw_pass rfl rfl rfl rfl rfl rfl (by decide) ?_
    refine l_pur (p_pickT rfl rfl) (by decide) ?_
    refine lw_nil ?_
    refine cw_true rfl ?_
    refine cw_seq (cw_region ?_)
    refine l_pur (p_assignC) (by decide) ?_
    refine lw_nil ?_
    refine cw_ret ?_
    repeat (with_reducible first | refine tf_ret ?_ | refine ib_ret ?_)
    refine fin1 (fn := Tryz.f79) rfl (rv_tmpB rfl) ?_
    exact ⟨_, rfl, hs.drop1⟩
  · try simp only [decide_eq_true_eq, decide_eq_false_iff_not, Bool.not_eq_true', Bool.not_eq_false', beq_iff_eq, bne_iff_ne, beq_eq_false_iff_ne, bne_eq_false_iff_eq] at hg3
    refine lw_do rfl rfl rfl ?_
    refine l_pur (p_move e1) (by decide) ?_
    refine lw_do rfl rfl rfl ?_
    refine l_pur (p_fieldAddr fo54_1 rfl) (by decide) ?_
    refine lw_do rfl rfl rfl ?_
    refine l_loadO (α := GWindow) (β := UInt64) ty23 rfl GWindow.l_top hs (List.Mem.head _) (by decide) ?_
    refine lw_do rfl rfl rfl ?_
    refine l_pur (p_gtr_u64 rfl rfl) (by decide) ?_
    refine l_pur (p_pickF rfl rfl) (by decide) ?_
    refine lw_nil ?_
    refine cw_cond _ rfl (fun hc0 => ?_) (fun hc0 => ?_)
    · try simp only [decide_eq_true_eq, decide_eq_false_iff_not, Bool.not_eq_true', Bool.not_eq_false', beq_iff_eq, bne_iff_ne, beq_eq_false_iff_ne, bne_eq_false_iff_eq] at hc0
      refine cw_seq (cw_region ?_)
      refine l_pur (p_assignC) (by decide) ?_
      refine lw_nil ?_
      refine cw_ret ?_
      repeat (with_reducible first | refine tf_ret ?_ | refine ib_ret ?_)
      refine fin1 (fn := Tryz.f79) rfl (rv_tmpB rfl) ?_
      exact ⟨_, rfl, hs.drop1⟩
    · try simp only [decide_eq_true_eq, decide_eq_false_iff_not, Bool.not_eq_true', Bool.not_eq_false', beq_iff_eq, bne_iff_ne, beq_eq_false_iff_ne, bne_eq_false_iff_eq] at hc0
      refine cw_skip ?_
      refine cw_seq (cw_region ?_)
      refine l_pur (p_fieldAddr fo54_1 rfl) (by decide) ?_
      refine l_loadO (α := GWindow) (β := UInt64) ty23 rfl GWindow.l_top hs (List.Mem.head _) (by decide) ?_
      refine l_pur (p_quo_u64 (b := (64 : UInt64)) rfl rfl (by decide)) (by decide) ?_
      refine l_pur (p_move e1) (by decide) ?_
      refine l_pur (p_quo_u64 (b := (64 : UInt64)) rfl rfl (by decide)) (by decide) ?_
      refine l_pur (p_sub_u64 rfl rfl) (by decide) ?_
      refine l_pur (p_leq_u64 (b := (3 : UInt64)) rfl rfl) (by decide) ?_
      refine l_purB (p_moveB rfl) (by decide) (fun hg7 => ?_) (fun hg7 => ?_)
      · try simp only [decide_eq_true_eq, decide_eq_false_iff_not, Bool.not_eq_true', Bool.not_eq_false', beq_iff_eq, bne_iff_ne, beq_eq_false_iff_ne, bne_eq_false_iff_eq] at hg7
        refine lw_do rfl rfl rfl ?_
        refine l_pur (p_move e1) (by decide) ?_
        refine lw_do rfl rfl rfl ?_
        refine l_pur (p_quo_u64 (b := (64 : UInt64)) rfl rfl (by decide)) (by decide) ?_
        refine lw_do rfl rfl rfl ?_
        refine l_pur (p_rem_u64 (b := (4 : UInt64)) rfl rfl (by decide)) (by decide) ?_
        refine lw_do rfl rfl rfl ?_
        refine l_pur (p_fieldAddr fo54_2 rfl) (by decide) ?_
        refine lw_do rfl rfl rfl ?_
        refine l_pur (p_indexArr Tryz.underlying52 ty23.size rfl rfl (by exact ⟨Int.natCast_nonneg _, umod4 _⟩)) (by decide) ?_
        refine lw_do rfl rfl rfl ?_
        refine l_loadO (α := GWindow) (β := UInt64) ty23 rfl (Lens.comp GWindow.l_words (Lens.idx (α := UInt64) (n := 4) _ (by first | omega | decide | (simp; omega) | simp | exact umod4n _))) hs (List.Mem.head _) (by decide) ?_
        refine lw_do rfl rfl rfl ?_
        refine l_pur (p_move e1) (by decide) ?_
        refine lw_do rfl rfl rfl ?_
        refine l_pur (p_rem_u64 (b := (64 : UInt64)) rfl rfl (by decide)) (by decide) ?_
        refine lw_do rfl rfl rfl ?_
        refine l_pur (p_shr_u64 (a := _) (s := _) rfl rfl (by exact umod64 _)) (by decide) ?_
        refine lw_do rfl rfl rfl ?_
        refine l_pur (p_and_u64 (b := (1 : UInt64)) rfl rfl) (by decide) ?_
        refine lw_do rfl rfl rfl ?_
        refine l_pur (p_eql_u64 (b := (0 : UInt64)) rfl rfl) (by decide) ?_
        refine l_pur (p_pickT rfl rfl) (by decide) ?_
        refine l_pur (p_assignB rfl) (by decide) ?_
        refine lw_nil ?_
        refine cw_ret ?_
        repeat (with_reducible first | refine tf_ret ?_ | refine ib_ret ?_)
        refine fin1 (fn := Tryz.f79) rfl (rv_tmpB rfl) ?_
        exact ⟨_, rfl, hs.drop1⟩
      · try simp only [decide_eq_true_eq, decide_eq_false_iff_not, Bool.not_eq_true', Bool.not_eq_false', beq_iff_eq, bne_iff_ne, beq_eq_false_iff_ne, bne_eq_false_iff_eq] at hg7
        refine lw_pass rfl rfl rfl rfl rfl rfl (by decide) ?_
        refine lw_pass rfl rfl rfl rfl rfl rfl (by decide) ?_
        refine lw_pass rfl rfl rfl rfl rfl rfl (by decide) ?_
        refine lw_pass rfl rfl rfl rfl rfl rfl (by decide) ?_
        refine lw_pass rfl rfl rfl rfl rfl rfl (by decide) ?_
        refine lw_pass rfl rfl rfl rfl rfl rfl (by decide) ?_
        refine lw_pass rfl rfl rfl rfl rfl rfl (by decide) ?_
        refine lw_pass rfl rfl rfl rfl rfl rfl (by decide) ?_
        refine lw_pass rfl rfl rfl rfl rfl rfl (by decide) ?_
        refine lw_pass rfl rfl rfl rfl rfl rfl (by decide) ?_
        refine lw_pass rfl rfl rfl rfl rfl rfl (by decide) ?_
        refine l_pur (p_pickF rfl rfl) (by decide) ?_
        refine l_pur (p_assignB rfl) (by decide) ?_
        refine lw_nil ?_
        refine cw_ret ?_
        repeat (with_reducible first | refine tf_ret ?_ | refine ib_ret ?_)
        refine fin1 (fn := Tryz.f79) rfl (rv_tmpB rfl) ?_
        exact ⟨_, rfl, hs.drop1⟩
theorem s_acceptw {x : GWindow} {c : UInt64} (hs : St W0 V w L) : Calls Tryz.prog 47 #[val x, val c] w (okR fun v w' => ∃ (y : GWindow) (b : Bool), v = .tuple #[val y, .bool b] ∧ (y = x ∨ y.used = true) ∧ St W0 V w' L) := by
  refine fn_enter (n := 55) Tryz.func47 rfl rfl rfl ?_
  intro f hf
  have e0 := hf 0
  have e1 := hf 1
  simp only [Array.getD_eq_getD_getElem?, List.getElem?_toArray, List.getElem?_cons_zero, List.getElem?_cons_succ, Option.getD_some] at e0 e1
  clear hf
  refine cw_seq (cw_region ?_)
  refine l_box (α := GWindow) e0 hs (by decide) ?_; clear hs; intro b2 w hs
  refine l_alloc z54 hs (by decide) ?_; clear hs; intro b4 w hs
  refine l_pur (p_assignC) (by decide) ?_
  refine lw_nil ?_
  refine cw_seq ?_
  refine cw_seq (cw_region ?_)
  refine l_loadO (α := GWindow) (β := GWindow) ty54 rfl (Lens.id GWindow) hs (List.Mem.tail _ (List.Mem.head _)) (by decide) ?_
  refine l_pur (p_move e1) (by decide) ?_
  refine l_call2 fn79 (s_checkw hs) rfl rfl ?_ (by decide)
  clear hs
  rintro _ w ⟨bo, rfl, hs⟩
  refine l_pur (p_not rfl) (by decide) ?_
  refine lw_nil ?_
  refine cw_cond _ rfl (fun hc0 => ?_) (fun hc0 => ?_)
  · try simp only [decide_eq_true_eq, decide_eq_false_iff_not, Bool.not_eq_true', Bool.not_eq_false', beq_iff_eq, bne_iff_ne, beq_eq_false_iff_ne, bne_eq_false_iff_eq] at hc0
    refine cw_seq (cw_region ?_)
    refine l_loadO (α := GWindow) (β := GWindow) ty54 rfl (Lens.id GWindow) hs (List.Mem.tail _ (List.Mem.head _)) (by decide) ?_
    refine l_store0 (α := GWindow) (β := GWindow) ty54 rfl rfl (Lens.id GWindow) hs ?_; clear hs; intro w hs
    refine l_pur (p_assignC) (by decide) ?_
    refine lw_nil ?_
    refine cw_ret ?_
    repeat (with_reducible first | refine tf_ret ?_ | refine ib_ret ?_)
    refine fin2 (fn := Tryz.f47) rfl (rv_own (α := GWindow) ty54 rfl (hs.mem (List.Mem.head _))) (rv_tmpB rfl) ?_
    first
    | exact ⟨x, _, rfl, .inl rfl, hs.drop1.drop1⟩
    | exact ⟨_, _, rfl, .inr (by simpa using hu), hs.drop1.drop1⟩
  · try simp only [decide_eq_true_eq, decide_eq_false_iff_not, Bool.not_eq_true', Bool.not_eq_false', beq_iff_eq, bne_iff_ne, beq_eq_false_iff_ne, bne_eq_false_iff_eq] at hc0
    refine cw_skip ?_
    refine cw_seq ?_
    refine cw_seq (cw_region ?_)
    refine l_pur (p_fieldAddr fo54_0 rfl) (by decide) ?_
    refine l_loadO (α := GWindow) (β := Bool) ty4 rfl GWindow.l_used hs (List.Mem.tail _ (List.Mem.head _)) (by decide) ?_
    refine l_pur (p_not rfl) (by decide) ?_
    refine lw_nil ?_
    refine cw_cond _ rfl (fun hc1 => ?_) (fun hc1 => ?_)
    · try simp only [decide_eq_true_eq, decide_eq_false_iff_not, Bool.not_eq_true', Bool.not_eq_false', beq_iff_eq, bne_iff_ne, beq_eq_false_iff_ne, bne_eq_false_iff_eq] at hc1
      refine cw_region ?_
      refine l_pur (p_move e1) (by decide) ?_
      refine l_pur (p_buildO (α := GWindow) Tryz.underlying54 (by kernel_rfl) z54 rfl (.cons (β := Bool) rfl pl54_0 GWindow.l_used (.cons (β := UInt64) rfl pl54_1 GWindow.l_top (.nil _)))) (by decide) ?_
      refine l_store1 (α := GWindow) (β := GWindow) ty54 rfl rfl (Lens.id GWindow) hs ?_; clear hs; intro w hs
      refine lw_nil ?_
      refine cw_seq ?_
      refine cw_seq ?_
      have hused : ∃ y : GWindow, y.used = true ∧ St W0 V w ((b4, blk 54 GWindow.zero) :: (b2, blk 54 y) :: L) := by
        first
        | exact ⟨_, by simp, hs⟩
        | exact ⟨_, by simpa using hc1, hs⟩
      clear hs
      obtain ⟨y, hy, hs⟩ := hused
      refine cw_region ?_
      refine l_pur (p_move e1) (by decide) ?_
      refine l_pur (p_fieldAddr fo54_1 rfl) (by decide) ?_
      refine l_loadO (α := GWindow) (β := UInt64) ty23 rfl GWindow.l_top hs (List.Mem.tail _ (List.Mem.head _)) (by decide) ?_
      refine l_pur (p_gtr_u64 rfl rfl) (by decide) ?_
      refine lw_nil ?_
      refine cw_cond _ rfl (fun hc2 => ?_) (fun hc2 => ?_)
      · try simp only [decide_eq_true_eq, decide_eq_false_iff_not, Bool.not_eq_true', Bool.not_eq_false', beq_iff_eq, bne_iff_ne, beq_eq_false_iff_ne, bne_eq_false_iff_eq] at hc2
        refine cw_seq ?_
        refine cw_seq (cw_region ?_)
        refine l_pur (p_assignC) (by decide) ?_
        refine lw_nil ?_
        refine cw_block ?_
        refine cw_loop (fun q f w => ∃ (i : UInt64) (z : GWindow), q = 5 - i.toNat ∧ i.toNat ≤ 5 ∧ f 6 = val i ∧ f 1 = val c ∧ f 2 = ptr b2 0 ∧ f 4 = ptr b4 0 ∧ z.used = true ∧ St W0 V w ((b4, blk 54 GWindow.zero) :: (b2, blk 54 z) :: L)) (4) ?_ ?_
        · exact ⟨1, y, rfl, by decide, rfl, e1, rfl, rfl, hy, hs⟩
        · intro q f w hI
          obtain ⟨i, z, rfl, hi, e6, e1, e2, e4, hz, hs⟩ := hI
          refine cw_seq ?_
          refine cw_seq (cw_region ?_)
          refine l_pur (p_move e6) (by decide) ?_
          refine l_pur (p_move e1) (by decide) ?_
          refine l_pur (p_quo_u64 (b := (64 : UInt64)) rfl rfl (by decide)) (by decide) ?_
          refine l_pur (p_fieldAddr fo54_1 e2) (by decide) ?_
          refine l_loadO (α := GWindow) (β := UInt64) ty23 rfl GWindow.l_top hs (List.Mem.tail _ (List.Mem.head _)) (by decide) ?_
          refine l_pur (p_quo_u64 (b := (64 : UInt64)) rfl rfl (by decide)) (by decide) ?_
          refine l_pur (p_sub_u64 rfl rfl) (by decide) ?_
          refine l_pur (p_min_u64 (b := (4 : UInt64)) rfl rfl) (by decide) ?_
          refine l_pur (p_leq_u64 rfl rfl) (by decide) ?_
          refine lw_nil ?_
          refine cw_cond _ rfl (fun hc3 => ?_) (fun hc3 => ?_)
          · have hlt : i.toNat ≤ 4 := by
              have h1 := UInt64.le_iff_toNat_le.1 (of_decide_eq_true hc3)
              have h2 : ∀ q : UInt64, (min q 4).toNat ≤ 4 := fun q => by
                by_cases h : q ≤ 4
                · rw [show min q 4 = q from if_pos h]; exact UInt64.le_iff_toNat_le.1 h
                · rw [show min q 4 = 4 from if_neg h]; decide
              exact Nat.le_trans h1 (h2 _)
            refine cw_skip ?_
            refine cw_seq ?_
            refine cw_block ?_
            refine cw_region ?_
            refine l_pur (p_fieldAddr fo54_1 e2) (by decide) ?_
            refine l_loadO (α := GWindow) (β := UInt64) ty23 rfl GWindow.l_top hs (List.Mem.tail _ (List.Mem.head _)) (by decide) ?_
            refine l_pur (p_quo_u64 (b := (64 : UInt64)) rfl rfl (by decide)) (by decide) ?_
            refine l_pur (p_move e6) (by decide) ?_
            refine l_pur (p_add_u64 rfl rfl) (by decide) ?_
            refine l_pur (p_rem_u64 (b := (4 : UInt64)) rfl rfl (by decide)) (by decide) ?_
            refine l_pur (p_fieldAddr fo54_2 e2) (by decide) ?_
            refine l_pur (p_indexArr Tryz.underlying52 ty23.size rfl rfl (by exact ⟨Int.natCast_nonneg _, umod4 _⟩)) (by decide) ?_
            refine l_store1 (α := GWindow) (β := UInt64) (z := (0 : UInt64)) ty23 rfl rfl (Lens.comp GWindow.l_words (Lens.idx (α := UInt64) (n := 4) _ (by first | omega | decide | (simp; omega) | simp | exact umod4n _))) hs ?_; clear hs; intro w hs
            refine lw_nil ?_
            refine cw_region ?_
            refine l_pur (p_move e6) (by decide) ?_
            refine l_pur (p_add_u64 (b := (1 : UInt64)) rfl rfl) (by decide) ?_
            refine l_pur (p_assignI rfl) (by decide) ?_
            refine lw_nil ?_
            have h1 : (i + 1).toNat = i.toNat + 1 := by rw [UInt64.toNat_add]; simp; omega
            exact ⟨_, by omega, i + 1, _, rfl, by omega, rfl, e1, e2, e4, by simpa using hz, hs⟩
          · try simp only [decide_eq_true_eq, decide_eq_false_iff_not, Bool.not_eq_true', Bool.not_eq_false', beq_iff_eq, bne_iff_ne, beq_eq_false_iff_ne, bne_eq_false_iff_eq] at hc3
            refine cw_exit ?_
            refine cw_region ?_
            refine l_pur (p_move e1) (by decide) ?_
            refine l_pur (p_fieldAddr fo54_1 e2) (by decide) ?_
            refine l_store1 (α := GWindow) (β := UInt64) ty23 rfl rfl GWindow.l_top hs ?_; clear hs; intro w hs
            refine lw_nil ?_
            refine cw_seq ?_
            have hused : ∃ y : GWindow, y.used = true ∧ St W0 V w ((b4, blk 54 GWindow.zero) :: (b2, blk 54 y) :: L) := by
              first
              | exact ⟨_, by simpa using hy, hs⟩
              | exact ⟨_, by simpa using hz, hs⟩
            clear hs
            obtain ⟨u, hu, hs⟩ := hused
            refine cw_region ?_
            refine l_pur (p_move e1) (by decide) ?_
            refine l_pur (p_quo_u64 (b := (64 : UInt64)) rfl rfl (by decide)) (by decide) ?_
            refine l_pur (p_rem_u64 (b := (4 : UInt64)) rfl rfl (by decide)) (by decide) ?_
            refine l_pur (p_fieldAddr fo54_2 e2) (by decide) ?_
            refine l_pur (p_indexArr Tryz.underlying52 ty23.size rfl rfl (by exact ⟨Int.natCast_nonneg _, umod4 _⟩)) (by decide) ?_
            refine l_loadO (α := GWindow) (β := UInt64) ty23 rfl (Lens.comp GWindow.l_words (Lens.idx (α := UInt64) (n := 4) _ (by first | omega | decide | (simp; omega) | simp | exact umod4n _))) hs (List.Mem.tail _ (List.Mem.head _)) (by decide) ?_
            refine l_pur (p_move e1) (by decide) ?_
            refine l_pur (p_rem_u64 (b := (64 : UInt64)) rfl rfl (by decide)) (by decide) ?_
            refine l_pur (p_shl_u64 (a := (1 : UInt64)) (s := _) rfl rfl (by exact umod64 _)) (by decide) ?_
            refine l_pur (p_or_u64 rfl rfl) (by decide) ?_
            refine l_pur (p_fieldAddr fo54_2 e2) (by decide) ?_
            refine l_pur (p_indexArr Tryz.underlying52 ty23.size rfl rfl (by exact ⟨Int.natCast_nonneg _, umod4 _⟩)) (by decide) ?_
            refine l_store1 (α := GWindow) (β := UInt64) ty23 rfl rfl (Lens.comp GWindow.l_words (Lens.idx (α := UInt64) (n := 4) _ (by first | omega | decide | (simp; omega) | simp | exact umod4n _))) hs ?_; clear hs; intro w hs
            refine lw_nil ?_
            refine cw_seq (cw_region ?_)
            refine l_loadO (α := GWindow) (β := GWindow) ty54 e2 (Lens.id GWindow) hs (List.Mem.tail _ (List.Mem.head _)) (by decide) ?_
            refine l_store0 (α := GWindow) (β := GWindow) ty54 e4 rfl (Lens.id GWindow) hs ?_; clear hs; intro w hs
            refine l_pur (p_assignC) (by decide) ?_
            refine lw_nil ?_
            refine cw_ret ?_
            repeat (with_reducible first | refine tf_ret ?_ | refine ib_ret ?_)
            refine fin2 (fn := Tryz.f47) rfl (rv_own (α := GWindow) ty54 e4 (hs.mem (List.Mem.head _))) (rv_tmpB rfl) ?_
            first
            | exact ⟨x, _, rfl, .inl rfl, hs.drop1.drop1⟩
            | exact ⟨_, _, rfl, .inr (by simpa using hu), hs.drop1.drop1⟩
      · try simp only [decide_eq_true_eq, decide_eq_false_iff_not, Bool.not_eq_true', Bool.not_eq_false', beq_iff_eq, bne_iff_ne, beq_eq_false_iff_ne, bne_eq_false_iff_eq] at hc2
        refine cw_skip ?_
        refine cw_seq ?_
        have hused : ∃ y : GWindow, y.used = true ∧ St W0 V w ((b4, blk 54 GWindow.zero) :: (b2, blk 54 y) :: L) := by
          first
          | exact ⟨_, by simpa using hy, hs⟩
          | exact ⟨_, by simpa using hz, hs⟩
        clear hs
        obtain ⟨u, hu, hs⟩ := hused
        refine cw_region ?_
        refine l_pur (p_move e1) (by decide) ?_
        refine l_pur (p_quo_u64 (b := (64 : UInt64)) rfl rfl (by decide)) (by decide) ?_
        refine l_pur (p_rem_u64 (b := (4 : UInt64)) rfl rfl (by decide)) (by decide) ?_
        refine l_pur (p_fieldAddr fo54_2 rfl) (by decide) ?_
        refine l_pur (p_indexArr Tryz.underlying52 ty23.size rfl rfl (by exact ⟨Int.natCast_nonneg _, umod4 _⟩)) (by decide) ?_
        refine l_loadO (α := GWindow) (β := UInt64) ty23 rfl (Lens.comp GWindow.l_words (Lens.idx (α := UInt64) (n := 4) _ (by first | omega | decide | (simp; omega) | simp | exact umod4n _))) hs (List.Mem.tail _ (List.Mem.head _)) (by decide) ?_
        refine l_pur (p_move e1) (by decide) ?_
        refine l_pur (p_rem_u64 (b := (64 : UInt64)) rfl rfl (by decide)) (by decide) ?_
        refine l_pur (p_shl_u64 (a := (1 : UInt64)) (s := _) rfl rfl (by exact umod64 _)) (by decide) ?_
        refine l_pur (p_or_u64 rfl rfl) (by decide) ?_
        refine l_pur (p_fieldAddr fo54_2 rfl) (by decide) ?_
        refine l_pur (p_indexArr Tryz.underlying52 ty23.size rfl rfl (by exact ⟨Int.natCast_nonneg _, umod4 _⟩)) (by decide) ?_
        refine l_store1 (α := GWindow) (β := UInt64) ty23 rfl rfl (Lens.comp GWindow.l_words (Lens.idx (α := UInt64) (n := 4) _ (by first | omega | decide | (simp; omega) | simp | exact umod4n _))) hs ?_; clear hs; intro w hs
        refine lw_nil ?_
        refine cw_seq (cw_region ?_)
        refine l_loadO (α := GWindow) (β := GWindow) ty54 rfl (Lens.id GWindow) hs (List.Mem.tail _ (List.Mem.head _)) (by decide) ?_
        refine l_store0 (α := GWindow) (β := GWindow) ty54 rfl rfl (Lens.id GWindow) hs ?_; clear hs; intro w hs
        refine l_pur (p_assignC) (by decide) ?_
        refine lw_nil ?_
        refine cw_ret ?_
        repeat (with_reducible first | refine tf_ret ?_ | refine ib_ret ?_)
        refine fin2 (fn := Tryz.f47) rfl (rv_own (α := GWindow) ty54 rfl (hs.mem (List.Mem.head _))) (rv_tmpB rfl) ?_
        first
        | exact ⟨x, _, rfl, .inl rfl, hs.drop1.drop1⟩
        | exact ⟨_, _, rfl, .inr (by simpa using hu), hs.drop1.drop1⟩
    · try simp only [decide_eq_true_eq, decide_eq_false_iff_not, Bool.not_eq_true', Bool.not_eq_false', beq_iff_eq, bne_iff_ne, beq_eq_false_iff_ne, bne_eq_false_iff_eq] at hc1
      refine cw_skip ?_
      refine cw_seq ?_
      refine cw_seq ?_
      have hused : ∃ y : GWindow, y.used = true ∧ St W0 V w ((b4, blk 54 GWindow.zero) :: (b2, blk 54 y) :: L) := by
        first
        | exact ⟨_, by simp, hs⟩
        | exact ⟨_, by simpa using hc1, hs⟩
      clear hs
      obtain ⟨y, hy, hs⟩ := hused
      refine cw_region ?_
      refine l_pur (p_move e1) (by decide) ?_
      refine l_pur (p_fieldAddr fo54_1 rfl) (by decide) ?_
      refine l_loadO (α := GWindow) (β := UInt64) ty23 rfl GWindow.l_top hs (List.Mem.tail _ (List.Mem.head _)) (by decide) ?_
      refine l_pur (p_gtr_u64 rfl rfl) (by decide) ?_
      refine lw_nil ?_
      refine cw_cond _ rfl (fun hc2 => ?_) (fun hc2 => ?_)
      · try simp only [decide_eq_true_eq, decide_eq_false_iff_not, Bool.not_eq_true', Bool.not_eq_false', beq_iff_eq, bne_iff_ne, beq_eq_false_iff_ne, bne_eq_false_iff_eq] at hc2
        refine cw_seq ?_
        refine cw_seq (cw_region ?_)
        refine l_pur (p_assignC) (by decide) ?_
        refine lw_nil ?_
        refine cw_block ?_
        refine cw_loop (fun q f w => ∃ (i : UInt64) (z : GWindow), q = 5 - i.toNat ∧ i.toNat ≤ 5 ∧ f 6 = val i ∧ f 1 = val c ∧ f 2 = ptr b2 0 ∧ f 4 = ptr b4 0 ∧ z.used = true ∧ St W0 V w ((b4, blk 54 GWindow.zero) :: (b2, blk 54 z) :: L)) (4) ?_ ?_
        · exact ⟨1, y, rfl, by decide, rfl, e1, rfl, rfl, hy, hs⟩
        · intro q f w hI
          obtain ⟨i, z, rfl, hi, e6, e1, e2, e4, hz, hs⟩ := hI
          refine cw_seq ?_
          refine cw_seq (cw_region ?_)
          refine l_pur (p_move e6) (by decide) ?_
          refine l_pur (p_move e1) (by decide) ?_
          refine l_pur (p_quo_u64 (b := (64 : UInt64)) rfl rfl (by decide)) (by decide) ?_
          refine l_pur (p_fieldAddr fo54_1 e2) (by decide) ?_
          refine l_loadO (α := GWindow) (β := UInt64) ty23 rfl GWindow.l_top hs (List.Mem.tail _ (List.Mem.head _)) (by decide) ?_
          refine l_pur (p_quo_u64 (b := (64 : UInt64)) rfl rfl (by decide)) (by decide) ?_
          refine l_pur (p_sub_u64 rfl rfl) (by decide) ?_
          refine l_pur (p_min_u64 (b := (4 : UInt64)) rfl rfl) (by decide) ?_
          refine l_pur (p_leq_u64 rfl rfl) (by decide) ?_
          refine lw_nil ?_
          refine cw_cond _ rfl (fun hc3 => ?_) (fun hc3 => ?_)
          · have hlt : i.toNat ≤ 4 := by
              have h1 := UInt64.le_iff_toNat_le.1 (of_decide_eq_true hc3)
              have h2 : ∀ q : UInt64, (min q 4).toNat ≤ 4 := fun q => by
                by_cases h : q ≤ 4
                · rw [show min q 4 = q from if_pos h]; exact UInt64.le_iff_toNat_le.1 h
                · rw [show min q 4 = 4 from if_neg h]; decide
              exact Nat.le_trans h1 (h2 _)
            refine cw_skip ?_
            refine cw_seq ?_
            refine cw_block ?_
            refine cw_region ?_
            refine l_pur (p_fieldAddr fo54_1 e2) (by decide) ?_
            refine l_loadO (α := GWindow) (β := UInt64) ty23 rfl GWindow.l_top hs (List.Mem.tail _ (List.Mem.head _)) (by decide) ?_
            refine l_pur (p_quo_u64 (b := (64 : UInt64)) rfl rfl (by decide)) (by decide) ?_
            refine l_pur (p_move e6) (by decide) ?_
            refine l_pur (p_add_u64 rfl rfl) (by decide) ?_
            refine l_pur (p_rem_u64 (b := (4 : UInt64)) rfl rfl (by decide)) (by decide) ?_
            refine l_pur (p_fieldAddr fo54_2 e2) (by decide) ?_
            refine l_pur (p_indexArr Tryz.underlying52 ty23.size rfl rfl (by exact ⟨Int.natCast_nonneg _, umod4 _⟩)) (by decide) ?_
            refine l_store1 (α := GWindow) (β := UInt64) (z := (0 : UInt64)) ty23 rfl rfl (Lens.comp GWindow.l_words (Lens.idx (α := UInt64) (n := 4) _ (by first | omega | decide | (simp; omega) | simp | exact umod4n _))) hs ?_; clear hs; intro w hs
            refine lw_nil ?_
            refine cw_region ?_
            refine l_pur (p_move e6) (by decide) ?_
            refine l_pur (p_add_u64 (b := (1 : UInt64)) rfl rfl) (by decide) ?_
            refine l_pur (p_assignI rfl) (by decide) ?_
            refine lw_nil ?_
            have h1 : (i + 1).toNat = i.toNat + 1 := by rw [UInt64.toNat_add]; simp; omega
            exact ⟨_, by omega, i + 1, _, rfl, by omega, rfl, e1, e2, e4, by simpa using hz, hs⟩
          · try simp only [decide_eq_true_eq, decide_eq_false_iff_not, Bool.not_eq_true', Bool.not_eq_false', beq_iff_eq, bne_iff_ne, beq_eq_false_iff_ne, bne_eq_false_iff_eq] at hc3
            refine cw_exit ?_
            refine cw_region ?_
            refine l_pur (p_move e1) (by decide) ?_
            refine l_pur (p_fieldAddr fo54_1 e2) (by decide) ?_
            refine l_store1 (α := GWindow) (β := UInt64) ty23 rfl rfl GWindow.l_top hs ?_; clear hs; intro w hs
            refine lw_nil ?_
            refine cw_seq ?_
            have hused : ∃ y : GWindow, y.used = true ∧ St W0 V w ((b4, blk 54 GWindow.zero) :: (b2, blk 54 y) :: L) := by
              first
              | exact ⟨_, by simpa using hy, hs⟩
              | exact ⟨_, by simpa using hz, hs⟩
            clear hs
            obtain ⟨u, hu, hs⟩ := hused
            refine cw_region ?_
            refine l_pur (p_move e1) (by decide) ?_
            refine l_pur (p_quo_u64 (b := (64 : UInt64)) rfl rfl (by decide)) (by decide) ?_
            refine l_pur (p_rem_u64 (b := (4 : UInt64)) rfl rfl (by decide)) (by decide) ?_
            refine l_pur (p_fieldAddr fo54_2 e2) (by decide) ?_
            refine l_pur (p_indexArr Tryz.underlying52 ty23.size rfl rfl (by exact ⟨Int.natCast_nonneg _, umod4 _⟩)) (by decide) ?_
            refine l_loadO (α := GWindow) (β := UInt64) ty23 rfl (Lens.comp GWindow.l_words (Lens.idx (α := UInt64) (n := 4) _ (by first | omega | decide | (simp; omega) | simp | exact umod4n _))) hs (List.Mem.tail _ (List.Mem.head _)) (by decide) ?_
            refine l_pur (p_move e1) (by decide) ?_
            refine l_pur (p_rem_u64 (b := (64 : UInt64)) rfl rfl (by decide)) (by decide) ?_
            refine l_pur (p_shl_u64 (a := (1 : UInt64)) (s := _) rfl rfl (by exact umod64 _)) (by decide) ?_
            refine l_pur (p_or_u64 rfl rfl) (by decide) ?_
            refine l_pur (p_fieldAddr fo54_2 e2) (by decide) ?_
            refine l_pur (p_indexArr Tryz.underlying52 ty23.size rfl rfl (by exact ⟨Int.natCast_nonneg _, umod4 _⟩)) (by decide) ?_
            refine l_store1 (α := GWindow) (β := UInt64) ty23 rfl rfl (Lens.comp GWindow.l_words (Lens.idx (α := UInt64) (n := 4) _ (by first | omega | decide | (simp; omega) | simp | exact umod4n _))) hs ?_; clear hs; intro w hs
            refine lw_nil ?_
            refine cw_seq (cw_region ?_)
            refine l_loadO (α := GWindow) (β := GWindow) ty54 e2 (Lens.id GWindow) hs (List.Mem.tail _ (List.Mem.head _)) (by decide) ?_
            refine l_store0 (α := GWindow) (β := GWindow) ty54 e4 rfl (Lens.id GWindow) hs ?_; clear hs; intro w hs
            refine l_pur (p_assignC) (by decide) ?_
            refine lw_nil ?_
            refine cw_ret ?_
            repeat (with_reducible first | refine tf_ret ?_ | refine ib_ret ?_)
            refine fin2 (fn := Tryz.f47) rfl (rv_own (α := GWindow) ty54 e4 (hs.mem (List.Mem.head _))) (rv_tmpB rfl) ?_
            first
            | exact ⟨x, _, rfl, .inl rfl, hs.drop1.drop1⟩
            | exact ⟨_, _, rfl, .inr (by simpa using hu), hs.drop1.drop1⟩
      · try simp only [decide_eq_true_eq, decide_eq_false_iff_not, Bool.not_eq_true', Bool.not_eq_false', beq_iff_eq, bne_iff_ne, beq_eq_false_iff_ne, bne_eq_false_iff_eq] at hc2
        refine cw_skip ?_
        refine cw_seq ?_
        have hused : ∃ y : GWindow, y.used = true ∧ St W0 V w ((b4, blk 54 GWindow.zero) :: (b2, blk 54 y) :: L) := by
          first
          | exact ⟨_, by simpa using hy, hs⟩
          | exact ⟨_, by simpa using hz, hs⟩
        clear hs
        obtain ⟨u, hu, hs⟩ := hused
        refine cw_region ?_
        refine l_pur (p_move e1) (by decide) ?_
        refine l_pur (p_quo_u64 (b := (64 : UInt64)) rfl rfl (by decide)) (by decide) ?_
        refine l_pur (p_rem_u64 (b := (4 : UInt64)) rfl rfl (by decide)) (by decide) ?_
        refine l_pur (p_fieldAddr fo54_2 rfl) (by decide) ?_
        refine l_pur (p_indexArr Tryz.underlying52 ty23.size rfl rfl (by exact ⟨Int.natCast_nonneg _, umod4 _⟩)) (by decide) ?_
        refine l_loadO (α := GWindow) (β := UInt64) ty23 rfl (Lens.comp GWindow.l_words (Lens.idx (α := UInt64) (n := 4) _ (by first | omega | decide | (simp; omega) | simp | exact umod4n _))) hs (List.Mem.tail _ (List.Mem.head _)) (by decide) ?_
        refine l_pur (p_move e1) (by decide) ?_
        refine l_pur (p_rem_u64 (b := (64 : UInt64)) rfl rfl (by decide)) (by decide) ?_
        refine l_pur (p_shl_u64 (a := (1 : UInt64)) (s := _) rfl rfl (by exact umod64 _)) (by decide) ?_
        refine l_pur (p_or_u64 rfl rfl) (by decide) ?_
        refine l_pur (p_fieldAddr fo54_2 rfl) (by decide) ?_
        refine l_pur (p_indexArr Tryz.underlying52 ty23.size rfl rfl (by exact ⟨Int.natCast_nonneg _, umod4 _⟩)) (by decide) ?_
        refine l_store1 (α := GWindow) (β := UInt64) ty23 rfl rfl (Lens.comp GWindow.l_words (Lens.idx (α := UInt64) (n := 4) _ (by first | omega | decide | (simp; omega) | simp | exact umod4n _))) hs ?_; clear hs; intro w hs
        refine lw_nil ?_
        refine cw_seq (cw_region ?_)
        refine l_loadO (α := GWindow) (β := GWindow) ty54 rfl (Lens.id GWindow) hs (List.Mem.tail _ (List.Mem.head _)) (by decide) ?_
        refine l_store0 (α := GWindow) (β := GWindow) ty54 rfl rfl (Lens.id GWindow) hs ?_; clear hs; intro w hs
        refine l_pur (p_assignC) (by decide) ?_
        refine lw_nil ?_
        refine cw_ret ?_
        repeat (with_reducible first | refine tf_ret ?_ | refine ib_ret ?_)
        refine fin2 (fn := Tryz.f47) rfl (rv_own (α := GWindow) ty54 rfl (hs.mem (List.Mem.head _))) (rv_tmpB rfl) ?_
        first
        | exact ⟨x, _, rfl, .inl rfl, hs.drop1.drop1⟩
        | exact ⟨_, _, rfl, .inr (by simpa using hu), hs.drop1.drop1⟩
end Go.Bur
namespace Go.Bur
open Go Go.RowKit Go.Proofs
set_option maxHeartbeats 4000000
variable {W0 : World} {V : PH} {w : World} {L : List (Nat × Obj)}
def newS (loc rem : UInt32) (send recv : GKey) (born : Int) (ini : Bool) (fence : UInt64) : GSession := { GSession.zero with loc := loc, remote := rem, send := send, recv := recv, fence := fence, born := born, initiator := ini }
theorem s_newS {loc rem : UInt32} {send recv : GKey} {born : Int} {ini : Bool} {fence : UInt64} (hs : St W0 V w L) :
    Calls Tryz.prog 46 #[val loc, val rem, val send, val recv, vi born, .bool ini, val fence] w (okR fun v w' => v = val (newS loc rem send recv born ini fence) ∧ St W0 V w' L) := by
  refine fn_enter (n := 23) Tryz.func46 rfl rfl rfl ?_
  intro f hf
  have e0 := hf 0
  have e1 := hf 1
  have e2 := hf 2
  have e3 := hf 3
  have e4 := hf 4
  have e5 := hf 5
  have e6 := hf 6
  simp only [Array.getD_eq_getD_getElem?, List.getElem?_toArray, List.getElem?_cons_zero, List.getElem?_cons_succ, Option.getD_some] at e0 e1 e2 e3 e4 e5 e6
  clear hf
  refine cw_seq (cw_region ?_)
  refine l_box (α := (Vec 32 UInt8)) e2 hs (by decide) ?_; clear hs; intro b9 w hs
  refine l_box (α := (Vec 32 UInt8)) e3 hs (by decide) ?_; clear hs; intro b10 w hs
  refine l_alloc z56 hs (by decide) ?_; clear hs; intro b14 w hs
  refine lw_nil ?_
  refine cw_seq (cw_region ?_)
  refine l_pur (p_move e0) (by decide) ?_
  refine l_pur (p_move e1) (by decide) ?_
  refine l_loadO (α := (Vec 32 UInt8)) (β := (Vec 32 UInt8)) ty27 rfl (Lens.id (Vec 32 UInt8)) hs (List.Mem.tail _ (List.Mem.tail _ (List.Mem.head _))) (by decide) ?_
  refine l_loadO (α := (Vec 32 UInt8)) (β := (Vec 32 UInt8)) ty27 rfl (Lens.id (Vec 32 UInt8)) hs (List.Mem.tail _ (List.Mem.head _)) (by decide) ?_
  refine l_pur (p_move e6) (by decide) ?_
  refine l_pur (p_move e4) (by decide) ?_
  refine l_pur (p_move e5) (by decide) ?_
  refine l_pur (p_buildO (α := GSession) Tryz.underlying56 (by kernel_rfl) z56 rfl (.cons (β := UInt32) rfl pl56_0 GSession.l_loc (.cons (β := UInt32) rfl pl56_1 GSession.l_remote (.cons (β := (Vec 32 UInt8)) rfl pl56_2 GSession.l_send (.cons (β := (Vec 32 UInt8)) rfl pl56_3 GSession.l_recv (.cons (β := UInt64) rfl pl56_5 GSession.l_fence (.cons (β := Int) rfl pl56_7 GSession.l_born (.cons (β := Bool) rfl pl56_8 GSession.l_initiator (.nil _))))))))) (by decide) ?_
  refine l_store0 (α := GSession) (β := GSession) ty56 rfl rfl (Lens.id GSession) hs ?_; clear hs; intro w hs
  refine lw_nil ?_
  refine cw_ret ?_
  repeat (with_reducible first | refine tf_ret ?_ | refine ib_ret ?_)
  refine fin1 (fn := Tryz.f46) rfl (rv_own (α := GSession) ty56 rfl (hs.mem (List.Mem.head _))) ?_
  exact ⟨rfl, hs.drop1.drop1.drop1⟩
def cleanP (p : GPlace) : GPlace := if p.has then p else GPlace.zero
theorem s_clean {p : GPlace} (hs : St W0 V w L) : Calls Tryz.prog 77 #[val p] w (okR fun v w' => v = val (cleanP p) ∧ St W0 V w' L) := by
  refine fn_enter (n := 8) Tryz.func77 rfl rfl rfl ?_
  intro f hf
  have e0 := hf 0
  simp only [Array.getD_eq_getD_getElem?, List.getElem?_toArray, List.getElem?_cons_zero, List.getElem?_cons_succ, Option.getD_some] at e0
  clear hf
  refine cw_seq (cw_region ?_)
  refine l_box (α := GPlace) e0 hs (by decide) ?_; clear hs; intro b1 w hs
  refine l_alloc z58 hs (by decide) ?_; clear hs; intro b2 w hs
  refine lw_nil ?_
  refine cw_seq ?_
  refine cw_seq (cw_region ?_)
  refine l_pur (p_fieldAddr fo58_0 rfl) (by decide) ?_
  refine l_loadO (α := GPlace) (β := Bool) ty4 rfl GPlace.l_has hs (List.Mem.tail _ (List.Mem.head _)) (by decide) ?_
  refine l_pur (p_not rfl) (by decide) ?_
  refine lw_nil ?_
  refine cw_cond _ rfl (fun hc0 => ?_) (fun hc0 => ?_)
  · try simp only [decide_eq_true_eq, decide_eq_false_iff_not, Bool.not_eq_true', Bool.not_eq_false', beq_iff_eq, bne_iff_ne, beq_eq_false_iff_ne, bne_eq_false_iff_eq] at hc0
    refine cw_seq (cw_region ?_)
    refine l_pur (p_buildO (α := GPlace) Tryz.underlying58 (by kernel_rfl) z58 rfl (.nil _)) (by decide) ?_
    refine l_store0 (α := GPlace) (β := GPlace) ty58 rfl rfl (Lens.id GPlace) hs ?_; clear hs; intro w hs
    refine lw_nil ?_
    refine cw_ret ?_
    repeat (with_reducible first | refine tf_ret ?_ | refine ib_ret ?_)
    refine fin1 (fn := Tryz.f77) rfl (rv_own (α := GPlace) ty58 rfl (hs.mem (List.Mem.head _))) ?_
    have hh : p.has = false := by simpa using hc0
    exact ⟨by simp only [cleanP, hh]; rfl, hs.drop1.drop1⟩
  · try simp only [decide_eq_true_eq, decide_eq_false_iff_not, Bool.not_eq_true', Bool.not_eq_false', beq_iff_eq, bne_iff_ne, beq_eq_false_iff_ne, bne_eq_false_iff_eq] at hc0
    refine cw_skip ?_
    refine cw_seq (cw_region ?_)
    refine l_loadO (α := GPlace) (β := GPlace) ty58 rfl (Lens.id GPlace) hs (List.Mem.tail _ (List.Mem.head _)) (by decide) ?_
    refine l_store0 (α := GPlace) (β := GPlace) ty58 rfl rfl (Lens.id GPlace) hs ?_; clear hs; intro w hs
    refine lw_nil ?_
    refine cw_ret ?_
    repeat (with_reducible first | refine tf_ret ?_ | refine ib_ret ?_)
    refine fin1 (fn := Tryz.f77) rfl (rv_own (α := GPlace) ty58 rfl (hs.mem (List.Mem.head _))) ?_
    have hh : p.has = true := by simpa using hc0
    exact ⟨by simp only [cleanP, hh]; rfl, hs.drop1.drop1⟩
def localsP (l : List GPlace) : List UInt32 := (l.filter (·.has)).map (·.session.loc)
theorem localsP_snoc {xs : List GPlace} {i : Nat} (h : i < xs.length) : localsP (xs.take (i + 1)) = localsP (xs.take i) ++ if xs[i].has then [xs[i].session.loc] else [] := by
  unfold localsP
  rw [List.take_succ_eq_append_getElem h, List.filter_append, List.map_append]
  congr 1
  by_cases hc : xs[i].has <;> simp [List.filter_cons, hc]
theorem localsP_len (xs : List GPlace) : (localsP xs).length ≤ xs.length := by unfold localsP; rw [List.length_map]; exact List.length_filter_le _ _
theorem s_locals {a : Option Addr} {cap : Nat} {xs : List GPlace} (hs : St W0 V w L) (hl : Sl V 58 a cap xs) (hlen : xs.length < 1000000) :
    Calls Tryz.prog 76 #[.slice a xs.length cap] w (okR fun v w' => Own W0 V w' L 46 v (localsP xs)) := by
  refine fn_enter (n := 22) Tryz.func76 rfl rfl rfl ?_
  intro f hf
  have e0 := hf 0
  simp only [Array.getD_eq_getD_getElem?, List.getElem?_toArray, List.getElem?_cons_zero, List.getElem?_cons_succ, Option.getD_some] at e0
  clear hf
  refine cw_seq (cw_region ?_)
  refine l_pur (p_assignC) (by decide) ?_
  refine lw_nil ?_
  refine cw_seq (cw_region ?_)
  refine l_pur (p_assignC) (by decide) ?_
  refine lw_nil ?_
  refine cw_seq ?_
  refine cw_seq (cw_region ?_)
  refine l_pur (p_move e0) (by decide) ?_
  refine l_pur (p_len Tryz.underlying201 rfl) (by decide) ?_
  refine l_pur (p_moveC) (by decide) ?_
  refine lw_nil ?_
  refine cw_block ?_
  refine cw_loop (fun q f w => ∃ (i : Nat) (v : Value), q = xs.length - i ∧ i ≤ xs.length ∧ f 8 = vi i ∧ f 6 = .slice a xs.length cap ∧ f 7 = vi xs.length ∧ f 3 = v ∧ Own W0 V w L 46 v (localsP (xs.take i))) (xs.length) ?_ ?_
  · exact ⟨0, _, rfl, Nat.zero_le _, rfl, rfl, rfl, rfl, Own.nil hs⟩
  · intro q f w hI
    obtain ⟨i, v, rfl, hi, e8, e6, e7, e3, ho⟩ := hI
    clear hs
    obtain ⟨A, hs, hA⟩ := ho.open'
    obtain ⟨a2, c2, rfl⟩ := hA.len
    have hll : (localsP (xs.take i)).length ≤ xs.length := Nat.le_trans (localsP_len _) (by simp; omega)
    refine cw_seq (cw_region ?_)
    refine l_pur (p_lss e8 e7) (by decide) ?_
    refine lw_nil ?_
    refine cw_seq ?_
    refine cw_cond _ rfl (fun hc0 => ?_) (fun hc0 => ?_)
    · have hlt : i < xs.length := by have := of_decide_eq_true hc0; omega
      have hsn := localsP_snoc hlt
      refine cw_skip ?_
      refine cw_seq ?_
      refine cw_block ?_
      refine cw_seq (cw_region ?_)
      refine l_indexSl (α := GPlace) el201.sl ty58 e6 rfl e8 (by first | omega | (dsimp only; omega) | (simp; omega)) hl (by decide) ?_; intro bb10 oo10 cc10 hb10 ha10
      refine l_loadV (α := GPlace) ty58 rfl hs hb10 ha10 (by decide) ?_
      refine l_alloc z58 hs (by decide) ?_; clear hs; intro b5 w hs
      refine l_store0 (α := GPlace) (β := GPlace) ty58 rfl rfl (Lens.id GPlace) hs ?_; clear hs; intro w hs
      refine lw_nil ?_
      refine cw_seq (cw_region ?_)
      refine l_pur (p_fieldAddr fo58_0 rfl) (by decide) ?_
      refine l_loadO (α := GPlace) (β := Bool) ty4 rfl GPlace.l_has hs (List.Mem.head _) (by decide) ?_
      refine lw_nil ?_
      refine cw_cond _ rfl (fun hc1 => ?_) (fun hc1 => ?_)
      · try simp only [decide_eq_true_eq, decide_eq_false_iff_not, Bool.not_eq_true', Bool.not_eq_false', beq_iff_eq, bne_iff_ne, beq_eq_false_iff_ne, bne_eq_false_iff_eq] at hc1
        refine cw_region ?_
        refine l_pur (p_move e3) (by decide) ?_
        refine l_pur (p_fieldAddr fo58_1 rfl) (by decide) ?_
        refine l_pur (p_fieldAddr fo56_0 rfl) (by decide) ?_
        refine l_loadO (α := GPlace) (β := UInt32) ty46 rfl (Lens.comp GPlace.l_session GSession.l_loc) hs (List.Mem.head _) (by decide) ?_
        refine l_buildSlice1 (α := UInt32) el130 z46 rfl (by decide) hs (by decide) ?_; clear hs; intro b18 w hs
        refine l_append1 el130 rfl rfl (hA.close2 hs) (by omega) (by omega) (by decide) ?_; intro v2 w ho
        obtain ⟨a3, c3, rfl⟩ := ho.len
        refine l_pur (p_assignL rfl) (by decide) ?_
        refine lw_nil ?_
        refine cw_region ?_
        refine l_pur (p_add64 e8 rfl (by first | omega | (dsimp only; omega) | (simp; omega))) (by decide) ?_
        refine l_pur (p_moveI rfl) (by decide) ?_
        refine lw_nil ?_
        first
        | (rw [if_neg (by simp [hc1])] at hsn; exact ⟨_, by omega, i + 1, _, rfl, hlt, rfl, e6, e7, e3, by rw [hsn, List.append_nil]; exact (hA.close1 hs).drop1⟩)
        | (rw [if_pos (by simp [hc1])] at hsn; exact ⟨_, by omega, i + 1, _, rfl, hlt, rfl, e6, e7, rfl, by rw [hsn]; exact ho.drop1⟩)
      · try simp only [decide_eq_true_eq, decide_eq_false_iff_not, Bool.not_eq_true', Bool.not_eq_false', beq_iff_eq, bne_iff_ne, beq_eq_false_iff_ne, bne_eq_false_iff_eq] at hc1
        refine cw_skip ?_
        refine cw_region ?_
        refine l_pur (p_add64 e8 rfl (by first | omega | (dsimp only; omega) | (simp; omega))) (by decide) ?_
        refine l_pur (p_moveI rfl) (by decide) ?_
        refine lw_nil ?_
        first
        | (rw [if_neg (by simp [hc1])] at hsn; exact ⟨_, by omega, i + 1, _, rfl, hlt, rfl, e6, e7, e3, by rw [hsn, List.append_nil]; exact (hA.close1 hs).drop1⟩)
        | (rw [if_pos (by simp [hc1])] at hsn; exact ⟨_, by omega, i + 1, _, rfl, hlt, rfl, e6, e7, rfl, by rw [hsn]; exact ho.drop1⟩)
    · have hge : i = xs.length := by have := of_decide_eq_false hc0; omega
      refine cw_exit ?_
      refine cw_seq (cw_region ?_)
      refine l_pur (p_move e3) (by decide) ?_
      refine l_pur (p_assignL rfl) (by decide) ?_
      refine lw_nil ?_
      refine cw_ret ?_
      repeat (with_reducible first | refine tf_ret ?_ | refine ib_ret ?_)
      refine fin1 (fn := Tryz.f76) rfl (rv_tmpL rfl) ?_
      subst hge
      have := hA.close0 hs
      rwa [List.take_length] at this ⊢
def ansR (r : GRing) (s : GSession) : GRing := { previous := GPlace.zero, current := r.current, next := ⟨true, s⟩ }
theorem s_answer {r : GRing} {s : GSession} (hs : St W0 V w L) :
    Calls Tryz.prog 42 #[val r, val s] w (okR fun v w' => ∃ v2, v = .tuple #[val (ansR r s), v2] ∧ Own W0 V w' L 46 v2 (localsP [r.previous, r.next])) := by
  refine fn_enter (n := 17) Tryz.func42 rfl rfl rfl ?_
  intro f hf
  have e0 := hf 0
  have e1 := hf 1
  simp only [Array.getD_eq_getD_getElem?, List.getElem?_toArray, List.getElem?_cons_zero, List.getElem?_cons_succ, Option.getD_some] at e0 e1
  clear hf
  refine cw_seq (cw_region ?_)
  refine l_box (α := GRing) e0 hs (by decide) ?_; clear hs; intro b2 w hs
  refine l_box (α := GSession) e1 hs (by decide) ?_; clear hs; intro b3 w hs
  refine l_alloc z60 hs (by decide) ?_; clear hs; intro b4 w hs
  refine l_pur (p_assignC) (by decide) ?_
  refine lw_nil ?_
  refine cw_seq ?_
  have hS := Hold.cons hs (List.Mem.tail _ (List.Mem.head _)) (Hold.cons hs (List.Mem.tail _ (List.Mem.tail _ (List.Mem.head _))) (Hold.nil hs (PH.refl _)))
  refine cw_planH (.take 0 (.take 1 (.take 2 (.take 3 (.take 4 (.take 5 (.take 6 (.take 7 (.take 8 (.one 9 (.one 10 (.one 11 (.take 12 .done))))))))))))) 2047 hmix (by kernel_rfl) (fun _ _ _ h => h) hs hS ?_
  clear hS; clear hs; intro w hs; have hS := Hold.cons hs (List.Mem.tail _ (List.Mem.head _)) (Hold.cons hs (List.Mem.tail _ (List.Mem.tail _ (List.Mem.head _))) (Hold.nil hs (PH.refl _)))
  refine pw_pur rfl (wt_free rfl) (p_fieldAddr fo60_1 rfl) (by decide) (fun _ => hS) ?_
  refine pw_ld rfl (wt_free rfl) (by kernel_rfl) (Hold.runs_loadO (α := GRing) (β := GPlace) ty58 rfl GRing.l_current (List.Mem.tail _ (List.Mem.head _))) (by decide) hS ?_
  refine pw_ld rfl (wt_free rfl) (by kernel_rfl) (Hold.runs_loadO (α := GSession) (β := GSession) ty56 rfl (Lens.id GSession) (List.Mem.head _)) (by decide) hS ?_
  refine pw_pur rfl (wt_free rfl) (p_buildO (α := GPlace) Tryz.underlying58 (by kernel_rfl) z58 rfl (.cons (β := Bool) rfl pl58_0 GPlace.l_has (.cons (β := GSession) rfl pl58_1 GPlace.l_session (.nil _)))) (by decide) (fun _ => hS) ?_
  refine pw_pur rfl (wt_free rfl) (p_buildO (α := GRing) Tryz.underlying60 (by kernel_rfl) z60 rfl (.cons (β := GPlace) rfl pl60_1 GRing.l_current (.cons (β := GPlace) rfl pl60_2 GRing.l_next (.nil _)))) (by decide) (fun _ => hS) ?_
  refine pw_pur rfl (wt_free rfl) (p_fieldAddr fo60_0 rfl) (by decide) (fun _ => hS) ?_
  refine pw_ld rfl (wt_free rfl) (by kernel_rfl) (Hold.runs_loadO (α := GRing) (β := GPlace) ty58 rfl GRing.l_previous (List.Mem.tail _ (List.Mem.head _))) (by decide) hS ?_
  refine pw_pur rfl (wt_free rfl) (p_fieldAddr fo60_2 rfl) (by decide) (fun _ => hS) ?_
  refine pw_ld rfl (wt_free rfl) (by kernel_rfl) (Hold.runs_loadO (α := GRing) (β := GPlace) ty58 rfl GRing.l_next (List.Mem.tail _ (List.Mem.head _))) (by decide) hS ?_
  refine pw_one ?_
  refine ow_buildSlice2 (α := GPlace) rfl (wt_free rfl) el201 z58 rfl rfl (by decide) hs (by decide) ?_; clear hs; intro b15 w hs
  obtain ⟨V1, a1, c1, hV1, hs, hv1, hl1⟩ := (Own.ofArr hs).freeze
  cases hv1
  refine ⟨fun _ => Hold.cons hs (List.Mem.tail _ (List.Mem.head _)) (Hold.cons hs (List.Mem.tail _ (List.Mem.tail _ (List.Mem.head _))) (Hold.nil hs hV1)), ?_⟩; have hS := Hold.cons hs (List.Mem.tail _ (List.Mem.head _)) (Hold.cons hs (List.Mem.tail _ (List.Mem.tail _ (List.Mem.head _))) (Hold.nil hs hV1))
  refine pw_one ?_
  refine ow_call1 rfl (wt_free rfl) fn76 (s_locals hs hl1 (by simp)) rfl ?_ (by decide)
  clear hs hS
  intro v w ho
  obtain ⟨a2, c2, rfl⟩ := ho.len
  refine ⟨fun _ => Hold.cons ho.st (List.Mem.tail _ (List.Mem.head _)) (Hold.cons ho.st (List.Mem.tail _ (List.Mem.tail _ (List.Mem.head _))) (Hold.nil ho.st hV1)), ?_⟩; have hS := Hold.cons ho.st (List.Mem.tail _ (List.Mem.head _)) (Hold.cons ho.st (List.Mem.tail _ (List.Mem.tail _ (List.Mem.head _))) (Hold.nil ho.st hV1))
  refine pw_one ?_
  obtain ⟨A, hs, hA⟩ := ho.open'
  refine ow_storeR (α := GRing) (β := GRing) rfl (wt_free rfl) ty60 rfl rfl (Lens.id _) hs (Rep.app Rep.head) ?_
  clear hs
  intro w hs
  have ho2 := hA.close0 hs
  refine ⟨fun h => absurd h (by decide), ?_⟩; have hS := True.intro
  refine pw_pur rfl (wt_free rfl) (p_assignL rfl) (by decide) (fun h => absurd h (by decide)) ?_
  refine pw_done ?_
  refine cw_ret ?_
  repeat (with_reducible first | refine tf_ret ?_ | refine ib_ret ?_)
  refine fin2 (fn := Tryz.f42) rfl (rv_own (α := GRing) ty60 rfl (ho2.st.mem (List.Mem.head _))) (rv_tmpL rfl) ?_
  exact ⟨_, rfl, (ho2.drop1.drop1.drop1).weaken hV1⟩
def begR (r : GRing) (s : GSession) : GRing := if r.next.has then { previous := r.next, current := ⟨true, s⟩, next := GPlace.zero } else { previous := cleanP r.current, current := ⟨true, s⟩, next := GPlace.zero }
def begD (r : GRing) : List UInt32 := if r.next.has then localsP [r.previous, r.current] else localsP [r.previous]
theorem s_begin {r : GRing} {s : GSession} (hs : St W0 V w L) :
    Calls Tryz.prog 41 #[val r, val s] w (okR fun v w' => ∃ v2, v = .tuple #[val (begR r s), v2] ∧ Own W0 V w' L 46 v2 (begD r)) := by
  refine fn_enter (n := 31) Tryz.func41 rfl rfl rfl ?_
  intro f hf
  have e0 := hf 0
  have e1 := hf 1
  simp only [Array.getD_eq_getD_getElem?, List.getElem?_toArray, List.getElem?_cons_zero, List.getElem?_cons_succ, Option.getD_some] at e0 e1
  clear hf
  refine cw_seq (cw_region ?_)
  refine l_box (α := GRing) e0 hs (by decide) ?_; clear hs; intro b2 w hs
  refine l_box (α := GSession) e1 hs (by decide) ?_; clear hs; intro b3 w hs
  refine l_alloc z60 hs (by decide) ?_; clear hs; intro b4 w hs
  refine l_pur (p_assignC) (by decide) ?_
  refine lw_nil ?_
  refine cw_seq (cw_region ?_)
  refine l_loadO (α := GSession) (β := GSession) ty56 rfl (Lens.id GSession) hs (List.Mem.tail _ (List.Mem.head _)) (by decide) ?_
  refine l_pur (p_buildO (α := GPlace) Tryz.underlying58 (by kernel_rfl) z58 rfl (.cons (β := Bool) rfl pl58_0 GPlace.l_has (.cons (β := GSession) rfl pl58_1 GPlace.l_session (.nil _)))) (by decide) ?_
  refine l_alloc z58 hs (by decide) ?_; clear hs; intro b6 w hs
  refine l_store0 (α := GPlace) (β := GPlace) ty58 rfl rfl (Lens.id GPlace) hs ?_; clear hs; intro w hs
  refine lw_nil ?_
  refine cw_seq ?_
  refine cw_seq (cw_region ?_)
  refine l_pur (p_fieldAddr fo60_2 rfl) (by decide) ?_
  refine l_pur (p_fieldAddr fo58_0 rfl) (by decide) ?_
  refine l_loadO (α := GRing) (β := Bool) ty4 rfl (Lens.comp GRing.l_next GPlace.l_has) hs (List.Mem.tail _ (List.Mem.tail _ (List.Mem.tail _ (List.Mem.head _)))) (by decide) ?_
  refine lw_nil ?_
  refine cw_cond _ rfl (fun hc0 => ?_) (fun hc0 => ?_)
  · try simp only [decide_eq_true_eq, decide_eq_false_iff_not, Bool.not_eq_true', Bool.not_eq_false', beq_iff_eq, bne_iff_ne, beq_eq_false_iff_ne, bne_eq_false_iff_eq] at hc0
    refine cw_seq ?_
    have hS := Hold.cons hs (List.Mem.head _) (Hold.cons hs (List.Mem.tail _ (List.Mem.tail _ (List.Mem.tail _ (List.Mem.head _)))) (Hold.nil hs (PH.refl _)))
    refine cw_planH (.take 0 (.take 1 (.take 2 (.take 3 (.take 4 (.take 5 (.take 6 (.take 7 (.one 8 (.one 9 (.one 10 (.take 11 .done)))))))))))) 1023 hmix (by kernel_rfl) (fun _ _ _ h => h) hs hS ?_
    clear hS; clear hs; intro w hs; have hS := Hold.cons hs (List.Mem.head _) (Hold.cons hs (List.Mem.tail _ (List.Mem.tail _ (List.Mem.tail _ (List.Mem.head _)))) (Hold.nil hs (PH.refl _)))
    refine pw_pur rfl (wt_free rfl) (p_fieldAddr fo60_2 rfl) (by decide) (fun _ => hS) ?_
    refine pw_ld rfl (wt_free rfl) (by kernel_rfl) (Hold.runs_loadO (α := GRing) (β := GPlace) ty58 rfl GRing.l_next (List.Mem.tail _ (List.Mem.head _))) (by decide) hS ?_
    refine pw_ld rfl (wt_free rfl) (by kernel_rfl) (Hold.runs_loadO (α := GPlace) (β := GPlace) ty58 rfl (Lens.id GPlace) (List.Mem.head _)) (by decide) hS ?_
    refine pw_pur rfl (wt_free rfl) (p_buildO (α := GRing) Tryz.underlying60 (by kernel_rfl) z60 rfl (.cons (β := GPlace) rfl pl60_0 GRing.l_previous (.cons (β := GPlace) rfl pl60_1 GRing.l_current (.nil _)))) (by decide) (fun _ => hS) ?_
    refine pw_pur rfl (wt_free rfl) (p_fieldAddr fo60_0 rfl) (by decide) (fun _ => hS) ?_
    refine pw_ld rfl (wt_free rfl) (by kernel_rfl) (Hold.runs_loadO (α := GRing) (β := GPlace) ty58 rfl GRing.l_previous (List.Mem.tail _ (List.Mem.head _))) (by decide) hS ?_
    refine pw_pur rfl (wt_free rfl) (p_fieldAddr fo60_1 rfl) (by decide) (fun _ => hS) ?_
    refine pw_ld rfl (wt_free rfl) (by kernel_rfl) (Hold.runs_loadO (α := GRing) (β := GPlace) ty58 rfl GRing.l_current (List.Mem.tail _ (List.Mem.head _))) (by decide) hS ?_
    refine pw_one ?_
    refine ow_buildSlice2 (α := GPlace) rfl (wt_free rfl) el201 z58 rfl rfl (by decide) hs (by decide) ?_; clear hs; intro b20 w hs
    obtain ⟨V1, a1, c1, hV1, hs, hv1, hl1⟩ := (Own.ofArr hs).freeze
    cases hv1
    refine ⟨fun _ => Hold.cons hs (List.Mem.head _) (Hold.cons hs (List.Mem.tail _ (List.Mem.tail _ (List.Mem.tail _ (List.Mem.head _)))) (Hold.nil hs hV1)), ?_⟩; have hS := Hold.cons hs (List.Mem.head _) (Hold.cons hs (List.Mem.tail _ (List.Mem.tail _ (List.Mem.tail _ (List.Mem.head _)))) (Hold.nil hs hV1))
    refine pw_one ?_
    refine ow_call1 rfl (wt_free rfl) fn76 (s_locals hs hl1 (by simp)) rfl ?_ (by decide)
    clear hs hS
    intro v w ho
    obtain ⟨a2, c2, rfl⟩ := ho.len
    refine ⟨fun _ => Hold.cons ho.st (List.Mem.head _) (Hold.cons ho.st (List.Mem.tail _ (List.Mem.tail _ (List.Mem.tail _ (List.Mem.head _)))) (Hold.nil ho.st hV1)), ?_⟩; have hS := Hold.cons ho.st (List.Mem.head _) (Hold.cons ho.st (List.Mem.tail _ (List.Mem.tail _ (List.Mem.tail _ (List.Mem.head _)))) (Hold.nil ho.st hV1))
    refine pw_one ?_
    obtain ⟨A, hs, hA⟩ := ho.open'
    refine ow_storeR (α := GRing) (β := GRing) rfl (wt_free rfl) ty60 rfl rfl (Lens.id _) hs (Rep.app (Rep.tail Rep.head)) ?_
    clear hs
    intro w hs
    have ho2 := hA.close0 hs
    refine ⟨fun h => absurd h (by decide), ?_⟩; have hS := True.intro
    refine pw_pur rfl (wt_free rfl) (p_assignL rfl) (by decide) (fun h => absurd h (by decide)) ?_
    refine pw_done ?_
    refine cw_ret ?_
    repeat (with_reducible first | refine tf_ret ?_ | refine ib_ret ?_)
    refine fin2 (fn := Tryz.f41) rfl (rv_own (α := GRing) ty60 rfl (ho2.st.mem (List.Mem.tail _ (List.Mem.head _)))) (rv_tmpL rfl) ?_
    first
    | (have hn : r.next.has = true := hc0
       rw [show begR r s = _ from if_pos hn, show begD r = _ from if_pos hn]
       exact ⟨_, rfl, (ho2.drop1.drop1.drop1.drop1).weaken hV1⟩)
    | (have hn : ¬ r.next.has = true := by simpa using hc0
       rw [show begR r s = _ from if_neg hn, show begD r = _ from if_neg hn]
       exact ⟨_, rfl, (ho2.drop1.drop1.drop1.drop1).weaken hV1⟩)
  · try simp only [decide_eq_true_eq, decide_eq_false_iff_not, Bool.not_eq_true', Bool.not_eq_false', beq_iff_eq, bne_iff_ne, beq_eq_false_iff_ne, bne_eq_false_iff_eq] at hc0
    refine cw_skip ?_
    refine cw_seq ?_
    have hS := Hold.cons hs (List.Mem.head _) (Hold.cons hs (List.Mem.tail _ (List.Mem.tail _ (List.Mem.tail _ (List.Mem.head _)))) (Hold.nil hs (PH.refl _)))
    refine cw_planH (.take 0 (.take 1 (.take 3 (.take 5 (.take 6 (.two 2 (.take 4 (.one 7 (.one 8 (.one 9 (.take 10 .done))))) 7 (.one 2 (.take 4 (.one 8 (.one 9 (.take 10 .done))))))))))) 511 hmix (by kernel_rfl) (fun _ _ _ h => h) hs hS ?_
    clear hS; clear hs; intro w hs; have hS := Hold.cons hs (List.Mem.head _) (Hold.cons hs (List.Mem.tail _ (List.Mem.tail _ (List.Mem.tail _ (List.Mem.head _)))) (Hold.nil hs (PH.refl _)))
    refine pw_pur rfl (wt_free rfl) (p_fieldAddr fo60_1 rfl) (by decide) (fun _ => hS) ?_
    refine pw_ld rfl (wt_free rfl) (by kernel_rfl) (Hold.runs_loadO (α := GRing) (β := GPlace) ty58 rfl GRing.l_current (List.Mem.tail _ (List.Mem.head _))) (by decide) hS ?_
    refine pw_ld rfl (wt_free rfl) (by kernel_rfl) (Hold.runs_loadO (α := GPlace) (β := GPlace) ty58 rfl (Lens.id GPlace) (List.Mem.head _)) (by decide) hS ?_
    refine pw_pur rfl (wt_free rfl) (p_fieldAddr fo60_0 rfl) (by decide) (fun _ => hS) ?_
    refine pw_ld rfl (wt_free rfl) (by kernel_rfl) (Hold.runs_loadO (α := GRing) (β := GPlace) ty58 rfl GRing.l_previous (List.Mem.tail _ (List.Mem.head _))) (by decide) hS ?_
    refine pw_two ?_ ?_
    · refine ow_call1 rfl (wt_free rfl) fn77 (s_clean hs) rfl ?_ (by decide)
      clear hs hS
      rintro _ w ⟨rfl, hs⟩
      refine ⟨fun _ => Hold.cons hs (List.Mem.head _) (Hold.cons hs (List.Mem.tail _ (List.Mem.tail _ (List.Mem.tail _ (List.Mem.head _)))) (Hold.nil hs (PH.refl _))), ?_⟩; have hS := Hold.cons hs (List.Mem.head _) (Hold.cons hs (List.Mem.tail _ (List.Mem.tail _ (List.Mem.tail _ (List.Mem.head _)))) (Hold.nil hs (PH.refl _)))
      refine pw_pur rfl (wt_free rfl) (p_buildO (α := GRing) Tryz.underlying60 (by kernel_rfl) z60 rfl (.cons (β := GPlace) rfl pl60_0 GRing.l_previous (.cons (β := GPlace) rfl pl60_1 GRing.l_current (.nil _)))) (by decide) (fun _ => hS) ?_
      refine pw_one ?_
      refine ow_buildSlice1 (α := GPlace) rfl (wt_free rfl) el201 z58 rfl (by decide) hs (by decide) ?_; clear hs; intro b29 w hs
      obtain ⟨V1, a1, c1, hV1, hs, hv1, hl1⟩ := (Own.of1 hs).freeze
      cases hv1
      refine ⟨fun _ => Hold.cons hs (List.Mem.head _) (Hold.cons hs (List.Mem.tail _ (List.Mem.tail _ (List.Mem.tail _ (List.Mem.head _)))) (Hold.nil hs hV1)), ?_⟩; have hS := Hold.cons hs (List.Mem.head _) (Hold.cons hs (List.Mem.tail _ (List.Mem.tail _ (List.Mem.tail _ (List.Mem.head _)))) (Hold.nil hs hV1))
      refine pw_one ?_
      refine ow_call1 rfl (wt_free rfl) fn76 (s_locals hs hl1 (by simp)) rfl ?_ (by decide)
      clear hs hS
      intro v w ho
      obtain ⟨a2, c2, rfl⟩ := ho.len
      refine ⟨fun _ => Hold.cons ho.st (List.Mem.head _) (Hold.cons ho.st (List.Mem.tail _ (List.Mem.tail _ (List.Mem.tail _ (List.Mem.head _)))) (Hold.nil ho.st hV1)), ?_⟩; have hS := Hold.cons ho.st (List.Mem.head _) (Hold.cons ho.st (List.Mem.tail _ (List.Mem.tail _ (List.Mem.tail _ (List.Mem.head _)))) (Hold.nil ho.st hV1))
      refine pw_one ?_
      obtain ⟨A, hs, hA⟩ := ho.open'
      refine ow_storeR (α := GRing) (β := GRing) rfl (wt_free rfl) ty60 rfl rfl (Lens.id _) hs (Rep.app (Rep.tail Rep.head)) ?_
      clear hs
      intro w hs
      have ho2 := hA.close0 hs
      refine ⟨fun h => absurd h (by decide), ?_⟩; have hS := True.intro
      refine pw_pur rfl (wt_free rfl) (p_assignL rfl) (by decide) (fun h => absurd h (by decide)) ?_
      refine pw_done ?_
      refine cw_ret ?_
      repeat (with_reducible first | refine tf_ret ?_ | refine ib_ret ?_)
      refine fin2 (fn := Tryz.f41) rfl (rv_own (α := GRing) ty60 rfl (ho2.st.mem (List.Mem.tail _ (List.Mem.head _)))) (rv_tmpL rfl) ?_
      first
      | (have hn : r.next.has = true := hc0
         rw [show begR r s = _ from if_pos hn, show begD r = _ from if_pos hn]
         exact ⟨_, rfl, (ho2.drop1.drop1.drop1.drop1).weaken hV1⟩)
      | (have hn : ¬ r.next.has = true := by simpa using hc0
         rw [show begR r s = _ from if_neg hn, show begD r = _ from if_neg hn]
         exact ⟨_, rfl, (ho2.drop1.drop1.drop1.drop1).weaken hV1⟩)
    · refine ow_buildSlice1 (α := GPlace) rfl (wt_free rfl) el201 z58 rfl (by decide) hs (by decide) ?_; clear hs; intro b29 w hs
      obtain ⟨V1, a1, c1, hV1, hs, hv1, hl1⟩ := (Own.of1 hs).freeze
      cases hv1
      refine ⟨fun _ => Hold.cons hs (List.Mem.head _) (Hold.cons hs (List.Mem.tail _ (List.Mem.tail _ (List.Mem.tail _ (List.Mem.head _)))) (Hold.nil hs hV1)), ?_⟩; have hS := Hold.cons hs (List.Mem.head _) (Hold.cons hs (List.Mem.tail _ (List.Mem.tail _ (List.Mem.tail _ (List.Mem.head _)))) (Hold.nil hs hV1))
      refine pw_one ?_
      refine ow_call1 rfl (wt_free rfl) fn77 (s_clean hs) rfl ?_ (by decide)
      clear hs hS
      rintro _ w ⟨rfl, hs⟩
      refine ⟨fun _ => Hold.cons hs (List.Mem.head _) (Hold.cons hs (List.Mem.tail _ (List.Mem.tail _ (List.Mem.tail _ (List.Mem.head _)))) (Hold.nil hs hV1)), ?_⟩; have hS := Hold.cons hs (List.Mem.head _) (Hold.cons hs (List.Mem.tail _ (List.Mem.tail _ (List.Mem.tail _ (List.Mem.head _)))) (Hold.nil hs hV1))
      refine pw_pur rfl (wt_free rfl) (p_buildO (α := GRing) Tryz.underlying60 (by kernel_rfl) z60 rfl (.cons (β := GPlace) rfl pl60_0 GRing.l_previous (.cons (β := GPlace) rfl pl60_1 GRing.l_current (.nil _)))) (by decide) (fun _ => hS) ?_
      refine pw_one ?_
      refine ow_call1 rfl (wt_free rfl) fn76 (s_locals hs hl1 (by simp)) rfl ?_ (by decide)
      clear hs hS
      intro v w ho
      obtain ⟨a2, c2, rfl⟩ := ho.len
      refine ⟨fun _ => Hold.cons ho.st (List.Mem.head _) (Hold.cons ho.st (List.Mem.tail _ (List.Mem.tail _ (List.Mem.tail _ (List.Mem.head _)))) (Hold.nil ho.st hV1)), ?_⟩; have hS := Hold.cons ho.st (List.Mem.head _) (Hold.cons ho.st (List.Mem.tail _ (List.Mem.tail _ (List.Mem.tail _ (List.Mem.head _)))) (Hold.nil ho.st hV1))
      refine pw_one ?_
      obtain ⟨A, hs, hA⟩ := ho.open'
      refine ow_storeR (α := GRing) (β := GRing) rfl (wt_free rfl) ty60 rfl rfl (Lens.id _) hs (Rep.app (Rep.tail Rep.head)) ?_
      clear hs
      intro w hs
      have ho2 := hA.close0 hs
      refine ⟨fun h => absurd h (by decide), ?_⟩; have hS := True.intro
      refine pw_pur rfl (wt_free rfl) (p_assignL rfl) (by decide) (fun h => absurd h (by decide)) ?_
      refine pw_done ?_
      refine cw_ret ?_
      repeat (with_reducible first | refine tf_ret ?_ | refine ib_ret ?_)
      refine fin2 (fn := Tryz.f41) rfl (rv_own (α := GRing) ty60 rfl (ho2.st.mem (List.Mem.tail _ (List.Mem.head _)))) (rv_tmpL rfl) ?_
      first
      | (have hn : r.next.has = true := hc0
         rw [show begR r s = _ from if_pos hn, show begD r = _ from if_pos hn]
         exact ⟨_, rfl, (ho2.drop1.drop1.drop1.drop1).weaken hV1⟩)
      | (have hn : ¬ r.next.has = true := by simpa using hc0
         rw [show begR r s = _ from if_neg hn, show begD r = _ from if_neg hn]
         exact ⟨_, rfl, (ho2.drop1.drop1.drop1.drop1).weaken hV1⟩)
end Go.Bur
namespace Go.Bur
open Go Go.RowKit Go.Proofs
set_option maxHeartbeats 4000000
variable {W0 : World} {V : PH} {w : World} {L : List (Nat × Obj)}
def findS (xs : List GSlot) (k : UInt32) : Option GSlot := xs.find? fun s => decide (s.index = k)
theorem findS_none {xs : List GSlot} {k : UInt32} (h : ∀ j (h : j < xs.length), xs[j].index ≠ k) : findS xs k = none := by
  unfold findS
  rw [List.find?_eq_none]
  intro x hx
  obtain ⟨j, hj, rfl⟩ := List.getElem_of_mem hx
  simpa using h j hj
theorem findS_some {xs : List GSlot} {k : UInt32} {i : Nat} (hi : i < xs.length) (h : ∀ j (h : j < xs.length), j < i → xs[j].index ≠ k) (he : xs[i].index = k) : findS xs k = some xs[i] := by
  unfold findS
  rw [List.find?_eq_some_iff_getElem]
  exact ⟨by simpa using he, i, hi, rfl, fun j hj => by simpa using h j (by omega) hj⟩
theorem s_findslot {a : Option Addr} {cap : Nat} {xs : List GSlot} {k : UInt32} (hs : St W0 V w L) (hl : Sl V 69 a cap xs) (hlen : xs.length < 1000000) :
    Calls Tryz.prog 38 #[.slice a xs.length cap, val k] w (okR fun v w' => v = .tuple #[val ((findS xs k).getD GSlot.zero), .bool (findS xs k).isSome] ∧ St W0 V w' L) := by
  refine fn_enter (n := 21) Tryz.func38 rfl rfl rfl ?_
  intro f hf
  have e0 := hf 0
  have e1 := hf 1
  simp only [Array.getD_eq_getD_getElem?, List.getElem?_toArray, List.getElem?_cons_zero, List.getElem?_cons_succ, Option.getD_some] at e0 e1
  clear hf
  refine cw_seq (cw_region ?_)
  refine l_alloc z69 hs (by decide) ?_; clear hs; intro b4 w hs
  refine l_pur (p_assignC) (by decide) ?_
  refine lw_nil ?_
  refine cw_seq ?_
  refine cw_seq (cw_region ?_)
  refine l_pur (p_move e0) (by decide) ?_
  refine l_pur (p_len Tryz.underlying30 rfl) (by decide) ?_
  refine l_pur (p_moveC) (by decide) ?_
  refine lw_nil ?_
  refine cw_block ?_
  refine cw_loop (fun q f w => ∃ (i : Nat), q = xs.length - i ∧ i ≤ xs.length ∧ f 10 = vi i ∧ f 8 = .slice a xs.length cap ∧ f 9 = vi xs.length ∧ f 4 = ptr b4 0 ∧ f 1 = val k ∧ (∀ j (h : j < xs.length), j < i → xs[j].index ≠ k) ∧ St W0 V w ((b4, blk 69 GSlot.zero) :: L)) (xs.length) ?_ ?_
  · exact ⟨0, rfl, Nat.zero_le _, rfl, rfl, rfl, rfl, e1, fun j _ h => by omega, hs⟩
  · intro q f w hI
    obtain ⟨i, rfl, hi, e10, e8, e9, e4, e1, hno, hs⟩ := hI
    refine cw_seq (cw_region ?_)
    refine l_pur (p_lss e10 e9) (by decide) ?_
    refine lw_nil ?_
    refine cw_seq ?_
    refine cw_cond _ rfl (fun hc0 => ?_) (fun hc0 => ?_)
    · have hlt : i < xs.length := by have := of_decide_eq_true hc0; omega
      refine cw_skip ?_
      refine cw_seq ?_
      refine cw_block ?_
      refine cw_seq (cw_region ?_)
      refine l_indexSl (α := GSlot) el30.sl ty69 e8 rfl e10 (by first | omega | (dsimp only; omega) | (simp; omega)) hl (by decide) ?_; intro bb12 oo12 cc12 hb12 ha12
      refine l_loadV (α := GSlot) ty69 rfl hs hb12 ha12 (by decide) ?_
      refine l_alloc z69 hs (by decide) ?_; clear hs; intro b7 w hs
      refine l_store0 (α := GSlot) (β := GSlot) ty69 rfl rfl (Lens.id GSlot) hs ?_; clear hs; intro w hs
      refine lw_nil ?_
      refine cw_seq (cw_region ?_)
      refine l_pur (p_fieldAddr fo69_0 rfl) (by decide) ?_
      refine l_loadO (α := GSlot) (β := UInt32) ty46 rfl GSlot.l_index hs (List.Mem.head _) (by decide) ?_
      refine l_pur (p_move e1) (by decide) ?_
      refine l_pur (p_eql_u32 rfl rfl) (by decide) ?_
      refine lw_nil ?_
      refine cw_cond _ rfl (fun hc1 => ?_) (fun hc1 => ?_)
      · try simp only [decide_eq_true_eq, decide_eq_false_iff_not, Bool.not_eq_true', Bool.not_eq_false', beq_iff_eq, bne_iff_ne, beq_eq_false_iff_ne, bne_eq_false_iff_eq] at hc1
        refine cw_seq (cw_region ?_)
        refine l_loadO (α := GSlot) (β := GSlot) ty69 rfl (Lens.id GSlot) hs (List.Mem.head _) (by decide) ?_
        refine l_store1 (α := GSlot) (β := GSlot) ty69 e4 rfl (Lens.id GSlot) hs ?_; clear hs; intro w hs
        refine l_pur (p_assignC) (by decide) ?_
        refine lw_nil ?_
        refine cw_ret ?_
        repeat (with_reducible first | refine tf_ret ?_ | refine ib_ret ?_)
        refine fin2 (fn := Tryz.f38) rfl (rv_own (α := GSlot) ty69 e4 (hs.mem (List.Mem.tail _ (List.Mem.head _)))) (rv_tmpB rfl) ?_
        have hf := findS_some hlt hno hc1
        exact ⟨by rw [hf]; rfl, hs.drop1.drop1⟩
      · try simp only [decide_eq_true_eq, decide_eq_false_iff_not, Bool.not_eq_true', Bool.not_eq_false', beq_iff_eq, bne_iff_ne, beq_eq_false_iff_ne, bne_eq_false_iff_eq] at hc1
        refine cw_skip ?_
        refine cw_region ?_
        refine l_pur (p_add64 e10 rfl (by first | omega | (dsimp only; omega) | (simp; omega))) (by decide) ?_
        refine l_pur (p_moveI rfl) (by decide) ?_
        refine lw_nil ?_
        refine ⟨_, by omega, i + 1, rfl, hlt, rfl, e8, e9, e4, e1, fun j h hj => ?_, hs.drop1⟩
        by_cases hji : j < i
        · exact hno j h hji
        · obtain rfl : j = i := by omega
          exact hc1
    · have hge : i = xs.length := by have := of_decide_eq_false hc0; omega
      refine cw_exit ?_
      refine cw_seq (cw_region ?_)
      refine l_pur (p_buildO (α := GSlot) Tryz.underlying69 (by kernel_rfl) z69 rfl (.nil _)) (by decide) ?_
      refine l_store0 (α := GSlot) (β := GSlot) ty69 e4 rfl (Lens.id GSlot) hs ?_; clear hs; intro w hs
      refine l_pur (p_assignC) (by decide) ?_
      refine lw_nil ?_
      refine cw_ret ?_
      repeat (with_reducible first | refine tf_ret ?_ | refine ib_ret ?_)
      refine fin2 (fn := Tryz.f38) rfl (rv_own (α := GSlot) ty69 e4 (hs.mem (List.Mem.head _))) (rv_tmpB rfl) ?_
      have hf := findS_none (k := k) fun j h => hno j h (by omega)
      exact ⟨by rw [hf]; rfl, hs.drop1⟩
def dropS (xs : List GSlot) (k : UInt32) : List GSlot := xs.filter fun s => decide (s.index ≠ k)
theorem dropS_snoc {xs : List GSlot} {k : UInt32} {i : Nat} (h : i < xs.length) : dropS (xs.take (i + 1)) k = dropS (xs.take i) k ++ if xs[i].index ≠ k then [xs[i]] else [] := by
  unfold dropS
  rw [List.take_succ_eq_append_getElem h, List.filter_append]
  congr 1
  by_cases hc : xs[i].index ≠ k <;> simp [List.filter_cons, hc]
theorem dropS_len (xs : List GSlot) (k : UInt32) : (dropS xs k).length ≤ xs.length := List.length_filter_le _ _
theorem s_dropslot {a : Option Addr} {cap : Nat} {xs : List GSlot} {k : UInt32} (hs : St W0 V w L) (hl : Sl V 69 a cap xs) (hlen : xs.length < 1000000) :
    Calls Tryz.prog 78 #[.slice a xs.length cap, val k] w (okR fun v w' => Own W0 V w' L 69 v (dropS xs k)) := by
  refine fn_enter (n := 24) Tryz.func78 rfl rfl rfl ?_
  intro f hf
  have e0 := hf 0
  have e1 := hf 1
  simp only [Array.getD_eq_getD_getElem?, List.getElem?_toArray, List.getElem?_cons_zero, List.getElem?_cons_succ, Option.getD_some] at e0 e1
  clear hf
  refine cw_seq (cw_region ?_)
  refine l_pur (p_assignC) (by decide) ?_
  refine lw_nil ?_
  refine cw_seq (cw_region ?_)
  refine l_pur (p_assignC) (by decide) ?_
  refine lw_nil ?_
  refine cw_seq ?_
  refine cw_seq (cw_region ?_)
  refine l_pur (p_move e0) (by decide) ?_
  refine l_pur (p_len Tryz.underlying30 rfl) (by decide) ?_
  refine l_pur (p_moveC) (by decide) ?_
  refine lw_nil ?_
  refine cw_block ?_
  refine cw_loop (fun q f w => ∃ (i : Nat) (v : Value), q = xs.length - i ∧ i ≤ xs.length ∧ f 10 = vi i ∧ f 8 = .slice a xs.length cap ∧ f 9 = vi xs.length ∧ f 5 = v ∧ f 1 = val k ∧ Own W0 V w L 69 v (dropS (xs.take i) k)) (xs.length) ?_ ?_
  · exact ⟨0, _, rfl, Nat.zero_le _, rfl, rfl, rfl, rfl, e1, Own.nil hs⟩
  · intro q f w hI
    obtain ⟨i, v, rfl, hi, e10, e8, e9, e5, e1, ho⟩ := hI
    clear hs
    obtain ⟨A, hs, hA⟩ := ho.open'
    obtain ⟨a2, c2, rfl⟩ := hA.len
    have hll : (dropS (xs.take i) k).length ≤ xs.length := Nat.le_trans (dropS_len _ _) (by simp; omega)
    refine cw_seq (cw_region ?_)
    refine l_pur (p_lss e10 e9) (by decide) ?_
    refine lw_nil ?_
    refine cw_seq ?_
    refine cw_cond _ rfl (fun hc0 => ?_) (fun hc0 => ?_)
    · have hlt : i < xs.length := by have := of_decide_eq_true hc0; omega
      have hsn := dropS_snoc (k := k) hlt
      refine cw_skip ?_
      refine cw_seq ?_
      refine cw_block ?_
      refine cw_seq (cw_region ?_)
      refine l_indexSl (α := GSlot) el30.sl ty69 e8 rfl e10 (by first | omega | (dsimp only; omega) | (simp; omega)) hl (by decide) ?_; intro bb12 oo12 cc12 hb12 ha12
      refine l_loadV (α := GSlot) ty69 rfl hs hb12 ha12 (by decide) ?_
      refine l_alloc z69 hs (by decide) ?_; clear hs; intro b7 w hs
      refine l_store0 (α := GSlot) (β := GSlot) ty69 rfl rfl (Lens.id GSlot) hs ?_; clear hs; intro w hs
      refine lw_nil ?_
      refine cw_seq (cw_region ?_)
      refine l_pur (p_fieldAddr fo69_0 rfl) (by decide) ?_
      refine l_loadO (α := GSlot) (β := UInt32) ty46 rfl GSlot.l_index hs (List.Mem.head _) (by decide) ?_
      refine l_pur (p_move e1) (by decide) ?_
      refine l_pur (p_neq_u32 rfl rfl) (by decide) ?_
      refine lw_nil ?_
      refine cw_cond _ rfl (fun hc1 => ?_) (fun hc1 => ?_)
      · try simp only [decide_eq_true_eq, decide_eq_false_iff_not, Bool.not_eq_true', Bool.not_eq_false', beq_iff_eq, bne_iff_ne, beq_eq_false_iff_ne, bne_eq_false_iff_eq] at hc1
        refine cw_region ?_
        refine l_pur (p_move e5) (by decide) ?_
        refine l_loadO (α := GSlot) (β := GSlot) ty69 rfl (Lens.id GSlot) hs (List.Mem.head _) (by decide) ?_
        refine l_buildSlice1 (α := GSlot) el30 z69 rfl (by decide) hs (by decide) ?_; clear hs; intro b20 w hs
        refine l_append1 el30 rfl rfl (hA.close2 hs) (by omega) (by omega) (by decide) ?_; intro v2 w ho
        obtain ⟨a3, c3, rfl⟩ := ho.len
        refine l_pur (p_assignL rfl) (by decide) ?_
        refine lw_nil ?_
        refine cw_region ?_
        refine l_pur (p_add64 e10 rfl (by first | omega | (dsimp only; omega) | (simp; omega))) (by decide) ?_
        refine l_pur (p_moveI rfl) (by decide) ?_
        refine lw_nil ?_
        first
        | (rw [if_neg (by simp [hc1])] at hsn; exact ⟨_, by omega, i + 1, _, rfl, hlt, rfl, e8, e9, e5, e1, by rw [hsn, List.append_nil]; exact (hA.close1 hs).drop1⟩)
        | (rw [if_pos (by simp [hc1])] at hsn; exact ⟨_, by omega, i + 1, _, rfl, hlt, rfl, e8, e9, rfl, e1, by rw [hsn]; exact ho.drop1⟩)
      · try simp only [decide_eq_true_eq, decide_eq_false_iff_not, Bool.not_eq_true', Bool.not_eq_false', beq_iff_eq, bne_iff_ne, beq_eq_false_iff_ne, bne_eq_false_iff_eq] at hc1
        refine cw_skip ?_
        refine cw_region ?_
        refine l_pur (p_add64 e10 rfl (by first | omega | (dsimp only; omega) | (simp; omega))) (by decide) ?_
        refine l_pur (p_moveI rfl) (by decide) ?_
        refine lw_nil ?_
        first
        | (rw [if_neg (by simp [hc1])] at hsn; exact ⟨_, by omega, i + 1, _, rfl, hlt, rfl, e8, e9, e5, e1, by rw [hsn, List.append_nil]; exact (hA.close1 hs).drop1⟩)
        | (rw [if_pos (by simp [hc1])] at hsn; exact ⟨_, by omega, i + 1, _, rfl, hlt, rfl, e8, e9, rfl, e1, by rw [hsn]; exact ho.drop1⟩)
    · have hge : i = xs.length := by have := of_decide_eq_false hc0; omega
      refine cw_exit ?_
      refine cw_seq (cw_region ?_)
      refine l_pur (p_move e5) (by decide) ?_
      refine l_pur (p_assignL rfl) (by decide) ?_
      refine lw_nil ?_
      refine cw_ret ?_
      repeat (with_reducible first | refine tf_ret ?_ | refine ib_ret ?_)
      refine fin1 (fn := Tryz.f78) rfl (rv_tmpL rfl) ?_
      subst hge
      have := hA.close0 hs
      rwa [List.take_length] at this ⊢
def insS (xs : List GSlot) (s : GSlot) : List GSlot := insBy (fun x => !decide (x.index < s.index)) s xs
theorem s_take {a : Option Addr} {cap : Nat} {xs : List GSlot} {k : UInt32} {peer : GKey} {se : Bool} (hs : St W0 V w L) (hl : Sl V 69 a cap xs) (hlen : xs.length < 32) (hk : 1 ≤ k) (hfree : findS xs k = none) :
    Calls Tryz.prog 44 #[.slice a xs.length cap, val k, val peer, .bool se] w (okR fun v w' => ∃ v1, v = .tuple #[v1, val k, vi 0] ∧ Own W0 V w' L 69 v1 (insS xs ⟨k, peer, se⟩)) := by
  have hmax : max k 1 = k := by
    by_cases h : k ≤ 1
    · have : k = 1 := UInt32.le_antisymm h hk
      subst this; rfl
    · exact if_neg h
  refine fn_enter (n := 64) Tryz.func44 rfl rfl rfl ?_
  intro f hf
  have e0 := hf 0
  have e1 := hf 1
  have e2 := hf 2
  have e3 := hf 3
  simp only [Array.getD_eq_getD_getElem?, List.getElem?_toArray, List.getElem?_cons_zero, List.getElem?_cons_succ, Option.getD_some] at e0 e1 e2 e3
  clear hf
  refine cw_seq (cw_region ?_)
  refine l_box (α := (Vec 32 UInt8)) e2 hs (by decide) ?_; clear hs; intro b6 w hs
  refine l_pur (p_assignC) (by decide) ?_
  refine l_pur (p_assignC) (by decide) ?_
  refine l_pur (p_assignC) (by decide) ?_
  refine lw_nil ?_
  refine cw_seq ?_
  refine cw_seq (cw_region ?_)
  refine l_pur (p_move e0) (by decide) ?_
  refine l_pur (p_len Tryz.underlying30 rfl) (by decide) ?_
  refine l_pur (p_geq rfl rfl) (by decide) ?_
  refine lw_nil ?_
  refine cw_cond _ rfl (fun hc0 => ?_) (fun hc0 => ?_)
  · exfalso
    have := of_decide_eq_true hc0
    omega
  · try simp only [decide_eq_true_eq, decide_eq_false_iff_not, Bool.not_eq_true', Bool.not_eq_false', beq_iff_eq, bne_iff_ne, beq_eq_false_iff_ne, bne_eq_false_iff_eq] at hc0
    refine cw_skip ?_
    refine cw_seq (cw_region ?_)
    refine l_pur (p_move e1) (by decide) ?_
    refine l_pur (p_max_u32 (b := (1 : UInt32)) rfl rfl) (by decide) ?_
    refine l_pur (p_assignI rfl) (by decide) ?_
    refine lw_nil ?_
    refine cw_seq ?_
    refine cw_block ?_
    refine cw_loop (fun q f w => f 0 = .slice a xs.length cap ∧ f 11 = val k ∧ f 6 = ptr b6 0 ∧ f 3 = .bool se ∧ St W0 V w ((b6, blk 27 peer) :: L)) (1) ?_ ?_
    · exact ⟨e0, by show val (max k 1) = val k; rw [hmax], rfl, e3, hs⟩
    · intro q f w hI
      obtain ⟨e0, e11, e6, e3, hs⟩ := hI
      refine cw_block ?_
      refine cw_seq ?_
      refine cw_seq (cw_region ?_)
      refine l_pur (p_move e0) (by decide) ?_
      refine l_pur (p_move e11) (by decide) ?_
      refine l_call2 fn38 (s_findslot hs hl (by omega)) rfl rfl ?_ (by decide)
      clear hs; rintro _ w ⟨rfl, hs⟩
      refine l_pur (p_moveT rfl) (by decide) ?_
      refine l_pur (p_extract rfl rfl) (by decide) ?_
      refine l_pur (p_extract rfl rfl) (by decide) ?_
      refine l_alloc z69 hs (by decide) ?_; clear hs; intro b12 w hs
      refine l_store0 (α := GSlot) (β := GSlot) ty69 rfl rfl (Lens.id GSlot) hs ?_; clear hs; intro w hs
      refine l_pur (p_assignB rfl) (by decide) ?_
      refine lw_nil ?_
      refine cw_seq (cw_region ?_)
      refine l_pur (p_moveB rfl) (by decide) ?_
      refine l_pur (p_not rfl) (by decide) ?_
      refine lw_nil ?_
      refine cw_cond _ rfl (fun hc1 => ?_) (fun hc1 => ?_)
      · try simp only [decide_eq_true_eq, decide_eq_false_iff_not, Bool.not_eq_true', Bool.not_eq_false', beq_iff_eq, bne_iff_ne, beq_eq_false_iff_ne, bne_eq_false_iff_eq] at hc1
        refine cw_exit ?_
        refine cw_seq (cw_region ?_)
        refine l_pur (p_assignC) (by decide) ?_
        refine lw_nil ?_
        refine cw_seq ?_
        refine cw_block ?_
        refine cw_loop (fun q f w => ∃ (i : Nat), q = xs.length - i ∧ i ≤ xs.length ∧ f 14 = vi i ∧ f 0 = .slice a xs.length cap ∧ f 11 = val k ∧ f 6 = ptr b6 0 ∧ f 3 = .bool se ∧ (∀ j (h : j < xs.length), j < i → xs[j].index < k) ∧ St W0 V w ((b6, blk 27 peer) :: L)) (xs.length) ?_ ?_
        · exact ⟨0, rfl, Nat.zero_le _, rfl, e0, e11, e6, e3, fun j _ h => by omega, hs.drop1⟩
        · intro q f w hI
          obtain ⟨i, rfl, hi, e14, e0, e11, e6, e3, hall, hs⟩ := hI
          refine cw_seq ?_
          refine cw_seq (cw_region ?_)
          refine l_pur (p_move e14) (by decide) ?_
          refine l_pur (p_move e0) (by decide) ?_
          refine l_pur (p_len Tryz.underlying30 rfl) (by decide) ?_
          refine l_pur (p_lss rfl rfl) (by decide) ?_
          refine l_purB (p_moveB rfl) (by decide) (fun hg4 => ?_) (fun hg4 => ?_)
          · have hlt : i < xs.length := by simpa using hg4
            refine lw_do rfl rfl rfl ?_
            refine l_pur (p_move e0) (by decide) ?_
            refine lw_do rfl rfl rfl ?_
            refine l_pur (p_move e14) (by decide) ?_
            refine lw_do rfl rfl rfl ?_
            refine l_indexSl (α := GSlot) el30.sl ty69 rfl rfl rfl (by first | omega | (dsimp only; omega) | (simp; omega)) hl (by decide) ?_; intro bb39 oo39 cc39 hb39 ha39
            refine lw_do rfl rfl rfl ?_
            refine l_pur (p_fieldAddr fo69_0 rfl) (by decide) ?_
            refine lw_do rfl rfl rfl ?_
            refine l_loadV (α := UInt32) ty46 rfl hs hb39 (ha39.lens GSlot.l_index) (by decide) ?_
            refine lw_do rfl rfl rfl ?_
            refine l_pur (p_move e11) (by decide) ?_
            refine lw_do rfl rfl rfl ?_
            refine l_pur (p_lss_u32 rfl rfl) (by decide) ?_
            refine l_pur (p_pickT rfl rfl) (by decide) ?_
            refine lw_nil ?_
            refine cw_cond _ rfl (fun hc2 => ?_) (fun hc2 => ?_)
            · have hyes : xs[i].index < k := of_decide_eq_true hc2
              refine cw_skip ?_
              refine cw_block ?_
              refine cw_region ?_
              refine l_pur (p_move e14) (by decide) ?_
              refine l_pur (p_add64 rfl rfl (by first | omega | (dsimp only; omega) | (simp; omega))) (by decide) ?_
              refine l_pur (p_assignI rfl) (by decide) ?_
              refine lw_nil ?_
              refine ⟨_, by omega, i + 1, rfl, by omega, rfl, e0, e11, e6, e3, fun j h hj => ?_, hs⟩
              by_cases hji : j < i
              · exact hall j h hji
              · obtain rfl : j = i := by omega
                exact hyes
            · have hno : ¬ xs[i].index < k := of_decide_eq_false hc2
              refine cw_exit ?_
              refine cw_seq ?_
              have hend : i = xs.length ∨ ∃ h : i < xs.length, (!decide (xs[i].index < k)) = true := by
                first
                | exact .inl hge
                | exact .inr ⟨hlt, by simpa using hno⟩
              have hins := insBy_eq (p := fun x : GSlot => !decide (x.index < k)) (y := (⟨k, peer, se⟩ : GSlot)) xs i hi (fun j h hj => by simpa using hall j h hj) hend
              have hcap : xs.length ≤ cap := by
                by_cases hn : xs = []
                · subst hn; simp
                · exact sl_cap hl hn
              refine cw_region ?_
              refine l_pur (p_move e0) (by decide) ?_
              refine l_pur (p_move e14) (by decide) ?_
              refine l_pur (p_slice el30.sl el30.ty.size rfl (.no _) (.at_ _ rfl) (.no _) (.inl rfl) (by first | omega | (dsimp only; omega) | (simp; omega))) (by decide) ?_
              refine l_appendNil el30 rfl rfl hs ((hl.slice (l := 0) (h := i) (m := cap) (Nat.zero_le _) hi (Nat.le_refl _) (by omega)).src hs) (by simp; omega) (by simp; omega) (by simp; omega) (by decide) ?_; clear hs; intro v w ho; obtain ⟨a3, c3, rfl⟩ := ho.len; obtain ⟨A, hs, hA⟩ := ho.open'
              refine l_pur (p_assignL rfl) (by decide) ?_
              refine lw_nil ?_
              refine cw_seq (cw_region ?_)
              refine l_pur (p_moveL rfl) (by decide) ?_
              refine l_pur (p_move e11) (by decide) ?_
              refine l_loadO (α := (Vec 32 UInt8)) (β := (Vec 32 UInt8)) ty27 e6 (Lens.id (Vec 32 UInt8)) hs (List.mem_append_right _ (List.Mem.head _)) (by decide) ?_
              refine l_pur (p_move e3) (by decide) ?_
              refine l_pur (p_buildO (α := GSlot) Tryz.underlying69 (by kernel_rfl) z69 rfl (.cons (β := UInt32) rfl pl69_0 GSlot.l_index (.cons (β := (Vec 32 UInt8)) rfl pl69_1 GSlot.l_peer (.cons (β := Bool) rfl pl69_2 GSlot.l_session (.nil _))))) (by decide) ?_
              refine l_buildSlice1 (α := GSlot) el30 z69 rfl (by decide) hs (by decide) ?_; clear hs; intro b56 w hs
              refine l_appendO el30 rfl rfl (hA.close1 hs) (Src1.blk1 ((hA.close1 hs).mem (List.mem_cons_self ..))) rfl (by simp; omega) (by simp; omega) (by decide) ?_; clear hs; intro v w ho2; obtain ⟨a4, c4, rfl⟩ := ho2.len; replace ho2 := ho2.drop1; obtain ⟨A2, hs, hA2⟩ := ho2.open'
              refine l_pur (p_assignL rfl) (by decide) ?_
              refine lw_nil ?_
              refine cw_seq (cw_region ?_)
              refine l_pur (p_moveL rfl) (by decide) ?_
              refine l_pur (p_move e0) (by decide) ?_
              refine l_pur (p_move e14) (by decide) ?_
              refine l_pur (p_slice el30.sl el30.ty.size rfl (.at_ _ rfl) (.no _) (.no _) (.inl rfl) (by first | omega | (dsimp only; omega) | (simp; omega))) (by decide) ?_
              refine l_appendO el30 rfl rfl ho2 ((hl.slice (l := i) (h := xs.length) (m := cap) hi (Nat.le_refl _) (Nat.le_refl _) hcap).src hs) (by simp) (by simp; omega) (by simp; omega) (by decide) ?_; clear hs; intro v w ho3; obtain ⟨a5, c5, rfl⟩ := ho3.len
              refine l_pur (p_move e11) (by decide) ?_
              refine l_pur (p_assignL rfl) (by decide) ?_
              refine l_pur (p_assignI rfl) (by decide) ?_
              refine l_pur (p_assignC) (by decide) ?_
              refine lw_nil ?_
              refine cw_ret ?_
              repeat (with_reducible first | refine tf_ret ?_ | refine ib_ret ?_)
              refine fin3 (fn := Tryz.f44) rfl (rv_tmpL rfl) (rv_tmpI rfl) (rv_tmpI rfl) ?_
              refine ⟨_, rfl, ?_⟩
              unfold insS
              rw [hins]
              have h3 := ho3.drop1
              have e : ((GSlot.zero.s_index k).s_peer peer).s_session se = ⟨k, peer, se⟩ := rfl
              rw [e] at h3
              simpa using h3
          · have hge : i = xs.length := by simp at hg4; omega
            refine lw_pass rfl rfl rfl rfl rfl rfl (by decide) ?_
            refine lw_pass rfl rfl rfl rfl rfl rfl (by decide) ?_
            refine lw_pass rfl rfl rfl rfl rfl rfl (by decide) ?_
            refine lw_pass rfl rfl rfl rfl rfl rfl (by decide) ?_
            refine lw_pass rfl rfl rfl rfl rfl rfl (by decide) ?_
            refine lw_pass rfl rfl rfl rfl rfl rfl (by decide) ?_
            refine lw_pass rfl rfl rfl rfl rfl rfl (by decide) ?_
            refine l_pur (p_pickF rfl rfl) (by decide) ?_
            refine lw_nil ?_
            refine cw_false rfl ?_
            refine cw_exit ?_
            refine cw_seq ?_
            have hend : i = xs.length ∨ ∃ h : i < xs.length, (!decide (xs[i].index < k)) = true := by
              first
              | exact .inl hge
              | exact .inr ⟨hlt, by simpa using hno⟩
            have hins := insBy_eq (p := fun x : GSlot => !decide (x.index < k)) (y := (⟨k, peer, se⟩ : GSlot)) xs i hi (fun j h hj => by simpa using hall j h hj) hend
            have hcap : xs.length ≤ cap := by
              by_cases hn : xs = []
              · subst hn; simp
              · exact sl_cap hl hn
            refine cw_region ?_
            refine l_pur (p_move e0) (by decide) ?_
            refine l_pur (p_move e14) (by decide) ?_
            refine l_pur (p_slice el30.sl el30.ty.size rfl (.no _) (.at_ _ rfl) (.no _) (.inl rfl) (by first | omega | (dsimp only; omega) | (simp; omega))) (by decide) ?_
            refine l_appendNil el30 rfl rfl hs ((hl.slice (l := 0) (h := i) (m := cap) (Nat.zero_le _) hi (Nat.le_refl _) (by omega)).src hs) (by simp; omega) (by simp; omega) (by simp; omega) (by decide) ?_; clear hs; intro v w ho; obtain ⟨a3, c3, rfl⟩ := ho.len; obtain ⟨A, hs, hA⟩ := ho.open'
            refine l_pur (p_assignL rfl) (by decide) ?_
            refine lw_nil ?_
            refine cw_seq (cw_region ?_)
            refine l_pur (p_moveL rfl) (by decide) ?_
            refine l_pur (p_move e11) (by decide) ?_
            refine l_loadO (α := (Vec 32 UInt8)) (β := (Vec 32 UInt8)) ty27 e6 (Lens.id (Vec 32 UInt8)) hs (List.mem_append_right _ (List.Mem.head _)) (by decide) ?_
            refine l_pur (p_move e3) (by decide) ?_
            refine l_pur (p_buildO (α := GSlot) Tryz.underlying69 (by kernel_rfl) z69 rfl (.cons (β := UInt32) rfl pl69_0 GSlot.l_index (.cons (β := (Vec 32 UInt8)) rfl pl69_1 GSlot.l_peer (.cons (β := Bool) rfl pl69_2 GSlot.l_session (.nil _))))) (by decide) ?_
            refine l_buildSlice1 (α := GSlot) el30 z69 rfl (by decide) hs (by decide) ?_; clear hs; intro b56 w hs
            refine l_appendO el30 rfl rfl (hA.close1 hs) (Src1.blk1 ((hA.close1 hs).mem (List.mem_cons_self ..))) rfl (by simp; omega) (by simp; omega) (by decide) ?_; clear hs; intro v w ho2; obtain ⟨a4, c4, rfl⟩ := ho2.len; replace ho2 := ho2.drop1; obtain ⟨A2, hs, hA2⟩ := ho2.open'
            refine l_pur (p_assignL rfl) (by decide) ?_
            refine lw_nil ?_
            refine cw_seq (cw_region ?_)
            refine l_pur (p_moveL rfl) (by decide) ?_
            refine l_pur (p_move e0) (by decide) ?_
            refine l_pur (p_move e14) (by decide) ?_
            refine l_pur (p_slice el30.sl el30.ty.size rfl (.at_ _ rfl) (.no _) (.no _) (.inl rfl) (by first | omega | (dsimp only; omega) | (simp; omega))) (by decide) ?_
            refine l_appendO el30 rfl rfl ho2 ((hl.slice (l := i) (h := xs.length) (m := cap) hi (Nat.le_refl _) (Nat.le_refl _) hcap).src hs) (by simp) (by simp; omega) (by simp; omega) (by decide) ?_; clear hs; intro v w ho3; obtain ⟨a5, c5, rfl⟩ := ho3.len
            refine l_pur (p_move e11) (by decide) ?_
            refine l_pur (p_assignL rfl) (by decide) ?_
            refine l_pur (p_assignI rfl) (by decide) ?_
            refine l_pur (p_assignC) (by decide) ?_
            refine lw_nil ?_
            refine cw_ret ?_
            repeat (with_reducible first | refine tf_ret ?_ | refine ib_ret ?_)
            refine fin3 (fn := Tryz.f44) rfl (rv_tmpL rfl) (rv_tmpI rfl) (rv_tmpI rfl) ?_
            refine ⟨_, rfl, ?_⟩
            unfold insS
            rw [hins]
            have h3 := ho3.drop1
            have e : ((GSlot.zero.s_index k).s_peer peer).s_session se = ⟨k, peer, se⟩ := rfl
            rw [e] at h3
            simpa using h3
      · exfalso
        rw [hfree] at hc1
        simp at hc1
end Go.Bur
namespace Go.Bur
open Go Go.RowKit Go.Proofs
set_option maxHeartbeats 4000000
variable {W0 : World} {V : PH} {w : World} {L : List (Nat × Obj)}
theorem s_within {x a b : Int} (hs : St W0 V w L) (h : a ≤ x ∧ x ≤ b) : Calls Tryz.prog 110 #[vi x, vi a, vi b] w (okR fun v w' => v = .bool true ∧ St W0 V w' L) := by
  refine fn_enter (n := 15) Tryz.func110 rfl rfl rfl ?_
  intro f hf
  have e0 := hf 0
  have e1 := hf 1
  have e2 := hf 2
  simp only [Array.getD_eq_getD_getElem?, List.getElem?_toArray, List.getElem?_cons_zero, List.getElem?_cons_succ, Option.getD_some] at e0 e1 e2
  clear hf
  refine cw_seq (cw_region ?_)
  refine l_pur (p_assignC) (by decide) ?_
  refine lw_nil ?_
  refine cw_seq (cw_region ?_)
  refine l_pur (p_move e0) (by decide) ?_
  refine l_pur (p_move e1) (by decide) ?_
  refine l_purIs (c := true) (p_geq rfl rfl) (by simp; omega) (by decide) ?_
  refine l_pur (p_moveB rfl) (by decide) ?_
  refine lw_do rfl rfl rfl ?_
  refine l_pur (p_move e0) (by decide) ?_
  refine lw_do rfl rfl rfl ?_
  refine l_pur (p_move e2) (by decide) ?_
  refine lw_do rfl rfl rfl ?_
  refine l_purIs (c := true) (p_leq rfl rfl) (by simp; omega) (by decide) ?_
  refine l_pur (p_pickT rfl rfl) (by decide) ?_
  refine l_pur (p_assignB rfl) (by decide) ?_
  refine lw_nil ?_
  refine cw_ret ?_
  repeat (with_reducible first | refine tf_ret ?_ | refine ib_ret ?_)
  refine fin1 (fn := Tryz.f110) rfl (rv_tmpB rfl) ?_
  exact ⟨rfl, hs⟩
theorem s_past {d : GDaemon} {x : Int} (hs : St W0 V w L) (h : 0 ≤ x ∧ x ≤ d.now) : Calls Tryz.prog 75 #[val d, vi x] w (okR fun v w' => v = .bool true ∧ St W0 V w' L) := by
  refine fn_enter (n := 9) Tryz.func75 rfl rfl rfl ?_
  intro f hf
  have e0 := hf 0
  have e1 := hf 1
  simp only [Array.getD_eq_getD_getElem?, List.getElem?_toArray, List.getElem?_cons_zero, List.getElem?_cons_succ, Option.getD_some] at e0 e1
  clear hf
  refine cw_seq (cw_region ?_)
  refine l_box (α := GDaemon) e0 hs (by decide) ?_; clear hs; intro b2 w hs
  refine l_pur (p_assignC) (by decide) ?_
  refine lw_nil ?_
  refine cw_seq (cw_region ?_)
  refine l_pur (p_move e1) (by decide) ?_
  refine l_pur (p_fieldAddr fo35_5 rfl) (by decide) ?_
  refine l_loadO (α := GDaemon) (β := Int) ty2 rfl GDaemon.l_now hs (List.Mem.head _) (by decide) ?_
  refine l_call3 fn110 (s_within hs h) rfl rfl rfl ?_ (by decide)
  clear hs; rintro _ w ⟨rfl, hs⟩
  refine l_pur (p_assignB rfl) (by decide) ?_
  refine lw_nil ?_
  refine cw_ret ?_
  repeat (with_reducible first | refine tf_ret ?_ | refine ib_ret ?_)
  refine fin1 (fn := Tryz.f75) rfl (rv_tmpB rfl) ?_
  exact ⟨rfl, hs.drop1⟩
structure SoundS (d : GDaemon) (s : GSession) : Prop where
  born : 0 ≤ s.born ∧ s.born ≤ d.now
  fence : s.fence = d.rules.rejectMessages
  next : s.next ≤ 18446744073709543423
  window : s.window.used = true ∨ s.window = GWindow.zero
theorem s_soundS {d : GDaemon} {s : GSession} (hs : St W0 V w L) (h : SoundS d s) : Calls Tryz.prog 39 #[val d, val s] w (okR fun v w' => v = .bool true ∧ St W0 V w' L) := by
  refine fn_enter (n := 33) Tryz.func39 rfl rfl rfl ?_
  intro f hf
  have e0 := hf 0
  have e1 := hf 1
  simp only [Array.getD_eq_getD_getElem?, List.getElem?_toArray, List.getElem?_cons_zero, List.getElem?_cons_succ, Option.getD_some] at e0 e1
  clear hf
  refine cw_seq (cw_region ?_)
  refine l_box (α := GDaemon) e0 hs (by decide) ?_; clear hs; intro b2 w hs
  refine l_box (α := GSession) e1 hs (by decide) ?_; clear hs; intro b3 w hs
  refine l_pur (p_assignC) (by decide) ?_
  refine lw_nil ?_
  refine cw_seq (cw_region ?_)
  refine l_loadO (α := GDaemon) (β := GDaemon) ty35 rfl (Lens.id GDaemon) hs (List.Mem.tail _ (List.Mem.head _)) (by decide) ?_
  refine l_pur (p_fieldAddr fo56_7 rfl) (by decide) ?_
  refine l_loadO (α := GSession) (β := Int) ty2 rfl GSession.l_born hs (List.Mem.head _) (by decide) ?_
  refine l_call2 fn75 (s_past hs h.born) rfl rfl ?_ (by decide)
  clear hs
  rintro _ w ⟨rfl, hs⟩
  refine l_pur (p_moveB rfl) (by decide) ?_
  refine lw_do rfl rfl rfl ?_
  refine l_pur (p_fieldAddr fo56_5 rfl) (by decide) ?_
  refine lw_do rfl rfl rfl ?_
  refine l_loadO (α := GSession) (β := UInt64) ty23 rfl GSession.l_fence hs (List.Mem.head _) (by decide) ?_
  refine lw_do rfl rfl rfl ?_
  refine l_pur (p_fieldAddr fo35_0 rfl) (by decide) ?_
  refine lw_do rfl rfl rfl ?_
  refine l_pur (p_fieldAddr fo25_1 rfl) (by decide) ?_
  refine lw_do rfl rfl rfl ?_
  refine l_loadO (α := GDaemon) (β := UInt64) ty23 rfl (Lens.comp GDaemon.l_rules GRules.l_rejectMessages) hs (List.Mem.tail _ (List.Mem.head _)) (by decide) ?_
  refine lw_do rfl rfl rfl ?_
  refine l_purIs (c := true) (p_eql_u64 rfl rfl) (by exact decide_eq_true h.fence) (by decide) ?_
  refine l_pur (p_pickT rfl rfl) (by decide) ?_
  refine l_pur (p_moveB rfl) (by decide) ?_
  refine lw_do rfl rfl rfl ?_
  refine l_pur (p_fieldAddr fo56_4 rfl) (by decide) ?_
  refine lw_do rfl rfl rfl ?_
  refine l_loadO (α := GSession) (β := UInt64) ty23 rfl GSession.l_next hs (List.Mem.head _) (by decide) ?_
  refine lw_do rfl rfl rfl ?_
  refine l_purIs (c := true) (p_leq_u64 (b := (18446744073709543423 : UInt64)) rfl rfl) (by exact decide_eq_true h.next) (by decide) ?_
  refine l_pur (p_pickT rfl rfl) (by decide) ?_
  refine l_pur (p_moveB rfl) (by decide) ?_
  refine lw_do rfl rfl rfl ?_
  refine l_pur (p_fieldAddr fo56_6 rfl) (by decide) ?_
  refine lw_do rfl rfl rfl ?_
  refine l_pur (p_fieldAddr fo54_0 rfl) (by decide) ?_
  refine lw_do rfl rfl rfl ?_
  refine l_loadO (α := GSession) (β := Bool) ty4 rfl (Lens.comp GSession.l_window GWindow.l_used) hs (List.Mem.head _) (by decide) ?_
  refine lw_do rfl rfl rfl ?_
  refine l_purB (p_moveB rfl) (by decide) (fun hg21 => ?_) (fun hg21 => ?_)
  · try simp only [decide_eq_true_eq, decide_eq_false_iff_not, Bool.not_eq_true', Bool.not_eq_false', beq_iff_eq, bne_iff_ne, beq_eq_false_iff_ne, bne_eq_false_iff_eq] at hg21
    refine lw_pass rfl rfl rfl rfl rfl rfl (by decide) ?_
    refine lw_pass rfl rfl rfl rfl rfl rfl (by decide) ?_
    refine lw_pass rfl rfl rfl rfl rfl rfl (by decide) ?_
    refine lw_pass rfl rfl rfl rfl rfl rfl (by decide) ?_
    refine lw_do rfl rfl rfl ?_
    refine l_pur (p_pickT rfl rfl) (by decide) ?_
    refine l_pur (p_pickT rfl rfl) (by decide) ?_
    refine l_pur (p_assignB rfl) (by decide) ?_
    refine lw_nil ?_
    refine cw_ret ?_
    repeat (with_reducible first | refine tf_ret ?_ | refine ib_ret ?_)
    refine fin1 (fn := Tryz.f39) rfl (rv_tmpB rfl) ?_
    exact ⟨rfl, hs.drop1.drop1⟩
  · try simp only [decide_eq_true_eq, decide_eq_false_iff_not, Bool.not_eq_true', Bool.not_eq_false', beq_iff_eq, bne_iff_ne, beq_eq_false_iff_ne, bne_eq_false_iff_eq] at hg21
    refine lw_do rfl rfl rfl ?_
    refine l_pur (p_fieldAddr fo56_6 rfl) (by decide) ?_
    refine lw_do rfl rfl rfl ?_
    refine l_loadO (α := GSession) (β := GWindow) ty54 rfl GSession.l_window hs (List.Mem.head _) (by decide) ?_
    refine lw_do rfl rfl rfl ?_
    refine l_pur (p_buildO (α := GWindow) Tryz.underlying54 (by kernel_rfl) z54 rfl (.nil _)) (by decide) ?_
    refine lw_do rfl rfl rfl ?_
    refine l_purIs (c := true) (p_eqlS eq54 rfl rfl) (by exact decide_eq_true (h.window.resolve_left (by simp [hg21]))) (by decide) ?_
    refine lw_do rfl rfl rfl ?_
    refine l_pur (p_pickF rfl rfl) (by decide) ?_
    refine l_pur (p_pickT rfl rfl) (by decide) ?_
    refine l_pur (p_assignB rfl) (by decide) ?_
    refine lw_nil ?_
    refine cw_ret ?_
    repeat (with_reducible first | refine tf_ret ?_ | refine ib_ret ?_)
    refine fin1 (fn := Tryz.f39) rfl (rv_tmpB rfl) ?_
    exact ⟨rfl, hs.drop1.drop1⟩
theorem s_validrules {r : GRules} (hs : St W0 V w L) (h : RulesOk r) : Calls Tryz.prog 109 #[val r] w (okR fun v w' => v = .bool true ∧ St W0 V w' L) := by
  obtain ⟨m1, m2, m3, t1, t2, t3, t4, t5, t6, t7⟩ := h
  refine fn_enter (n := 81) Tryz.func109 rfl rfl rfl ?_
  intro f hf
  have e0 := hf 0
  simp only [Array.getD_eq_getD_getElem?, List.getElem?_toArray, List.getElem?_cons_zero, List.getElem?_cons_succ, Option.getD_some] at e0
  clear hf
  refine cw_seq (cw_region ?_)
  refine l_box (α := GRules) e0 hs (by decide) ?_; clear hs; intro b1 w hs
  refine l_pur (p_assignC) (by decide) ?_
  refine lw_nil ?_
  refine cw_seq ?_
  refine cw_seq (cw_region ?_)
  refine l_pur (p_fieldAddr fo25_0 rfl) (by decide) ?_
  refine l_loadO (α := GRules) (β := UInt64) ty23 rfl GRules.l_rekeyMessages hs (List.Mem.head _) (by decide) ?_
  refine l_purIs (c := false) (p_lss_u64 (b := (1 : UInt64)) rfl rfl) (by simp [UInt64.lt_iff_toNat_lt]; omega) (by decide) ?_
  refine l_pur (p_moveB rfl) (by decide) ?_
  refine lw_do rfl rfl rfl ?_
  refine l_pur (p_fieldAddr fo25_0 rfl) (by decide) ?_
  refine lw_do rfl rfl rfl ?_
  refine l_loadO (α := GRules) (β := UInt64) ty23 rfl GRules.l_rekeyMessages hs (List.Mem.head _) (by decide) ?_
  refine lw_do rfl rfl rfl ?_
  refine l_pur (p_fieldAddr fo25_1 rfl) (by decide) ?_
  refine lw_do rfl rfl rfl ?_
  refine l_loadO (α := GRules) (β := UInt64) ty23 rfl GRules.l_rejectMessages hs (List.Mem.head _) (by decide) ?_
  refine lw_do rfl rfl rfl ?_
  refine l_purIs (c := false) (p_gtr_u64 rfl rfl) (by simp [UInt64.lt_iff_toNat_lt]; omega) (by decide) ?_
  refine l_pur (p_pickF rfl rfl) (by decide) ?_
  refine l_pur (p_moveB rfl) (by decide) ?_
  refine lw_do rfl rfl rfl ?_
  refine l_pur (p_fieldAddr fo25_1 rfl) (by decide) ?_
  refine lw_do rfl rfl rfl ?_
  refine l_loadO (α := GRules) (β := UInt64) ty23 rfl GRules.l_rejectMessages hs (List.Mem.head _) (by decide) ?_
  refine lw_do rfl rfl rfl ?_
  refine l_purIs (c := false) (p_gtr_u64 (b := (18446744073709543423 : UInt64)) rfl rfl) (by simp [UInt64.lt_iff_toNat_lt]; omega) (by decide) ?_
  refine l_pur (p_pickF rfl rfl) (by decide) ?_
  refine lw_nil ?_
  refine cw_false rfl ?_
  refine cw_skip ?_
  refine cw_seq ?_
  refine cw_seq (cw_region ?_)
  refine l_pur (p_fieldAddr fo25_5 rfl) (by decide) ?_
  refine l_loadO (α := GRules) (β := Int) ty2 rfl GRules.l_retryTime hs (List.Mem.head _) (by decide) ?_
  refine l_call3 fn110 (s_within hs (by omega)) rfl rfl rfl ?_ (by decide)
  clear hs
  rintro _ w ⟨rfl, hs⟩
  refine l_pur (p_not rfl) (by decide) ?_
  refine l_pur (p_moveB rfl) (by decide) ?_
  refine lw_do rfl rfl rfl ?_
  refine l_pur (p_fieldAddr fo25_6 rfl) (by decide) ?_
  refine lw_do rfl rfl rfl ?_
  refine l_loadO (α := GRules) (β := Int) ty2 rfl GRules.l_keepaliveTime hs (List.Mem.head _) (by decide) ?_
  refine lw_do rfl rfl rfl ?_
  refine l_call3 fn110 (s_within hs (by omega)) rfl rfl rfl ?_ (by decide)
  clear hs
  rintro _ w ⟨rfl, hs⟩
  refine lw_do rfl rfl rfl ?_
  refine l_pur (p_not rfl) (by decide) ?_
  refine l_pur (p_pickF rfl rfl) (by decide) ?_
  refine l_pur (p_moveB rfl) (by decide) ?_
  refine lw_do rfl rfl rfl ?_
  refine l_pur (p_fieldAddr fo25_7 rfl) (by decide) ?_
  refine lw_do rfl rfl rfl ?_
  refine l_loadO (α := GRules) (β := Int) ty2 rfl GRules.l_cookieTime hs (List.Mem.head _) (by decide) ?_
  refine lw_do rfl rfl rfl ?_
  refine l_call3 fn110 (s_within hs (by omega)) rfl rfl rfl ?_ (by decide)
  clear hs
  rintro _ w ⟨rfl, hs⟩
  refine lw_do rfl rfl rfl ?_
  refine l_pur (p_not rfl) (by decide) ?_
  refine l_pur (p_pickF rfl rfl) (by decide) ?_
  refine l_pur (p_moveB rfl) (by decide) ?_
  refine lw_do rfl rfl rfl ?_
  refine l_pur (p_fieldAddr fo25_2 rfl) (by decide) ?_
  refine lw_do rfl rfl rfl ?_
  refine l_loadO (α := GRules) (β := Int) ty2 rfl GRules.l_rekeyTime hs (List.Mem.head _) (by decide) ?_
  refine lw_do rfl rfl rfl ?_
  refine l_call3 fn110 (s_within hs (by omega)) rfl rfl rfl ?_ (by decide)
  clear hs
  rintro _ w ⟨rfl, hs⟩
  refine lw_do rfl rfl rfl ?_
  refine l_pur (p_not rfl) (by decide) ?_
  refine l_pur (p_pickF rfl rfl) (by decide) ?_
  refine l_pur (p_moveB rfl) (by decide) ?_
  refine lw_do rfl rfl rfl ?_
  refine l_pur (p_fieldAddr fo25_3 rfl) (by decide) ?_
  refine lw_do rfl rfl rfl ?_
  refine l_loadO (α := GRules) (β := Int) ty2 rfl GRules.l_rejectTime hs (List.Mem.head _) (by decide) ?_
  refine lw_do rfl rfl rfl ?_
  refine l_call3 fn110 (s_within hs (by omega)) rfl rfl rfl ?_ (by decide)
  clear hs
  rintro _ w ⟨rfl, hs⟩
  refine lw_do rfl rfl rfl ?_
  refine l_pur (p_not rfl) (by decide) ?_
  refine l_pur (p_pickF rfl rfl) (by decide) ?_
  refine lw_nil ?_
  refine cw_false rfl ?_
  refine cw_skip ?_
  refine cw_seq (cw_region ?_)
  refine l_pur (p_fieldAddr fo25_2 rfl) (by decide) ?_
  refine l_loadO (α := GRules) (β := Int) ty2 rfl GRules.l_rekeyTime hs (List.Mem.head _) (by decide) ?_
  refine l_pur (p_fieldAddr fo25_3 rfl) (by decide) ?_
  refine l_loadO (α := GRules) (β := Int) ty2 rfl GRules.l_rejectTime hs (List.Mem.head _) (by decide) ?_
  refine l_purIs (c := true) (p_leq rfl rfl) (by simp; omega) (by decide) ?_
  refine l_pur (p_moveB rfl) (by decide) ?_
  refine lw_do rfl rfl rfl ?_
  refine l_pur (p_fieldAddr fo25_6 rfl) (by decide) ?_
  refine lw_do rfl rfl rfl ?_
  refine l_loadO (α := GRules) (β := Int) ty2 rfl GRules.l_keepaliveTime hs (List.Mem.head _) (by decide) ?_
  refine lw_do rfl rfl rfl ?_
  refine l_pur (p_fieldAddr fo25_5 rfl) (by decide) ?_
  refine lw_do rfl rfl rfl ?_
  refine l_loadO (α := GRules) (β := Int) ty2 rfl GRules.l_retryTime hs (List.Mem.head _) (by decide) ?_
  refine lw_do rfl rfl rfl ?_
  refine l_pur (p_add64 rfl rfl (by first | omega | (dsimp only; omega) | (simp; omega))) (by decide) ?_
  refine lw_do rfl rfl rfl ?_
  refine l_pur (p_fieldAddr fo25_3 rfl) (by decide) ?_
  refine lw_do rfl rfl rfl ?_
  refine l_loadO (α := GRules) (β := Int) ty2 rfl GRules.l_rejectTime hs (List.Mem.head _) (by decide) ?_
  refine lw_do rfl rfl rfl ?_
  refine l_purIs (c := true) (p_lss rfl rfl) (by simp; omega) (by decide) ?_
  refine l_pur (p_pickT rfl rfl) (by decide) ?_
  refine l_pur (p_moveB rfl) (by decide) ?_
  refine lw_do rfl rfl rfl ?_
  refine l_pur (p_fieldAddr fo25_4 rfl) (by decide) ?_
  refine lw_do rfl rfl rfl ?_
  refine l_loadO (α := GRules) (β := Int) ty2 rfl GRules.l_attemptTime hs (List.Mem.head _) (by decide) ?_
  refine lw_do rfl rfl rfl ?_
  refine l_pur (p_fieldAddr fo25_5 rfl) (by decide) ?_
  refine lw_do rfl rfl rfl ?_
  refine l_loadO (α := GRules) (β := Int) ty2 rfl GRules.l_retryTime hs (List.Mem.head _) (by decide) ?_
  refine lw_do rfl rfl rfl ?_
  refine l_pur (p_fieldAddr fo25_5 rfl) (by decide) ?_
  refine lw_do rfl rfl rfl ?_
  refine l_loadO (α := GRules) (β := Int) ty2 rfl GRules.l_retryTime hs (List.Mem.head _) (by decide) ?_
  refine lw_do rfl rfl rfl ?_
  refine l_pur (p_mul64 rfl rfl (by first | omega | (dsimp only; omega) | (simp; omega))) (by decide) ?_
  refine lw_do rfl rfl rfl ?_
  refine l_call3 fn110 (s_within hs (by omega)) rfl rfl rfl ?_ (by decide)
  clear hs
  rintro _ w ⟨rfl, hs⟩
  refine l_pur (p_pickT rfl rfl) (by decide) ?_
  refine l_pur (p_moveB rfl) (by decide) ?_
  refine lw_do rfl rfl rfl ?_
  refine l_pur (p_fieldAddr fo25_8 rfl) (by decide) ?_
  refine lw_do rfl rfl rfl ?_
  refine l_loadO (α := GRules) (β := Int) ty3 rfl GRules.l_load hs (List.Mem.head _) (by decide) ?_
  refine lw_do rfl rfl rfl ?_
  refine l_call3 fn110 (s_within hs (by omega)) rfl rfl rfl ?_ (by decide)
  clear hs
  rintro _ w ⟨rfl, hs⟩
  refine l_pur (p_pickT rfl rfl) (by decide) ?_
  refine l_pur (p_moveB rfl) (by decide) ?_
  refine lw_do rfl rfl rfl ?_
  refine l_pur (p_fieldAddr fo25_9 rfl) (by decide) ?_
  refine lw_do rfl rfl rfl ?_
  refine l_loadO (α := GRules) (β := Int) ty3 rfl GRules.l_stage hs (List.Mem.head _) (by decide) ?_
  refine lw_do rfl rfl rfl ?_
  refine l_call3 fn110 (s_within hs (by omega)) rfl rfl rfl ?_ (by decide)
  clear hs
  rintro _ w ⟨rfl, hs⟩
  refine l_pur (p_pickT rfl rfl) (by decide) ?_
  refine l_pur (p_assignB rfl) (by decide) ?_
  refine lw_nil ?_
  refine cw_ret ?_
  repeat (with_reducible first | refine tf_ret ?_ | refine ib_ret ?_)
  refine fin1 (fn := Tryz.f109) rfl (rv_tmpB rfl) ?_
  exact ⟨rfl, hs.drop1⟩
end Go.Bur
namespace Go.Bur
open Go Go.RowKit Go.Proofs
set_option maxHeartbeats 4000000
variable {W0 : World} {V : PH} {w : World} {L : List (Nat × Obj)}
def getR (r : GRing) (k : Int) : GPlace := if k = 1 then r.previous else if k = 2 then r.current else if k = 3 then r.next else GPlace.zero
theorem s_get {r : GRing} {k : Int} (hs : St W0 V w L) : Calls Tryz.prog 285 #[val r, vi k] w (okR fun v w' => v = val (getR r k) ∧ St W0 V w' L) := by
  refine fn_enter (n := 19) Tryz.func285 rfl rfl rfl ?_
  intro f hf
  have e0 := hf 0
  have e1 := hf 1
  simp only [Array.getD_eq_getD_getElem?, List.getElem?_toArray, List.getElem?_cons_zero, List.getElem?_cons_succ, Option.getD_some] at e0 e1
  clear hf
  refine cw_seq (cw_region ?_)
  refine l_box (α := GRing) e0 hs (by decide) ?_; clear hs; intro b2 w hs
  refine l_alloc z58 hs (by decide) ?_; clear hs; intro b4 w hs
  refine lw_nil ?_
  refine cw_seq ?_
  refine cw_seq (cw_region ?_)
  refine l_pur (p_move e1) (by decide) ?_
  refine lw_nil ?_
  refine cw_block ?_
  refine cw_seq (cw_region ?_)
  refine l_pur (p_eql rfl rfl) (by decide) ?_
  refine l_pur (p_assignB rfl) (by decide) ?_
  refine lw_nil ?_
  refine cw_cond _ rfl (fun hc0 => ?_) (fun hc0 => ?_)
  · try simp only [decide_eq_true_eq, decide_eq_false_iff_not, Bool.not_eq_true', Bool.not_eq_false', beq_iff_eq, bne_iff_ne, beq_eq_false_iff_ne, bne_eq_false_iff_eq] at hc0
    refine cw_seq (cw_region ?_)
    refine l_pur (p_fieldAddr fo60_0 rfl) (by decide) ?_
    refine l_loadO (α := GRing) (β := GPlace) ty58 rfl GRing.l_previous hs (List.Mem.tail _ (List.Mem.head _)) (by decide) ?_
    refine l_store0 (α := GPlace) (β := GPlace) ty58 rfl rfl (Lens.id GPlace) hs ?_; clear hs; intro w hs
    refine lw_nil ?_
    refine cw_ret ?_
    repeat (with_reducible first | refine tf_ret ?_ | refine ib_ret ?_)
    refine fin1 (fn := Tryz.f285) rfl (rv_own (α := GPlace) ty58 rfl (hs.mem (List.Mem.head _))) ?_
    have h1 : k = 1 := by simpa using hc0
    subst h1
    exact ⟨rfl, hs.drop1.drop1⟩
  · try simp only [decide_eq_true_eq, decide_eq_false_iff_not, Bool.not_eq_true', Bool.not_eq_false', beq_iff_eq, bne_iff_ne, beq_eq_false_iff_ne, bne_eq_false_iff_eq] at hc0
    refine cw_seq (cw_region ?_)
    refine l_pur (p_eql rfl rfl) (by decide) ?_
    refine l_pur (p_assignB rfl) (by decide) ?_
    refine lw_nil ?_
    refine cw_cond _ rfl (fun hc1 => ?_) (fun hc1 => ?_)
    · try simp only [decide_eq_true_eq, decide_eq_false_iff_not, Bool.not_eq_true', Bool.not_eq_false', beq_iff_eq, bne_iff_ne, beq_eq_false_iff_ne, bne_eq_false_iff_eq] at hc1
      refine cw_seq (cw_region ?_)
      refine l_pur (p_fieldAddr fo60_1 rfl) (by decide) ?_
      refine l_loadO (α := GRing) (β := GPlace) ty58 rfl GRing.l_current hs (List.Mem.tail _ (List.Mem.head _)) (by decide) ?_
      refine l_store0 (α := GPlace) (β := GPlace) ty58 rfl rfl (Lens.id GPlace) hs ?_; clear hs; intro w hs
      refine lw_nil ?_
      refine cw_ret ?_
      repeat (with_reducible first | refine tf_ret ?_ | refine ib_ret ?_)
      refine fin1 (fn := Tryz.f285) rfl (rv_own (α := GPlace) ty58 rfl (hs.mem (List.Mem.head _))) ?_
      have h1 : ¬ k = 1 := by simpa using hc0
      have h2 : k = 2 := by simpa using hc1
      subst h2
      exact ⟨rfl, hs.drop1.drop1⟩
    · try simp only [decide_eq_true_eq, decide_eq_false_iff_not, Bool.not_eq_true', Bool.not_eq_false', beq_iff_eq, bne_iff_ne, beq_eq_false_iff_ne, bne_eq_false_iff_eq] at hc1
      refine cw_seq (cw_region ?_)
      refine l_pur (p_eql rfl rfl) (by decide) ?_
      refine l_pur (p_assignB rfl) (by decide) ?_
      refine lw_nil ?_
      refine cw_cond _ rfl (fun hc2 => ?_) (fun hc2 => ?_)
      · try simp only [decide_eq_true_eq, decide_eq_false_iff_not, Bool.not_eq_true', Bool.not_eq_false', beq_iff_eq, bne_iff_ne, beq_eq_false_iff_ne, bne_eq_false_iff_eq] at hc2
        refine cw_seq (cw_region ?_)
        refine l_pur (p_fieldAddr fo60_2 rfl) (by decide) ?_
        refine l_loadO (α := GRing) (β := GPlace) ty58 rfl GRing.l_next hs (List.Mem.tail _ (List.Mem.head _)) (by decide) ?_
        refine l_store0 (α := GPlace) (β := GPlace) ty58 rfl rfl (Lens.id GPlace) hs ?_; clear hs; intro w hs
        refine lw_nil ?_
        refine cw_ret ?_
        repeat (with_reducible first | refine tf_ret ?_ | refine ib_ret ?_)
        refine fin1 (fn := Tryz.f285) rfl (rv_own (α := GPlace) ty58 rfl (hs.mem (List.Mem.head _))) ?_
        have h2 : k = 3 := by simpa using hc2
        subst h2
        exact ⟨rfl, hs.drop1.drop1⟩
      · try simp only [decide_eq_true_eq, decide_eq_false_iff_not, Bool.not_eq_true', Bool.not_eq_false', beq_iff_eq, bne_iff_ne, beq_eq_false_iff_ne, bne_eq_false_iff_eq] at hc2
        refine cw_skip ?_
        refine cw_seq (cw_region ?_)
        refine l_pur (p_buildO (α := GPlace) Tryz.underlying58 (by kernel_rfl) z58 rfl (.nil _)) (by decide) ?_
        refine l_store0 (α := GPlace) (β := GPlace) ty58 rfl rfl (Lens.id GPlace) hs ?_; clear hs; intro w hs
        refine lw_nil ?_
        refine cw_ret ?_
        repeat (with_reducible first | refine tf_ret ?_ | refine ib_ret ?_)
        refine fin1 (fn := Tryz.f285) rfl (rv_own (α := GPlace) ty58 rfl (hs.mem (List.Mem.head _))) ?_
        have h1 : ¬ k = 1 := by simpa using hc0
        have h2 : ¬ k = 2 := by simpa using hc1
        have h3 : ¬ k = 3 := by simpa using hc2
        exact ⟨by simp only [getR, if_neg h1, if_neg h2, if_neg h3], hs.drop1.drop1⟩
def localsR (r : GRing) : List UInt32 := localsP [r.previous, r.current, r.next]
theorem s_localsR {r : GRing} (hs : St W0 V w L) : Calls Tryz.prog 186 #[val r] w (okR fun v w' => Own W0 V w' L 46 v (localsR r)) := by
  refine fn_enter (n := 11) Tryz.func186 rfl rfl rfl ?_
  intro f hf
  have e0 := hf 0
  simp only [Array.getD_eq_getD_getElem?, List.getElem?_toArray, List.getElem?_cons_zero, List.getElem?_cons_succ, Option.getD_some] at e0
  clear hf
  refine cw_seq (cw_region ?_)
  refine l_box (α := GRing) e0 hs (by decide) ?_; clear hs; intro b1 w hs
  refine l_pur (p_assignC) (by decide) ?_
  refine lw_nil ?_
  refine cw_seq (cw_region ?_)
  refine l_pur (p_fieldAddr fo60_0 rfl) (by decide) ?_
  refine l_loadO (α := GRing) (β := GPlace) ty58 rfl GRing.l_previous hs (List.Mem.head _) (by decide) ?_
  refine l_pur (p_fieldAddr fo60_1 rfl) (by decide) ?_
  refine l_loadO (α := GRing) (β := GPlace) ty58 rfl GRing.l_current hs (List.Mem.head _) (by decide) ?_
  refine l_pur (p_fieldAddr fo60_2 rfl) (by decide) ?_
  refine l_loadO (α := GRing) (β := GPlace) ty58 rfl GRing.l_next hs (List.Mem.head _) (by decide) ?_
  refine l_buildSlice3 (α := GPlace) el201 z58 rfl rfl rfl (by decide) hs (by decide) ?_; clear hs; intro b9 w hs
  obtain ⟨V1, a1, c1, hV1, hs, hv1, hl1⟩ := (Own.ofArr hs).freeze
  cases hv1
  refine l_call1 fn76 (s_locals hs hl1 (by simp)) rfl ?_ (by decide)
  intro v w ho
  obtain ⟨a2, c2, rfl⟩ := ho.len
  refine l_pur (p_assignL rfl) (by decide) ?_
  refine lw_nil ?_
  refine cw_ret ?_
  repeat (with_reducible first | refine tf_ret ?_ | refine ib_ret ?_)
  refine fin1 (fn := Tryz.f186) rfl (rv_tmpL rfl) ?_
  exact (ho.drop1).weaken hV1
structure PlaceOk (d : GDaemon) (p : GPlace) : Prop where
  s : p.has = true → SoundS d p.session
  z : p.has = false → p = GPlace.zero
theorem s_ring {d : GDaemon} {p : GPeer} (hs : St W0 V w L) (h1 : PlaceOk d p.ring.previous) (h2 : PlaceOk d p.ring.current) (h3 : PlaceOk d p.ring.next) :
    Calls Tryz.prog 183 #[val d, val p] w (okR fun v w' => v = .bool true ∧ St W0 V w' L) := by
  have hget : ∀ k : Int, PlaceOk d (getR p.ring k) := by
    intro k
    unfold getR
    split
    · exact h1
    · split
      · exact h2
      · split
        · exact h3
        · exact ⟨fun h => (by cases h), fun _ => rfl⟩
  refine fn_enter (n := 34) Tryz.func183 rfl rfl rfl ?_
  intro f hf
  have e0 := hf 0
  have e1 := hf 1
  simp only [Array.getD_eq_getD_getElem?, List.getElem?_toArray, List.getElem?_cons_zero, List.getElem?_cons_succ, Option.getD_some] at e0 e1
  clear hf
  refine cw_seq (cw_region ?_)
  refine l_box (α := GDaemon) e0 hs (by decide) ?_; clear hs; intro b2 w hs
  refine l_box (α := GPeer) e1 hs (by decide) ?_; clear hs; intro b3 w hs
  refine l_pur (p_assignC) (by decide) ?_
  refine lw_nil ?_
  refine cw_seq ?_
  refine cw_seq (cw_region ?_)
  refine l_pur (p_assignC) (by decide) ?_
  refine lw_nil ?_
  refine cw_block ?_
  refine cw_loop (fun q f w => ∃ (i : Nat), q = 4 - i ∧ f 5 = vi i ∧ f 2 = ptr b2 0 ∧ f 3 = ptr b3 0 ∧ i ≤ 4 ∧ St W0 V w ((b3, blk 63 p) :: (b2, blk 35 d) :: L)) (3) ?_ ?_
  · exact ⟨1, rfl, rfl, rfl, rfl, by omega, hs⟩
  · intro q f w hI
    obtain ⟨i, rfl, e5, e2, e3, hi, hs⟩ := hI
    refine cw_seq ?_
    refine cw_seq (cw_region ?_)
    refine l_pur (p_move e5) (by decide) ?_
    refine l_pur (p_leq rfl rfl) (by decide) ?_
    refine lw_nil ?_
    refine cw_cond _ rfl (fun hc0 => ?_) (fun hc0 => ?_)
    · have hlt : i ≤ 3 := by have := of_decide_eq_true hc0; omega
      refine cw_skip ?_
      refine cw_seq ?_
      refine cw_block ?_
      refine cw_seq (cw_region ?_)
      refine l_pur (p_fieldAddr fo63_13 e3) (by decide) ?_
      refine l_loadO (α := GPeer) (β := GRing) ty60 rfl GPeer.l_ring hs (List.Mem.head _) (by decide) ?_
      refine l_pur (p_move e5) (by decide) ?_
      refine l_call2 fn285 (s_get hs) rfl rfl ?_ (by decide)
      clear hs; rintro _ w ⟨rfl, hs⟩
      refine l_alloc z58 hs (by decide) ?_; clear hs; intro b6 w hs
      refine l_store0 (α := GPlace) (β := GPlace) ty58 rfl rfl (Lens.id GPlace) hs ?_; clear hs; intro w hs
      refine lw_nil ?_
      refine cw_seq ?_
      have hp := hget i
      generalize getR p.ring i = pl at *
      refine cw_region ?_
      refine l_pur (p_fieldAddr fo58_0 rfl) (by decide) ?_
      refine l_loadO (α := GPlace) (β := Bool) ty4 rfl GPlace.l_has hs (List.Mem.head _) (by decide) ?_
      refine l_purB (p_moveB rfl) (by decide) (fun hg2 => ?_) (fun hg2 => ?_)
      · try simp only [decide_eq_true_eq, decide_eq_false_iff_not, Bool.not_eq_true', Bool.not_eq_false', beq_iff_eq, bne_iff_ne, beq_eq_false_iff_ne, bne_eq_false_iff_eq] at hg2
        refine lw_do rfl rfl rfl ?_
        refine l_loadO (α := GDaemon) (β := GDaemon) ty35 e2 (Lens.id GDaemon) hs (List.Mem.tail _ (List.Mem.tail _ (List.Mem.head _))) (by decide) ?_
        refine lw_do rfl rfl rfl ?_
        refine l_pur (p_fieldAddr fo58_1 rfl) (by decide) ?_
        refine lw_do rfl rfl rfl ?_
        refine l_loadO (α := GPlace) (β := GSession) ty56 rfl GPlace.l_session hs (List.Mem.head _) (by decide) ?_
        refine lw_do rfl rfl rfl ?_
        refine l_call2 fn39 (s_soundS hs (hp.s hg2)) rfl rfl ?_ (by decide)
        clear hs
        rintro _ w ⟨rfl, hs⟩
        refine lw_do rfl rfl rfl ?_
        refine l_pur (p_not rfl) (by decide) ?_
        refine l_pur (p_pickT rfl rfl) (by decide) ?_
        refine l_pur (p_moveB rfl) (by decide) ?_
        refine lw_do rfl rfl rfl ?_
        refine l_pur (p_fieldAddr fo58_0 rfl) (by decide) ?_
        refine lw_do rfl rfl rfl ?_
        refine l_loadO (α := GPlace) (β := Bool) ty4 rfl GPlace.l_has hs (List.Mem.head _) (by decide) ?_
        refine lw_do rfl rfl rfl ?_
        refine l_purIs (c := false) (p_not rfl) (by simp [hg2]) (by decide) ?_
        refine lw_do rfl rfl rfl ?_
        refine l_pur (p_moveB rfl) (by decide) ?_
        refine lw_pass rfl rfl rfl rfl rfl rfl (by decide) ?_
        refine lw_pass rfl rfl rfl rfl rfl rfl (by decide) ?_
        refine lw_pass rfl rfl rfl rfl rfl rfl (by decide) ?_
        refine lw_do rfl rfl rfl ?_
        refine l_pur (p_pickF rfl rfl) (by decide) ?_
        refine l_pur (p_pickF rfl rfl) (by decide) ?_
        refine lw_nil ?_
        refine cw_false rfl ?_
        refine cw_skip ?_
        refine cw_region ?_
        refine l_pur (p_move e5) (by decide) ?_
        refine l_pur (p_add64 rfl rfl (by first | omega | (dsimp only; omega) | (simp; omega))) (by decide) ?_
        refine l_pur (p_assignI rfl) (by decide) ?_
        refine lw_nil ?_
        exact ⟨_, by omega, i + 1, rfl, rfl, e2, e3, by omega, hs.drop1⟩
      · try simp only [decide_eq_true_eq, decide_eq_false_iff_not, Bool.not_eq_true', Bool.not_eq_false', beq_iff_eq, bne_iff_ne, beq_eq_false_iff_ne, bne_eq_false_iff_eq] at hg2
        refine lw_pass rfl rfl rfl rfl rfl rfl (by decide) ?_
        refine lw_pass rfl rfl rfl rfl rfl rfl (by decide) ?_
        refine lw_pass rfl rfl rfl rfl rfl rfl (by decide) ?_
        refine lw_pass rfl rfl rfl rfl rfl rfl (by decide) ?_
        refine lw_pass rfl rfl rfl rfl rfl rfl (by decide) ?_
        refine l_pur (p_pickF rfl rfl) (by decide) ?_
        refine l_pur (p_moveB rfl) (by decide) ?_
        refine lw_do rfl rfl rfl ?_
        refine l_pur (p_fieldAddr fo58_0 rfl) (by decide) ?_
        refine lw_do rfl rfl rfl ?_
        refine l_loadO (α := GPlace) (β := Bool) ty4 rfl GPlace.l_has hs (List.Mem.head _) (by decide) ?_
        refine lw_do rfl rfl rfl ?_
        refine l_purIs (c := true) (p_not rfl) (by simp [hg2]) (by decide) ?_
        refine lw_do rfl rfl rfl ?_
        refine l_pur (p_moveB rfl) (by decide) ?_
        refine lw_do rfl rfl rfl ?_
        refine l_loadO (α := GPlace) (β := GPlace) ty58 rfl (Lens.id GPlace) hs (List.Mem.head _) (by decide) ?_
        refine lw_do rfl rfl rfl ?_
        refine l_pur (p_buildO (α := GPlace) Tryz.underlying58 (by kernel_rfl) z58 rfl (.nil _)) (by decide) ?_
        refine lw_do rfl rfl rfl ?_
        refine l_purIs (c := false) (p_neqS eq58 rfl rfl) (by simp [hp.z hg2]) (by decide) ?_
        refine lw_do rfl rfl rfl ?_
        refine l_pur (p_pickT rfl rfl) (by decide) ?_
        refine l_pur (p_pickF rfl rfl) (by decide) ?_
        refine lw_nil ?_
        refine cw_false rfl ?_
        refine cw_skip ?_
        refine cw_region ?_
        refine l_pur (p_move e5) (by decide) ?_
        refine l_pur (p_add64 rfl rfl (by first | omega | (dsimp only; omega) | (simp; omega))) (by decide) ?_
        refine l_pur (p_assignI rfl) (by decide) ?_
        refine lw_nil ?_
        exact ⟨_, by omega, i + 1, rfl, rfl, e2, e3, by omega, hs.drop1⟩
    · try simp only [decide_eq_true_eq, decide_eq_false_iff_not, Bool.not_eq_true', Bool.not_eq_false', beq_iff_eq, bne_iff_ne, beq_eq_false_iff_ne, bne_eq_false_iff_eq] at hc0
      refine cw_exit ?_
      refine cw_seq (cw_region ?_)
      refine l_pur (p_assignC) (by decide) ?_
      refine lw_nil ?_
      refine cw_ret ?_
      repeat (with_reducible first | refine tf_ret ?_ | refine ib_ret ?_)
      refine fin1 (fn := Tryz.f183) rfl (rv_tmpB rfl) ?_
      exact ⟨rfl, hs.drop1.drop1⟩
theorem s_hand {d : GDaemon} {p : GPeer} (hs : St W0 V w L) (h : p.hand = GHand.zero) : Calls Tryz.prog 182 #[val d, val p] w (okR fun v w' => v = .bool true ∧ St W0 V w' L) := by
  refine fn_enter (n := 35) Tryz.func182 rfl rfl rfl ?_
  intro f hf
  have e0 := hf 0
  have e1 := hf 1
  simp only [Array.getD_eq_getD_getElem?, List.getElem?_toArray, List.getElem?_cons_zero, List.getElem?_cons_succ, Option.getD_some] at e0 e1
  clear hf
  refine cw_seq (cw_region ?_)
  refine l_box (α := GDaemon) e0 hs (by decide) ?_; clear hs; intro b2 w hs
  refine l_box (α := GPeer) e1 hs (by decide) ?_; clear hs; intro b3 w hs
  refine l_pur (p_assignC) (by decide) ?_
  refine lw_nil ?_
  refine cw_seq (cw_region ?_)
  refine l_pur (p_fieldAddr fo63_8 rfl) (by decide) ?_
  refine l_loadO (α := GPeer) (β := GHand) ty50 rfl GPeer.l_hand hs (List.Mem.head _) (by decide) ?_
  refine l_alloc z50 hs (by decide) ?_; clear hs; intro b5 w hs
  refine l_store0 (α := GHand) (β := GHand) ty50 rfl rfl (Lens.id GHand) hs ?_; clear hs; intro w hs
  refine lw_nil ?_
  refine cw_seq ?_
  refine cw_seq (cw_region ?_)
  refine l_pur (p_fieldAddr fo50_0 rfl) (by decide) ?_
  refine l_loadO (α := GHand) (β := Bool) ty4 rfl GHand.l_has hs (List.Mem.head _) (by decide) ?_
  refine l_purIs (c := true) (p_not rfl) (by rw [h]; rfl) (by decide) ?_
  refine lw_nil ?_
  refine cw_true rfl ?_
  refine cw_seq (cw_region ?_)
  refine l_loadO (α := GHand) (β := GHand) ty50 rfl (Lens.id GHand) hs (List.Mem.head _) (by decide) ?_
  refine l_pur (p_buildO (α := GHand) Tryz.underlying50 (by kernel_rfl) z50 rfl (.nil _)) (by decide) ?_
  refine l_purIs (c := true) (p_eqlS eq50 rfl rfl) (by rw [h]; exact decide_eq_true rfl) (by decide) ?_
  refine l_pur (p_assignB rfl) (by decide) ?_
  refine lw_nil ?_
  refine cw_ret ?_
  repeat (with_reducible first | refine tf_ret ?_ | refine ib_ret ?_)
  refine fin1 (fn := Tryz.f182) rfl (rv_tmpB rfl) ?_
  exact ⟨rfl, hs.drop1.drop1.drop1⟩
end Go.Bur
namespace Go.Bur
open Go Go.RowKit Go.Proofs
set_option maxHeartbeats 4000000
variable {W0 : World} {V : PH} {w : World} {L : List (Nat × Obj)}
structure DSl (V : PH) (d : GDaemon) (ps : List GPeer) (rs : List GRoute) (ss : List GSlot) (ts : List GTimer) : Prop where
  p : Sl V 63 d.peers.a d.peers.cap ps
  pl : d.peers.len = ps.length
  r : Sl V 73 d.routes.a d.routes.cap rs
  rl : d.routes.len = rs.length
  s : Sl V 69 d.slots.a d.slots.cap ss
  sl : d.slots.len = ss.length
  t : Sl V 75 d.timers.a d.timers.cap ts
  tl : d.timers.len = ts.length
  re : d.recent = ⟨none, 0, 0⟩
  bu : d.buckets = ⟨none, 0, 0⟩
theorem DSl.mono {V' : PH} {d : GDaemon} {ps : List GPeer} {rs : List GRoute} {ss : List GSlot} {ts : List GTimer} (h : DSl V d ps rs ss ts) (hV : V ≤ V') : DSl V' d ps rs ss ts :=
  ⟨h.p.mono hV, h.pl, h.r.mono hV, h.rl, h.s.mono hV, h.sl, h.t.mono hV, h.tl, h.re, h.bu⟩
def findP (ps : List GPeer) (k : GKey) : Int := match ps.findIdx? (fun p => decide (p.pub = k)) with | some i => i | none => -1
theorem findP_none {ps : List GPeer} {k : GKey} (h : ∀ j (h : j < ps.length), ps[j].pub ≠ k) : findP ps k = -1 := by
  unfold findP
  have : ps.findIdx? (fun p => decide (p.pub = k)) = none := by
    rw [List.findIdx?_eq_none_iff]
    intro x hx
    obtain ⟨j, hj, rfl⟩ := List.getElem_of_mem hx
    simpa using h j hj
  rw [this]
theorem findP_some {ps : List GPeer} {k : GKey} {i : Nat} (hi : i < ps.length) (h : ∀ j (h : j < ps.length), j < i → ps[j].pub ≠ k) (he : ps[i].pub = k) : findP ps k = i := by
  unfold findP
  have : ps.findIdx? (fun p => decide (p.pub = k)) = some i := by
    rw [List.findIdx?_eq_some_iff_getElem]
    exact ⟨hi, by simpa using he, fun j hj => by simpa using h j (by omega) hj⟩
  rw [this]
theorem s_find24 {d : GDaemon} {ps : List GPeer} {k : GKey} (hs : St W0 V w L) (hp : Sl V 63 d.peers.a d.peers.cap ps) (hpl : d.peers.len = ps.length) (hlen : ps.length < 1000) :
    Calls Tryz.prog 37 #[val d, val k] w (okR fun v w' => v = vi (findP ps k) ∧ St W0 V w' L) := by
  refine fn_enter (n := 21) Tryz.func37 rfl rfl rfl ?_
  intro f hf
  have e0 := hf 0
  have e1 := hf 1
  simp only [Array.getD_eq_getD_getElem?, List.getElem?_toArray, List.getElem?_cons_zero, List.getElem?_cons_succ, Option.getD_some] at e0 e1
  clear hf
  refine cw_seq (cw_region ?_)
  refine l_box (α := GDaemon) e0 hs (by decide) ?_; clear hs; intro b2 w hs
  refine l_box (α := (Vec 32 UInt8)) e1 hs (by decide) ?_; clear hs; intro b3 w hs
  refine l_pur (p_assignC) (by decide) ?_
  refine lw_nil ?_
  refine cw_seq ?_
  refine cw_seq (cw_region ?_)
  refine l_pur (p_fieldAddr fo35_6 rfl) (by decide) ?_
  refine l_loadO (α := GDaemon) (β := GSl) ty28 rfl GDaemon.l_peers hs (List.Mem.tail _ (List.Mem.head _)) (by decide) ?_
  refine l_pur (p_len Tryz.underlying28 rfl) (by decide) ?_
  refine l_pur (p_moveC) (by decide) ?_
  refine lw_nil ?_
  refine cw_block ?_
  refine cw_loop (fun q f w => ∃ (i : Nat), q = ps.length - i ∧ i ≤ ps.length ∧ f 10 = vi i ∧ f 8 = val d.peers ∧ f 9 = vi ps.length ∧ f 3 = ptr b3 0 ∧ (∀ j (h : j < ps.length), j < i → ps[j].pub ≠ k) ∧ St W0 V w ((b3, blk 27 k) :: (b2, blk 35 d) :: L)) (ps.length) ?_ ?_
  · exact ⟨0, rfl, Nat.zero_le _, rfl, rfl, by show vi (d.peers.len : Int) = _; rw [hpl], rfl, fun j _ h => by omega, hs⟩
  · intro q f w hI
    obtain ⟨i, rfl, hi, e10, e8, e9, e3, hno, hs⟩ := hI
    refine cw_seq (cw_region ?_)
    refine l_pur (p_lss e10 e9) (by decide) ?_
    refine lw_nil ?_
    refine cw_seq ?_
    refine cw_cond _ rfl (fun hc0 => ?_) (fun hc0 => ?_)
    · have hlt : i < ps.length := by have := of_decide_eq_true hc0; omega
      refine cw_skip ?_
      refine cw_seq ?_
      refine cw_block ?_
      refine cw_seq (cw_region ?_)
      refine l_pur (p_move e10) (by decide) ?_
      refine l_indexSl (α := GPeer) el28.sl ty63 e8 hpl e10 (by first | omega | (dsimp only; omega) | (simp; omega)) hp (by decide) ?_; intro bb13 oo13 cc13 hb13 ha13
      refine l_loadV (α := GPeer) ty63 rfl hs hb13 ha13 (by decide) ?_
      refine l_alloc z63 hs (by decide) ?_; clear hs; intro b6 w hs
      refine l_pur (p_assignI rfl) (by decide) ?_
      refine l_store0 (α := GPeer) (β := GPeer) ty63 rfl rfl (Lens.id GPeer) hs ?_; clear hs; intro w hs
      refine lw_nil ?_
      refine cw_seq (cw_region ?_)
      refine l_pur (p_fieldAddr fo63_0 rfl) (by decide) ?_
      refine l_loadO (α := GPeer) (β := (Vec 32 UInt8)) ty27 rfl GPeer.l_pub hs (List.Mem.head _) (by decide) ?_
      refine l_loadO (α := (Vec 32 UInt8)) (β := (Vec 32 UInt8)) ty27 e3 (Lens.id (Vec 32 UInt8)) hs (List.Mem.tail _ (List.Mem.head _)) (by decide) ?_
      refine l_pur (p_eqlS eq27 rfl rfl) (by decide) ?_
      refine lw_nil ?_
      refine cw_cond _ rfl (fun hc1 => ?_) (fun hc1 => ?_)
      · try simp only [decide_eq_true_eq, decide_eq_false_iff_not, Bool.not_eq_true', Bool.not_eq_false', beq_iff_eq, bne_iff_ne, beq_eq_false_iff_ne, bne_eq_false_iff_eq] at hc1
        refine cw_seq (cw_region ?_)
        refine l_pur (p_moveI rfl) (by decide) ?_
        refine l_pur (p_assignI rfl) (by decide) ?_
        refine lw_nil ?_
        refine cw_ret ?_
        repeat (with_reducible first | refine tf_ret ?_ | refine ib_ret ?_)
        refine fin1 (fn := Tryz.f37) rfl (rv_tmpI rfl) ?_
        exact ⟨by rw [findP_some hlt hno hc1], hs.drop1.drop1.drop1⟩
      · try simp only [decide_eq_true_eq, decide_eq_false_iff_not, Bool.not_eq_true', Bool.not_eq_false', beq_iff_eq, bne_iff_ne, beq_eq_false_iff_ne, bne_eq_false_iff_eq] at hc1
        refine cw_skip ?_
        refine cw_region ?_
        refine l_pur (p_add64 e10 rfl (by first | omega | (dsimp only; omega) | (simp; omega))) (by decide) ?_
        refine l_pur (p_moveI rfl) (by decide) ?_
        refine lw_nil ?_
        refine ⟨_, by omega, i + 1, rfl, hlt, rfl, e8, e9, e3, fun j h hj => ?_, hs.drop1⟩
        by_cases hji : j < i
        · exact hno j h hji
        · obtain rfl : j = i := by omega
          exact hc1
    · have hge : i = ps.length := by have := of_decide_eq_false hc0; omega
      refine cw_exit ?_
      refine cw_seq (cw_region ?_)
      refine l_pur (p_assignC) (by decide) ?_
      refine lw_nil ?_
      refine cw_ret ?_
      repeat (with_reducible first | refine tf_ret ?_ | refine ib_ret ?_)
      refine fin1 (fn := Tryz.f37) rfl (rv_tmpI rfl) ?_
      exact ⟨by rw [findP_none fun j h => hno j h (by omega)], hs.drop1.drop1⟩
end Go.Bur
namespace Go.Bur
open Go Go.RowKit Go.Proofs
set_option maxHeartbeats 4000000
variable {W0 : World} {V : PH} {w : World} {L : List (Nat × Obj)}
structure RoutesOk (xs : List GRoute) : Prop where
  v : ∀ i (h : i < xs.length), validP xs[i].pfx = true
  o : ∀ i (_ : 0 < i) (h : i < xs.length), beforeP xs[i - 1].pfx xs[i].pfx = true
  n : xs.length ≤ 16
theorem s_validroutes {a : Option Addr} {cap : Nat} {xs : List GRoute} (hs : St W0 V w L) (hl : Sl V 73 a cap xs) (h : RoutesOk xs) :
    Calls Tryz.prog 184 #[.slice a xs.length cap] w (okR fun v w' => v = .bool true ∧ St W0 V w' L) := by
  obtain ⟨hv, ho, hn⟩ := h
  refine fn_enter (n := 36) Tryz.func184 rfl rfl rfl ?_
  intro f hf
  have e0 := hf 0
  simp only [Array.getD_eq_getD_getElem?, List.getElem?_toArray, List.getElem?_cons_zero, List.getElem?_cons_succ, Option.getD_some] at e0
  clear hf
  refine cw_seq (cw_region ?_)
  refine l_pur (p_assignC) (by decide) ?_
  refine lw_nil ?_
  refine cw_seq ?_
  refine cw_seq (cw_region ?_)
  refine l_pur (p_move e0) (by decide) ?_
  refine l_pur (p_len Tryz.underlying29 rfl) (by decide) ?_
  refine l_pur (p_moveC) (by decide) ?_
  refine lw_nil ?_
  refine cw_block ?_
  refine cw_loop (fun q f w => ∃ (i : Nat), q = xs.length - i ∧ i ≤ xs.length ∧ f 7 = vi i ∧ f 5 = .slice a xs.length cap ∧ f 0 = .slice a xs.length cap ∧ f 6 = vi xs.length ∧ St W0 V w L) (xs.length) ?_ ?_
  · exact ⟨0, rfl, Nat.zero_le _, rfl, rfl, e0, rfl, hs⟩
  · intro q f w hI
    obtain ⟨i, rfl, hi, e7, e5, e0, e6, hs⟩ := hI
    refine cw_seq (cw_region ?_)
    refine l_pur (p_lss e7 e6) (by decide) ?_
    refine lw_nil ?_
    refine cw_seq ?_
    refine cw_cond _ rfl (fun hc0 => ?_) (fun hc0 => ?_)
    · have hlt : i < xs.length := by have := of_decide_eq_true hc0; omega
      refine cw_skip ?_
      refine cw_seq ?_
      refine cw_block ?_
      refine cw_seq (cw_region ?_)
      refine l_pur (p_move e7) (by decide) ?_
      refine l_indexSl (α := GRoute) el29.sl ty73 e5 rfl e7 (by first | omega | (dsimp only; omega) | (simp; omega)) hl (by decide) ?_; intro bb10 oo10 cc10 hb10 ha10
      refine l_loadV (α := GRoute) ty73 rfl hs hb10 ha10 (by decide) ?_
      refine l_alloc z73 hs (by decide) ?_; clear hs; intro b4 w hs
      refine l_pur (p_assignI rfl) (by decide) ?_
      refine l_store0 (α := GRoute) (β := GRoute) ty73 rfl rfl (Lens.id GRoute) hs ?_; clear hs; intro w hs
      refine lw_nil ?_
      refine cw_seq ?_
      have hS := Hold.cons hs (List.Mem.head _) (Hold.nil hs (PH.refl _))
      refine cw_planH (.take 0 (.take 1 (.one 2 (.take 3 (.take 4 (.take 5 (.take 6 (.take 7 (.take 8 (.take 9 (.take 10 (.take 11 (.take 12 (.take 13 (.take 14 (.take 15 (.one 16 (.take 17 (.take 18 (.take 19 .done)))))))))))))))))))) 65535 hmix (by kernel_rfl) (fun _ _ _ h => h) hs hS ?_
      clear hS; clear hs; intro w hs; have hS := Hold.cons hs (List.Mem.head _) (Hold.nil hs (PH.refl _))
      refine pw_pur rfl (wt_free rfl) (p_fieldAddr fo73_0 rfl) (by decide) (fun _ => hS) ?_
      refine pw_ld rfl (wt_free rfl) (by kernel_rfl) (Hold.runs_loadO (α := GRoute) (β := GPrefix) ty71 rfl GRoute.l_pfx (List.Mem.head _)) (by decide) hS ?_
      refine pw_one ?_
      refine ow_call1 rfl (wt_free rfl) fn34 (s_valid09 hs) rfl ?_ (by decide)
      clear hs hS
      rintro _ w ⟨rfl, hs⟩
      refine ⟨fun _ => Hold.cons hs (List.Mem.head _) (Hold.nil hs (PH.refl _)), ?_⟩; have hS := Hold.cons hs (List.Mem.head _) (Hold.nil hs (PH.refl _))
      refine pw_purIs (c := false) rfl (wt_free rfl) (p_not rfl) (by simp [hv i hlt]) (by decide) (fun _ => hS) ?_
      refine pw_pur rfl (wt_free rfl) (p_moveB rfl) (by decide) (fun _ => hS) ?_
      refine pw_pur rfl (wt_yes rfl rfl rfl rfl) (p_moveI rfl) (by decide) (fun _ => hS) ?_
      refine pw_pur rfl (wt_yes rfl rfl rfl rfl) (p_gtr rfl rfl) (by decide) (fun _ => hS) ?_
      refine pw_purB rfl (wt_yes rfl rfl rfl rfl) (p_moveB rfl) (by decide) (fun _ => hS) (fun hg7 => ?_) (fun hg7 => ?_)
      · try simp only [decide_eq_true_eq, decide_eq_false_iff_not, Bool.not_eq_true', Bool.not_eq_false', beq_iff_eq, bne_iff_ne, beq_eq_false_iff_ne, bne_eq_false_iff_eq] at hg7
        refine pw_pur rfl (wt_yes rfl rfl rfl rfl) (p_move e0) (by decide) (fun _ => hS) ?_
        refine pw_pur rfl (wt_yes rfl rfl rfl rfl) (p_moveI rfl) (by decide) (fun _ => hS) ?_
        refine pw_pur rfl (wt_yes rfl rfl rfl rfl) (p_subN (a := _) (b := 1) rfl rfl (by first | omega | (dsimp only; omega) | (simp; omega)) (by first | omega | (dsimp only; omega) | (simp; omega))) (by decide) (fun _ => hS) ?_
        refine pw_indexSlN (α := GRoute) rfl (wt_yes rfl rfl rfl rfl) el29.sl ty73 rfl rfl rfl (by first | omega | (dsimp only; omega) | (simp; omega)) hl (by decide) (fun _ => hS) ?_; intro bb23 oo23 cc23 hb23 ha23
        refine pw_pur rfl (wt_yes rfl rfl rfl rfl) (p_fieldAddr fo73_0 rfl) (by decide) (fun _ => hS) ?_
        refine pw_ld rfl (wt_yes rfl rfl rfl rfl) (by kernel_rfl) (Hold.runs_loadV (α := GPrefix) ty71 rfl hb23 (ha23.lens GRoute.l_pfx)) (by decide) hS ?_
        refine pw_pur rfl (wt_yes rfl rfl rfl rfl) (p_fieldAddr fo73_0 rfl) (by decide) (fun _ => hS) ?_
        refine pw_ld rfl (wt_yes rfl rfl rfl rfl) (by kernel_rfl) (Hold.runs_loadO (α := GRoute) (β := GPrefix) ty71 rfl GRoute.l_pfx (List.Mem.head _)) (by decide) hS ?_
        refine pw_one ?_
        refine ow_call2 rfl (wt_yes rfl rfl rfl rfl) fn35 (s_before hs) rfl rfl ?_ (by decide)
        clear hs hS
        rintro _ w ⟨rfl, hs⟩
        refine ⟨fun h => absurd h (by decide), ?_⟩; have hS := True.intro
        refine pw_purIs (c := false) rfl (wt_yes rfl rfl rfl rfl) (p_not rfl) (by simp [ho i (by omega) hlt]) (by decide) (fun h => absurd h (by decide)) ?_
        refine pw_pur rfl (wt_yes rfl rfl rfl rfl) (p_pickT rfl rfl) (by decide) (fun h => absurd h (by decide)) ?_
        refine pw_pur rfl (wt_free rfl) (p_pickF rfl rfl) (by decide) (fun h => absurd h (by decide)) ?_
        refine pw_done ?_
        refine cw_false rfl ?_
        refine cw_skip ?_
        refine cw_region ?_
        refine l_pur (p_add64 e7 rfl (by first | omega | (dsimp only; omega) | (simp; omega))) (by decide) ?_
        refine l_pur (p_moveI rfl) (by decide) ?_
        refine lw_nil ?_
        exact ⟨_, by omega, i + 1, rfl, hlt, rfl, e5, e0, e6, hs.drop1⟩
      · try simp only [decide_eq_true_eq, decide_eq_false_iff_not, Bool.not_eq_true', Bool.not_eq_false', beq_iff_eq, bne_iff_ne, beq_eq_false_iff_ne, bne_eq_false_iff_eq] at hg7
        refine pw_pass rfl (wt_no rfl rfl rfl rfl rfl) (by decide) (fun _ => hS) ?_
        refine pw_pass rfl (wt_no rfl rfl rfl rfl rfl) (by decide) (fun _ => hS) ?_
        refine pw_pass rfl (wt_no rfl rfl rfl rfl rfl) (by decide) (fun _ => hS) ?_
        refine pw_pass rfl (wt_no rfl rfl rfl rfl rfl) (by decide) (fun _ => hS) ?_
        refine pw_pass rfl (wt_no rfl rfl rfl rfl rfl) (by decide) (fun _ => hS) ?_
        refine pw_pass rfl (wt_no rfl rfl rfl rfl rfl) (by decide) (fun _ => hS) ?_
        refine pw_pass rfl (wt_no rfl rfl rfl rfl rfl) (by decide) (fun _ => hS) ?_
        refine pw_pass rfl (wt_no rfl rfl rfl rfl rfl) (by decide) (fun _ => hS) ?_
        refine pw_one ?_
        refine ow_pass rfl (wt_no rfl rfl rfl rfl rfl) (by decide) (fun h => absurd h (by decide)) ?_
        refine pw_pass rfl (wt_no rfl rfl rfl rfl rfl) (by decide) (fun h => absurd h (by decide)) ?_
        refine pw_pur rfl (wt_yes rfl rfl rfl rfl) (p_pickF rfl rfl) (by decide) (fun h => absurd h (by decide)) ?_
        refine pw_pur rfl (wt_free rfl) (p_pickF rfl rfl) (by decide) (fun h => absurd h (by decide)) ?_
        refine pw_done ?_
        refine cw_false rfl ?_
        refine cw_skip ?_
        refine cw_region ?_
        refine l_pur (p_add64 e7 rfl (by first | omega | (dsimp only; omega) | (simp; omega))) (by decide) ?_
        refine l_pur (p_moveI rfl) (by decide) ?_
        refine lw_nil ?_
        exact ⟨_, by omega, i + 1, rfl, hlt, rfl, e5, e0, e6, hs.drop1⟩
    · try simp only [decide_eq_true_eq, decide_eq_false_iff_not, Bool.not_eq_true', Bool.not_eq_false', beq_iff_eq, bne_iff_ne, beq_eq_false_iff_ne, bne_eq_false_iff_eq] at hc0
      refine cw_exit ?_
      refine cw_seq (cw_region ?_)
      refine l_pur (p_move e0) (by decide) ?_
      refine l_pur (p_len Tryz.underlying29 rfl) (by decide) ?_
      refine l_purIs (c := true) (p_leq rfl rfl) (by simp; omega) (by decide) ?_
      refine l_pur (p_assignB rfl) (by decide) ?_
      refine lw_nil ?_
      refine cw_ret ?_
      repeat (with_reducible first | refine tf_ret ?_ | refine ib_ret ?_)
      refine fin1 (fn := Tryz.f184) rfl (rv_tmpB rfl) ?_
      exact ⟨rfl, hs⟩
structure SlotsOk (xs : List GSlot) : Prop where
  z : ∀ i (h : i < xs.length), xs[i].index ≠ 0
  o : ∀ i (_ : 0 < i) (h : i < xs.length), xs[i - 1].index < xs[i].index
  n : xs.length ≤ 32
theorem s_validslots {a : Option Addr} {cap : Nat} {xs : List GSlot} (hs : St W0 V w L) (hl : Sl V 69 a cap xs) (h : SlotsOk xs) :
    Calls Tryz.prog 185 #[.slice a xs.length cap] w (okR fun v w' => v = .bool true ∧ St W0 V w' L) := by
  obtain ⟨hz, ho, hn⟩ := h
  refine fn_enter (n := 34) Tryz.func185 rfl rfl rfl ?_
  intro f hf
  have e0 := hf 0
  simp only [Array.getD_eq_getD_getElem?, List.getElem?_toArray, List.getElem?_cons_zero, List.getElem?_cons_succ, Option.getD_some] at e0
  clear hf
  refine cw_seq (cw_region ?_)
  refine l_pur (p_assignC) (by decide) ?_
  refine lw_nil ?_
  refine cw_seq ?_
  refine cw_seq (cw_region ?_)
  refine l_pur (p_move e0) (by decide) ?_
  refine l_pur (p_len Tryz.underlying30 rfl) (by decide) ?_
  refine l_pur (p_moveC) (by decide) ?_
  refine lw_nil ?_
  refine cw_block ?_
  refine cw_loop (fun q f w => ∃ (i : Nat), q = xs.length - i ∧ i ≤ xs.length ∧ f 7 = vi i ∧ f 5 = .slice a xs.length cap ∧ f 0 = .slice a xs.length cap ∧ f 6 = vi xs.length ∧ St W0 V w L) (xs.length) ?_ ?_
  · exact ⟨0, rfl, Nat.zero_le _, rfl, rfl, e0, rfl, hs⟩
  · intro q f w hI
    obtain ⟨i, rfl, hi, e7, e5, e0, e6, hs⟩ := hI
    refine cw_seq (cw_region ?_)
    refine l_pur (p_lss e7 e6) (by decide) ?_
    refine lw_nil ?_
    refine cw_seq ?_
    refine cw_cond _ rfl (fun hc0 => ?_) (fun hc0 => ?_)
    · have hlt : i < xs.length := by have := of_decide_eq_true hc0; omega
      refine cw_skip ?_
      refine cw_seq ?_
      refine cw_block ?_
      refine cw_seq (cw_region ?_)
      refine l_pur (p_move e7) (by decide) ?_
      refine l_indexSl (α := GSlot) el30.sl ty69 e5 rfl e7 (by first | omega | (dsimp only; omega) | (simp; omega)) hl (by decide) ?_; intro bb10 oo10 cc10 hb10 ha10
      refine l_loadV (α := GSlot) ty69 rfl hs hb10 ha10 (by decide) ?_
      refine l_alloc z69 hs (by decide) ?_; clear hs; intro b4 w hs
      refine l_pur (p_assignI rfl) (by decide) ?_
      refine l_store0 (α := GSlot) (β := GSlot) ty69 rfl rfl (Lens.id GSlot) hs ?_; clear hs; intro w hs
      refine lw_nil ?_
      refine cw_seq ?_
      have hS := Hold.cons hs (List.Mem.head _) (Hold.nil hs (PH.refl _))
      refine cw_planH (.take 0 (.take 1 (.take 2 (.take 3 (.take 4 (.take 5 (.take 6 (.take 7 (.take 8 (.take 9 (.take 10 (.take 11 (.take 12 (.take 13 (.take 14 (.take 15 (.take 16 (.take 17 .done)))))))))))))))))) 32767 hmix (by kernel_rfl) (fun _ _ _ h => h) hs hS ?_
      clear hS; clear hs; intro w hs; have hS := Hold.cons hs (List.Mem.head _) (Hold.nil hs (PH.refl _))
      refine pw_pur rfl (wt_free rfl) (p_fieldAddr fo69_0 rfl) (by decide) (fun _ => hS) ?_
      refine pw_ld rfl (wt_free rfl) (by kernel_rfl) (Hold.runs_loadO (α := GSlot) (β := UInt32) ty46 rfl GSlot.l_index (List.Mem.head _)) (by decide) hS ?_
      refine pw_purIs (c := false) rfl (wt_free rfl) (p_eql_u32 (b := (0 : UInt32)) rfl rfl) (by simpa using hz i hlt) (by decide) (fun _ => hS) ?_
      refine pw_pur rfl (wt_free rfl) (p_moveB rfl) (by decide) (fun _ => hS) ?_
      refine pw_pur rfl (wt_yes rfl rfl rfl rfl) (p_moveI rfl) (by decide) (fun _ => hS) ?_
      refine pw_pur rfl (wt_yes rfl rfl rfl rfl) (p_gtr rfl rfl) (by decide) (fun _ => hS) ?_
      refine pw_purB rfl (wt_yes rfl rfl rfl rfl) (p_moveB rfl) (by decide) (fun _ => hS) (fun hg6 => ?_) (fun hg6 => ?_)
      · try simp only [decide_eq_true_eq, decide_eq_false_iff_not, Bool.not_eq_true', Bool.not_eq_false', beq_iff_eq, bne_iff_ne, beq_eq_false_iff_ne, bne_eq_false_iff_eq] at hg6
        refine pw_pur rfl (wt_yes rfl rfl rfl rfl) (p_fieldAddr fo69_0 rfl) (by decide) (fun _ => hS) ?_
        refine pw_ld rfl (wt_yes rfl rfl rfl rfl) (by kernel_rfl) (Hold.runs_loadO (α := GSlot) (β := UInt32) ty46 rfl GSlot.l_index (List.Mem.head _)) (by decide) hS ?_
        refine pw_pur rfl (wt_yes rfl rfl rfl rfl) (p_move e0) (by decide) (fun _ => hS) ?_
        refine pw_pur rfl (wt_yes rfl rfl rfl rfl) (p_moveI rfl) (by decide) (fun _ => hS) ?_
        refine pw_pur rfl (wt_yes rfl rfl rfl rfl) (p_subN (a := _) (b := 1) rfl rfl (by first | omega | (dsimp only; omega) | (simp; omega)) (by first | omega | (dsimp only; omega) | (simp; omega))) (by decide) (fun _ => hS) ?_
        refine pw_indexSlN (α := GSlot) rfl (wt_yes rfl rfl rfl rfl) el30.sl ty69 rfl rfl rfl (by first | omega | (dsimp only; omega) | (simp; omega)) hl (by decide) (fun _ => hS) ?_; intro bb24 oo24 cc24 hb24 ha24
        refine pw_pur rfl (wt_yes rfl rfl rfl rfl) (p_fieldAddr fo69_0 rfl) (by decide) (fun _ => hS) ?_
        refine pw_ld rfl (wt_yes rfl rfl rfl rfl) (by kernel_rfl) (Hold.runs_loadV (α := UInt32) ty46 rfl hb24 (ha24.lens GSlot.l_index)) (by decide) hS ?_
        refine pw_purIs (c := false) rfl (wt_yes rfl rfl rfl rfl) (p_leq_u32 rfl rfl) (by exact decide_eq_false (fun h => UInt32.not_le.2 (ho i (by omega) hlt) h)) (by decide) (fun h => absurd h (by decide)) ?_
        refine pw_pur rfl (wt_yes rfl rfl rfl rfl) (p_pickT rfl rfl) (by decide) (fun h => absurd h (by decide)) ?_
        refine pw_pur rfl (wt_free rfl) (p_pickF rfl rfl) (by decide) (fun h => absurd h (by decide)) ?_
        refine pw_done ?_
        refine cw_false rfl ?_
        refine cw_skip ?_
        refine cw_region ?_
        refine l_pur (p_add64 e7 rfl (by first | omega | (dsimp only; omega) | (simp; omega))) (by decide) ?_
        refine l_pur (p_moveI rfl) (by decide) ?_
        refine lw_nil ?_
        exact ⟨_, by omega, i + 1, rfl, hlt, rfl, e5, e0, e6, hs.drop1⟩
      · try simp only [decide_eq_true_eq, decide_eq_false_iff_not, Bool.not_eq_true', Bool.not_eq_false', beq_iff_eq, bne_iff_ne, beq_eq_false_iff_ne, bne_eq_false_iff_eq] at hg6
        refine pw_pass rfl (wt_no rfl rfl rfl rfl rfl) (by decide) (fun _ => hS) ?_
        refine pw_pass rfl (wt_no rfl rfl rfl rfl rfl) (by decide) (fun _ => hS) ?_
        refine pw_pass rfl (wt_no rfl rfl rfl rfl rfl) (by decide) (fun _ => hS) ?_
        refine pw_pass rfl (wt_no rfl rfl rfl rfl rfl) (by decide) (fun _ => hS) ?_
        refine pw_pass rfl (wt_no rfl rfl rfl rfl rfl) (by decide) (fun _ => hS) ?_
        refine pw_pass rfl (wt_no rfl rfl rfl rfl rfl) (by decide) (fun _ => hS) ?_
        refine pw_pass rfl (wt_no rfl rfl rfl rfl rfl) (by decide) (fun _ => hS) ?_
        refine pw_pass rfl (wt_no rfl rfl rfl rfl rfl) (by decide) (fun _ => hS) ?_
        refine pw_pass rfl (wt_no rfl rfl rfl rfl rfl) (by decide) (fun h => absurd h (by decide)) ?_
        refine pw_pur rfl (wt_yes rfl rfl rfl rfl) (p_pickF rfl rfl) (by decide) (fun h => absurd h (by decide)) ?_
        refine pw_pur rfl (wt_free rfl) (p_pickF rfl rfl) (by decide) (fun h => absurd h (by decide)) ?_
        refine pw_done ?_
        refine cw_false rfl ?_
        refine cw_skip ?_
        refine cw_region ?_
        refine l_pur (p_add64 e7 rfl (by first | omega | (dsimp only; omega) | (simp; omega))) (by decide) ?_
        refine l_pur (p_moveI rfl) (by decide) ?_
        refine lw_nil ?_
        exact ⟨_, by omega, i + 1, rfl, hlt, rfl, e5, e0, e6, hs.drop1⟩
    · try simp only [decide_eq_true_eq, decide_eq_false_iff_not, Bool.not_eq_true', Bool.not_eq_false', beq_iff_eq, bne_iff_ne, beq_eq_false_iff_ne, bne_eq_false_iff_eq] at hc0
      refine cw_exit ?_
      refine cw_seq (cw_region ?_)
      refine l_pur (p_move e0) (by decide) ?_
      refine l_pur (p_len Tryz.underlying30 rfl) (by decide) ?_
      refine l_purIs (c := true) (p_leq rfl rfl) (by simp; omega) (by decide) ?_
      refine l_pur (p_assignB rfl) (by decide) ?_
      refine lw_nil ?_
      refine cw_ret ?_
      repeat (with_reducible first | refine tf_ret ?_ | refine ib_ret ?_)
      refine fin1 (fn := Tryz.f185) rfl (rv_tmpB rfl) ?_
      exact ⟨rfl, hs⟩
theorem s_load24 {d : GDaemon} (hs : St W0 V w L) (h1 : 0 ≤ d.secretAt ∧ d.secretAt ≤ d.now) (h2 : d.recent = ⟨none, 0, 0⟩) (h3 : d.buckets = ⟨none, 0, 0⟩) :
    Calls Tryz.prog 116 #[val d] w (okR fun v w' => v = .bool true ∧ St W0 V w' L) := by
  refine fn_enter (n := 94) Tryz.func116 rfl rfl rfl ?_
  intro f hf
  have e0 := hf 0
  simp only [Array.getD_eq_getD_getElem?, List.getElem?_toArray, List.getElem?_cons_zero, List.getElem?_cons_succ, Option.getD_some] at e0
  clear hf
  refine cw_seq (cw_region ?_)
  refine l_box (α := GDaemon) e0 hs (by decide) ?_; clear hs; intro b1 w hs
  refine l_pur (p_assignC) (by decide) ?_
  refine lw_nil ?_
  refine cw_seq ?_
  refine cw_seq (cw_region ?_)
  refine l_loadO (α := GDaemon) (β := GDaemon) ty35 rfl (Lens.id GDaemon) hs (List.Mem.head _) (by decide) ?_
  refine l_pur (p_fieldAddr fo35_11 rfl) (by decide) ?_
  refine l_loadO (α := GDaemon) (β := Int) ty2 rfl GDaemon.l_secretAt hs (List.Mem.head _) (by decide) ?_
  refine l_call2 fn75 (s_past hs h1) rfl rfl ?_ (by decide)
  clear hs
  rintro _ w ⟨rfl, hs⟩
  refine l_pur (p_not rfl) (by decide) ?_
  refine l_pur (p_moveB rfl) (by decide) ?_
  refine lw_do rfl rfl rfl ?_
  refine l_pur (p_fieldAddr fo35_12 rfl) (by decide) ?_
  refine lw_do rfl rfl rfl ?_
  refine l_loadO (α := GDaemon) (β := GSl) ty32 rfl GDaemon.l_recent hs (List.Mem.head _) (by decide) ?_
  refine lw_do rfl rfl rfl ?_
  refine l_pur (p_len Tryz.underlying32 rfl) (by decide) ?_
  refine lw_do rfl rfl rfl ?_
  refine l_purIs (c := false) (p_gtr rfl rfl) (by rw [h2]; decide) (by decide) ?_
  refine l_pur (p_pickF rfl rfl) (by decide) ?_
  refine l_pur (p_moveB rfl) (by decide) ?_
  refine lw_do rfl rfl rfl ?_
  refine l_pur (p_fieldAddr fo35_13 rfl) (by decide) ?_
  refine lw_do rfl rfl rfl ?_
  refine l_loadO (α := GDaemon) (β := GSl) ty33 rfl GDaemon.l_buckets hs (List.Mem.head _) (by decide) ?_
  refine lw_do rfl rfl rfl ?_
  refine l_pur (p_len Tryz.underlying33 rfl) (by decide) ?_
  refine lw_do rfl rfl rfl ?_
  refine l_purIs (c := false) (p_gtr rfl rfl) (by rw [h3]; decide) (by decide) ?_
  refine l_pur (p_pickF rfl rfl) (by decide) ?_
  refine lw_nil ?_
  refine cw_false rfl ?_
  refine cw_skip ?_
  refine cw_seq ?_
  refine cw_seq (cw_region ?_)
  refine l_pur (p_fieldAddr fo35_12 rfl) (by decide) ?_
  refine l_loadO (α := GDaemon) (β := GSl) ty32 rfl GDaemon.l_recent hs (List.Mem.head _) (by decide) ?_
  refine l_pur (p_len Tryz.underlying32 rfl) (by decide) ?_
  refine l_pur (p_moveC) (by decide) ?_
  refine lw_nil ?_
  refine cw_block ?_
  refine cw_loop (fun q f w => f 27 = vi 0 ∧ f 26 = vi 0 ∧ f 1 = ptr b1 0 ∧ St W0 V w ((b1, blk 35 d) :: L)) (0) ?_ ?_
  · exact ⟨rfl, by show vi (d.recent.len : Int) = _; rw [h2]; rfl, rfl, hs⟩
  · intro q f w hI
    obtain ⟨e27, e26, e1, hs⟩ := hI
    refine cw_seq (cw_region ?_)
    refine l_pur (p_lss e27 e26) (by decide) ?_
    refine lw_nil ?_
    refine cw_seq ?_
    refine cw_cond _ rfl (fun hc1 => ?_) (fun hc1 => ?_)
    · exact absurd hc1 (by decide)
    · try simp only [decide_eq_true_eq, decide_eq_false_iff_not, Bool.not_eq_true', Bool.not_eq_false', beq_iff_eq, bne_iff_ne, beq_eq_false_iff_ne, bne_eq_false_iff_eq] at hc1
      refine cw_exit ?_
      refine cw_seq ?_
      refine cw_seq (cw_region ?_)
      refine l_pur (p_fieldAddr fo35_13 e1) (by decide) ?_
      refine l_loadO (α := GDaemon) (β := GSl) ty33 rfl GDaemon.l_buckets hs (List.Mem.head _) (by decide) ?_
      refine l_pur (p_len Tryz.underlying33 rfl) (by decide) ?_
      refine l_pur (p_moveC) (by decide) ?_
      refine lw_nil ?_
      refine cw_block ?_
      refine cw_loop (fun q f w => f 54 = vi 0 ∧ f 53 = vi 0 ∧ f 1 = ptr b1 0 ∧ St W0 V w ((b1, blk 35 d) :: L)) (0) ?_ ?_
      · exact ⟨rfl, by show vi (d.buckets.len : Int) = _; rw [h3]; rfl, e1, hs⟩
      · intro q f w hI
        obtain ⟨e54, e53, e1, hs⟩ := hI
        refine cw_seq (cw_region ?_)
        refine l_pur (p_lss e54 e53) (by decide) ?_
        refine lw_nil ?_
        refine cw_seq ?_
        refine cw_cond _ rfl (fun hc3 => ?_) (fun hc3 => ?_)
        · exact absurd hc3 (by decide)
        · try simp only [decide_eq_true_eq, decide_eq_false_iff_not, Bool.not_eq_true', Bool.not_eq_false', beq_iff_eq, bne_iff_ne, beq_eq_false_iff_ne, bne_eq_false_iff_eq] at hc3
          refine cw_exit ?_
          refine cw_seq (cw_region ?_)
          refine l_pur (p_assignC) (by decide) ?_
          refine lw_nil ?_
          refine cw_ret ?_
          repeat (with_reducible first | refine tf_ret ?_ | refine ib_ret ?_)
          refine fin1 (fn := Tryz.f116) rfl (rv_tmpB rfl) ?_
          exact ⟨rfl, hs.drop1⟩
end Go.Bur
namespace Go.Bur
open Go Go.RowKit Go.Proofs
set_option maxHeartbeats 4000000
variable {W0 : World} {V : PH} {w : World} {L : List (Nat × Obj)}
structure TimersOk (xs : List GTimer) : Prop where
  k : ∀ i (h : i < xs.length), 1 ≤ xs[i].kind ∧ xs[i].kind ≤ 5 ∧ 0 ≤ xs[i].at_ ∧ xs[i].at_ ≤ 4398046511104
  o : ∀ i (_ : 0 < i) (h : i < xs.length), lessT xs[i - 1] xs[i] = true
  u : ∀ i j (_ : j < i) (h : i < xs.length), ¬ (xs[i].peer = xs[j].peer ∧ xs[i].kind = xs[j].kind)
theorem s_validtimers {a : Option Addr} {cap : Nat} {xs : List GTimer} (hs : St W0 V w L) (hl : Sl V 75 a cap xs) (h : TimersOk xs) (hn : xs.length < 1000) :
    Calls Tryz.prog 187 #[.slice a xs.length cap] w (okR fun v w' => v = .bool true ∧ St W0 V w' L) := by
  obtain ⟨hk, ho, hu⟩ := h
  refine fn_enter (n := 68) Tryz.func187 rfl rfl rfl ?_
  intro f hf
  have e0 := hf 0
  simp only [Array.getD_eq_getD_getElem?, List.getElem?_toArray, List.getElem?_cons_zero, List.getElem?_cons_succ, Option.getD_some] at e0
  clear hf
  have hcap : xs.length ≤ cap := by
    by_cases hn : xs = []
    · subst hn; simp
    · exact sl_cap hl hn
  refine cw_seq (cw_region ?_)
  refine l_pur (p_assignC) (by decide) ?_
  refine lw_nil ?_
  refine cw_seq ?_
  refine cw_seq (cw_region ?_)
  refine l_pur (p_move e0) (by decide) ?_
  refine l_pur (p_len Tryz.underlying31 rfl) (by decide) ?_
  refine l_pur (p_moveC) (by decide) ?_
  refine lw_nil ?_
  refine cw_block ?_
  refine cw_loop (fun q f w => ∃ (i : Nat), q = xs.length - i ∧ i ≤ xs.length ∧ f 9 = vi i ∧ f 7 = .slice a xs.length cap ∧ f 0 = .slice a xs.length cap ∧ f 8 = vi xs.length ∧ St W0 V w L) (xs.length) ?_ ?_
  · exact ⟨0, rfl, Nat.zero_le _, rfl, rfl, e0, rfl, hs⟩
  · intro q f w hI
    obtain ⟨i, rfl, hi, e9, e7, e0, e8, hs⟩ := hI
    refine cw_seq (cw_region ?_)
    refine l_pur (p_lss e9 e8) (by decide) ?_
    refine lw_nil ?_
    refine cw_seq ?_
    refine cw_cond _ rfl (fun hc0 => ?_) (fun hc0 => ?_)
    · have hlt : i < xs.length := by have := of_decide_eq_true hc0; omega
      have hki := hk i hlt
      refine cw_skip ?_
      refine cw_seq ?_
      refine cw_block ?_
      refine cw_seq (cw_region ?_)
      refine l_pur (p_move e9) (by decide) ?_
      refine l_indexSl (α := GTimer) el31.sl ty75 e7 rfl e9 (by first | omega | (dsimp only; omega) | (simp; omega)) hl (by decide) ?_; intro bb12 oo12 cc12 hb12 ha12
      refine l_loadV (α := GTimer) ty75 rfl hs hb12 ha12 (by decide) ?_
      refine l_alloc z75 hs (by decide) ?_; clear hs; intro b4 w hs
      refine l_pur (p_assignI rfl) (by decide) ?_
      refine l_store0 (α := GTimer) (β := GTimer) ty75 rfl rfl (Lens.id GTimer) hs ?_; clear hs; intro w hs
      refine lw_nil ?_
      refine cw_seq ?_
      refine cw_seq ?_
      have hS := Hold.cons hs (List.Mem.head _) (Hold.nil hs (PH.refl _))
      refine cw_planH (.take 0 (.take 1 (.take 2 (.take 3 (.take 4 (.take 5 (.take 6 (.take 7 (.take 8 (.take 9 (.take 10 (.take 11 (.take 12 (.take 13 (.take 14 (.take 15 (.take 16 (.take 17 (.take 18 (.take 19 (.take 20 (.take 21 (.take 22 (.take 23 (.take 24 (.take 25 (.take 26 (.take 27 (.one 28 (.take 29 (.take 30 (.take 31 .done)))))))))))))))))))))))))))))))) 268435455 hmix (by kernel_rfl) (fun _ _ _ h => h) hs hS ?_
      clear hS; clear hs; intro w hs; have hS := Hold.cons hs (List.Mem.head _) (Hold.nil hs (PH.refl _))
      refine pw_pur rfl (wt_free rfl) (p_fieldAddr fo75_2 rfl) (by decide) (fun _ => hS) ?_
      refine pw_ld rfl (wt_free rfl) (by kernel_rfl) (Hold.runs_loadO (α := GTimer) (β := Int) ty3 rfl GTimer.l_kind (List.Mem.head _)) (by decide) hS ?_
      refine pw_purIs (c := false) rfl (wt_free rfl) (p_lss rfl rfl) (by exact decide_eq_false (by omega)) (by decide) (fun _ => hS) ?_
      refine pw_pur rfl (wt_free rfl) (p_moveB rfl) (by decide) (fun _ => hS) ?_
      refine pw_pur rfl (wt_yes rfl rfl rfl rfl) (p_fieldAddr fo75_2 rfl) (by decide) (fun _ => hS) ?_
      refine pw_ld rfl (wt_yes rfl rfl rfl rfl) (by kernel_rfl) (Hold.runs_loadO (α := GTimer) (β := Int) ty3 rfl GTimer.l_kind (List.Mem.head _)) (by decide) hS ?_
      refine pw_purIs (c := false) rfl (wt_yes rfl rfl rfl rfl) (p_gtr rfl rfl) (by exact decide_eq_false (by omega)) (by decide) (fun _ => hS) ?_
      refine pw_pur rfl (wt_free rfl) (p_pickF rfl rfl) (by decide) (fun _ => hS) ?_
      refine pw_pur rfl (wt_free rfl) (p_moveB rfl) (by decide) (fun _ => hS) ?_
      refine pw_pur rfl (wt_yes rfl rfl rfl rfl) (p_fieldAddr fo75_0 rfl) (by decide) (fun _ => hS) ?_
      refine pw_ld rfl (wt_yes rfl rfl rfl rfl) (by kernel_rfl) (Hold.runs_loadO (α := GTimer) (β := Int) ty2 rfl GTimer.l_at_ (List.Mem.head _)) (by decide) hS ?_
      refine pw_purIs (c := false) rfl (wt_yes rfl rfl rfl rfl) (p_lss rfl rfl) (by exact decide_eq_false (by omega)) (by decide) (fun _ => hS) ?_
      refine pw_pur rfl (wt_free rfl) (p_pickF rfl rfl) (by decide) (fun _ => hS) ?_
      refine pw_pur rfl (wt_free rfl) (p_moveB rfl) (by decide) (fun _ => hS) ?_
      refine pw_pur rfl (wt_yes rfl rfl rfl rfl) (p_fieldAddr fo75_0 rfl) (by decide) (fun _ => hS) ?_
      refine pw_ld rfl (wt_yes rfl rfl rfl rfl) (by kernel_rfl) (Hold.runs_loadO (α := GTimer) (β := Int) ty2 rfl GTimer.l_at_ (List.Mem.head _)) (by decide) hS ?_
      refine pw_purIs (c := false) rfl (wt_yes rfl rfl rfl rfl) (p_gtr rfl rfl) (by exact decide_eq_false (by omega)) (by decide) (fun _ => hS) ?_
      refine pw_pur rfl (wt_free rfl) (p_pickF rfl rfl) (by decide) (fun _ => hS) ?_
      refine pw_pur rfl (wt_free rfl) (p_moveB rfl) (by decide) (fun _ => hS) ?_
      refine pw_pur rfl (wt_yes rfl rfl rfl rfl) (p_moveI rfl) (by decide) (fun _ => hS) ?_
      refine pw_pur rfl (wt_yes rfl rfl rfl rfl) (p_gtr rfl rfl) (by decide) (fun _ => hS) ?_
      refine pw_purB rfl (wt_yes rfl rfl rfl rfl) (p_moveB rfl) (by decide) (fun _ => hS) (fun hg21 => ?_) (fun hg21 => ?_)
      · try simp only [decide_eq_true_eq, decide_eq_false_iff_not, Bool.not_eq_true', Bool.not_eq_false', beq_iff_eq, bne_iff_ne, beq_eq_false_iff_ne, bne_eq_false_iff_eq] at hg21
        refine pw_pur rfl (wt_yes rfl rfl rfl rfl) (p_move e0) (by decide) (fun _ => hS) ?_
        refine pw_pur rfl (wt_yes rfl rfl rfl rfl) (p_moveI rfl) (by decide) (fun _ => hS) ?_
        refine pw_pur rfl (wt_yes rfl rfl rfl rfl) (p_subN (a := _) (b := 1) rfl rfl (by first | omega | (dsimp only; omega) | (simp; omega)) (by first | omega | (dsimp only; omega) | (simp; omega))) (by decide) (fun _ => hS) ?_
        refine pw_indexSlN (α := GTimer) rfl (wt_yes rfl rfl rfl rfl) el31.sl ty75 rfl rfl rfl (by first | omega | (dsimp only; omega) | (simp; omega)) hl (by decide) (fun _ => hS) ?_; intro bb39 oo39 cc39 hb39 ha39
        refine pw_ld rfl (wt_yes rfl rfl rfl rfl) (by kernel_rfl) (Hold.runs_loadV (α := GTimer) ty75 rfl hb39 ha39) (by decide) hS ?_
        refine pw_ld rfl (wt_yes rfl rfl rfl rfl) (by kernel_rfl) (Hold.runs_loadO (α := GTimer) (β := GTimer) ty75 rfl (Lens.id GTimer) (List.Mem.head _)) (by decide) hS ?_
        refine pw_one ?_
        refine ow_call2 rfl (wt_yes rfl rfl rfl rfl) fn33 (s_lesst hs) rfl rfl ?_ (by decide)
        clear hs hS
        rintro _ w ⟨rfl, hs⟩
        refine ⟨fun h => absurd h (by decide), ?_⟩; have hS := True.intro
        refine pw_purIs (c := false) rfl (wt_yes rfl rfl rfl rfl) (p_not rfl) (by simp [ho i (by omega) hlt]) (by decide) (fun h => absurd h (by decide)) ?_
        refine pw_pur rfl (wt_yes rfl rfl rfl rfl) (p_pickT rfl rfl) (by decide) (fun h => absurd h (by decide)) ?_
        refine pw_pur rfl (wt_free rfl) (p_pickF rfl rfl) (by decide) (fun h => absurd h (by decide)) ?_
        refine pw_done ?_
        refine cw_false rfl ?_
        refine cw_skip ?_
        refine cw_seq ?_
        have hl2 := hl.slice (l := 0) (h := i) (m := cap) (Nat.zero_le _) hi (Nat.le_refl _) (by omega)
        refine cw_region ?_
        refine l_pur (p_move e0) (by decide) ?_
        refine l_pur (p_moveI rfl) (by decide) ?_
        refine l_pur (p_slice el31.sl el31.ty.size rfl (.no _) (.at_ _ rfl) (.no _) (.inl rfl) (by first | omega | (dsimp only; omega) | (simp; omega))) (by decide) ?_
        refine l_pur (p_len Tryz.underlying31 rfl) (by decide) ?_
        refine l_pur (p_moveC) (by decide) ?_
        refine lw_nil ?_
        refine cw_block ?_
        refine cw_loop (fun q f w => ∃ (j : Nat), q = i - j ∧ j ≤ i ∧ f 50 = vi j ∧ f 49 = vi i ∧ (∃ a2, f 48 = .slice a2 i (cap - 0) ∧ Sl V 75 a2 (cap - 0) ((xs.take i).drop 0)) ∧ f 4 = ptr b4 0 ∧ f 9 = vi i ∧ f 7 = .slice a xs.length cap ∧ f 0 = .slice a xs.length cap ∧ f 8 = vi xs.length ∧ St W0 V w ((b4, blk 75 xs[i]) :: L)) (i) ?_ ?_
        · exact ⟨0, rfl, Nat.zero_le _, rfl, rfl, ⟨_, rfl, hl2⟩, rfl, e9, e7, e0, e8, hs⟩
        · intro q f w hI
          obtain ⟨j, rfl, hj, e50, e49, ⟨a2, e48, hl3⟩, e4, e9, e7, e0, e8, hs⟩ := hI
          have hlen3 : i = ((xs.take i).drop 0).length := by simp; omega
          refine cw_seq (cw_region ?_)
          refine l_pur (p_lss e50 e49) (by decide) ?_
          refine lw_nil ?_
          refine cw_seq ?_
          refine cw_cond _ rfl (fun hc2 => ?_) (fun hc2 => ?_)
          · have hjlt : j < i := by have := of_decide_eq_true hc2; omega
            refine cw_skip ?_
            refine cw_seq ?_
            refine cw_block ?_
            refine cw_seq (cw_region ?_)
            refine l_indexSl (α := GTimer) el31.sl ty75 e48 hlen3 e50 (by first | omega | (dsimp only; omega) | (simp; omega)) hl3 (by decide) ?_; intro bb52 oo52 cc52 hb52 ha52
            refine l_loadV (α := GTimer) ty75 rfl hs hb52 ha52 (by decide) ?_
            refine l_alloc z75 hs (by decide) ?_; clear hs; intro b6 w hs
            refine l_store0 (α := GTimer) (β := GTimer) ty75 rfl rfl (Lens.id GTimer) hs ?_; clear hs; intro w hs
            refine lw_nil ?_
            refine cw_seq ?_
            have hej : ∀ h, ((xs.take i).drop 0)[j]'h = xs[j] := by intro h; simp
            rw [hej] at hs
            refine cw_region ?_
            refine l_pur (p_fieldAddr fo75_1 e4) (by decide) ?_
            refine l_loadO (α := GTimer) (β := (Vec 32 UInt8)) ty27 rfl GTimer.l_peer hs (List.Mem.tail _ (List.Mem.head _)) (by decide) ?_
            refine l_pur (p_fieldAddr fo75_1 rfl) (by decide) ?_
            refine l_loadO (α := GTimer) (β := (Vec 32 UInt8)) ty27 rfl GTimer.l_peer hs (List.Mem.head _) (by decide) ?_
            refine l_pur (p_eqlS eq27 rfl rfl) (by decide) ?_
            refine l_purB (p_moveB rfl) (by decide) (fun hg5 => ?_) (fun hg5 => ?_)
            · try simp only [decide_eq_true_eq, decide_eq_false_iff_not, Bool.not_eq_true', Bool.not_eq_false', beq_iff_eq, bne_iff_ne, beq_eq_false_iff_ne, bne_eq_false_iff_eq] at hg5
              refine lw_do rfl rfl rfl ?_
              refine l_pur (p_fieldAddr fo75_2 e4) (by decide) ?_
              refine lw_do rfl rfl rfl ?_
              refine l_loadO (α := GTimer) (β := Int) ty3 rfl GTimer.l_kind hs (List.Mem.tail _ (List.Mem.head _)) (by decide) ?_
              refine lw_do rfl rfl rfl ?_
              refine l_pur (p_fieldAddr fo75_2 rfl) (by decide) ?_
              refine lw_do rfl rfl rfl ?_
              refine l_loadO (α := GTimer) (β := Int) ty3 rfl GTimer.l_kind hs (List.Mem.head _) (by decide) ?_
              refine lw_do rfl rfl rfl ?_
              refine l_purIs (c := false) (p_eql rfl rfl) (by exact decide_eq_false (fun h2 => hu i j hjlt hlt ⟨hg5, h2⟩)) (by decide) ?_
              refine l_pur (p_pickT rfl rfl) (by decide) ?_
              refine lw_nil ?_
              refine cw_false rfl ?_
              refine cw_skip ?_
              refine cw_region ?_
              refine l_pur (p_add64 e50 rfl (by first | omega | (dsimp only; omega) | (simp; omega))) (by decide) ?_
              refine l_pur (p_moveI rfl) (by decide) ?_
              refine lw_nil ?_
              exact ⟨_, by omega, j + 1, rfl, by omega, rfl, e49, ⟨_, e48, hl3⟩, e4, e9, e7, e0, e8, hs.drop1⟩
            · try simp only [decide_eq_true_eq, decide_eq_false_iff_not, Bool.not_eq_true', Bool.not_eq_false', beq_iff_eq, bne_iff_ne, beq_eq_false_iff_ne, bne_eq_false_iff_eq] at hg5
              refine lw_pass rfl rfl rfl rfl rfl rfl (by decide) ?_
              refine lw_pass rfl rfl rfl rfl rfl rfl (by decide) ?_
              refine lw_pass rfl rfl rfl rfl rfl rfl (by decide) ?_
              refine lw_pass rfl rfl rfl rfl rfl rfl (by decide) ?_
              refine lw_pass rfl rfl rfl rfl rfl rfl (by decide) ?_
              refine l_pur (p_pickF rfl rfl) (by decide) ?_
              refine lw_nil ?_
              refine cw_false rfl ?_
              refine cw_skip ?_
              refine cw_region ?_
              refine l_pur (p_add64 e50 rfl (by first | omega | (dsimp only; omega) | (simp; omega))) (by decide) ?_
              refine l_pur (p_moveI rfl) (by decide) ?_
              refine lw_nil ?_
              exact ⟨_, by omega, j + 1, rfl, by omega, rfl, e49, ⟨_, e48, hl3⟩, e4, e9, e7, e0, e8, hs.drop1⟩
          · try simp only [decide_eq_true_eq, decide_eq_false_iff_not, Bool.not_eq_true', Bool.not_eq_false', beq_iff_eq, bne_iff_ne, beq_eq_false_iff_ne, bne_eq_false_iff_eq] at hc2
            refine cw_exit ?_
            refine cw_region ?_
            refine l_pur (p_add64 e9 rfl (by first | omega | (dsimp only; omega) | (simp; omega))) (by decide) ?_
            refine l_pur (p_moveI rfl) (by decide) ?_
            refine lw_nil ?_
            exact ⟨_, by omega, i + 1, rfl, hlt, rfl, e7, e0, e8, hs.drop1⟩
      · try simp only [decide_eq_true_eq, decide_eq_false_iff_not, Bool.not_eq_true', Bool.not_eq_false', beq_iff_eq, bne_iff_ne, beq_eq_false_iff_ne, bne_eq_false_iff_eq] at hg21
        refine pw_pass rfl (wt_no rfl rfl rfl rfl rfl) (by decide) (fun _ => hS) ?_
        refine pw_pass rfl (wt_no rfl rfl rfl rfl rfl) (by decide) (fun _ => hS) ?_
        refine pw_pass rfl (wt_no rfl rfl rfl rfl rfl) (by decide) (fun _ => hS) ?_
        refine pw_pass rfl (wt_no rfl rfl rfl rfl rfl) (by decide) (fun _ => hS) ?_
        refine pw_pass rfl (wt_no rfl rfl rfl rfl rfl) (by decide) (fun _ => hS) ?_
        refine pw_pass rfl (wt_no rfl rfl rfl rfl rfl) (by decide) (fun _ => hS) ?_
        refine pw_one ?_
        refine ow_pass rfl (wt_no rfl rfl rfl rfl rfl) (by decide) (fun h => absurd h (by decide)) ?_
        refine pw_pass rfl (wt_no rfl rfl rfl rfl rfl) (by decide) (fun h => absurd h (by decide)) ?_
        refine pw_pur rfl (wt_yes rfl rfl rfl rfl) (p_pickF rfl rfl) (by decide) (fun h => absurd h (by decide)) ?_
        refine pw_pur rfl (wt_free rfl) (p_pickF rfl rfl) (by decide) (fun h => absurd h (by decide)) ?_
        refine pw_done ?_
        refine cw_false rfl ?_
        refine cw_skip ?_
        refine cw_seq ?_
        have hl2 := hl.slice (l := 0) (h := i) (m := cap) (Nat.zero_le _) hi (Nat.le_refl _) (by omega)
        refine cw_region ?_
        refine l_pur (p_move e0) (by decide) ?_
        refine l_pur (p_moveI rfl) (by decide) ?_
        refine l_pur (p_slice el31.sl el31.ty.size rfl (.no _) (.at_ _ rfl) (.no _) (.inl rfl) (by first | omega | (dsimp only; omega) | (simp; omega))) (by decide) ?_
        refine l_pur (p_len Tryz.underlying31 rfl) (by decide) ?_
        refine l_pur (p_moveC) (by decide) ?_
        refine lw_nil ?_
        refine cw_block ?_
        refine cw_loop (fun q f w => ∃ (j : Nat), q = i - j ∧ j ≤ i ∧ f 50 = vi j ∧ f 49 = vi i ∧ (∃ a2, f 48 = .slice a2 i (cap - 0) ∧ Sl V 75 a2 (cap - 0) ((xs.take i).drop 0)) ∧ f 4 = ptr b4 0 ∧ f 9 = vi i ∧ f 7 = .slice a xs.length cap ∧ f 0 = .slice a xs.length cap ∧ f 8 = vi xs.length ∧ St W0 V w ((b4, blk 75 xs[i]) :: L)) (i) ?_ ?_
        · exact ⟨0, rfl, Nat.zero_le _, rfl, rfl, ⟨_, rfl, hl2⟩, rfl, e9, e7, e0, e8, hs⟩
        · intro q f w hI
          obtain ⟨j, rfl, hj, e50, e49, ⟨a2, e48, hl3⟩, e4, e9, e7, e0, e8, hs⟩ := hI
          have hlen3 : i = ((xs.take i).drop 0).length := by simp; omega
          refine cw_seq (cw_region ?_)
          refine l_pur (p_lss e50 e49) (by decide) ?_
          refine lw_nil ?_
          refine cw_seq ?_
          refine cw_cond _ rfl (fun hc2 => ?_) (fun hc2 => ?_)
          · have hjlt : j < i := by have := of_decide_eq_true hc2; omega
            refine cw_skip ?_
            refine cw_seq ?_
            refine cw_block ?_
            refine cw_seq (cw_region ?_)
            refine l_indexSl (α := GTimer) el31.sl ty75 e48 hlen3 e50 (by first | omega | (dsimp only; omega) | (simp; omega)) hl3 (by decide) ?_; intro bb52 oo52 cc52 hb52 ha52
            refine l_loadV (α := GTimer) ty75 rfl hs hb52 ha52 (by decide) ?_
            refine l_alloc z75 hs (by decide) ?_; clear hs; intro b6 w hs
            refine l_store0 (α := GTimer) (β := GTimer) ty75 rfl rfl (Lens.id GTimer) hs ?_; clear hs; intro w hs
            refine lw_nil ?_
            refine cw_seq ?_
            have hej : ∀ h, ((xs.take i).drop 0)[j]'h = xs[j] := by intro h; simp
            rw [hej] at hs
            refine cw_region ?_
            refine l_pur (p_fieldAddr fo75_1 e4) (by decide) ?_
            refine l_loadO (α := GTimer) (β := (Vec 32 UInt8)) ty27 rfl GTimer.l_peer hs (List.Mem.tail _ (List.Mem.head _)) (by decide) ?_
            refine l_pur (p_fieldAddr fo75_1 rfl) (by decide) ?_
            refine l_loadO (α := GTimer) (β := (Vec 32 UInt8)) ty27 rfl GTimer.l_peer hs (List.Mem.head _) (by decide) ?_
            refine l_pur (p_eqlS eq27 rfl rfl) (by decide) ?_
            refine l_purB (p_moveB rfl) (by decide) (fun hg5 => ?_) (fun hg5 => ?_)
            · try simp only [decide_eq_true_eq, decide_eq_false_iff_not, Bool.not_eq_true', Bool.not_eq_false', beq_iff_eq, bne_iff_ne, beq_eq_false_iff_ne, bne_eq_false_iff_eq] at hg5
              refine lw_do rfl rfl rfl ?_
              refine l_pur (p_fieldAddr fo75_2 e4) (by decide) ?_
              refine lw_do rfl rfl rfl ?_
              refine l_loadO (α := GTimer) (β := Int) ty3 rfl GTimer.l_kind hs (List.Mem.tail _ (List.Mem.head _)) (by decide) ?_
              refine lw_do rfl rfl rfl ?_
              refine l_pur (p_fieldAddr fo75_2 rfl) (by decide) ?_
              refine lw_do rfl rfl rfl ?_
              refine l_loadO (α := GTimer) (β := Int) ty3 rfl GTimer.l_kind hs (List.Mem.head _) (by decide) ?_
              refine lw_do rfl rfl rfl ?_
              refine l_purIs (c := false) (p_eql rfl rfl) (by exact decide_eq_false (fun h2 => hu i j hjlt hlt ⟨hg5, h2⟩)) (by decide) ?_
              refine l_pur (p_pickT rfl rfl) (by decide) ?_
              refine lw_nil ?_
              refine cw_false rfl ?_
              refine cw_skip ?_
              refine cw_region ?_
              refine l_pur (p_add64 e50 rfl (by first | omega | (dsimp only; omega) | (simp; omega))) (by decide) ?_
              refine l_pur (p_moveI rfl) (by decide) ?_
              refine lw_nil ?_
              exact ⟨_, by omega, j + 1, rfl, by omega, rfl, e49, ⟨_, e48, hl3⟩, e4, e9, e7, e0, e8, hs.drop1⟩
            · try simp only [decide_eq_true_eq, decide_eq_false_iff_not, Bool.not_eq_true', Bool.not_eq_false', beq_iff_eq, bne_iff_ne, beq_eq_false_iff_ne, bne_eq_false_iff_eq] at hg5
              refine lw_pass rfl rfl rfl rfl rfl rfl (by decide) ?_
              refine lw_pass rfl rfl rfl rfl rfl rfl (by decide) ?_
              refine lw_pass rfl rfl rfl rfl rfl rfl (by decide) ?_
              refine lw_pass rfl rfl rfl rfl rfl rfl (by decide) ?_
              refine lw_pass rfl rfl rfl rfl rfl rfl (by decide) ?_
              refine l_pur (p_pickF rfl rfl) (by decide) ?_
              refine lw_nil ?_
              refine cw_false rfl ?_
              refine cw_skip ?_
              refine cw_region ?_
              refine l_pur (p_add64 e50 rfl (by first | omega | (dsimp only; omega) | (simp; omega))) (by decide) ?_
              refine l_pur (p_moveI rfl) (by decide) ?_
              refine lw_nil ?_
              exact ⟨_, by omega, j + 1, rfl, by omega, rfl, e49, ⟨_, e48, hl3⟩, e4, e9, e7, e0, e8, hs.drop1⟩
          · try simp only [decide_eq_true_eq, decide_eq_false_iff_not, Bool.not_eq_true', Bool.not_eq_false', beq_iff_eq, bne_iff_ne, beq_eq_false_iff_ne, bne_eq_false_iff_eq] at hc2
            refine cw_exit ?_
            refine cw_region ?_
            refine l_pur (p_add64 e9 rfl (by first | omega | (dsimp only; omega) | (simp; omega))) (by decide) ?_
            refine l_pur (p_moveI rfl) (by decide) ?_
            refine lw_nil ?_
            exact ⟨_, by omega, i + 1, rfl, hlt, rfl, e7, e0, e8, hs.drop1⟩
    · try simp only [decide_eq_true_eq, decide_eq_false_iff_not, Bool.not_eq_true', Bool.not_eq_false', beq_iff_eq, bne_iff_ne, beq_eq_false_iff_ne, bne_eq_false_iff_eq] at hc0
      refine cw_exit ?_
      refine cw_seq (cw_region ?_)
      refine l_pur (p_assignC) (by decide) ?_
      refine lw_nil ?_
      refine cw_ret ?_
      repeat (with_reducible first | refine tf_ret ?_ | refine ib_ret ?_)
      refine fin1 (fn := Tryz.f187) rfl (rv_tmpB rfl) ?_
      exact ⟨rfl, hs⟩
def PeersSorted (ps : List GPeer) : Prop := ∀ i (_ : 0 < i) (h : i < ps.length), Op.bytesLess ps[i - 1].pub.toList ps[i].pub.toList = true
theorem s_peers24 {d : GDaemon} {ps : List GPeer} (hs : St W0 V w L) (hp : Sl V 63 d.peers.a d.peers.cap ps) (hpl : d.peers.len = ps.length) (ho : PeersSorted ps) (hn : ps.length ≤ 8) :
    Calls Tryz.prog 111 #[val d] w (okR fun v w' => v = .bool true ∧ St W0 V w' L) := by
  refine fn_enter (n := 34) Tryz.func111 rfl rfl rfl ?_
  intro f hf
  have e0 := hf 0
  simp only [Array.getD_eq_getD_getElem?, List.getElem?_toArray, List.getElem?_cons_zero, List.getElem?_cons_succ, Option.getD_some] at e0
  clear hf
  refine cw_seq (cw_region ?_)
  refine l_box (α := GDaemon) e0 hs (by decide) ?_; clear hs; intro b1 w hs
  refine l_pur (p_assignC) (by decide) ?_
  refine lw_nil ?_
  refine cw_seq ?_
  refine cw_seq (cw_region ?_)
  refine l_pur (p_fieldAddr fo35_6 rfl) (by decide) ?_
  refine l_loadO (α := GDaemon) (β := GSl) ty28 rfl GDaemon.l_peers hs (List.Mem.head _) (by decide) ?_
  refine l_pur (p_len Tryz.underlying28 rfl) (by decide) ?_
  refine l_pur (p_moveC) (by decide) ?_
  refine lw_nil ?_
  refine cw_block ?_
  refine cw_loop (fun q f w => ∃ (i : Nat), q = ps.length - i ∧ i ≤ ps.length ∧ f 8 = vi i ∧ f 6 = val d.peers ∧ f 7 = vi ps.length ∧ f 1 = ptr b1 0 ∧ St W0 V w ((b1, blk 35 d) :: L)) (ps.length) ?_ ?_
  · exact ⟨0, rfl, Nat.zero_le _, rfl, rfl, by show vi (d.peers.len : Int) = _; rw [hpl], rfl, hs⟩
  · intro q f w hI
    obtain ⟨i, rfl, hi, e8, e6, e7, e1, hs⟩ := hI
    refine cw_seq (cw_region ?_)
    refine l_pur (p_lss e8 e7) (by decide) ?_
    refine lw_nil ?_
    refine cw_seq ?_
    refine cw_cond _ rfl (fun hc0 => ?_) (fun hc0 => ?_)
    · have hlt : i < ps.length := by have := of_decide_eq_true hc0; omega
      refine cw_skip ?_
      refine cw_seq ?_
      refine cw_block ?_
      refine cw_seq (cw_region ?_)
      refine l_pur (p_move e8) (by decide) ?_
      refine l_indexSl (α := GPeer) el28.sl ty63 e6 hpl e8 (by first | omega | (dsimp only; omega) | (simp; omega)) hp (by decide) ?_; intro bb11 oo11 cc11 hb11 ha11
      refine l_loadV (α := GPeer) ty63 rfl hs hb11 ha11 (by decide) ?_
      refine l_alloc z63 hs (by decide) ?_; clear hs; intro b4 w hs
      refine l_pur (p_assignI rfl) (by decide) ?_
      refine l_store0 (α := GPeer) (β := GPeer) ty63 rfl rfl (Lens.id GPeer) hs ?_; clear hs; intro w hs
      refine lw_nil ?_
      refine cw_seq ?_
      have hS := Hold.cons hs (List.Mem.head _) (Hold.cons hs (List.Mem.tail _ (List.Mem.head _)) (Hold.nil hs (PH.refl _)))
      refine cw_planH (.take 0 (.take 1 (.take 2 (.take 3 (.take 4 (.take 5 (.take 6 (.take 7 (.take 8 (.take 9 (.take 10 (.take 11 (.take 12 (.take 13 (.take 14 (.take 15 .done)))))))))))))))) 16383 hmix (by kernel_rfl) (fun _ _ _ h => h) hs hS ?_
      clear hS; clear hs; intro w hs; have hS := Hold.cons hs (List.Mem.head _) (Hold.cons hs (List.Mem.tail _ (List.Mem.head _)) (Hold.nil hs (PH.refl _)))
      refine pw_pur rfl (wt_free rfl) (p_moveI rfl) (by decide) (fun _ => hS) ?_
      refine pw_pur rfl (wt_free rfl) (p_gtr rfl rfl) (by decide) (fun _ => hS) ?_
      refine pw_purB rfl (wt_free rfl) (p_moveB rfl) (by decide) (fun _ => hS) (fun hg2 => ?_) (fun hg2 => ?_)
      · try simp only [decide_eq_true_eq, decide_eq_false_iff_not, Bool.not_eq_true', Bool.not_eq_false', beq_iff_eq, bne_iff_ne, beq_eq_false_iff_ne, bne_eq_false_iff_eq] at hg2
        refine pw_pur rfl (wt_yes rfl rfl rfl rfl) (p_fieldAddr fo35_6 e1) (by decide) (fun _ => hS) ?_
        refine pw_ld rfl (wt_yes rfl rfl rfl rfl) (by kernel_rfl) (Hold.runs_loadO (α := GDaemon) (β := GSl) ty28 rfl GDaemon.l_peers (List.Mem.tail _ (List.Mem.head _))) (by decide) hS ?_
        refine pw_pur rfl (wt_yes rfl rfl rfl rfl) (p_moveI rfl) (by decide) (fun _ => hS) ?_
        refine pw_pur rfl (wt_yes rfl rfl rfl rfl) (p_subN (a := _) (b := 1) rfl rfl (by first | omega | (dsimp only; omega) | (simp; omega)) (by first | omega | (dsimp only; omega) | (simp; omega))) (by decide) (fun _ => hS) ?_
        refine pw_indexSlN (α := GPeer) rfl (wt_yes rfl rfl rfl rfl) el28.sl ty63 rfl hpl rfl (by first | omega | (dsimp only; omega) | (simp; omega)) hp (by decide) (fun _ => hS) ?_; intro bb20 oo20 cc20 hb20 ha20
        refine pw_pur rfl (wt_yes rfl rfl rfl rfl) (p_fieldAddr fo63_0 rfl) (by decide) (fun _ => hS) ?_
        refine pw_pur rfl (wt_yes rfl rfl rfl rfl) (p_sliceArr Tryz.underlying27 ty5.size rfl (.no _) (.no _) (by decide)) (by decide) (fun _ => hS) ?_
        refine pw_ld rfl (wt_yes rfl rfl rfl rfl) (by kernel_rfl) (fun w h => r_bytesStr Tryz.underlying22 Tryz.underlying5 Tryz.underlying9 rfl (Src1.atV (β := UInt8) h.1 hb20 (ha20.lens GPeer.l_pub)) (by simp)) (by decide) hS ?_
        refine pw_pur rfl (wt_yes rfl rfl rfl rfl) (p_fieldAddr fo63_0 rfl) (by decide) (fun _ => hS) ?_
        refine pw_pur rfl (wt_yes rfl rfl rfl rfl) (p_sliceArr Tryz.underlying27 ty5.size rfl (.no _) (.no _) (by decide)) (by decide) (fun _ => hS) ?_
        refine pw_ld rfl (wt_yes rfl rfl rfl rfl) (by kernel_rfl) (fun w h => r_bytesStr Tryz.underlying22 Tryz.underlying5 Tryz.underlying9 rfl (Src1.vec (T := 0) (α := GPeer) (β := UInt8) GPeer.l_pub (h.2 _ (List.Mem.head _))) (by simp)) (by decide) hS ?_
        refine pw_purIs (c := false) rfl (wt_yes rfl rfl rfl rfl) (p_geqStr rfl rfl) (by simpa using ho i (by omega) hlt) (by decide) (fun h => absurd h (by decide)) ?_
        refine pw_pur rfl (wt_free rfl) (p_pickT rfl rfl) (by decide) (fun h => absurd h (by decide)) ?_
        refine pw_done ?_
        refine cw_false rfl ?_
        refine cw_skip ?_
        refine cw_region ?_
        refine l_pur (p_add64 e8 rfl (by first | omega | (dsimp only; omega) | (simp; omega))) (by decide) ?_
        refine l_pur (p_moveI rfl) (by decide) ?_
        refine lw_nil ?_
        exact ⟨_, by omega, i + 1, rfl, hlt, rfl, e6, e7, e1, hs.drop1⟩
      · try simp only [decide_eq_true_eq, decide_eq_false_iff_not, Bool.not_eq_true', Bool.not_eq_false', beq_iff_eq, bne_iff_ne, beq_eq_false_iff_ne, bne_eq_false_iff_eq] at hg2
        refine pw_pass rfl (wt_no rfl rfl rfl rfl rfl) (by decide) (fun _ => hS) ?_
        refine pw_pass rfl (wt_no rfl rfl rfl rfl rfl) (by decide) (fun _ => hS) ?_
        refine pw_pass rfl (wt_no rfl rfl rfl rfl rfl) (by decide) (fun _ => hS) ?_
        refine pw_pass rfl (wt_no rfl rfl rfl rfl rfl) (by decide) (fun _ => hS) ?_
        refine pw_pass rfl (wt_no rfl rfl rfl rfl rfl) (by decide) (fun _ => hS) ?_
        refine pw_pass rfl (wt_no rfl rfl rfl rfl rfl) (by decide) (fun _ => hS) ?_
        refine pw_pass rfl (wt_no rfl rfl rfl rfl rfl) (by decide) (fun _ => hS) ?_
        refine pw_pass rfl (wt_no rfl rfl rfl rfl rfl) (by decide) (fun _ => hS) ?_
        refine pw_pass rfl (wt_no rfl rfl rfl rfl rfl) (by decide) (fun _ => hS) ?_
        refine pw_pass rfl (wt_no rfl rfl rfl rfl rfl) (by decide) (fun _ => hS) ?_
        refine pw_pass rfl (wt_no rfl rfl rfl rfl rfl) (by decide) (fun _ => hS) ?_
        refine pw_pass rfl (wt_no rfl rfl rfl rfl rfl) (by decide) (fun h => absurd h (by decide)) ?_
        refine pw_pur rfl (wt_free rfl) (p_pickF rfl rfl) (by decide) (fun h => absurd h (by decide)) ?_
        refine pw_done ?_
        refine cw_false rfl ?_
        refine cw_skip ?_
        refine cw_region ?_
        refine l_pur (p_add64 e8 rfl (by first | omega | (dsimp only; omega) | (simp; omega))) (by decide) ?_
        refine l_pur (p_moveI rfl) (by decide) ?_
        refine lw_nil ?_
        exact ⟨_, by omega, i + 1, rfl, hlt, rfl, e6, e7, e1, hs.drop1⟩
    · try simp only [decide_eq_true_eq, decide_eq_false_iff_not, Bool.not_eq_true', Bool.not_eq_false', beq_iff_eq, bne_iff_ne, beq_eq_false_iff_ne, bne_eq_false_iff_eq] at hc0
      refine cw_exit ?_
      refine cw_seq (cw_region ?_)
      refine l_pur (p_fieldAddr fo35_6 e1) (by decide) ?_
      refine l_loadO (α := GDaemon) (β := GSl) ty28 rfl GDaemon.l_peers hs (List.Mem.head _) (by decide) ?_
      refine l_pur (p_len Tryz.underlying28 rfl) (by decide) ?_
      refine l_purIs (c := true) (p_leq rfl rfl) (by rw [hpl]; exact decide_eq_true (by omega)) (by decide) ?_
      refine l_pur (p_assignB rfl) (by decide) ?_
      refine lw_nil ?_
      refine cw_ret ?_
      repeat (with_reducible first | refine tf_ret ?_ | refine ib_ret ?_)
      refine fin1 (fn := Tryz.f111) rfl (rv_tmpB rfl) ?_
      exact ⟨rfl, hs.drop1⟩
theorem s_routes24 {d : GDaemon} {ps : List GPeer} {rs : List GRoute} (hs : St W0 V w L) (hp : Sl V 63 d.peers.a d.peers.cap ps) (hpl : d.peers.len = ps.length) (hr : Sl V 73 d.routes.a d.routes.cap rs) (hrl : d.routes.len = rs.length)
    (hn : ps.length ≤ 8) (h : RoutesOk rs) (hf : ∀ i (h : i < rs.length), 0 ≤ findP ps rs[i].peer) :
    Calls Tryz.prog 113 #[val d] w (okR fun v w' => v = .bool true ∧ St W0 V w' L) := by
  have hn2 := h.n
  refine fn_enter (n := 21) Tryz.func113 rfl rfl rfl ?_
  intro f hf
  have e0 := hf 0
  simp only [Array.getD_eq_getD_getElem?, List.getElem?_toArray, List.getElem?_cons_zero, List.getElem?_cons_succ, Option.getD_some] at e0
  clear hf
  refine cw_seq (cw_region ?_)
  refine l_box (α := GDaemon) e0 hs (by decide) ?_; clear hs; intro b1 w hs
  refine l_pur (p_assignC) (by decide) ?_
  refine lw_nil ?_
  refine cw_seq ?_
  refine cw_seq (cw_region ?_)
  refine l_pur (p_fieldAddr fo35_7 rfl) (by decide) ?_
  refine l_loadO (α := GDaemon) (β := GSl) ty29 rfl GDaemon.l_routes hs (List.Mem.head _) (by decide) ?_
  refine l_pur (p_len Tryz.underlying29 rfl) (by decide) ?_
  refine l_pur (p_moveC) (by decide) ?_
  refine lw_nil ?_
  refine cw_block ?_
  refine cw_loop (fun q f w => ∃ (i : Nat), q = rs.length - i ∧ i ≤ rs.length ∧ f 8 = vi i ∧ f 6 = val d.routes ∧ f 7 = vi rs.length ∧ f 1 = ptr b1 0 ∧ St W0 V w ((b1, blk 35 d) :: L)) (rs.length) ?_ ?_
  · exact ⟨0, rfl, Nat.zero_le _, rfl, rfl, by show vi (d.routes.len : Int) = _; rw [hrl], rfl, hs⟩
  · intro q f w hI
    obtain ⟨i, rfl, hi, e8, e6, e7, e1, hs⟩ := hI
    refine cw_seq (cw_region ?_)
    refine l_pur (p_lss e8 e7) (by decide) ?_
    refine lw_nil ?_
    refine cw_seq ?_
    refine cw_cond _ rfl (fun hc0 => ?_) (fun hc0 => ?_)
    · have hlt : i < rs.length := by have := of_decide_eq_true hc0; omega
      refine cw_skip ?_
      refine cw_seq ?_
      refine cw_block ?_
      refine cw_seq (cw_region ?_)
      refine l_indexSl (α := GRoute) el29.sl ty73 e6 hrl e8 (by first | omega | (dsimp only; omega) | (simp; omega)) hr (by decide) ?_; intro bb10 oo10 cc10 hb10 ha10
      refine l_loadV (α := GRoute) ty73 rfl hs hb10 ha10 (by decide) ?_
      refine l_alloc z73 hs (by decide) ?_; clear hs; intro b4 w hs
      refine l_store0 (α := GRoute) (β := GRoute) ty73 rfl rfl (Lens.id GRoute) hs ?_; clear hs; intro w hs
      refine lw_nil ?_
      refine cw_seq (cw_region ?_)
      refine l_loadO (α := GDaemon) (β := GDaemon) ty35 e1 (Lens.id GDaemon) hs (List.Mem.tail _ (List.Mem.head _)) (by decide) ?_
      refine l_pur (p_fieldAddr fo73_1 rfl) (by decide) ?_
      refine l_loadO (α := GRoute) (β := (Vec 32 UInt8)) ty27 rfl GRoute.l_peer hs (List.Mem.head _) (by decide) ?_
      refine l_call2 fn37 (s_find24 hs hp hpl (by omega)) rfl rfl ?_ (by decide)
      clear hs; rintro _ w ⟨rfl, hs⟩
      refine l_purIs (c := false) (p_lss rfl rfl) (by exact decide_eq_false (by have := hf i hlt; omega)) (by decide) ?_
      refine lw_nil ?_
      refine cw_false rfl ?_
      refine cw_skip ?_
      refine cw_region ?_
      refine l_pur (p_add64 e8 rfl (by first | omega | (dsimp only; omega) | (simp; omega))) (by decide) ?_
      refine l_pur (p_moveI rfl) (by decide) ?_
      refine lw_nil ?_
      exact ⟨_, by omega, i + 1, rfl, hlt, rfl, e6, e7, e1, hs.drop1⟩
    · try simp only [decide_eq_true_eq, decide_eq_false_iff_not, Bool.not_eq_true', Bool.not_eq_false', beq_iff_eq, bne_iff_ne, beq_eq_false_iff_ne, bne_eq_false_iff_eq] at hc0
      refine cw_exit ?_
      refine cw_seq ?_
      have hvr := fun (w : World) (L : List (Nat × Obj)) (hs : St W0 V w L) => s_validroutes hs hr h
      rw [← hrl] at hvr
      refine cw_region ?_
      refine l_pur (p_fieldAddr fo35_7 e1) (by decide) ?_
      refine l_loadO (α := GDaemon) (β := GSl) ty29 rfl GDaemon.l_routes hs (List.Mem.head _) (by decide) ?_
      refine l_call1 fn184 (hvr _ _ hs) rfl ?_ (by decide)
      clear hs; rintro _ w ⟨rfl, hs⟩
      refine l_pur (p_assignB rfl) (by decide) ?_
      refine lw_nil ?_
      refine cw_ret ?_
      repeat (with_reducible first | refine tf_ret ?_ | refine ib_ret ?_)
      refine fin1 (fn := Tryz.f113) rfl (rv_tmpB rfl) ?_
      exact ⟨rfl, hs.drop1⟩
end Go.Bur
namespace Go.Bur
open Go Go.RowKit Go.Proofs
set_option maxHeartbeats 4000000
variable {W0 : World} {V : PH} {w : World} {L : List (Nat × Obj)}
theorem s_decimal : ∀ (k n : Nat), k < 18 → n < 10 ^ (k + 1) → ∀ {w : World} {L : List (Nat × Obj)} (_ : St W0 V w L),
    Calls Tryz.prog 365 #[vi n] w (okR fun v w' => ∃ s : Str, v = vs s ∧ 1 ≤ s.length ∧ s.length ≤ k + 1 ∧ St W0 V w' L) := by
  intro k
  induction k with
  | zero =>
    intro n _ hn w L hs
    have hn' : n < 10 := by simpa using hn
    refine fn_enter (n := 20) Tryz.func365 rfl rfl rfl ?_
    intro f hf
    have e0 := hf 0
    simp only [Array.getD_eq_getD_getElem?, List.getElem?_toArray, List.getElem?_cons_zero, List.getElem?_cons_succ, Option.getD_some] at e0
    clear hf
    refine cw_seq (cw_region ?_)
    refine l_pur (p_assignC) (by decide) ?_
    refine lw_nil ?_
    refine cw_seq ?_
    refine cw_seq (cw_region ?_)
    refine l_pur (p_move e0) (by decide) ?_
    refine l_purIs (c := true) (p_lss rfl rfl) (by exact decide_eq_true (by omega)) (by decide) ?_
    refine lw_nil ?_
    refine cw_true rfl ?_
    refine cw_seq (cw_region ?_)
    refine l_pur (p_move e0) (by decide) ?_
    refine l_pur (p_add64 rfl rfl (by first | omega | (dsimp only; omega) | (simp; omega))) (by decide) ?_
    refine l_pur (p_conv_u8 Tryz.underlying2 Tryz.underlying5 rfl) (by decide) ?_
    refine l_buildSlice1 (α := UInt8) el22 z5 rfl (by decide) hs (by decide) ?_; clear hs; intro b8 w hs
    refine l_run (r_bytesStr (l := [UInt8.ofInt (48 + n)]) Tryz.underlying22 Tryz.underlying5 Tryz.underlying9 rfl (Src1.blk1 (hs.mem (List.mem_cons_self ..))) rfl) (by decide) ?_
    refine l_pur (p_assignS rfl) (by decide) ?_
    refine lw_nil ?_
    refine cw_ret ?_
    repeat (with_reducible first | refine tf_ret ?_ | refine ib_ret ?_)
    refine fin1 (fn := Tryz.f365) rfl (rv_tmpS rfl) ?_
    exact ⟨_, rfl, by simp, by simp, hs.drop1⟩
  | succ k ih =>
    intro n hk hn w L hs
    have hn18 : n < 10 ^ 19 := Nat.lt_of_lt_of_le hn (Nat.pow_le_pow_right (by decide) (by omega))
    have hnb : n < 9223372036854775000 ∨ k = 17 := by
      by_cases hk17 : k = 17
      · exact .inr hk17
      · have : n < 10 ^ 18 := Nat.lt_of_lt_of_le hn (Nat.pow_le_pow_right (by decide) (by omega))
        left; omega
    have hn63 : n < 9223372036854775000 := by
      rcases hnb with h | h
      · exact h
      · omega
    have hq : n / 10 < 10 ^ (k + 1) := by rw [Nat.pow_succ] at hn; omega
    refine fn_enter (n := 20) Tryz.func365 rfl rfl rfl ?_
    intro f hf
    have e0 := hf 0
    simp only [Array.getD_eq_getD_getElem?, List.getElem?_toArray, List.getElem?_cons_zero, List.getElem?_cons_succ, Option.getD_some] at e0
    clear hf
    refine cw_seq (cw_region ?_)
    refine l_pur (p_assignC) (by decide) ?_
    refine lw_nil ?_
    refine cw_seq ?_
    refine cw_seq (cw_region ?_)
    refine l_pur (p_move e0) (by decide) ?_
    refine l_pur (p_lss rfl rfl) (by decide) ?_
    refine lw_nil ?_
    refine cw_cond _ rfl (fun hc0 => ?_) (fun hc0 => ?_)
    · try simp only [decide_eq_true_eq, decide_eq_false_iff_not, Bool.not_eq_true', Bool.not_eq_false', beq_iff_eq, bne_iff_ne, beq_eq_false_iff_ne, bne_eq_false_iff_eq] at hc0
      refine cw_seq (cw_region ?_)
      refine l_pur (p_move e0) (by decide) ?_
      refine l_pur (p_add64 rfl rfl (by first | omega | (dsimp only; omega) | (simp; omega))) (by decide) ?_
      refine l_pur (p_conv_u8 Tryz.underlying2 Tryz.underlying5 rfl) (by decide) ?_
      refine l_buildSlice1 (α := UInt8) el22 z5 rfl (by decide) hs (by decide) ?_; clear hs; intro b8 w hs
      refine l_run (r_bytesStr (l := [UInt8.ofInt (48 + n)]) Tryz.underlying22 Tryz.underlying5 Tryz.underlying9 rfl (Src1.blk1 (hs.mem (List.mem_cons_self ..))) rfl) (by decide) ?_
      refine l_pur (p_assignS rfl) (by decide) ?_
      refine lw_nil ?_
      refine cw_ret ?_
      repeat (with_reducible first | refine tf_ret ?_ | refine ib_ret ?_)
      refine fin1 (fn := Tryz.f365) rfl (rv_tmpS rfl) ?_
      exact ⟨_, rfl, by simp, by simp, hs.drop1⟩
    · try simp only [decide_eq_true_eq, decide_eq_false_iff_not, Bool.not_eq_true', Bool.not_eq_false', beq_iff_eq, bne_iff_ne, beq_eq_false_iff_ne, bne_eq_false_iff_eq] at hc0
      refine cw_skip ?_
      refine cw_seq ?_
      have hS := Hold.nil hs (PH.refl _)
      refine cw_planH (.take 0 (.take 1 (.take 3 (.take 4 (.take 5 (.take 6 (.two 2 (.one 7 (.one 8 (.take 9 (.take 10 .done)))) 7 (.two 2 (.one 8 (.take 9 (.take 10 .done))) 8 (.one 2 (.take 9 (.take 10 .done))))))))))) 0 hmix (by kernel_rfl) (fun _ _ _ h => h) hs hS ?_
      clear hS; clear hs; intro w hs; have hS := Hold.nil hs (PH.refl _)
      refine pw_pur rfl (wt_free rfl) (p_move e0) (by decide) (fun h => absurd h (by decide)) ?_
      refine pw_pur rfl (wt_free rfl) (p_quoK (b := 10) rfl rfl (by decide) (by first | omega | (dsimp only; omega) | (simp; omega))) (by decide) (fun h => absurd h (by decide)) ?_
      refine pw_pur rfl (wt_free rfl) (p_move e0) (by decide) (fun h => absurd h (by decide)) ?_
      refine pw_pur rfl (wt_free rfl) (p_remK (b := 10) rfl rfl (by decide)) (by decide) (fun h => absurd h (by decide)) ?_
      refine pw_pur rfl (wt_free rfl) (p_add64 rfl rfl (by first | omega | (dsimp only; omega) | (simp; omega))) (by decide) (fun h => absurd h (by decide)) ?_
      refine pw_pur rfl (wt_free rfl) (p_conv_u8 Tryz.underlying2 Tryz.underlying5 rfl) (by decide) (fun h => absurd h (by decide)) ?_
      refine pw_two ?_ ?_
      · refine ow_call1 rfl (wt_free rfl) fn365 (ih _ (by omega) hq hs) rfl ?_ (by decide)
        clear hs hS
        rintro _ w ⟨s, rfl, hs1, hs2, hs⟩
        refine ⟨fun h => absurd h (by decide), ?_⟩; have hS := True.intro
        refine pw_one ?_
        refine ow_buildSlice1 (α := UInt8) rfl (wt_free rfl) el22 z5 rfl (by decide) hs (by decide) ?_; clear hs; intro b17 w hs
        refine ⟨fun h => absurd h (by decide), ?_⟩; have hS := True.intro
        refine pw_one ?_
        refine ow_valC rfl (wt_free rfl) (r_bytesStr (l := [UInt8.ofInt (48 + (n % 10 : Nat))]) Tryz.underlying22 Tryz.underlying5 Tryz.underlying9 rfl (Src1.blk1 (hs.mem (List.Mem.head _))) rfl) (by decide) ?_
        refine ⟨fun h => absurd h (by decide), ?_⟩; have hS := True.intro
        refine pw_pur rfl (wt_free rfl) (p_addStr rfl rfl (by simp; omega)) (by decide) (fun h => absurd h (by decide)) ?_
        refine pw_pur rfl (wt_free rfl) (p_assignS rfl) (by decide) (fun h => absurd h (by decide)) ?_
        refine pw_done ?_
        refine cw_ret ?_
        repeat (with_reducible first | refine tf_ret ?_ | refine ib_ret ?_)
        refine fin1 (fn := Tryz.f365) rfl (rv_tmpS rfl) ?_
        exact ⟨_, rfl, by simp, by simp; omega, hs.drop1⟩
      · refine ow_buildSlice1 (α := UInt8) rfl (wt_free rfl) el22 z5 rfl (by decide) hs (by decide) ?_; clear hs; intro b17 w hs
        refine ⟨fun h => absurd h (by decide), ?_⟩; have hS := True.intro
        refine pw_two ?_ ?_
        · refine ow_call1 rfl (wt_free rfl) fn365 (ih _ (by omega) hq hs) rfl ?_ (by decide)
          clear hs hS
          rintro _ w ⟨s, rfl, hs1, hs2, hs⟩
          refine ⟨fun h => absurd h (by decide), ?_⟩; have hS := True.intro
          refine pw_one ?_
          refine ow_valC rfl (wt_free rfl) (r_bytesStr (l := [UInt8.ofInt (48 + (n % 10 : Nat))]) Tryz.underlying22 Tryz.underlying5 Tryz.underlying9 rfl (Src1.blk1 (hs.mem (List.Mem.head _))) rfl) (by decide) ?_
          refine ⟨fun h => absurd h (by decide), ?_⟩; have hS := True.intro
          refine pw_pur rfl (wt_free rfl) (p_addStr rfl rfl (by simp; omega)) (by decide) (fun h => absurd h (by decide)) ?_
          refine pw_pur rfl (wt_free rfl) (p_assignS rfl) (by decide) (fun h => absurd h (by decide)) ?_
          refine pw_done ?_
          refine cw_ret ?_
          repeat (with_reducible first | refine tf_ret ?_ | refine ib_ret ?_)
          refine fin1 (fn := Tryz.f365) rfl (rv_tmpS rfl) ?_
          exact ⟨_, rfl, by simp, by simp; omega, hs.drop1⟩
        · refine ow_valC rfl (wt_free rfl) (r_bytesStr (l := [UInt8.ofInt (48 + (n % 10 : Nat))]) Tryz.underlying22 Tryz.underlying5 Tryz.underlying9 rfl (Src1.blk1 (hs.mem (List.Mem.head _))) rfl) (by decide) ?_
          refine ⟨fun h => absurd h (by decide), ?_⟩; have hS := True.intro
          refine pw_one ?_
          refine ow_call1 rfl (wt_free rfl) fn365 (ih _ (by omega) hq hs) rfl ?_ (by decide)
          clear hs hS
          rintro _ w ⟨s, rfl, hs1, hs2, hs⟩
          refine ⟨fun h => absurd h (by decide), ?_⟩; have hS := True.intro
          refine pw_pur rfl (wt_free rfl) (p_addStr rfl rfl (by simp; omega)) (by decide) (fun h => absurd h (by decide)) ?_
          refine pw_pur rfl (wt_free rfl) (p_assignS rfl) (by decide) (fun h => absurd h (by decide)) ?_
          refine pw_done ?_
          refine cw_ret ?_
          repeat (with_reducible first | refine tf_ret ?_ | refine ib_ret ?_)
          refine fin1 (fn := Tryz.f365) rfl (rv_tmpS rfl) ?_
          exact ⟨_, rfl, by simp, by simp; omega, hs.drop1⟩
end Go.Bur
