/- A part of a proof over the given seat: how values, memory, calls and regions are told, and the walks of functions, each once. No condition. -/
import Derived.WalkKit
import Derived.OrdersHeld
import Derived.Deep.MidRow
set_option linter.unusedVariables false
set_option linter.unusedSimpArgs false
namespace Go.Bur
open Go Go.RowKit
abbrev Fr := Nat → Value
def upd (f : Fr) (d : Nat) (v : Value) : Fr := fun i => bif Nat.beq i d then v else f i
def ev (f : Fr) : Operand → Value
  | .tmp t => f t
  | .const v => v
  | .global g => .pointer (some ⟨g, 0, none⟩)
  | .func k => .func (.func k) #[] #[]
structure Has (n : Nat) (a : Act) (f : Fr) : Prop where
  size : a.tmps.size = n
  defers : a.defers = []
  get : ∀ i, a.tmps.getD i undef = f i
theorem Has.eval {n : Nat} {a : Act} {f : Fr} (h : Has n a f) : a.eval = ev f := by
  funext x
  cases x <;> simp [Act.eval, ev]
  rename_i t
  have := h.get t
  simpa using this
theorem Has.put {n : Nat} {a : Act} {f : Fr} (h : Has n a f) {d : Nat} (hd : d < n) (v : Value) : Has n (a.put (some d) v) (upd f d v) := by
  refine ⟨by simp [Act.put, h.size], by simp [Act.put, h.defers], fun i => ?_⟩
  simp only [Act.put, upd]
  rw [Array.getD_eq_getD_getElem?, Array.getElem?_setIfInBounds]
  by_cases hi : i = d
  · subst hi
    simp [h.size, hd]
  · have hb : Nat.beq i d = false := by
      cases hq : Nat.beq i d
      · rfl
      · exact absurd (Nat.eq_of_beq_eq_true hq) hi
    rw [if_neg (fun e => hi e.symm), hb]
    have := h.get i
    rw [Array.getD_eq_getD_getElem?] at this
    simpa using this
abbrev QF := Exit → Fr → World → Prop
def lift (n : Nat) (Q : QF) : Exit → Act → World → Prop := fun e a w => ∃ f, Has n a f ∧ Q e f w
def CW (P : Program) (n : Nat) (c : Code) (Q : QF) (f : Fr) (w : World) : Prop := ∀ a, Has n a f → c.wp P (lift n Q) a w
def LW (P : Program) (n : Nat) (ops : Array Oper) (Q : QF) (rest : List Oper) (f : Fr) (w : World) : Prop := ∀ a, Has n a f → wpList P ops (lift n Q) rest a w
section
variable {P : Program} {n : Nat} {Q : QF} {f : Fr} {w : World}
def thenF (next : Fr → World → Prop) (Q : QF) : QF
  | .normal, f, w => next f w
  | e, f, w => Q e f w
def inBlockF (id : Nat) (Q : QF) : QF
  | .exit i, f, w => if i = id then Q .normal f w else Q (.exit i) f w
  | e, f, w => Q e f w
theorem cw_mono {c : Code} {Q' : QF} (h : CW P n c Q f w) (hq : ∀ e f w, Q e f w → Q' e f w) : CW P n c Q' f w :=
  fun a ha => wp_mono (h a ha) fun _ _ _ ⟨g, hg, q⟩ => ⟨g, hg, hq _ _ _ q⟩
theorem cw_skip (h : Q .normal f w) : CW P n .skip Q f w := fun _ ha => wp_skip ⟨f, ha, h⟩
theorem cw_exit {id : Nat} (h : Q (.exit id) f w) : CW P n (.exit id) Q f w := fun _ ha => wp_exit ⟨f, ha, h⟩
theorem cw_ret (h : Q .ret f w) : CW P n .ret Q f w := fun _ ha => wp_ret ⟨f, ha, h⟩
theorem cw_seq {x y : Code} (h : CW P n x (thenF (fun f w => CW P n y Q f w) Q) f w) : CW P n (.seq x y) Q f w := fun a ha =>
  wp_seq (wp_mono (h a ha) fun e a' w' ⟨g, hg, q⟩ => by
    cases e
    case normal => exact q a' hg
    all_goals exact ⟨g, hg, q⟩)
theorem cw_cond {c : Operand} {x y : Code} (t : Bool) (hc : ev f c = .bool t) (ht : t = true → CW P n x Q f w) (hf : t = false → CW P n y Q f w) :
    CW P n (.cond c x y) Q f w := fun a ha =>
  wp_cond_split (by rw [ha.eval]; exact hc) (fun h => ht h a ha) (fun h => hf h a ha)
theorem cw_true {c : Operand} {x y : Code} (hc : ev f c = .bool true) (h : CW P n x Q f w) : CW P n (.cond c x y) Q f w := fun a ha =>
  wp_cond_true (by rw [ha.eval]; exact hc) (h a ha)
theorem cw_false {c : Operand} {x y : Code} (hc : ev f c = .bool false) (h : CW P n y Q f w) : CW P n (.cond c x y) Q f w := fun a ha =>
  wp_cond_false (by rw [ha.eval]; exact hc) (h a ha)
theorem cw_block {id : Nat} {c : Code} (h : CW P n c (inBlockF id Q) f w) : CW P n (.block id c) Q f w := fun a ha =>
  wp_block (wp_mono (h a ha) fun e a' w' ⟨g, hg, q⟩ => by
    cases e
    case exit i =>
      simp only [inBlockF] at q
      simp only [Exit.inBlock]
      split
      · rename_i hi; rw [if_pos hi] at q; exact ⟨g, hg, q⟩
      · rename_i hi; rw [if_neg hi] at q; exact ⟨g, hg, q⟩
    all_goals exact ⟨g, hg, q⟩)
theorem cw_loop {c : Code} (I : Nat → Fr → World → Prop) (m : Nat) (h0 : I m f w)
    (round : ∀ k f w, I k f w → CW P n c (thenF (fun f' w' => ∃ k', k' < k ∧ I k' f' w') Q) f w) : CW P n (.loop c) Q f w := by
  intro a ha b k cs
  have key : ∀ m, ∀ f a w, I m f w → Has n a f → ∃ e a' w', lift n Q e a' w' ∧ Arrives P (lone (b.at a (.code c :: .inLoop c :: k)) cs w) b k cs e a' w' := by
    intro m
    induction m using Nat.strongRecOn with
    | _ m ih =>
      intro f a w hI ha
      obtain ⟨e, a₁, w₁, ⟨g, hg, q⟩, harr⟩ := round m f w hI a ha b (.inLoop c :: k) cs
      cases e with
      | normal =>
        obtain ⟨k', hlt, hI'⟩ := q
        obtain ⟨e₂, a₂, w₂, hq₂, harr₂⟩ := ih k' hlt g a₁ w₁ hI' hg
        exact ⟨e₂, a₂, w₂, hq₂, .of_steps (Steps.trans harr (.one step_inLoop)) harr₂⟩
      | exit id => exact ⟨_, a₁, w₁, ⟨g, hg, q⟩, .pass (x := .inLoop c) rfl (fun _ _ => .inl (by simp)) harr⟩
      | goto l => exact ⟨_, a₁, w₁, ⟨g, hg, q⟩, .pass (x := .inLoop c) rfl (fun _ _ => .inl (by simp)) harr⟩
      | ret => exact ⟨_, a₁, w₁, ⟨g, hg, q⟩, .pass (x := .inLoop c) rfl (fun _ _ => .inl (by simp)) harr⟩
      | panic ch => exact ⟨_, a₁, w₁, ⟨g, hg, q⟩, .pass (x := .inLoop c) rfl (fun _ _ => .inl (by simp)) harr⟩
      | outgrown => exact ⟨_, a₁, w₁, ⟨g, hg, q⟩, .pass (x := .inLoop c) rfl (fun _ _ => .inl (by simp)) harr⟩
  obtain ⟨e, a', w', hq, harr⟩ := key m f a w h0 ha
  exact ⟨e, a', w', hq, .of_steps (.one step_loop) harr⟩
theorem cw_region {id : Nat} {l : List Oper} (h : LW P n l.toArray Q l f w) : CW P n (.region id l.toArray false) Q f w := fun a ha =>
  wp_region_lit (h a ha)
variable {ops : Array Oper} {rest : List Oper}
theorem lw_nil (h : Q .normal f w) : LW P n ops Q [] f w := fun _ ha => wpList_nil ⟨f, ha, h⟩
theorem lw_val {op : Op} {ty : TypeId} {pos : String} {aft : Array Edge} {d : Nat} {v : Value} {w' : World}
    (hr : (execOp (ev f) ⟨some d, op, ty, pos, aft, none⟩).run P w = .ok (.value v) w') (hd : d < n)
    (h : LW P n ops Q rest (upd f d v) w') : LW P n ops Q (⟨some d, op, ty, pos, aft, none⟩ :: rest) f w := fun a ha =>
  wpList_plain rfl fun K hK => by
    unfold Oper.wp
    rw [ha.eval, hr]
    exact hK _ _ (h _ (ha.put hd v))
theorem lw_val0 {op : Op} {ty : TypeId} {pos : String} {aft : Array Edge} {v : Value} {w' : World}
    (hr : (execOp (ev f) ⟨none, op, ty, pos, aft, none⟩).run P w = .ok (.value v) w')
    (h : LW P n ops Q rest f w') : LW P n ops Q (⟨none, op, ty, pos, aft, none⟩ :: rest) f w := fun a ha =>
  wpList_plain rfl fun K hK => by
    unfold Oper.wp
    rw [ha.eval, hr]
    exact hK _ _ (h _ ha)
theorem lw_skip0 {op : Op} {ty : TypeId} {pos : String} {aft : Array Edge} {w' : World}
    (hr : (execOp (ev f) ⟨none, op, ty, pos, aft, none⟩).run P w = .ok .skip w')
    (h : LW P n ops Q rest f w') : LW P n ops Q (⟨none, op, ty, pos, aft, none⟩ :: rest) f w := fun a ha =>
  wpList_plain rfl fun K hK => by
    unfold Oper.wp
    rw [ha.eval, hr]
    exact hK _ _ (h _ ha)
end
end Go.Bur
namespace Go.Bur
open Go Go.RowKit
abbrev PH := Nat → Option Obj
def PH.le (V V' : PH) : Prop := ∀ b o, V b = some o → V' b = some o
instance : LE PH := ⟨PH.le⟩
theorem PH.refl (V : PH) : V ≤ V := fun _ _ h => h
theorem PH.trans {A B C : PH} (h : A ≤ B) (k : B ≤ C) : A ≤ C := fun b o e => k b o (h b o e)
def PH.add (V : PH) (b : Nat) (o : Obj) : PH := fun i => bif Nat.beq i b then some o else V i
theorem beq_ne {i b : Nat} (h : i ≠ b) : Nat.beq i b = false := by
  cases hq : Nat.beq i b
  · rfl
  · exact absurd (Nat.eq_of_beq_eq_true hq) h
theorem PH.le_add {V : PH} {b : Nat} {o : Obj} (h : V b = none) : V ≤ V.add b o := by
  intro i o' hi
  by_cases e : i = b
  · subst e; rw [h] at hi; cases hi
  · show (bif Nat.beq i b then some o else V i) = _
    rw [beq_ne e]; exact hi
theorem PH.add_self (V : PH) (b : Nat) (o : Obj) : V.add b o b = some o := by
  show (bif Nat.beq b b then some o else V b) = _
  rw [Nat.beq_refl]; rfl
structure St (W0 : World) (V : PH) (w : World) (L : List (Nat × Obj)) : Prop where
  base : Below W0.heap.size W0 w
  sub : ∀ b o, V b = some o → w.heap[b]? = some o
  own : ∀ p ∈ L, w.heap[p.1]? = some p.2 ∧ V p.1 = none ∧ W0.heap.size ≤ p.1
  nodup : (L.map (·.1)).Nodup
variable {W0 w w' : World} {V : PH} {L : List (Nat × Obj)}
theorem St.lt {b : Nat} {o : Obj} (_ : St W0 V w L) (h : w.heap[b]? = some o) : b < w.heap.size := by
  rcases Nat.lt_or_ge b w.heap.size with h' | h'
  · exact h'
  · rw [Array.getElem?_eq_none h'] at h; cases h
theorem St.alloc (h : St W0 V w L) (o : Obj) : St W0 V (w.alloc o) ((w.heap.size, o) :: L) where
  base := h.base.alloc h.base.size o
  sub := fun b o' hb => by
    have := h.sub b o' hb
    rw [Below.heap_alloc _ _ _ (h.lt this)]; exact this
  own := fun p hp => by
    rcases List.mem_cons.1 hp with rfl | hp
    · refine ⟨heap_alloc_new w o, ?_, h.base.size⟩
      cases hv : V w.heap.size with
      | none => rfl
      | some o' => exact absurd (h.lt (h.sub _ _ hv)) (Nat.lt_irrefl _)
    · obtain ⟨h1, h2, h3⟩ := h.own p hp
      exact ⟨by rw [Below.heap_alloc _ _ _ (h.lt h1)]; exact h1, h2, h3⟩
  nodup := by
    rw [List.map_cons, List.nodup_cons]
    refine ⟨fun hm => ?_, h.nodup⟩
    obtain ⟨p, hp, he⟩ := List.mem_map.1 hm
    have := h.lt (h.own p hp).1
    simp only at he
    omega
theorem St.drew (h : St W0 V w L) : St W0 V w.drew L := ⟨h.base.drew, h.sub, h.own, h.nodup⟩
theorem St.mem {b : Nat} {o : Obj} (h : St W0 V w L) (hm : (b, o) ∈ L) : w.heap[b]? = some o := (h.own _ hm).1
theorem St.subset {L' : List (Nat × Obj)} (h : St W0 V w L) (hs : ∀ p ∈ L', p ∈ L) (hn : (L'.map (·.1)).Nodup) : St W0 V w L' :=
  ⟨h.base, h.sub, fun p hp => h.own p (hs p hp), hn⟩
theorem St.perm {L' : List (Nat × Obj)} (h : St W0 V w L) (hp : L.Perm L') : St W0 V w L' :=
  ⟨h.base, h.sub, fun p hm => h.own p (hp.mem_iff.2 hm), (hp.map _).nodup_iff.1 h.nodup⟩
theorem St.drop1 {x : Nat × Obj} (h : St W0 V w (x :: L)) : St W0 V w L :=
  ⟨h.base, h.sub, fun p hp => h.own p (List.mem_cons_of_mem _ hp), (List.nodup_cons.1 (by simpa using h.nodup)).2⟩
theorem St.dropL {A : List (Nat × Obj)} (h : St W0 V w (A ++ L)) : St W0 V w L := by
  induction A with
  | nil => exact h
  | cons x A ih => exact ih h.drop1
theorem St.set0 {b : Nat} {o o' : Obj} (h : St W0 V w ((b, o) :: L)) (hb : w'.heap[b]? = some o') (hk : ∀ k, k ≠ b → w'.heap[k]? = w.heap[k]?)
    (hs : w.heap.size ≤ w'.heap.size) (h1 : w'.os = w.os) (h2 : w'.tape = w.tape) (h3 : w'.output = w.output) : St W0 V w' ((b, o') :: L) where
  base := h.base.trans ⟨h1, h2, h3, hs, fun k hlt => hk k (by have := (h.own (b, o) (by simp)).2.2; simp only at this; omega)⟩
  sub := fun i o1 hi => by
    have := h.sub i o1 hi
    rw [hk i (fun e => by subst e; have := (h.own (i, o) (by simp)).2.1; simp only at this; rw [this] at hi; cases hi)]
    exact this
  own := fun p hp => by
    rcases List.mem_cons.1 hp with rfl | hp
    · have := h.own (b, o) (by simp)
      exact ⟨hb, this.2⟩
    · have hq := h.own p (List.mem_cons_of_mem _ hp)
      have hne : p.1 ≠ b := fun e => by
        have hn := (List.nodup_cons.1 (by simpa using h.nodup : ((b :: L.map (·.1)).Nodup))).1
        exact hn (e ▸ List.mem_map_of_mem hp)
      exact ⟨by rw [hk _ hne]; exact hq.1, hq.2⟩
  nodup := by simpa using h.nodup
theorem St.setRow0 {b : Nat} {c c' : Array Value} {t : TypeId} {fr : Nat × Nat} (h : St W0 V w ((b, .cells c t fr) :: L)) :
    St W0 V (w.setRow b c') ((b, .cells c' t fr) :: L) :=
  h.set0 (setRow_heap w b c c' t fr (h.mem (by simp))) (fun k hk => setRow_other w b k c' hk) (by simp) rfl rfl rfl
theorem St.rot {A : List (Nat × Obj)} {x : Nat × Obj} (h : St W0 V w (A ++ x :: L)) : St W0 V w (x :: (A ++ L)) :=
  h.perm (List.perm_middle)
theorem St.unrot {A : List (Nat × Obj)} {x : Nat × Obj} (h : St W0 V w (x :: (A ++ L))) : St W0 V w (A ++ x :: L) :=
  h.perm (List.perm_middle).symm
theorem St.setRow {A : List (Nat × Obj)} {b : Nat} {c c' : Array Value} {t : TypeId} {fr : Nat × Nat} (h : St W0 V w (A ++ (b, .cells c t fr) :: L)) :
    St W0 V (w.setRow b c') (A ++ (b, .cells c' t fr) :: L) := h.rot.setRow0.unrot
theorem St.freeze {b : Nat} {o : Obj} (h : St W0 V w ((b, o) :: L)) : St W0 (V.add b o) w L ∧ V ≤ V.add b o := by
  have hv := (h.own (b, o) (by simp)).2.1
  simp only at hv
  refine ⟨⟨h.base, fun i o' hi => ?_, fun p hp => ?_, h.drop1.nodup⟩, PH.le_add hv⟩
  · by_cases e : i = b
    · subst e; rw [PH.add_self] at hi; cases hi; exact h.mem (by simp)
    · have hi' : (bif Nat.beq i b then some o else V i) = some o' := hi
      rw [beq_ne e] at hi'; exact h.sub i o' hi'
  · have hq := h.own p (List.mem_cons_of_mem _ hp)
    have hne : p.1 ≠ b := fun e => by
      have hn := (List.nodup_cons.1 (by simpa using h.nodup : ((b :: L.map (·.1)).Nodup))).1
      exact hn (e ▸ List.mem_map_of_mem hp)
    refine ⟨hq.1, ?_, hq.2.2⟩
    show (bif Nat.beq p.1 b then some o else V p.1) = none
    rw [beq_ne hne]; exact hq.2.1
class Enc (α : Type) where
  val : α → Value
  size : Nat
  agg : Bool
  hsize : ∀ x, (val x).cells.size = size
  one : ∀ x, ∀ u ∈ (val x).cells.toList, u.oneCell' = true
  hagg : ∀ x, val x = if agg then .agg (val x).cells else val x
  hone : ∀ x, agg = false → (val x).cells = #[val x]
export Enc (val)
def cells {α : Type} [Enc α] (x : α) : List Value := (val x).cells.toList
theorem cells_length {α : Type} [Enc α] (x : α) : (cells x).length = Enc.size α := by simpa [cells] using Enc.hsize x
structure TyOk (P : Program) (T : TypeId) (α : Type) [Enc α] : Prop where
  size : (P.info? T).map (·.size) = some (Enc.size α)
  agg : ∃ d, P.underlying T = some d ∧ (match d with | .struct _ | .array _ _ => true | _ => false) = Enc.agg α
variable {P : Program}
theorem TyOk.run_isAgg {T : TypeId} {α : Type} [Enc α] (h : TyOk P T α) (w : World) : (isAgg T).run P w = .ok (Enc.agg α) w := by
  obtain ⟨d, hd, ha⟩ := h.agg
  unfold isAgg
  rw [Sem.run_bind, run_underlying hd w, ← ha]
  cases d <;> rfl
theorem TyOk.run_sizeOf {T : TypeId} {α : Type} [Enc α] (h : TyOk P T α) (w : World) : (sizeOf T).run P w = .ok (Enc.size α) w := by
  have := h.size
  cases hq : P.info? T with
  | none => simp [hq] at this
  | some i => simp [hq] at this; simp [sizeOf, typeInfo, hq, this]
def At {α : Type} [Enc α] (c : List Value) (o : Nat) (x : α) : Prop := (c.drop o).take (Enc.size α) = cells x
theorem At.get {α : Type} [Enc α] {c : List Value} {o : Nat} {x : α} (h : At c o x) (j : Nat) (v : Value) (hj : (cells x)[j]? = some v) : c[o + j]? = some v := by
  have hlt : j < Enc.size α := by
    rw [← cells_length x]; exact (List.getElem?_eq_some_iff.1 hj).1
  unfold At at h
  rw [← h, List.getElem?_take, if_pos hlt, List.getElem?_drop] at hj
  exact hj
theorem run_loadVar_at {T : TypeId} {α : Type} [Enc α] (hT : TyOk P T α) {b o : Nat} {c : Array Value} {t : TypeId} {fr : Nat × Nat}
    (hg : w.heap[b]? = some (.cells c t fr)) {x : α} (hx : At c.toList o x) : (loadVar T ⟨b, o, none⟩).run P w = .ok (val x) w := by
  have hadd : ∀ j, (⟨b, o, none⟩ : Addr).add j = ⟨b, o + j, none⟩ := fun j => by unfold Addr.add; split <;> simp_all
  have hcell : ∀ j, w.cell? ⟨b, j, none⟩ = c[j]? := fun j => by simp [World.cell?, hg]
  have hl : (loadCells ⟨b, o, none⟩ (cells x).length).run P w = .ok (cells x).toArray w :=
    run_loadCells_list (P := P) w ⟨b, o, none⟩ (cells x) (fun j v hv => by rw [hadd, hcell, ← Array.getElem?_toList]; exact hx.get j v hv)
  rw [cells_length] at hl
  unfold loadVar
  rw [Sem.run_bind, hT.run_isAgg w]
  simp only [Result.andThen_ok]
  cases ha : Enc.agg α with
  | true =>
    simp only [if_true]
    rw [Sem.run_bind, hT.run_sizeOf w]
    simp only [Result.andThen_ok]
    rw [Sem.run_bind, hl]
    simp only [Result.andThen_ok, Sem.run_pure]
    rw [Enc.hagg x, ha]; simp [cells]
  | false =>
    simp only [Bool.false_eq_true, if_false]
    have h1 := Enc.hone x ha
    have h0 := hx.get 0 (val x) (by simp [cells, h1])
    have : w.cell? ⟨b, o, none⟩ = some (val x) := by rw [hcell, ← Array.getElem?_toList]; exact h0
    simp [load, Sem.run, this]
theorem run_storeVar_at {T : TypeId} {α : Type} [Enc α] (hT : TyOk P T α) {b o : Nat} {c : Array Value} {t : TypeId}
    (hg : w.heap[b]? = some (.cells c t (0, 0))) (x : α) (ho : o + Enc.size α ≤ c.size) :
    (storeVar T ⟨b, o, none⟩ (val x)).run P w = .ok () (w.setRow b (c.toList.take o ++ cells x ++ c.toList.drop (o + Enc.size α)).toArray) := by
  have := run_storeCells_at P b o t (cells x) 0 c w hg (by simpa [cells_length] using ho) (fun v hv => Enc.one x v hv)
  unfold storeVar
  rw [Sem.run_bind, hT.run_sizeOf w]
  simp only [Result.andThen_ok, Enc.hsize x, ne_eq, not_true_eq_false, if_false]
  simpa [cells, Enc.hsize x] using this
end Go.Bur
namespace Go.Bur
open Go Go.RowKit
structure Lens (α β : Type) [Enc α] [Enc β] (off : Nat) (get : α → β) (set : α → β → α) : Prop where
  le : off + Enc.size β ≤ Enc.size α
  get : ∀ a, ((cells a).drop off).take (Enc.size β) = cells (get a)
  set : ∀ a b, (cells a).take off ++ cells b ++ (cells a).drop (off + Enc.size β) = cells (set a b)
theorem Lens.id (α : Type) [Enc α] : Lens α α 0 (fun a => a) (fun _ b => b) where
  le := by simp
  get := fun a => by rw [List.drop_zero, ← cells_length a, List.take_length]
  set := fun a b => by rw [List.take_zero, List.nil_append, Nat.zero_add, ← cells_length a, List.drop_length, List.append_nil]
theorem splice_take {c : List Value} {o n k m : Nat} {y : List Value} (hk : k + m ≤ n) (_ho : o + n ≤ c.length) (hy : y.length = m) :
    c.take (o + k) ++ y ++ c.drop (o + k + m) = c.take o ++ (((c.drop o).take n).take k ++ y ++ ((c.drop o).take n).drop (k + m)) ++ c.drop (o + n) := by
  have h1 : c.take (o + k) = c.take o ++ ((c.drop o).take n).take k := by
    rw [List.take_add, List.take_take, Nat.min_eq_left (by omega)]
  have h2 : c.drop (o + k + m) = ((c.drop o).take n).drop (k + m) ++ c.drop (o + n) := by
    rw [List.drop_take, List.drop_drop, show o + (k + m) = o + k + m by omega]
    have : c.drop (o + n) = (c.drop (o + k + m)).drop (n - (k + m)) := by rw [List.drop_drop]; congr 1; omega
    rw [this, List.take_append_drop]
  rw [h1, h2]; simp [List.append_assoc]
theorem Lens.comp {α β γ : Type} [Enc α] [Enc β] [Enc γ] {o1 o2 : Nat} {g1 : α → β} {s1 : α → β → α} {g2 : β → γ} {s2 : β → γ → β}
    (l1 : Lens α β o1 g1 s1) (l2 : Lens β γ o2 g2 s2) : Lens α γ (o1 + o2) (fun a => g2 (g1 a)) (fun a c => s1 a (s2 (g1 a) c)) where
  le := by have := l1.le; have := l2.le; omega
  get := fun a => by
    rw [← l2.get, ← l1.get, List.drop_take, List.take_take, List.drop_drop, Nat.min_eq_left (by have := l2.le; omega)]
  set := fun a c => by
    rw [splice_take (n := Enc.size β) l2.le (by rw [cells_length]; exact l1.le) (cells_length c), l1.get, l2.set, l1.set]
theorem At.lens {α β : Type} [Enc α] [Enc β] {k : Nat} {g : α → β} {s : α → β → α} (l : Lens α β k g s) {c : List Value} {o : Nat} {x : α} (h : At c o x) :
    At c (o + k) (g x) := by
  unfold At at *
  rw [← l.get, ← h, List.drop_take, List.take_take, List.drop_drop, Nat.min_eq_left (by have := l.le; omega)]
theorem At.whole {α : Type} [Enc α] (x : α) : At (cells x) 0 x := by
  unfold At; rw [List.drop_zero, ← cells_length x, List.take_length]
def blk {α : Type} [Enc α] (T : TypeId) (x : α) : Obj := .cells (cells x).toArray T (0, 0)
def flat {α : Type} [Enc α] (xs : List α) : List Value := xs.flatMap cells
theorem flat_length {α : Type} [Enc α] (xs : List α) : (flat xs).length = xs.length * Enc.size α := by
  induction xs with
  | nil => simp [flat]
  | cons x xs ih => simp only [flat, List.flatMap_cons, List.length_append, cells_length, List.length_cons] at *; rw [ih, Nat.add_mul]; omega
theorem flat_append {α : Type} [Enc α] (xs ys : List α) : flat (xs ++ ys) = flat xs ++ flat ys := by simp [flat]
theorem flat_cons {α : Type} [Enc α] (x : α) (ys : List α) : flat (x :: ys) = cells x ++ flat ys := by simp [flat]
def arr {α : Type} [Enc α] (T : TypeId) (xs : List α) (sp : List Value) : Obj := .cells (flat xs ++ sp).toArray T (0, 0)
theorem flat_drop {α : Type} [Enc α] (xs : List α) (i : Nat) : (flat xs).drop (i * Enc.size α) = flat (xs.drop i) := by
  induction i generalizing xs with
  | zero => simp
  | succ i ih =>
    cases xs with
    | nil => simp [flat]
    | cons x xs =>
      rw [flat_cons, List.drop_succ_cons, ← ih xs, Nat.add_mul, Nat.one_mul, Nat.add_comm, ← List.drop_drop]
      congr 1
      rw [← cells_length x, List.drop_left]
theorem flat_take {α : Type} [Enc α] (xs : List α) (i : Nat) : (flat xs).take (i * Enc.size α) = flat (xs.take i) := by
  induction i generalizing xs with
  | zero => simp [flat]
  | succ i ih =>
    cases xs with
    | nil => simp [flat]
    | cons x xs =>
      rw [flat_cons, List.take_succ_cons, flat_cons, ← ih xs, Nat.add_mul, Nat.one_mul, Nat.add_comm, List.take_add]
      congr 1
      · rw [← cells_length x, List.take_left]
      · rw [← cells_length x, List.drop_left]
theorem At.elem {α : Type} [Enc α] (xs : List α) (i : Nat) (h : i < xs.length) : At (flat xs) (i * Enc.size α) xs[i] := by
  unfold At
  rw [flat_drop, List.drop_eq_getElem_cons h, flat_cons, ← cells_length xs[i], List.take_left]
def AtL {α : Type} [Enc α] (c : List Value) (o : Nat) (xs : List α) : Prop := (c.drop o).take (xs.length * Enc.size α) = flat xs
theorem AtL.at {α : Type} [Enc α] {c : List Value} {o : Nat} {xs : List α} (h : AtL c o xs) (i : Nat) (hi : i < xs.length) : At c (o + i * Enc.size α) xs[i] := by
  have := At.elem xs i hi
  unfold At at *
  rw [← this, ← h, List.drop_take, List.take_take, List.drop_drop, Nat.min_eq_left]
  have : (i + 1) * Enc.size α ≤ xs.length * Enc.size α := Nat.mul_le_mul_right _ hi
  rw [Nat.add_mul] at this; omega
theorem AtL.arr {α : Type} [Enc α] (xs : List α) (sp : List Value) : AtL (flat xs ++ sp) 0 xs := by
  unfold AtL; rw [List.drop_zero, ← flat_length xs, List.take_left]
theorem AtL.drop {α : Type} [Enc α] {c : List Value} {o : Nat} {xs : List α} (h : AtL c o xs) (i : Nat) (_hi : i ≤ xs.length) : AtL c (o + i * Enc.size α) (xs.drop i) := by
  unfold AtL at *
  rw [← flat_drop, ← h, List.drop_take, List.drop_drop, List.length_drop, Nat.sub_mul]
theorem AtL.take {α : Type} [Enc α] {c : List Value} {o : Nat} {xs : List α} (h : AtL c o xs) (i : Nat) (hi : i ≤ xs.length) : AtL c o (xs.take i) := by
  unfold AtL at *
  rw [← flat_take, ← h, List.take_take, List.length_take, Nat.min_eq_left hi, Nat.min_eq_left (Nat.mul_le_mul_right _ hi)]
theorem flat_set {α : Type} [Enc α] (xs : List α) (i : Nat) (h : i < xs.length) (y : α) :
    (flat xs).take (i * Enc.size α) ++ cells y ++ (flat xs).drop (i * Enc.size α + Enc.size α) = flat (xs.set i y) := by
  rw [flat_take, show i * Enc.size α + Enc.size α = (i + 1) * Enc.size α by rw [Nat.add_mul, Nat.one_mul], flat_drop, List.set_eq_take_append_cons_drop, if_pos h, flat_append, flat_cons, List.append_assoc]
def Sl {α : Type} [Enc α] (V : PH) (T : TypeId) (a : Option Addr) (cap : Nat) (xs : List α) : Prop :=
  xs = [] ∨ ∃ b o c, a = some ⟨b, o, none⟩ ∧ V b = some (.cells c T (0, 0)) ∧ AtL c.toList o xs ∧ xs.length ≤ cap
theorem Sl.mono {α : Type} [Enc α] {V V' : PH} {T : TypeId} {a : Option Addr} {cap : Nat} {xs : List α} (h : Sl V T a cap xs) (hV : V ≤ V') : Sl V' T a cap xs := by
  rcases h with h | ⟨b, o, c, h1, h2, h3⟩
  · exact .inl h
  · exact .inr ⟨b, o, c, h1, hV _ _ h2, h3⟩
end Go.Bur
namespace Go.Bur
open Go Go.RowKit
theorem run_v {P : Program} {s : Sem Value} {w w' : World} {x : Value} (h : s.run P w = .ok x w') :
    (do pure (Next.value (← s)) : Sem Next).run P w = .ok (.value x) w' := by
  rw [Sem.run_bind, h]; rfl
theorem run_u {P : Program} {s : Sem Unit} {w w' : World} (h : s.run P w = .ok () w') :
    (do s; pure Next.skip : Sem Next).run P w = .ok .skip w' := by
  rw [Sem.run_bind, h]; rfl
abbrev ptr (b o : Nat) : Value := .pointer (some ⟨b, o, none⟩)
abbrev vi (n : Int) : Value := .int .i64 n
abbrev v8 (x : UInt8) : Value := .int .u8 (x.toNat : Int)
abbrev v32 (x : UInt32) : Value := .int .u32 (x.toNat : Int)
abbrev v64 (x : UInt64) : Value := .int .u64 (x.toNat : Int)
abbrev vs (s : List UInt8) : Value := .string ⟨s.toArray⟩
def Runs (P : Program) (ρ : Operand → Value) (o : Oper) (w : World) (v : Value) (w' : World) : Prop := (execOp ρ o).run P w = .ok (.value v) w'
def Pur (P : Program) (ρ : Operand → Value) (o : Oper) (v : Value) : Prop := ∀ w, Runs P ρ o w v w
section
variable {P : Program} {n : Nat} {Q : QF} {f : Fr} {w w' : World} {ops : Array Oper} {rest : List Oper} {ty : TypeId} {pos : String} {aft : Array Edge} {g : Option (Nat × Bool)} {d : Option Nat}
variable {ρ : Operand → Value}
theorem p_move {x : Operand} {v : Value} (hx : ρ x = v) : Pur P ρ ⟨d, .move x, ty, pos, aft, g⟩ v := fun w => by
  simp [Runs, execOp, hx]
theorem p_assign {x : Operand} {v : Value} (hx : ρ x = v) : Pur P ρ ⟨d, .assign x, ty, pos, aft, g⟩ v := fun w => by
  simp [Runs, execOp, hx]
theorem p_pickT {c x y : Operand} {v : Bool} (hc : ρ c = .bool true) (hx : ρ x = .bool v) : Pur P ρ ⟨d, .pick c x y, ty, pos, aft, g⟩ (.bool v) := fun w => by
  simp [Runs, execOp, hx, hc, asBool]
theorem p_pickF {c x y : Operand} {v : Bool} (hc : ρ c = .bool false) (hx : ρ y = .bool v) : Pur P ρ ⟨d, .pick c x y, ty, pos, aft, g⟩ (.bool v) := fun w => by
  simp [Runs, execOp, hx, hc, asBool]
theorem p_nilCheck {x : Operand} {a : Addr} (hx : ρ x = .pointer (some a)) : Pur P ρ ⟨d, .nilCheck x, ty, pos, aft, g⟩ (.pointer (some a)) := fun w => by
  simp [Runs, execOp, hx]
theorem p_not {t : TypeId} {x : Operand} {b : Bool} (hx : ρ x = .bool b) : Pur P ρ ⟨d, .unOp .not t x, ty, pos, aft, g⟩ (.bool (!b)) := fun w => by
  simp only [Runs, execOp, hx, Op.unary]; rfl
theorem p_extract {x : Operand} {i : Nat} {vs : Array Value} {v : Value} (hx : ρ x = .tuple vs) (hv : vs[i]? = some v) : Pur P ρ ⟨d, .extract x i, ty, pos, aft, g⟩ v := fun w => by
  simp [Runs, execOp, hx, Instr.extract, hv]
theorem p_makeFunc {fn : Fn} {a b : Array Operand} {va vb : Array Value} (ha : a.map ρ = va) (hb : b.map ρ = vb) : Pur P ρ ⟨d, .makeFunc fn a b, ty, pos, aft, g⟩ (.func fn va vb) := fun w => by
  simp [Runs, execOp, Instr.makeFunc, ha, hb]
theorem p_bin {op : BinOp} {t t' : TypeId} {x y : Operand} {vx vy v : Value} (hx : ρ x = vx) (hy : ρ y = vy) (hg : ∀ w, (eqGuard op t x y vx vy).run P w = .ok () w)
    (hb : ∀ w, (binOp op t vx vy).run P w = .ok v w) : Pur P ρ ⟨d, .binOp op t x y t', ty, pos, aft, g⟩ v := fun w => by
  simp only [Runs, execOp, hx, hy]
  refine run_v ?_
  rw [Sem.run_bind, hg]; simp only [Result.andThen_ok]; exact hb w
theorem guard_int {op : BinOp} {t : TypeId} {x y : Operand} {k k' : IntKind} {a b : Int} (w : World) : (eqGuard op t x y (.int k a) (.int k' b)).run P w = .ok () w := by
  cases op <;> simp [eqGuard]
theorem guard_str {op : BinOp} {t : TypeId} {x y : Operand} {a b : ByteArray} (w : World) : (eqGuard op t x y (.string a) (.string b)).run P w = .ok () w := by
  cases op <;> simp [eqGuard]
theorem guard_ptr {op : BinOp} {t : TypeId} {x y : Operand} {a b : Option Addr} (w : World) : (eqGuard op t x y (.pointer a) (.pointer b)).run P w = .ok () w := by
  cases op <;> simp [eqGuard]
theorem guard_slice {op : BinOp} {t : TypeId} {x y : Operand} {a b : Option Addr} {l c l' c' : Nat} (w : World) : (eqGuard op t x y (.slice a l c) (.slice b l' c')).run P w = .ok () w := by
  cases op <;> simp [eqGuard]
theorem guard_bool {op : BinOp} {t : TypeId} {x y : Operand} {a b : Bool} (w : World) : (eqGuard op t x y (.bool a) (.bool b)).run P w = .ok () w := by
  cases op <;> simp [eqGuard]
theorem p_add {t t' : TypeId} {x y : Operand} {k : IntKind} {a b : Int} (hx : ρ x = .int k a) (hy : ρ y = .int k b) :
    Pur P ρ ⟨d, .binOp .add t x y t', ty, pos, aft, g⟩ (.int k (k.wrap (a + b))) := p_bin hx hy guard_int fun w => by simp [binOp, Op.intArith]
theorem p_sub {t t' : TypeId} {x y : Operand} {k : IntKind} {a b : Int} (hx : ρ x = .int k a) (hy : ρ y = .int k b) :
    Pur P ρ ⟨d, .binOp .sub t x y t', ty, pos, aft, g⟩ (.int k (k.wrap (a - b))) := p_bin hx hy guard_int fun w => by simp [binOp, Op.intArith]
theorem p_mul {t t' : TypeId} {x y : Operand} {k : IntKind} {a b : Int} (hx : ρ x = .int k a) (hy : ρ y = .int k b) :
    Pur P ρ ⟨d, .binOp .mul t x y t', ty, pos, aft, g⟩ (.int k (k.wrap (a * b))) := p_bin hx hy guard_int fun w => by simp [binOp, Op.intArith]
theorem wrap64_in {a : Int} (h : -9223372036854775808 ≤ a) (h' : a ≤ 9223372036854775807) : IntKind.i64.wrap a = a := IntWalk.i64_in a ⟨h, h'⟩
theorem p_add64 {t t' : TypeId} {x y : Operand} {a b : Int} (hx : ρ x = vi a) (hy : ρ y = vi b) (h : -9223372036854775808 ≤ a + b ∧ a + b ≤ 9223372036854775807) :
    Pur P ρ ⟨d, .binOp .add t x y t', ty, pos, aft, g⟩ (vi (a + b)) := by have := p_add (P := P) (d := d) (ty := ty) (pos := pos) (aft := aft) (g := g) (t := t) (t' := t') hx hy; rwa [wrap64_in h.1 h.2] at this
theorem p_sub64 {t t' : TypeId} {x y : Operand} {a b : Int} (hx : ρ x = vi a) (hy : ρ y = vi b) (h : -9223372036854775808 ≤ a - b ∧ a - b ≤ 9223372036854775807) :
    Pur P ρ ⟨d, .binOp .sub t x y t', ty, pos, aft, g⟩ (vi (a - b)) := by have := p_sub (P := P) (d := d) (ty := ty) (pos := pos) (aft := aft) (g := g) (t := t) (t' := t') hx hy; rwa [wrap64_in h.1 h.2] at this
theorem p_mul64 {t t' : TypeId} {x y : Operand} {a b : Int} (hx : ρ x = vi a) (hy : ρ y = vi b) (h : -9223372036854775808 ≤ a * b ∧ a * b ≤ 9223372036854775807) :
    Pur P ρ ⟨d, .binOp .mul t x y t', ty, pos, aft, g⟩ (vi (a * b)) := by have := p_mul (P := P) (d := d) (ty := ty) (pos := pos) (aft := aft) (g := g) (t := t) (t' := t') hx hy; rwa [wrap64_in h.1 h.2] at this
theorem p_rem {t t' : TypeId} {x y : Operand} {k : IntKind} {a b : Int} (hx : ρ x = .int k a) (hy : ρ y = .int k b) (h : b ≠ 0) :
    Pur P ρ ⟨d, .binOp .rem t x y t', ty, pos, aft, g⟩ (.int k (a.tmod b)) := p_bin hx hy guard_int fun w => by simp [binOp, Op.intDiv, h]
theorem p_quo {t t' : TypeId} {x y : Operand} {k : IntKind} {a b : Int} (hx : ρ x = .int k a) (hy : ρ y = .int k b) (h : b ≠ 0) :
    Pur P ρ ⟨d, .binOp .quo t x y t', ty, pos, aft, g⟩ (.int k (k.wrap (a.tdiv b))) := p_bin hx hy guard_int fun w => by simp [binOp, Op.intDiv, h]
theorem p_eql {t t' : TypeId} {x y : Operand} {k : IntKind} {a b : Int} (hx : ρ x = .int k a) (hy : ρ y = .int k b) :
    Pur P ρ ⟨d, .binOp .eql t x y t', ty, pos, aft, g⟩ (.bool (a == b)) := p_bin hx hy guard_int fun w => by simp [binOp, Op.intCmp]
theorem p_neq {t t' : TypeId} {x y : Operand} {k : IntKind} {a b : Int} (hx : ρ x = .int k a) (hy : ρ y = .int k b) :
    Pur P ρ ⟨d, .binOp .neq t x y t', ty, pos, aft, g⟩ (.bool (a != b)) := p_bin hx hy guard_int fun w => by simp [binOp, Op.intCmp]
theorem p_lss {t t' : TypeId} {x y : Operand} {k : IntKind} {a b : Int} (hx : ρ x = .int k a) (hy : ρ y = .int k b) :
    Pur P ρ ⟨d, .binOp .lss t x y t', ty, pos, aft, g⟩ (.bool (decide (a < b))) := p_bin hx hy guard_int fun w => by simp [binOp, Op.intCmp]
theorem p_leq {t t' : TypeId} {x y : Operand} {k : IntKind} {a b : Int} (hx : ρ x = .int k a) (hy : ρ y = .int k b) :
    Pur P ρ ⟨d, .binOp .leq t x y t', ty, pos, aft, g⟩ (.bool (decide (a ≤ b))) := p_bin hx hy guard_int fun w => by simp [binOp, Op.intCmp]
theorem p_gtr {t t' : TypeId} {x y : Operand} {k : IntKind} {a b : Int} (hx : ρ x = .int k a) (hy : ρ y = .int k b) :
    Pur P ρ ⟨d, .binOp .gtr t x y t', ty, pos, aft, g⟩ (.bool (decide (a > b))) := p_bin hx hy guard_int fun w => by simp [binOp, Op.intCmp]
theorem p_geq {t t' : TypeId} {x y : Operand} {k : IntKind} {a b : Int} (hx : ρ x = .int k a) (hy : ρ y = .int k b) :
    Pur P ρ ⟨d, .binOp .geq t x y t', ty, pos, aft, g⟩ (.bool (decide (a ≥ b))) := p_bin hx hy guard_int fun w => by simp [binOp, Op.intCmp]
structure FieldOk (P : Program) (s : TypeId) (k off : Nat) : Prop where
  ok : ∃ fs fl, P.underlying s = some (.struct fs) ∧ fs[k]? = some fl ∧ fl.offset = off ∧ ∃ m, (P.info? fl.type).map (·.size) = some (m + 1)
theorem p_fieldAddr {s : TypeId} {x : Operand} {k off b o : Nat} (hf : FieldOk P s k off) (hx : ρ x = ptr b o) :
    Pur P ρ ⟨d, .fieldAddr s x k, ty, pos, aft, g⟩ (ptr b (o + off)) := fun w => by
  obtain ⟨fs, fl, h1, h2, h3, m, h4⟩ := hf.ok
  simp only [Runs, execOp, hx]
  refine run_v ?_
  have hs : (sizeOf fl.type).run P w = .ok (m + 1) w := by
    cases hq : P.info? fl.type with
    | none => simp [hq] at h4
    | some i => simp [hq] at h4; simp [sizeOf, typeInfo, hq, h4]
  have hadd : (⟨b, o, none⟩ : Addr).add off = ⟨b, o + off, none⟩ := by unfold Addr.add; split <;> simp_all
  simp [Instr.fieldAt, Sem.run_bind, run_underlying h1 w, h2, Instr.sureAddr, fieldPlace, hs, h3, hadd]
theorem l_pur {op : Op} {d : Nat} {v : Value} (h : Pur P (ev f) ⟨some d, op, ty, pos, aft, none⟩ v) (hd : d < n)
    (k : LW P n ops Q rest (upd f d v) w) : LW P n ops Q (⟨some d, op, ty, pos, aft, none⟩ :: rest) f w := lw_val (h w) hd k
theorem l_run {op : Op} {d : Nat} {v : Value} (h : Runs P (ev f) ⟨some d, op, ty, pos, aft, none⟩ w v w') (hd : d < n)
    (k : LW P n ops Q rest (upd f d v) w') : LW P n ops Q (⟨some d, op, ty, pos, aft, none⟩ :: rest) f w := lw_val h hd k
theorem lw_pass {o : Oper} {d : Nat} (ho : o.dst = some d) {j : Nat} {b c : Bool} (hg : o.guard = some (j, b)) {oj : Oper} {dj : Nat} (hj : ops[j]? = some oj) (hdj : oj.dst = some dj)
    (hv : f dj = .bool c) (hbc : (c == b) = false) (hd : d < n) (k : LW P n ops Q rest (upd f d undef) w) : LW P n ops Q (o :: rest) f w := fun a ha => by
  have hgd := ha.get dj
  rw [hv, Array.getD_eq_getD_getElem?] at hgd
  have hy : yielded ops a.tmps j = some c := by
    unfold yielded
    rw [hj]; simp only [Option.bind_some, hdj]
    cases hq : a.tmps[dj]? with
    | none => rw [hq] at hgd; simp [undef] at hgd
    | some u => rw [hq] at hgd; simp at hgd; subst hgd; rfl
  refine wpList_step fun K hK => ?_
  have : Region.wanted o (yielded ops a.tmps) = false := by
    unfold Region.wanted; rw [hg]; simp only [hy]
    cases c <;> cases b <;> simp_all
  rw [this, ho]
  exact hK _ _ (k _ (ha.put hd undef))
theorem lw_do {d : Option Nat} {op : Op} {j : Nat} {b : Bool} {oj : Oper} {dj : Nat} (hj : ops[j]? = some oj) (hdj : oj.dst = some dj)
    (hv : f dj = .bool b) (k : LW P n ops Q (⟨d, op, ty, pos, aft, none⟩ :: rest) f w) : LW P n ops Q (⟨d, op, ty, pos, aft, some (j, b)⟩ :: rest) f w := fun a ha => by
  have hgd := ha.get dj
  rw [hv, Array.getD_eq_getD_getElem?] at hgd
  have hy : yielded ops a.tmps j = some b := by
    unfold yielded
    rw [hj]; simp only [Option.bind_some, hdj]
    cases hq : a.tmps[dj]? with
    | none => rw [hq] at hgd; simp [undef] at hgd
    | some u => rw [hq] at hgd; simp at hgd; subst hgd; rfl
  have := k a ha
  unfold wpList at this ⊢
  have h1 : Region.wanted (⟨d, op, ty, pos, aft, none⟩ : Oper) (yielded ops a.tmps) = true := rfl
  have h2 : Region.wanted (⟨d, op, ty, pos, aft, some (j, b)⟩ : Oper) (yielded ops a.tmps) = true := by
    unfold Region.wanted; simp [hy]
  rw [if_pos h1] at this
  rw [if_pos h2]
  exact this
end
end Go.Bur
namespace Go.Bur
open Go Go.RowKit
def ZeroOk (P : Program) (T : TypeId) {α : Type} [Enc α] (z : α) : Prop := ∀ w, (zeroValue T).run P w = .ok (val z) w
section
variable {P : Program} {n : Nat} {Q : QF} {f : Fr} {w w' : World} {ops : Array Oper} {rest : List Oper} {ty : TypeId} {pos : String} {aft : Array Edge} {g : Option (Nat × Bool)} {d : Option Nat}
variable {ρ : Operand → Value} {W0 : World} {V : PH} {L : List (Nat × Obj)}
theorem val_cells {α : Type} [Enc α] (x : α) : (val x).cells = (cells x).toArray := by simp [cells]
theorem r_alloc {α : Type} [Enc α] {T : TypeId} {z : α} (hz : ZeroOk P T z) : Runs P ρ ⟨d, .alloc T, ty, pos, aft, g⟩ w (ptr w.heap.size 0) (w.alloc (blk T z)) := by
  simp only [Runs, execOp]
  refine run_v ?_
  simp only [Instr.alloc, Sem.run_bind, hz w, Result.andThen_ok, newVar, newRow, newObj]
  simp [Sem.run, blk, val_cells]
theorem r_box {α : Type} [Enc α] {T : TypeId} {x : Operand} {z : α} (hx : ρ x = val z) : Runs P ρ ⟨d, .box T x, ty, pos, aft, g⟩ w (ptr w.heap.size 0) (w.alloc (blk T z)) := by
  simp only [Runs, execOp]
  refine run_v ?_
  simp only [Instr.box, Sem.run_bind, hx, newVar, newRow, newObj]
  simp [Sem.run, blk, val_cells]
theorem l_alloc {α : Type} [Enc α] {T : TypeId} {d : Nat} {z : α} (hz : ZeroOk P T z) (hs : St W0 V w L) (hd : d < n)
    (k : ∀ b w', St W0 V w' ((b, blk T z) :: L) → LW P n ops Q rest (upd f d (ptr b 0)) w') : LW P n ops Q (⟨some d, .alloc T, ty, pos, aft, none⟩ :: rest) f w :=
  l_run (r_alloc hz) hd (k _ _ (hs.alloc _))
theorem l_box {α : Type} [Enc α] {T : TypeId} {d : Nat} {x : Operand} {z : α} (hx : ev f x = val z) (hs : St W0 V w L) (hd : d < n)
    (k : ∀ b w', St W0 V w' ((b, blk T z) :: L) → LW P n ops Q rest (upd f d (ptr b 0)) w') : LW P n ops Q (⟨some d, .box T x, ty, pos, aft, none⟩ :: rest) f w :=
  l_run (r_box hx) hd (k _ _ (hs.alloc _))
theorem r_load {α : Type} [Enc α] {T : TypeId} {x : Operand} {b o : Nat} {c : Array Value} {t : TypeId} {fr : Nat × Nat} {y : α} (hT : TyOk P T α) (hx : ρ x = ptr b o)
    (hg : w.heap[b]? = some (.cells c t fr)) (ha : At c.toList o y) : Runs P ρ ⟨d, .load T x, ty, pos, aft, g⟩ w (val y) w := by
  simp only [Runs, execOp, hx]
  refine run_v ?_
  simp only [Instr.loadAt, Instr.sureAddr, Sem.run_bind, Sem.run_pure, Result.andThen_ok]
  exact run_loadVar_at hT hg ha
theorem r_load_own {α β : Type} [Enc α] [Enc β] {T T' : TypeId} {x : Operand} {b o : Nat} {gt : α → β} {st : α → β → α} {y : α} (hT : TyOk P T β) (hx : ρ x = ptr b o)
    (hl : Lens α β o gt st) (hg : w.heap[b]? = some (blk T' y)) : Runs P ρ ⟨d, .load T x, ty, pos, aft, g⟩ w (val (gt y)) w := by
  have := At.lens hl (At.whole y)
  rw [Nat.zero_add] at this
  exact r_load hT hx hg (by simpa using this)
theorem r_store {α : Type} [Enc α] {T t : TypeId} {x y : Operand} {b o : Nat} {c : Array Value} {z : α} (hT : TyOk P T α) (hx : ρ x = ptr b o) (hy : ρ y = val z)
    (hg : w.heap[b]? = some (.cells c t (0, 0))) (ho : o + Enc.size α ≤ c.size) :
    (execOp ρ ⟨d, .store T x y, ty, pos, aft, g⟩).run P w = .ok .skip (w.setRow b (c.toList.take o ++ cells z ++ c.toList.drop (o + Enc.size α)).toArray) := by
  simp only [execOp, hx, hy]
  refine run_u ?_
  simp only [Instr.storeAt, Instr.sureAddr, Sem.run_bind, Sem.run_pure, Result.andThen_ok]
  exact run_storeVar_at hT hg z ho
theorem p_indexAddr {t : TypeId} {x y : Operand} {E : TypeId} {k : IntKind} {a : Addr} {l c i s : Nat} (ht : P.underlying t = some (.slice E)) (hE : (P.info? E).map (·.size) = some s)
    (hx : ρ x = .slice (some a) l c) (hy : ρ y = .int k (i : Int)) (hi : i < l) : Pur P ρ ⟨d, .indexAddr t x y, ty, pos, aft, g⟩ (.pointer (some (a.add (i * s)))) := fun w => by
  simp only [Runs, execOp, hx, hy]
  refine run_v ?_
  have hs : (sizeOf E).run P w = .ok s w := by
    cases hq : P.info? E with
    | none => simp [hq] at hE
    | some i => simp [hq] at hE; simp [sizeOf, typeInfo, hq, hE]
  have h0 : (0 : Int) ≤ i ∧ (i : Int) < l := by omega
  simp [Instr.indexAt, asIntOf, Sem.run_bind, run_underlying ht w, h0, hs, hi]
theorem addr_add (b o j : Nat) : (⟨b, o, none⟩ : Addr).add j = ⟨b, o + j, none⟩ := by unfold Addr.add; split <;> simp_all
theorem l_indexSl {α : Type} [Enc α] {t E : TypeId} {x y : Operand} {d : Nat} {k : IntKind} {a : Option Addr} {cp i m : Nat} {xs : List α} (ht : P.underlying t = some (.slice E)) (hE : TyOk P E α)
    (hx : ev f x = .slice a m cp) (hm : m = xs.length) (hy : ev f y = .int k (i : Int)) (hi : i < xs.length) (hsl : Sl V E a cp xs) (hd : d < n)
    (h : ∀ b o c, V b = some (.cells c E (0, 0)) → At c.toList o xs[i] → LW P n ops Q rest (upd f d (ptr b o)) w) : LW P n ops Q (⟨some d, .indexAddr t x y, ty, pos, aft, none⟩ :: rest) f w := by
  subst hm
  rcases hsl with rfl | ⟨b, o, c, rfl, h2, h3, h4⟩
  · simp at hi
  · refine l_pur (p_indexAddr ht hE.size hx hy hi) hd ?_
    rw [addr_add]
    exact h _ _ _ h2 (h3.at i hi)
theorem l_loadV {α : Type} [Enc α] {T : TypeId} {x : Operand} {d b o : Nat} {c : Array Value} {t : TypeId} {y : α} (hT : TyOk P T α) (hx : ev f x = ptr b o) (hs : St W0 V w L)
    (hb : V b = some (.cells c t (0, 0))) (ha : At c.toList o y) (hd : d < n) (h : LW P n ops Q rest (upd f d (val y)) w) : LW P n ops Q (⟨some d, .load T x, ty, pos, aft, none⟩ :: rest) f w :=
  l_run (r_load hT hx (hs.sub _ _ hb) ha) hd h
theorem l_loadO {α β : Type} [Enc α] [Enc β] {T T' : TypeId} {x : Operand} {d b o : Nat} {gt : α → β} {st : α → β → α} {y : α} (hT : TyOk P T β) (hx : ev f x = ptr b o)
    (hl : Lens α β o gt st) (hs : St W0 V w L) (hm : (b, blk T' y) ∈ L) (hd : d < n) (h : LW P n ops Q rest (upd f d (val (gt y))) w) : LW P n ops Q (⟨some d, .load T x, ty, pos, aft, none⟩ :: rest) f w :=
  l_run (r_load_own hT hx hl (hs.mem hm)) hd h
theorem p_len {t : TypeId} {x : Operand} {E : TypeId} {a : Option Addr} {l c : Nat} {tt : TypeId} (ht : P.underlying t = some (.slice E)) (hx : ρ x = .slice a l c) :
    Pur P ρ ⟨d, .call ⟨.builtin .len, #[x], #[t]⟩, tt, pos, aft, g⟩ (vi l) := fun w => by
  simp only [Runs, execOp, resolve, invoke, builtin, Sem.run_bind, Sem.run_pure, Result.andThen_ok, List.map_toArray, List.map_cons, List.map_nil, hx]
  simp [Builtin.len_, Sem.run_bind, run_underlying ht w, goInt]
theorem p_lenS {t : TypeId} {x : Operand} {s : ByteArray} {tt : TypeId} (ht : P.underlying t = some .string) (hx : ρ x = .string s) :
    Pur P ρ ⟨d, .call ⟨.builtin .len, #[x], #[t]⟩, tt, pos, aft, g⟩ (vi s.size) := fun w => by
  simp only [Runs, execOp, resolve, invoke, builtin, Sem.run_bind, Sem.run_pure, Result.andThen_ok, List.map_toArray, List.map_cons, List.map_nil, hx]
  simp [Builtin.len_, Sem.run_bind, run_underlying ht w, goInt]
theorem r_buildSlice1 {α : Type} [Enc α] {t E : TypeId} {x : Operand} {y z : α} (ht : P.underlying t = some (.slice E)) (hE : TyOk P E α) (hz : ZeroOk P E z) (hx : ρ x = val y) (hsm : 0 < Enc.size α ∧ Enc.size α ≤ 16777216) :
    Runs P ρ ⟨d, .buildSlice t 1 #[(0, x)], ty, pos, aft, g⟩ w (.slice (some ⟨w.heap.size, 0, none⟩) 1 1) (w.alloc (blk E y)) := by
  simp only [Runs, execOp]
  refine run_v ?_
  have hsz : ¬ (Enc.size α > 2 ^ 24) := by omega
  have hfill : ∀ base : Array Value, base.size = Enc.size α → Instr.fill (fun i => some (i * Enc.size α, Enc.size α)) base [(0, val y)] = some (cells y).toArray := by
    intro base hb
    have h1 : (val y).cells.size = Enc.size α := Enc.hsize y
    simp only [Instr.fill, h1, Nat.zero_mul, Nat.zero_add, hb]
    simp only [ne_eq, not_true_eq_false, decide_false, gt_iff_lt, Nat.lt_irrefl, Bool.or_self, Bool.false_eq_true, if_false]
    congr 1
    have key : ∀ (l : List Value) (j : Nat) (acc : Array Value), j + l.length ≤ acc.size →
        ((l.zipIdx j).foldl (fun (cs : Array Value) (x : Value × Nat) => cs.setIfInBounds x.2 x.1) acc) = (acc.toList.take j ++ l ++ acc.toList.drop (j + l.length)).toArray := by
      intro l
      induction l with
      | nil => intro j acc _; simp
      | cons v l ih =>
        intro j acc hj
        rw [List.zipIdx_cons, List.foldl_cons, ih (j + 1) _ (by simp at *; omega)]
        simp only [List.length_cons] at hj
        congr 1
        have hlt : j < acc.toList.length := by simp; omega
        rw [Array.toList_setIfInBounds]
        rw [List.take_succ_eq_append_getElem (by simpa using hlt), List.take_set_of_le (Nat.le_refl _), List.getElem_set_self, List.drop_set_of_lt (by omega)]
        simp [Nat.add_assoc, Nat.add_comm 1]
    have := key (cells y) 0 base (by rw [cells_length, hb]; omega)
    rw [List.take_zero, List.nil_append, Nat.zero_add, List.drop_eq_nil_of_le (by rw [cells_length]; simp [hb]), List.append_nil] at this
    rw [← this]
    rw [← Array.foldl_toList, Array.toList_zipIdx]
    rfl
  cases hn : Enc.size α with
  | zero => omega
  | succ m =>
    have hs : (sizeOf E).run P w = .ok (m + 1) w := by rw [← hn]; exact hE.run_sizeOf w
    have := hfill (Array.map (fun x => (val z).cells[x % (val z).cells.size]!) (Array.range (m + 1))) (by simp [hn])
    rw [hn] at this
    have hm : ¬ (2 ^ 24 < m + 1) := by omega
    simp [Instr.buildSlice, Sem.run_bind, run_underlying ht w, hs, hx, this, newRow, newObj, Sem.run, blk, hz w, hm]
end
end Go.Bur
namespace Go.Bur
open Go Go.RowKit
section
variable {P : Program} {n : Nat} {Q : QF} {f : Fr} {w w' : World} {ops : Array Oper} {rest : List Oper} {ty : TypeId} {pos : String} {aft : Array Edge} {g : Option (Nat × Bool)} {d : Option Nat}
variable {ρ : Operand → Value} {W0 : World} {V : PH} {L : List (Nat × Obj)}
def okR (R : Value → World → Prop) : Ending → World → Prop := fun e w => ∃ v, e = .returned v ∧ R v w
structure FnOk (P : Program) (k : FuncId) : Prop where
  ok : ∃ fn, P.funcs[k]? = some fn ∧ (fn.name == "runtime.NumGoroutine") = false ∧ fn.body.isNone = false
theorem run_callFunc {k : FuncId} (h : FnOk P k) (args : Array Value) (w : World) : (callFunc k args).run P w = .ok (.enter k args) w := by
  obtain ⟨fn, h1, h2, h3⟩ := h.ok
  have h2' : ¬ fn.name = "runtime.NumGoroutine" := by simpa using h2
  have h3' : ¬ fn.body = none := by
    intro e; rw [e] at h3; simp at h3
  simp [callFunc, Sem.run_bind, h1, h2', h3']
inductive Own {α : Type} [Enc α] (W0 : World) (V : PH) (w : World) (L : List (Nat × Obj)) (T : TypeId) : Value → List α → Prop
  | nil (hs : St W0 V w L) : Own W0 V w L T (.slice none 0 0) []
  | blk (b cap : Nat) (xs : List α) (sp : List Value) (hc : sp.length + xs.length * Enc.size α = cap * Enc.size α) (hle : xs.length ≤ cap) (hs : St W0 V w ((b, arr T xs sp) :: L)) : Own W0 V w L T (.slice (some ⟨b, 0, none⟩) xs.length cap) xs
structure ElemOk (P : Program) (t T : TypeId) (α : Type) [Enc α] (bytes : Nat) : Prop where
  sl : P.underlying t = some (.slice T)
  ty : TyOk P T α
  info : ∃ i z, P.info? T = some i ∧ i.zero = some z ∧ z.cells.size = Enc.size α ∧ i.bytes = bytes
  pos : 0 < Enc.size α
def Src1 {α : Type} [Enc α] (w : World) (T : TypeId) (a : Option Addr) (ys : List α) : Prop :=
  ys = [] ∨ ∃ b o cc fr, a = some ⟨b, o, none⟩ ∧ w.heap[b]? = some (.cells cc T fr) ∧ AtL cc.toList o ys
theorem Src1.cells {α : Type} [Enc α] {T : TypeId} {a : Option Addr} {ys : List α} (h : Src1 w T a ys) :
    ∀ (a' : Addr), a = some a' → ∀ j u, (flat ys)[j]? = some u → w.cell? (a'.add j) = some u := by
  intro a' ha' j u hj
  rcases h with rfl | ⟨b, o, cc, fr, ha, hg, hat⟩
  · simp [flat] at hj
  · rw [ha] at ha'; cases ha'
    rw [addr_add]
    simp only [World.cell?, hg, Option.isSome_none, Bool.false_eq_true, if_false]
    rw [← Array.getElem?_toList]
    unfold AtL at hat
    rw [← hat, List.getElem?_take] at hj
    split at hj
    · rwa [List.getElem?_drop] at hj
    · cases hj
theorem flat_one {α : Type} [Enc α] (ys : List α) : ∀ u ∈ flat ys, u.oneCell' = true := by
  intro u hu
  obtain ⟨y, _, hy⟩ := List.mem_flatMap.1 hu
  exact Enc.one y u (by simpa [cells] using hy)
theorem Src1.first {α : Type} [Enc α] {T : TypeId} {a : Option Addr} {ys : List α} (h : Src1 w T a ys) {m c : Nat} (hm : m = ys.length) :
    (Builtin.firstCells (Enc.size α) m (.slice a m c)).run P w = .ok (flat ys).toArray w := by
  subst hm
  cases a with
  | none =>
    rcases h with rfl | ⟨b, o, cc, fr, ha, _, _⟩
    · simp [Builtin.firstCells, flat]
    · cases ha
  | some a' =>
    have := h.cells a' rfl
    simp only [Builtin.firstCells]
    rw [← flat_length ys]
    exact run_loadCells_list (P := P) w a' (flat ys) (fun j v hv => this j v hv)
theorem Src1.drew {α : Type} [Enc α] {T : TypeId} {a : Option Addr} {ys : List α} (h : Src1 w T a ys) : Src1 w.drew T a ys := h
theorem zeroCells_size (z : Array Value) (k : Nat) : (Builtin.zeroCells z k).size = k * z.size := by simp [Builtin.zeroCells]
theorem run_append_new {α : Type} [Enc α] {t T ty : TypeId} {bytes : Nat} (hE : ElemOk P t T α bytes) {xs ys : List α} {a a' : Option Addr} {cap c m k : Nat}
    (hs : St W0 V w L) (hx : Src1 w T a xs) (hy : Src1 w T a' ys) (hm : m = xs.length) (hk : k = ys.length) (hg : cap < m + k)
    (hlen : (m + k) * bytes ≤ 140737488355328) (hmax : m + k ≤ 1099511627776) :
    ∃ b cap' sp w', (Builtin.append_ #[t, t] ty #[.slice a m cap, .slice a' k c]).run P w = .ok (.slice (some ⟨b, 0, none⟩) (m + k) cap') w' ∧
      sp.length + (m + k) * Enc.size α = cap' * Enc.size α ∧ m + k ≤ cap' ∧ St W0 V w' ((b, arr T (xs ++ ys) sp) :: L) := by
  obtain ⟨i, z, hi, hz, hzs, hby⟩ := hE.info
  have hsize : i.size = Enc.size α := by have := hE.ty.size; simpa [hi] using this
  have hx1 : (Builtin.firstCells (Enc.size α) m (.slice a m cap)).run P w.drew = .ok (flat xs).toArray w.drew := Src1.first (w := w.drew) hx.drew hm
  have hy1 : (Builtin.firstCells (Enc.size α) k (.slice a' k c)).run P w.drew = .ok (flat ys).toArray w.drew := Src1.first (w := w.drew) hy.drew hk
  have hn : ¬ (m + k ≤ cap) := by omega
  have h63' : ¬ (9223372036854775807 < ((m : Int) + (k : Int))) := by omega
  have hfit := growslice_fits (need := m + k) (old := cap) (bytes := bytes) hg hlen
  have h48' : ¬ (281474976710656 < Builtin.nextslicecap (m + k) cap * i.bytes) := by rw [hby]; omega
  have hge := grownCap_ge w (m + k) cap T
  refine ⟨w.heap.size, grownCap w (m + k) cap T, (Builtin.zeroCells z.cells (grownCap w (m + k) cap T - (m + k))).toList,
    w.drew.alloc (.cells ((flat (xs ++ ys)) ++ (Builtin.zeroCells z.cells (grownCap w (m + k) cap T - (m + k))).toList).toArray T), ?_, ?_, hge, ?_⟩
  · have e : (flat (xs ++ ys) ++ (Builtin.zeroCells z.cells (grownCap w (m + k) cap T - (m + k))).toList).toArray = (flat xs).toArray ++ (flat ys).toArray ++ Builtin.zeroCells z.cells (grownCap w (m + k) cap T - (m + k)) := by
      simp [flat_append]
    rw [e]
    rw [← hsize] at hx1 hy1
    simp [Builtin.append_, run_underlying hE.sl, sizeOf, typeInfo, zeroValue, hi, hz, Builtin.lenOf, hn, h63', h48', Question.forced, hx1, hy1, newRow, grownCap]
    have key : ∀ Z : Array Value, (flat xs).toArray ++ ((flat ys).toArray ++ Z) = (flat xs ++ flat ys).toArray ++ Z := by
      intro Z
      rw [← Array.append_assoc]
      simp
    rw [key]
  · rw [Array.length_toList, zeroCells_size, hzs, ← Nat.add_mul]; congr 1; omega
  · exact hs.drew.alloc _
theorem run_append_in {α : Type} [Enc α] {t T ty : TypeId} {bytes : Nat} (hE : ElemOk P t T α bytes) {xs ys : List α} {b : Nat} {sp : List Value} {a' : Option Addr} {cap c m k : Nat}
    (hs : St W0 V w ((b, arr T xs sp) :: L)) (hy : Src1 w T a' ys) (hm : m = xs.length) (hk : k = ys.length) (hg : m + k ≤ cap) (hc : sp.length + m * Enc.size α = cap * Enc.size α) :
    ∃ sp' w', (Builtin.append_ #[t, t] ty #[.slice (some ⟨b, 0, none⟩) m cap, .slice a' k c]).run P w = .ok (.slice (some ⟨b, 0, none⟩) (m + k) cap) w' ∧
      sp'.length + (m + k) * Enc.size α = cap * Enc.size α ∧ St W0 V w' ((b, arr T (xs ++ ys) sp') :: L) := by
  obtain ⟨i, z, hi, hz, hzs, hby⟩ := hE.info
  have hsize : i.size = Enc.size α := by have := hE.ty.size; simpa [hi] using this
  have hy1 : (Builtin.firstCells (Enc.size α) k (.slice a' k c)).run P w = .ok (flat ys).toArray w := Src1.first hy hk
  have hmul : m * Enc.size α + k * Enc.size α ≤ cap * Enc.size α := by rw [← Nat.add_mul]; exact Nat.mul_le_mul_right _ hg
  have hst := run_storeCells_at P b (m * Enc.size α) T (flat ys) 0 (flat xs ++ sp).toArray w (hs.mem (List.mem_cons_self ..)) (by rw [flat_length, ← hk]; simp only [List.size_toArray, List.length_append, flat_length, ← hm]; omega) (flat_one ys)
  refine ⟨sp.drop (k * Enc.size α), w.setRow b (flat (xs ++ ys) ++ sp.drop (k * Enc.size α)).toArray, ?_, ?_, ?_⟩
  · have e : (flat (xs ++ ys) ++ sp.drop (k * Enc.size α)) = List.take (m * Enc.size α) (flat xs ++ sp) ++ flat ys ++ List.drop (m * Enc.size α + (flat ys).length) (flat xs ++ sp) := by
      have h1 : m * Enc.size α = (flat xs).length := by rw [flat_length, hm]
      rw [h1, List.take_left, flat_length ys, ← hk, ← List.drop_drop, List.drop_left, flat_append]
    rw [e]
    rw [← hsize] at hy1 hst ⊢
    simp only [Nat.add_zero] at hst
    simp [Builtin.append_, run_underlying hE.sl, sizeOf, typeInfo, hi, Builtin.lenOf, hg, hy1, addr_add, hst]
  · rw [List.length_drop, Nat.add_mul]; omega
  · exact hs.setRow0
theorem run_append_own' {α : Type} [Enc α] {t T ty : TypeId} {bytes : Nat} (hE : ElemOk P t T α bytes) {v : Value} {xs ys : List α} {a' : Option Addr} {c k : Nat}
    (ho : Own W0 V w L T v xs) (hy : Src1 w T a' ys) (hk : k = ys.length) (hlen : (xs.length + k) * bytes ≤ 140737488355328) (hmax : xs.length + k ≤ 1099511627776) :
    ∃ v' w', (Builtin.append_ #[t, t] ty #[v, .slice a' k c]).run P w = .ok v' w' ∧ Own W0 V w' L T v' (xs ++ ys) := by
  cases ho with
  | nil hs =>
    by_cases h0 : k = 0
    · subst h0
      have : ys = [] := List.eq_nil_of_length_eq_zero hk.symm
      subst this
      obtain ⟨i, z, hi, hz, hzs, hby⟩ := hE.info
      refine ⟨.slice none 0 0, w, ?_, by simpa using Own.nil hs⟩
      have hy1 : (Builtin.firstCells i.size 0 (.slice a' 0 c)).run P w = .ok #[] w := by
        have hsize : i.size = Enc.size α := by have := hE.ty.size; simpa [hi] using this
        have := Src1.first (P := P) (c := c) hy hk
        rw [hsize]; simpa [flat] using this
      simp [Builtin.append_, run_underlying hE.sl, sizeOf, typeInfo, hi, Builtin.lenOf, hy1]
    · obtain ⟨b, cap', sp, w', h1, h2, h3, h4⟩ := run_append_new (ty := ty) hE (c := c) (cap := 0) hs (xs := []) (a := none) (.inl rfl) hy rfl hk (by simp; omega) (by simpa using hlen) (by simpa using hmax)
      simp only [List.length_nil, Nat.zero_add, List.nil_append] at h1 h2 h3 h4 ⊢
      exact ⟨_, w', h1, by subst hk; exact Own.blk b cap' ys sp h2 h3 h4⟩
  | blk b cap xs sp hc hle hs =>
    by_cases hr : xs.length + k ≤ cap
    · obtain ⟨sp', w', h1, h2, h3⟩ := run_append_in (ty := ty) hE (c := c) hs hy rfl hk hr hc
      refine ⟨_, w', h1, ?_⟩
      have e : xs.length + k = (xs ++ ys).length := by simp [hk]
      rw [e] at h2 hr ⊢
      exact Own.blk b cap _ sp' h2 hr h3
    · have hb := hs.mem (List.mem_cons_self ..)
      have hsx : Src1 w T (some ⟨b, 0, none⟩) xs := .inr ⟨b, 0, _, _, rfl, hb, by simpa using AtL.arr xs sp⟩
      obtain ⟨b', cap', sp', w', h1, h2, h3, h4⟩ := run_append_new (ty := ty) hE (c := c) hs.drop1 hsx hy rfl hk (cap := cap) (by omega) hlen hmax
      refine ⟨_, w', h1, ?_⟩
      have e : xs.length + k = (xs ++ ys).length := by simp [hk]
      rw [e] at h2 h3 ⊢
      exact Own.blk b' cap' _ sp' h2 h3 h4
end
end Go.Bur
namespace Go.Bur
open Go Go.RowKit
section
variable {P : Program} {ops : Array Oper} {Q : Exit → Act → World → Prop} {md : Region.Mode} {S T : World → Prop} {m : Nat}
def HA (P : Program) (md : Region.Mode) (ops : Array Oper) (Q : Exit → Act → World → Prop) (S : World → Prop) (m : Nat) : Nat → Array Bool → Act → World → Prop
  | 0, l, a, w => Region.ready md ops l = [] ∧ Q .normal a w
  | fuel + 1, l, a, w =>
    (Region.ready md ops l = [] → Q .normal a w) ∧
    ∀ i ∈ Region.ready md ops l, wpOp P ops Q i (fun a' w' => (m.testBit i = true → S w → S w') ∧ HA P md ops Q S m fuel (l.setIfInBounds i true) a' w') a w
theorem HA.any : ∀ (fuel : Nat) (l : Array Bool) (a : Act) (w : World), HA P md ops Q S m fuel l a w → wpAny P md ops Q fuel l a w
  | 0, _, _, _, h => h
  | fuel + 1, _, _, _, h => ⟨h.1, fun i hi => wpOp_mono (fun a' w' h' => HA.any fuel _ a' w' h'.2) (h.2 i hi)⟩
def Cl (md : Region.Mode) (ops : Array Oper) (l : Array Bool) : Prop := ∀ (k : Nat) (ok : Oper), ops[k]? = some ok → l.getD k false = true → ∀ e ∈ ok.after, Region.binds md e = true → l.getD e.on false = true
theorem Cl.start (n : Nat) : Cl md ops (Array.replicate n false) := fun k ok _ h => by
  rw [Array.getD_eq_getD_getElem?, Array.getElem?_replicate] at h
  split at h <;> cases h
theorem getD_set_true {l : Array Bool} {k j : Nat} (h : l.getD k false = true) : (l.setIfInBounds j true).getD k false = true := by
  rw [Array.getD_eq_getD_getElem?] at *
  rw [Array.getElem?_setIfInBounds]
  split
  · split
    · rfl
    · rename_i h1 h2; subst h1; rw [Array.getElem?_eq_none (by omega)] at h; cases h
  · exact h
theorem Cl.set {l : Array Bool} {j : Nat} (h : Cl md ops l) (hj : j ∈ Region.ready md ops l) : Cl md ops (l.setIfInBounds j true) := by
  intro k ok hok hk e he hb
  obtain ⟨_, oj, hoj, hall⟩ := mem_ready.1 hj
  by_cases hkj : k = j
  · subst hkj
    rw [hok] at hoj; cases hoj
    exact getD_set_true (hall e he hb)
  · refine getD_set_true (h k ok hok ?_ e he hb)
    rw [Array.getD_eq_getD_getElem?, Array.getElem?_setIfInBounds, if_neg (fun e => hkj e.symm), ← Array.getD_eq_getD_getElem?] at hk
    exact hk
theorem HA.first {i : Nat} {oi : Oper} {v : Value} (hi : ops[i]? = some oi) (hsel : ∀ (j : Nat) (o : Oper) cs b, ops[j]? = some o → o.op ≠ .select cs b)
    (hQ : ∀ c a w, Q (.panic c) (a.put oi.dst v) w → Q (.panic c) a w)
    (hT : ∀ j (l : Array Bool), Cl md ops l → i ∈ Region.ready md ops l → j ∈ Region.ready md ops l → j ≠ i → ∀ w w', (m.testBit j = true → S w → S w') → T w → T w') :
    ∀ (fuel : Nat) (l : Array Bool) (a : Act) (w : World), Cl md ops l →
      (∀ j oj, ops[j]? = some oj → j ≠ i → l.getD j true = false → (∀ e ∈ oj.after, Region.binds md e = true → e.on ≠ i) → oi.apart ops oj = true) →
      i ∈ Region.ready md ops l → YieldsIf P ops T oi v a → T w →
      HA P md ops Q S m fuel (l.setIfInBounds i true) (a.put oi.dst v) w → HA P md ops Q S m (fuel + 1) l a w := by
  intro fuel
  induction fuel with
  | zero =>
    intro l a w hcl _ hr hy hS H
    refine ⟨fun h => (by rw [h] at hr; cases hr), fun j hj => ?_⟩
    by_cases hji : j = i
    · subst hji; exact hy.wpOp hi hS ⟨fun _ h => h, H⟩
    · have := ready_mono hj hji
      rw [H.1] at this
      cases this
  | succ fuel ih =>
    intro l a w hcl hfree hr hy hS H
    refine ⟨fun h => (by rw [h] at hr; cases hr), fun j hj => ?_⟩
    by_cases hji : j = i
    · subst hji; exact hy.wpOp hi hS ⟨fun _ h => h, H⟩
    · have h1 := H.2 j (ready_mono hj hji)
      obtain ⟨hjun, oj, hoj, hall⟩ := mem_ready.1 hj
      have hnot : ∀ e ∈ oj.after, Region.binds md e = true → e.on ≠ i := fun e he hb heq => by
        have h1 := hall e he hb
        have h0 := (mem_ready.1 hr).1
        rw [heq] at h1
        rcases Nat.lt_or_ge i l.size with h' | h'
        · simp [h'] at h0 h1; rw [h0] at h1; cases h1
        · simp [Array.getElem?_eq_none h'] at h1
      have h2 := wpOp_putIf hoj (hfree j oj hoj hji hjun hnot) (fun cs b => hsel i oi cs b hi) (fun cs b => hsel j oj cs b hoj) hQ hy h1
      have hfree' : ∀ k ok, ops[k]? = some ok → k ≠ i → (l.setIfInBounds j true).getD k true = false →
          (∀ e ∈ ok.after, Region.binds md e = true → e.on ≠ i) → oi.apart ops ok = true := fun k ok hk hki hun hno => by
        refine hfree k ok hk hki ?_ hno
        by_cases hjk : j = k
        · subst hjk; exact hjun
        · rw [getD_set_ne true hjk] at hun; exact hun
      refine wpOp_mono (fun a' w' h3 => ⟨h3.2.1, ?_⟩) h2
      have hTw : T w' := hT j l hcl hr hj hji w w' h3.2.1 hS
      refine ih (l.setIfInBounds j true) a' w' (hcl.set hj) hfree' (ready_mono hr (Ne.symm hji)) h3.1 hTw ?_
      rw [Array.setIfInBounds_comm _ _ hji]
      exact h3.2.2
def waits (md : Region.Mode) (ops : Array Oper) (j i : Nat) : Bool := ((ops[j]?).map fun o => o.after.any fun e => Region.binds md e && e.on == i).getD false
def waitsF (md : Region.Mode) (ops : Array Oper) : Nat → Nat → Nat → Bool
  | 0, j, i => waits md ops j i
  | k + 1, j, i => waits md ops j i || ((ops[j]?).map fun o => o.after.any fun e => Region.binds md e && waitsF md ops k e.on i).getD false
def lateAt (md : Region.Mode) (ops : Array Oper) (m i : Nat) : Bool := (List.range ops.size).all fun j => m.testBit j || waitsF md ops 6 j i
theorem waits_get {j i : Nat} (h : waits md ops j i = true) : ∃ oj, ops[j]? = some oj ∧ ∃ e ∈ oj.after, Region.binds md e = true ∧ e.on = i := by
  unfold waits at h
  cases ho : ops[j]? with
  | none => rw [ho] at h; cases h
  | some oj =>
    rw [ho] at h
    simp only [Option.map_some, Option.getD_some] at h
    rw [← Array.any_toList] at h
    obtain ⟨e, he, hb⟩ := List.any_eq_true.1 h
    rw [Array.mem_toList_iff] at he
    simp only [Bool.and_eq_true, beq_iff_eq] at hb
    exact ⟨oj, rfl, e, he, hb.1, hb.2⟩
theorem waitsF_done {l : Array Bool} (hcl : Cl md ops l) : ∀ (k j i : Nat), waitsF md ops k j i = true → (∀ oj, ops[j]? = some oj → ∀ e ∈ oj.after, Region.binds md e = true → l.getD e.on false = true) → l.getD i false = true := by
  have base : ∀ j i, waits md ops j i = true → (∀ oj, ops[j]? = some oj → ∀ e ∈ oj.after, Region.binds md e = true → l.getD e.on false = true) → l.getD i false = true := by
    intro j i h hall
    obtain ⟨oj, hoj, e, he, hb, heq⟩ := waits_get h
    rw [← heq]; exact hall oj hoj e he hb
  intro k
  induction k with
  | zero => exact base
  | succ k ih =>
    intro j i h hall
    rcases Bool.or_eq_true_iff.1 h with h | h
    · exact base j i h hall
    · cases ho : ops[j]? with
      | none => rw [ho] at h; cases h
      | some oj =>
        rw [ho] at h
        simp only [Option.map_some, Option.getD_some] at h
        rw [← Array.any_toList] at h
        obtain ⟨e, he, hb⟩ := List.any_eq_true.1 h
        rw [Array.mem_toList_iff] at he
        simp only [Bool.and_eq_true] at hb
        have hd := hall oj ho e he hb.1
        exact ih e.on i hb.2 fun ok hok e2 he2 hb2 => hcl e.on ok hok hd e2 he2 hb2
theorem lateAt_spec {i j : Nat} (h : lateAt md ops m i = true) {l : Array Bool} (hcl : Cl md ops l) (hi : i ∈ Region.ready md ops l) (hj : j ∈ Region.ready md ops l) : m.testBit j = true := by
  obtain ⟨hi0, _⟩ := mem_ready.1 hi
  obtain ⟨_, oj, hoj, hall⟩ := mem_ready.1 hj
  have hlt : j < ops.size := (Array.getElem?_eq_some_iff.1 hoj).1
  unfold lateAt at h
  have h1 := List.all_eq_true.1 h j (List.mem_range.2 hlt)
  rcases Bool.or_eq_true_iff.1 h1 with h2 | h3
  · exact h2
  · have hdone := waitsF_done hcl 6 j i h3 fun ok hok e he hb => by
      rw [hoj] at hok; cases hok; exact hall e he hb
    exfalso
    rcases Nat.lt_or_ge i l.size with h' | h'
    · simp [h'] at hdone hi0; rw [hi0] at hdone; cases hdone
    · simp [Array.getElem?_eq_none h'] at hdone
inductive Plan where
  | done
  | take (i : Nat) (t : Plan)
  | one (i : Nat) (t : Plan)
  | two (i : Nat) (t : Plan) (j : Nat) (u : Plan)
  | three (i : Nat) (t : Plan) (j : Nat) (u : Plan) (k : Nat) (v : Plan)
def Plan.ok (md : Region.Mode) (ops : Array Oper) : Plan → Array Bool → Bool
  | .done, l => (Region.ready md ops l).isEmpty
  | .take i t, l => Region.free md ops l i && (Region.ready md ops l).contains i && t.ok md ops (l.setIfInBounds i true)
  | .one i t, l => (Region.ready md ops l == [i]) && t.ok md ops (l.setIfInBounds i true)
  | .two i t j u, l => (Region.ready md ops l == [i, j]) && t.ok md ops (l.setIfInBounds i true) && u.ok md ops (l.setIfInBounds j true)
  | .three i t j u k v, l => (Region.ready md ops l == [i, j, k]) && t.ok md ops (l.setIfInBounds i true) && u.ok md ops (l.setIfInBounds j true) && v.ok md ops (l.setIfInBounds k true)
def Plan.size : Plan → Nat
  | .done => 0
  | .take _ t | .one _ t => t.size + 1
  | .two _ t _ u => max t.size u.size + 1
  | .three _ t _ u _ v => max t.size (max u.size v.size) + 1
def Plan.wp (P : Program) (ops : Array Oper) (Q : Exit → Act → World → Prop) (S : World → Prop) (m : Nat) : Plan → Act → World → Prop
  | .done, a, w => Q .normal a w
  | .take i t, a, w => ∃ oi v, ops[i]? = some oi ∧ (YieldsIf P ops (fun _ => True) oi v a ∨ (lateAt .any ops m i = true ∧ S w ∧ YieldsIf P ops S oi v a)) ∧ t.wp P ops Q S m (a.put oi.dst v) w
  | .one i t, a, w => wpOp P ops Q i (fun a' w' => (m.testBit i = true → S w') ∧ t.wp P ops Q S m a' w') a w
  | .two i t j u, a, w => wpOp P ops Q i (fun a' w' => (m.testBit i = true → S w') ∧ t.wp P ops Q S m a' w') a w ∧ wpOp P ops Q j (fun a' w' => (m.testBit j = true → S w') ∧ u.wp P ops Q S m a' w') a w
  | .three i t j u k v, a, w => wpOp P ops Q i (fun a' w' => (m.testBit i = true → S w') ∧ t.wp P ops Q S m a' w') a w ∧ wpOp P ops Q j (fun a' w' => (m.testBit j = true → S w') ∧ u.wp P ops Q S m a' w') a w ∧
      wpOp P ops Q k (fun a' w' => (m.testBit k = true → S w') ∧ v.wp P ops Q S m a' w') a w
theorem HA.more : ∀ (fuel : Nat) (l : Array Bool) (a : Act) (w : World), HA P md ops Q S m fuel l a w → ∀ k, fuel ≤ k → HA P md ops Q S m k l a w := by
  intro fuel
  induction fuel with
  | zero =>
    intro l a w h k _
    cases k with
    | zero => exact h
    | succ k => exact ⟨fun _ => h.2, fun i hi => by rw [h.1] at hi; cases hi⟩
  | succ fuel ih =>
    intro l a w h k hk
    cases k with
    | zero => omega
    | succ k => exact ⟨h.1, fun i hi => wpOp_mono (fun a' w' h' => ⟨h'.1, ih _ _ _ h'.2 k (by omega)⟩) (h.2 i hi)⟩
theorem Plan.sound (hs : Region.noSelect ops = true) (hQ : ∀ c (a a' : Act) w, Q (.panic c) a' w → Q (.panic c) a w) :
    ∀ (t : Plan) (l : Array Bool) (a : Act) (w : World), Cl .any ops l → t.ok .any ops l = true → t.wp P ops Q S m a w → HA P .any ops Q S m t.size l a w := by
  intro t
  induction t with
  | done =>
    intro l a w hcl h hw
    exact ⟨List.isEmpty_iff.1 h, hw⟩
  | take i t ih =>
    intro l a w hcl h ⟨oi, v, hi, hy, hw⟩
    simp only [Plan.ok, Bool.and_eq_true] at h
    obtain ⟨⟨hf, hr⟩, hk⟩ := h
    have hr' : i ∈ Region.ready .any ops l := by simpa using hr
    have H := ih _ _ _ (hcl.set hr') hk hw
    rcases hy with hy | ⟨hl, hS, hy⟩
    · exact HA.first (T := fun _ => True) hi (Region.noSelect_spec hs) (fun c a w => hQ c _ _ w) (fun _ _ _ _ _ _ _ _ _ _ => trivial) _ l a w hcl (Region.free_spec hi hf) hr' hy trivial H
    · exact HA.first (T := S) hi (Region.noSelect_spec hs) (fun c a w => hQ c _ _ w) (fun j l hc h1 h2 _ w w' h hw => h (lateAt_spec hl hc h1 h2) hw) _ l a w hcl (Region.free_spec hi hf) hr' hy hS H
  | one i t ih =>
    intro l a w hcl h hw
    simp only [Plan.ok, Bool.and_eq_true, beq_iff_eq] at h
    refine ⟨fun h0 => (by rw [h0] at h; simp at h), fun j hj => ?_⟩
    rw [h.1] at hj
    rcases List.mem_singleton.1 hj with rfl
    exact wpOp_mono (fun a' w' h' => ⟨fun hm _ => h'.1 hm, ih _ _ _ (hcl.set (by rw [h.1]; simp)) h.2 h'.2⟩) hw
  | two i t j u ih1 ih2 =>
    intro l a w hcl h hw
    simp only [Plan.ok, Bool.and_eq_true, beq_iff_eq] at h
    refine ⟨fun h0 => (by rw [h0] at h; simp at h), fun q hq => ?_⟩
    rw [h.1.1] at hq
    simp only [List.mem_cons, List.not_mem_nil, or_false] at hq
    rcases hq with rfl | rfl
    · exact wpOp_mono (fun a' w' h' => ⟨fun hm _ => h'.1 hm, (ih1 _ _ _ (hcl.set (by rw [h.1.1]; simp)) h.1.2 h'.2).more _ _ _ _ _ (Nat.le_max_left _ _)⟩) hw.1
    · exact wpOp_mono (fun a' w' h' => ⟨fun hm _ => h'.1 hm, (ih2 _ _ _ (hcl.set (by rw [h.1.1]; simp)) h.2 h'.2).more _ _ _ _ _ (Nat.le_max_right _ _)⟩) hw.2
  | three i t j u k v ih1 ih2 ih3 =>
    intro l a w hcl h hw
    simp only [Plan.ok, Bool.and_eq_true, beq_iff_eq] at h
    refine ⟨fun h0 => (by rw [h0] at h; simp at h), fun q hq => ?_⟩
    rw [h.1.1.1] at hq
    simp only [List.mem_cons, List.not_mem_nil, or_false] at hq
    rcases hq with rfl | rfl | rfl
    · exact wpOp_mono (fun a' w' h' => ⟨fun hm _ => h'.1 hm, (ih1 _ _ _ (hcl.set (by rw [h.1.1.1]; simp)) h.1.1.2 h'.2).more _ _ _ _ _ (Nat.le_max_left _ _)⟩) hw.1
    · exact wpOp_mono (fun a' w' h' => ⟨fun hm _ => h'.1 hm, (ih2 _ _ _ (hcl.set (by rw [h.1.1.1]; simp)) h.1.2 h'.2).more _ _ _ _ _ (Nat.le_trans (Nat.le_max_left _ _) (Nat.le_max_right _ _))⟩) hw.2.1
    · exact wpOp_mono (fun a' w' h' => ⟨fun hm _ => h'.1 hm, (ih3 _ _ _ (hcl.set (by rw [h.1.1.1]; simp)) h.2 h'.2).more _ _ _ _ _ (Nat.le_trans (Nat.le_max_right _ _) (Nat.le_max_right _ _))⟩) hw.2.2
theorem wp_plan {id : Nat} {a : Act} {w : World} (t : Plan) (m : Nat) (S : World → Prop) (hm : P.follows .mixedOrders = true)
    (hok : (Region.noSelect ops && t.ok .any ops (Array.replicate ops.size false) && Nat.ble t.size ops.size) = true)
    (hQ : ∀ c (a a' : Act) w, Q (.panic c) a' w → Q (.panic c) a w)
    (h : t.wp P ops Q S m a { w with drawn := w.drawn + 1 }) : (Code.region id ops true).wp P Q a w := by
  simp only [Bool.and_eq_true] at hok
  exact wp_region_any hm (HA.any _ _ _ _ ((Plan.sound hok.1.1 hQ t _ _ _ (Cl.start _) hok.1.2 h).more _ _ _ _ _ (Nat.le_of_ble_eq_true hok.2)))
end
end Go.Bur
namespace Go.Bur
open Go Go.RowKit
section
variable {P : Program} {n m i j : Nat} {Q : QF} {f : Fr} {w w' : World} {ops : Array Oper} {ty : TypeId} {pos : String} {aft : Array Edge} {g : Option (Nat × Bool)} {d : Option Nat}
variable {S : World → Prop} {t u : Plan}
def Wt (ops : Array Oper) (f : Fr) (o : Oper) (b : Bool) : Prop := ∀ n a, Has n a f → Region.wanted o (yielded ops a.tmps) = b
theorem wt_free {o : Oper} (h : o.guard = none) : Wt ops f o true := fun _ _ _ => by unfold Region.wanted; rw [h]
theorem yielded_of {n : Nat} {a : Act} (ha : Has n a f) {oj : Oper} {dj : Nat} {c : Bool} (hj : ops[j]? = some oj) (hdj : oj.dst = some dj) (hv : f dj = .bool c) : yielded ops a.tmps j = some c := by
  have hgd := ha.get dj
  rw [hv, Array.getD_eq_getD_getElem?] at hgd
  unfold yielded
  rw [hj]; simp only [Option.bind_some, hdj]
  cases hq : a.tmps[dj]? with
  | none => rw [hq] at hgd; simp [undef] at hgd
  | some u => rw [hq] at hgd; simp at hgd; subst hgd; rfl
theorem wt_yes {o oj : Oper} {dj : Nat} {b : Bool} (hg : o.guard = some (j, b)) (hj : ops[j]? = some oj) (hdj : oj.dst = some dj) (hv : f dj = .bool b) : Wt ops f o true := fun _ _ ha => by
  unfold Region.wanted; rw [hg]; simp only [yielded_of ha hj hdj hv]; simp
theorem wt_no {o oj : Oper} {dj : Nat} {b c : Bool} (hg : o.guard = some (j, b)) (hj : ops[j]? = some oj) (hdj : oj.dst = some dj) (hv : f dj = .bool c) (hbc : (c == b) = false) : Wt ops f o false := fun _ _ ha => by
  unfold Region.wanted; rw [hg]; simp only [yielded_of ha hj hdj hv]
  cases c <;> cases b <;> simp_all
def PW (P : Program) (n : Nat) (ops : Array Oper) (Q : QF) (S : World → Prop) (m : Nat) (t : Plan) (f : Fr) (w : World) : Prop := ∀ a, Has n a f → t.wp P ops (lift n Q) S m a w
def OW (P : Program) (n : Nat) (ops : Array Oper) (Q : QF) (S : World → Prop) (m i : Nat) (t : Plan) (f : Fr) (w : World) : Prop :=
  ∀ a, Has n a f → wpOp P ops (lift n Q) i (fun a' w' => (m.testBit i = true → S w') ∧ t.wp P ops (lift n Q) S m a' w') a w
theorem cw_plan {id : Nat} (t : Plan) (m : Nat) (S : World → Prop) (hm : P.follows .mixedOrders = true)
    (hok : (Region.noSelect ops && t.ok .any ops (Array.replicate ops.size false) && Nat.ble t.size ops.size) = true)
    (hQ : ∀ c f w, ¬ Q (.panic c) f w) (h : PW P n ops Q S m t f w.drew) : CW P n (.region id ops true) Q f w := fun a ha =>
  wp_plan t m S hm hok (fun c _ _ _ ⟨_, _, q⟩ => absurd q (hQ c _ _)) (h a ha)
theorem pw_done (h : Q .normal f w) : PW P n ops Q S m .done f w := fun _ ha => ⟨f, ha, h⟩
theorem pw_pur {op : Op} {d : Nat} {v : Value} (hi : ops[i]? = some ⟨some d, op, ty, pos, aft, g⟩) (hw : Wt ops f ⟨some d, op, ty, pos, aft, g⟩ true) (h : Pur P (ev f) ⟨some d, op, ty, pos, aft, g⟩ v) (hd : d < n)
    (hS : m.testBit i = true → S w) (k : PW P n ops Q S m t (upd f d v) w) : PW P n ops Q S m (.take i t) f w := fun a ha =>
  ⟨_, v, hi,   .inl (.inl ⟨hw n a ha, fun w _ => by rw [ha.eval]; exact h w⟩), k _ (ha.put hd v)⟩
theorem pw_ld {op : Op} {d : Nat} {v : Value} (hi : ops[i]? = some ⟨some d, op, ty, pos, aft, g⟩) (hw : Wt ops f ⟨some d, op, ty, pos, aft, g⟩ true) (him : lateAt .any ops m i = true)
    (h : ∀ w, S w → Runs P (ev f) ⟨some d, op, ty, pos, aft, g⟩ w v w) (hd : d < n) (hS : S w) (k : PW P n ops Q S m t (upd f d v) w) : PW P n ops Q S m (.take i t) f w := fun a ha =>
  ⟨_, v, hi, .inr ⟨him, hS, .inl ⟨hw n a ha, fun w hw => by rw [ha.eval]; exact h w hw⟩⟩, k _ (ha.put hd v)⟩
theorem pw_pass {op : Op} {d : Nat} (hi : ops[i]? = some ⟨some d, op, ty, pos, aft, g⟩) (hw : Wt ops f ⟨some d, op, ty, pos, aft, g⟩ false) (hd : d < n) (hS : m.testBit i = true → S w)
    (k : PW P n ops Q S m t (upd f d undef) w) : PW P n ops Q S m (.take i t) f w := fun a ha =>
  ⟨_, undef, hi, .inl (.inr ⟨hw n a ha, rfl⟩), k _ (ha.put hd undef)⟩
theorem pw_purB {op : Op} {d : Nat} {b : Bool} (hi : ops[i]? = some ⟨some d, op, ty, pos, aft, g⟩) (hw : Wt ops f ⟨some d, op, ty, pos, aft, g⟩ true) (h : Pur P (ev f) ⟨some d, op, ty, pos, aft, g⟩ (.bool b)) (hd : d < n)
    (hS : m.testBit i = true → S w) (kt : b = true → PW P n ops Q S m t (upd f d (.bool true)) w) (kf : b = false → PW P n ops Q S m t (upd f d (.bool false)) w) : PW P n ops Q S m (.take i t) f w := by
  cases b
  · exact pw_pur hi hw h hd hS (kf rfl)
  · exact pw_pur hi hw h hd hS (kt rfl)
theorem l_purB {rest : List Oper} {op : Op} {d : Nat} {b : Bool} (h : Pur P (ev f) ⟨some d, op, ty, pos, aft, none⟩ (.bool b)) (hd : d < n)
    (kt : b = true → LW P n ops Q rest (upd f d (.bool true)) w) (kf : b = false → LW P n ops Q rest (upd f d (.bool false)) w) : LW P n ops Q (⟨some d, op, ty, pos, aft, none⟩ :: rest) f w := by
  cases b
  · exact l_pur h hd (kf rfl)
  · exact l_pur h hd (kt rfl)
theorem pw_one (h : OW P n ops Q S m i t f w) : PW P n ops Q S m (.one i t) f w := h
theorem pw_two (h : OW P n ops Q S m i t f w) (k : OW P n ops Q S m j u f w) : PW P n ops Q S m (.two i t j u) f w := fun a ha => ⟨h a ha, k a ha⟩
theorem ow_val {op : Op} {d : Nat} {v : Value} (hi : ops[i]? = some ⟨some d, op, ty, pos, aft, g⟩) (hw : Wt ops f ⟨some d, op, ty, pos, aft, g⟩ true)
    (h : Runs P (ev f) ⟨some d, op, ty, pos, aft, g⟩ w v w') (hd : d < n) (hS : m.testBit i = true → S w') (k : PW P n ops Q S m t (upd f d v) w') : OW P n ops Q S m i t f w := fun a ha => by
  unfold wpOp; simp only [hi, hw n a ha, if_true]
  refine .inl ?_
  unfold Oper.wp
  unfold Runs at h
  rw [ha.eval, h]
  exact ⟨hS, k _ (ha.put hd v)⟩
theorem ow_skip {op : Op} (hi : ops[i]? = some ⟨none, op, ty, pos, aft, g⟩) (hw : Wt ops f ⟨none, op, ty, pos, aft, g⟩ true)
    (h : (execOp (ev f) ⟨none, op, ty, pos, aft, g⟩).run P w = .ok .skip w') (hS : m.testBit i = true → S w') (k : PW P n ops Q S m t f w') : OW P n ops Q S m i t f w := fun a ha => by
  unfold wpOp; simp only [hi, hw n a ha, if_true]
  refine .inl ?_
  unfold Oper.wp
  rw [ha.eval, h]
  exact ⟨hS, k _ ha⟩
theorem ow_pass {op : Op} {d : Nat} (hi : ops[i]? = some ⟨some d, op, ty, pos, aft, g⟩) (hw : Wt ops f ⟨some d, op, ty, pos, aft, g⟩ false) (hd : d < n) (hS : m.testBit i = true → S w)
    (k : PW P n ops Q S m t (upd f d undef) w) : OW P n ops Q S m i t f w := fun a ha => by
  unfold wpOp; simp only [hi, hw n a ha, Bool.false_eq_true, if_false]
  exact ⟨hS, k _ (ha.put hd undef)⟩
theorem ow_call' {k : FuncId} {xs : Array Operand} {ts : Array TypeId} {args : Array Value} {R : Value → World → Prop} (hi : ops[i]? = some ⟨d, .call ⟨.value (.func k), xs, ts⟩, ty, pos, aft, g⟩)
    (hw : Wt ops f ⟨d, .call ⟨.value (.func k), xs, ts⟩, ty, pos, aft, g⟩ true) (hk : FnOk P k) (ha : xs.map (ev f) = args) (hc : Calls P k args w (okR R))
    (h : ∀ v w', R v w' → (m.testBit i = true → S w') ∧ PW P n ops Q S m t (match d with | some d => upd f d v | none => f) w') (hd : (match d with | some d => Nat.ble (d + 1) n | none => true) = true) : OW P n ops Q S m i t f w := fun a hA => by
  unfold wpOp; simp only [hi, hw n a hA, if_true]
  refine .inl ?_
  have hr : (execOp a.eval (⟨d, .call ⟨.value (.func k), xs, ts⟩, ty, pos, aft, g⟩ : Oper)).run P w = .ok (.enter k args) w := by
    rw [hA.eval]
    simp only [execOp, resolve, ev, Deferred.ofValue, Sem.run_bind, Sem.run_pure, Result.andThen_ok, invoke, ha, Array.empty_append, Array.append_empty]
    exact run_callFunc hk args w
  unfold Oper.wp
  rw [hr]
  refine Calls.mono hc fun e w1 ⟨v, he, hR⟩ => ?_
  subst he
  obtain ⟨h1, h2⟩ := h v w1 hR
  cases d with
  | none => exact ⟨h1, h2 _ hA⟩
  | some d => exact ⟨h1, h2 _ (hA.put (Nat.le_of_ble_eq_true hd) v)⟩
theorem l_call' {rest : List Oper} {k : FuncId} {xs : Array Operand} {ts : Array TypeId} {args : Array Value} {R : Value → World → Prop} (hk : FnOk P k) (ha : xs.map (ev f) = args)
    (hc : Calls P k args w (okR R)) (h : ∀ v w', R v w' → LW P n ops Q rest (match d with | some d => upd f d v | none => f) w') (hd : (match d with | some d => Nat.ble (d + 1) n | none => true) = true) :
    LW P n ops Q (⟨d, .call ⟨.value (.func k), xs, ts⟩, ty, pos, aft, none⟩ :: rest) f w := fun a hA =>
  wpList_plain rfl fun K hK => by
    have hr : (execOp a.eval (⟨d, .call ⟨.value (.func k), xs, ts⟩, ty, pos, aft, none⟩ : Oper)).run P w = .ok (.enter k args) w := by
      rw [hA.eval]
      simp only [execOp, resolve, ev, Deferred.ofValue, Sem.run_bind, Sem.run_pure, Result.andThen_ok, invoke, ha, Array.empty_append, Array.append_empty]
      exact run_callFunc hk args w
    unfold Oper.wp
    rw [hr]
    refine Calls.mono hc fun e w1 ⟨v, he, hR⟩ => ?_
    subst he
    cases d with
    | none => exact hK _ _ (h v w1 hR _ hA)
    | some d => exact hK _ _ (h v w1 hR _ (hA.put (Nat.le_of_ble_eq_true hd) v))
def Hold (V : PH) (K : List (Nat × Obj)) (w : World) : Prop := (∀ b o, V b = some o → w.heap[b]? = some o) ∧ ∀ p ∈ K, w.heap[p.1]? = some p.2
theorem St.hold {W0 : World} {V V' : PH} {L K : List (Nat × Obj)} (h : St W0 V' w L) (hV : V ≤ V') (hK : ∀ p ∈ K, p ∈ L) : Hold V K w :=
  ⟨fun b o hb => h.sub b o (hV b o hb), fun p hp => (h.own p (hK p hp)).1⟩
theorem Hold.runs_loadO {α β : Type} [Enc α] [Enc β] {V : PH} {K : List (Nat × Obj)} {T T' : TypeId} {x : Operand} {b o : Nat} {gt : α → β} {st : α → β → α} {y : α} (hT : TyOk P T β) (hx : ev f x = ptr b o)
    (hl : Lens α β o gt st) (hm : (b, blk T' y) ∈ K) : ∀ w, Hold V K w → Runs P (ev f) ⟨d, .load T x, ty, pos, aft, g⟩ w (val (gt y)) w := fun w h =>
  r_load_own hT hx hl (h.2 _ hm)
theorem Hold.runs_loadV {α : Type} [Enc α] {V : PH} {K : List (Nat × Obj)} {T : TypeId} {x : Operand} {b o : Nat} {c : Array Value} {t : TypeId} {y : α} (hT : TyOk P T α) (hx : ev f x = ptr b o)
    (hb : V b = some (.cells c t (0, 0))) (ha : At c.toList o y) : ∀ w, Hold V K w → Runs P (ev f) ⟨d, .load T x, ty, pos, aft, g⟩ w (val y) w := fun w h =>
  r_load hT hx (h.1 _ _ hb) ha
end
end Go.Bur
namespace Go.Bur
open Go Go.RowKit
instance : Enc Int := ⟨fun n => .int .i64 n, 1, false, fun _ => rfl, fun _ u h => by simp [Value.cells] at h; subst h; rfl, fun _ => rfl, fun _ _ => rfl⟩
instance : Enc UInt8 := ⟨fun x => .int .u8 (x.toNat : Int), 1, false, fun _ => rfl, fun _ u h => by simp [Value.cells] at h; subst h; rfl, fun _ => rfl, fun _ _ => rfl⟩
instance : Enc UInt32 := ⟨fun x => .int .u32 (x.toNat : Int), 1, false, fun _ => rfl, fun _ u h => by simp [Value.cells] at h; subst h; rfl, fun _ => rfl, fun _ _ => rfl⟩
instance : Enc UInt64 := ⟨fun x => .int .u64 (x.toNat : Int), 1, false, fun _ => rfl, fun _ u h => by simp [Value.cells] at h; subst h; rfl, fun _ => rfl, fun _ _ => rfl⟩
instance : Enc Bool := ⟨fun b => .bool b, 1, false, fun _ => rfl, fun _ u h => by simp [Value.cells] at h; subst h; rfl, fun _ => rfl, fun _ _ => rfl⟩
abbrev Str := List UInt8
instance : Enc Str := ⟨fun s => .string ⟨s.toArray⟩, 1, false, fun _ => rfl, fun _ u h => by simp [Value.cells] at h; subst h; rfl, fun _ => rfl, fun _ _ => rfl⟩
structure GSl where
  a : Option Addr
  len : Nat
  cap : Nat
deriving Inhabited
instance : Enc GSl := ⟨fun s => .slice s.a s.len s.cap, 1, false, fun _ => rfl, fun _ u h => by simp [Value.cells] at h; subst h; rfl, fun _ => rfl, fun _ _ => rfl⟩
structure GPtr where
  a : Option Addr
deriving Inhabited
instance : Enc GPtr := ⟨fun s => .pointer s.a, 1, false, fun _ => rfl, fun _ u h => by simp [Value.cells] at h; subst h; rfl, fun _ => rfl, fun _ _ => rfl⟩
inductive GFun where
  | nil
  | fn (k : FuncId) (cap : List (Option Addr))
deriving Inhabited
def GFun.v : GFun → Value
  | .nil => .nilFunc
  | .fn k cap => .func (.func k) #[] (cap.map Value.pointer).toArray
instance : Enc GFun := ⟨GFun.v, 1, false, fun x => by cases x <;> rfl, fun x u h => by cases x <;> (simp [Value.cells, GFun.v] at h; subst h; rfl), fun _ => rfl, fun x _ => by cases x <;> rfl⟩
abbrev Vec (n : Nat) (α : Type) := Vector α n
instance {α : Type} [Enc α] {n : Nat} : Enc (Vec n α) where
  val v := .agg (flat v.toList).toArray
  size := n * Enc.size α
  agg := true
  hsize v := by simp [Value.cells, flat_length]
  one v u h := flat_one v.toList u (by simpa [Value.cells] using h)
  hagg v := rfl
  hone v h := by cases h
theorem cells_vec {α : Type} [Enc α] {n : Nat} (v : Vec n α) : cells v = flat v.toList := by simp [cells, val, Value.cells]
theorem Lens.idx {α : Type} [Enc α] {n : Nat} (i : Nat) (h : i < n) : Lens (Vec n α) α (i * Enc.size α) (fun v => v[i]) (fun v x => v.set i x) where
  le := by
    have : (i + 1) * Enc.size α ≤ n * Enc.size α := Nat.mul_le_mul_right _ h
    rw [Nat.add_mul, Nat.one_mul] at this; exact this
  get v := by
    rw [cells_vec]
    have := At.elem v.toList i (by simpa using h)
    unfold At at this
    simpa using this
  set v x := by
    rw [cells_vec, cells_vec, flat_set _ _ (by simpa using h), Vector.toList_set]
theorem lens_mid {α β : Type} [Enc α] [Enc β] {off : Nat} {get : α → β} {set : α → β → α} (pre post : α → List Value)
    (hc : ∀ a, cells a = pre a ++ (cells (get a) ++ post a)) (hp : ∀ a, (pre a).length = off)
    (hs : ∀ a b, cells (set a b) = pre a ++ (cells b ++ post a)) (hle : off + Enc.size β ≤ Enc.size α) : Lens α β off get set where
  le := hle
  get a := by rw [hc, ← hp a, List.drop_left, ← cells_length (get a), List.take_left]
  set a b := by
    rw [hs, hc, ← hp a, List.take_left, ← List.drop_drop, List.drop_left, ← cells_length (get a), List.drop_left, List.append_assoc]
section
variable {P : Program} {n : Nat} {f : Fr} {w : World}
def finQ (P : Program) (fn : Func) (n : Nat) (R : Value → World → Prop) : QF
  | .normal, f, w | .ret, f, w => ∃ v, (∀ a, Has n a f → (results fn a.tmps).run P w = .ok v w) ∧ R v w
  | _, _, _ => False
theorem fn_enter {k : FuncId} {fn : Func} {c : Code} {args : Array Value} {R : Value → World → Prop} (hf : P.funcs[k]? = some fn) (hb : fn.body = some c) (hn : fn.ntmps = n)
    (hz : Nat.ble args.size n = true) (h : ∀ f : Fr, (∀ i, f i = args.getD i undef) → CW P n c (finQ P fn n R) f w) : Calls P k args w (okR R) := by
  refine calls_of_wp hf hb ?_
  have hz' := Nat.le_of_ble_eq_true hz
  have hh : Has n { tmps := args ++ Array.replicate (fn.ntmps - args.size) undef, defers := [] } (fun i => args.getD i undef) := by
    refine ⟨by simp [hn]; omega, rfl, fun i => ?_⟩
    simp only [Array.getD_eq_getD_getElem?]
    rw [Array.getElem?_append]
    split
    · rfl
    · rename_i hi
      rw [Array.getElem?_eq_none (by omega : args.size ≤ i)]
      simp only [Option.getD_none]
      rw [Array.getElem?_replicate]
      split <;> rfl
  refine wp_mono (h _ (fun _ => rfl) _ hh) ?_
  rintro e a w' ⟨g, hg, q⟩
  cases e with
  | normal => obtain ⟨v, hv, hR⟩ := q; exact ⟨hg.defers, v, hv a hg, v, rfl, hR⟩
  | ret => obtain ⟨v, hv, hR⟩ := q; exact ⟨hg.defers, v, hv a hg, v, rfl, hR⟩
  | exit id => exact q.elim
  | goto l => exact q.elim
  | panic c => exact q.elim
  | outgrown => exact q.elim
def RV (P : Program) (f : Fr) (w : World) : ResultVar → Value → Prop
  | .tmp t, v => f t = v
  | .cell a T, v => ∃ p, f a = .pointer (some p) ∧ (loadVar T p).run P w = .ok v w
def rv1 (tmps : Array Value) : ResultVar → Sem Value
  | .tmp t => pure (tmps.getD t undef)
  | .cell a t => do loadVar t (← asAddr (tmps.getD a undef))
theorem RV.run {r : ResultVar} {v : Value} (h : RV P f w r v) {a : Act} (ha : Has n a f) : (rv1 a.tmps r).run P w = .ok v w := by
  cases r with
  | tmp t => simp only [RV] at h; simp only [rv1, Sem.run_pure, ha.get, h]
  | cell b t =>
    obtain ⟨p, hp, hl⟩ := h
    simp only [rv1, Sem.run_bind, ha.get, hp, asAddr, Sem.run_pure, Result.andThen_ok, hl]
def tupleOf : List Value → Value
  | [v] => v
  | vs => .tuple vs.toArray
theorem run_mapM_rv {tmps : Array Value} : ∀ (rs : List ResultVar) (vs : List Value), rs.length = vs.length → (∀ p ∈ rs.zip vs, (rv1 tmps p.1).run P w = .ok p.2 w) → (rs.mapM (rv1 tmps)).run P w = .ok vs w
  | [], [], _, _ => by simp
  | r :: rs, v :: vs, hl, h => by
    rw [List.mapM_cons, Sem.run_bind, h (r, v) (by simp)]
    simp only [Result.andThen_ok]
    rw [Sem.run_bind, run_mapM_rv rs vs (by simpa using hl) (fun p hp => h p (by simp [hp]))]
    simp
theorem run_results {fn : Func} {tmps : Array Value} (rs : List ResultVar) (vs : List Value) (hr : fn.results = rs.toArray) (hl : rs.length = vs.length) (h : ∀ p ∈ rs.zip vs, (rv1 tmps p.1).run P w = .ok p.2 w) :
    (results fn tmps).run P w = .ok (tupleOf vs) w := by
  have e : results fn tmps = (do
      let vs ← fn.results.mapM (rv1 tmps)
      pure (if h : vs.size = 1 then vs[0] else .tuple vs)) := by
    unfold results
    congr 1
  rw [e, Sem.run_bind, hr, List.mapM_toArray]
  rw [show (List.toArray <$> rs.mapM (rv1 tmps) : Sem (Array Value)) = (do let l ← rs.mapM (rv1 tmps); pure l.toArray) from by rw [map_eq_pure_bind]]
  rw [Sem.run_bind, run_mapM_rv rs vs hl h]
  simp only [Result.andThen_ok, Sem.run_pure]
  congr 1
  cases vs with
  | nil => rfl
  | cons v vs => cases vs <;> rfl
theorem fin0 {fn : Func} {R : Value → World → Prop} (hr : fn.results = #[]) (hR : R (.tuple #[]) w) : finQ P fn n R .ret f w :=
  ⟨_, fun _ _ => results_none hr _ _ _, hR⟩
theorem fin1 {fn : Func} {R : Value → World → Prop} {r : ResultVar} {v : Value} (hr : fn.results = #[r]) (h : RV P f w r v) (hR : R v w) : finQ P fn n R .ret f w :=
  ⟨v, fun a ha => run_results [r] [v] hr rfl (by simpa using h.run ha), hR⟩
theorem fin2 {fn : Func} {R : Value → World → Prop} {r1 r2 : ResultVar} {v1 v2 : Value} (hr : fn.results = #[r1, r2]) (h1 : RV P f w r1 v1) (h2 : RV P f w r2 v2) (hR : R (.tuple #[v1, v2]) w) : finQ P fn n R .ret f w :=
  ⟨_, fun a ha => run_results [r1, r2] [v1, v2] hr rfl (by
    have k1 := h1.run ha
    have k2 := h2.run ha
    simp only [List.zip_cons_cons, List.zip_nil_right, List.mem_cons, List.not_mem_nil, or_false]
    rintro p (rfl | rfl) <;> assumption), hR⟩
theorem fin3 {fn : Func} {R : Value → World → Prop} {r1 r2 r3 : ResultVar} {v1 v2 v3 : Value} (hr : fn.results = #[r1, r2, r3]) (h1 : RV P f w r1 v1) (h2 : RV P f w r2 v2) (h3 : RV P f w r3 v3) (hR : R (.tuple #[v1, v2, v3]) w) : finQ P fn n R .ret f w :=
  ⟨_, fun a ha => run_results [r1, r2, r3] [v1, v2, v3] hr rfl (by
    have k1 := h1.run ha
    have k2 := h2.run ha
    have k3 := h3.run ha
    simp only [List.zip_cons_cons, List.zip_nil_right, List.mem_cons, List.not_mem_nil, or_false]
    rintro p (rfl | rfl | rfl) <;> assumption), hR⟩
theorem finN {fn : Func} {R : Value → World → Prop} (h : finQ P fn n R .ret f w) : finQ P fn n R .normal f w := h
theorem rv_own {α : Type} [Enc α] {T T' : TypeId} {s : Tmp} {b : Nat} {x : α} (hT : TyOk P T α) (h : f s = ptr b 0) (hg : w.heap[b]? = some (blk T' x)) : RV P f w (.cell s T) (val x) :=
  ⟨_, h, run_loadVar_at hT hg (by simpa using At.whole x)⟩
theorem cw_cut {x y : Code} {Q : QF} (M : Fr → World → Prop) (h : CW P n x (thenF M Q) f w) (k : ∀ f w, M f w → CW P n y Q f w) : CW P n (.seq x y) Q f w :=
  cw_seq (cw_mono h fun e g w' q => by
    cases e
    case normal => exact k g w' q
    all_goals exact q)
end
end Go.Bur
