/- A part of a proof over the given seat: how values, memory, calls and regions are told, and the walks of functions, each once. No condition. -/
import Derived.Lib.Bytealg
import Derived.Test.YthmogejmnelnjaaGreatDoorProg
import Derived.KernelRfl
import Derived.Test.YthmogejmnelnjaaGreatDoorQ1
set_option linter.unusedVariables false
set_option linter.unusedSimpArgs false
namespace Go.Bur
open Go Go.RowKit
inductive Rep : List (Nat × Obj) → Nat → Obj → Obj → List (Nat × Obj) → Prop
  | head {b : Nat} {o o' : Obj} {L : List (Nat × Obj)} : Rep ((b, o) :: L) b o o' ((b, o') :: L)
  | tail {b : Nat} {o o' : Obj} {x : Nat × Obj} {L L' : List (Nat × Obj)} (h : Rep L b o o' L') : Rep (x :: L) b o o' (x :: L')
theorem Rep.split {L L' : List (Nat × Obj)} {b : Nat} {o o' : Obj} (h : Rep L b o o' L') : ∃ A B, L = A ++ (b, o) :: B ∧ L' = A ++ (b, o') :: B := by
  induction h with
  | head => exact ⟨[], _, rfl, rfl⟩
  | tail _ ih => obtain ⟨A, B, rfl, rfl⟩ := ih; exact ⟨_ :: A, B, rfl, rfl⟩
theorem Rep.mem {L L' : List (Nat × Obj)} {b : Nat} {o o' : Obj} (h : Rep L b o o' L') : (b, o) ∈ L := by
  obtain ⟨A, B, rfl, rfl⟩ := h.split; simp
theorem St.rep {W0 w : World} {V : PH} {L L' : List (Nat × Obj)} {b : Nat} {c c' : Array Value} {t : TypeId} {fr : Nat × Nat} (h : St W0 V w L) (hr : Rep L b (.cells c t fr) (.cells c' t fr) L') : St W0 V (w.setRow b c') L' := by
  obtain ⟨A, B, rfl, rfl⟩ := hr.split
  exact h.setRow
section
variable {P : Program} {n : Nat} {Q : QF} {f : Fr} {w w' : World} {ops : Array Oper} {rest : List Oper} {ty : TypeId} {pos : String} {aft : Array Edge} {g : Option (Nat × Bool)} {d : Option Nat}
variable {ρ : Operand → Value} {W0 : World} {V : PH} {L L' : List (Nat × Obj)} {S : World → Prop} {m i : Nat} {t : Plan}
theorem p_indexO {t : TypeId} {x y : Operand} {E : TypeId} {k : IntKind} {b l c s : Nat} {j : Int} (ht : P.underlying t = some (.slice E)) (hE : (P.info? E).map (·.size) = some s)
    (hx : ρ x = .slice (some ⟨b, 0, none⟩) l c) (hy : ρ y = .int k j) (hi : 0 ≤ j ∧ j < l) : Pur P ρ ⟨d, .indexAddr t x y, ty, pos, aft, g⟩ (ptr b (j.toNat * s)) := by
  have e : j = (j.toNat : Int) := by omega
  rw [e] at hy
  have := p_indexAddr (P := P) (d := d) (ty := ty) (pos := pos) (aft := aft) (g := g) ht hE hx hy (by omega)
  rwa [addr_add, Nat.zero_add] at this
theorem p_indexArr {t E s nn : TypeId} {x y : Operand} {k : IntKind} {b o : Nat} {j : Int} (ht : P.underlying t = some (.array nn E)) (hE : (P.info? E).map (·.size) = some s)
    (hx : ρ x = ptr b o) (hy : ρ y = .int k j) (hi : 0 ≤ j ∧ j < nn) : Pur P ρ ⟨d, .indexAddr t x y, ty, pos, aft, g⟩ (ptr b (o + j.toNat * s)) := fun w => by
  simp only [Runs, execOp, hx, hy]
  refine run_v ?_
  have hs : (sizeOf E).run P w = .ok s w := by
    cases hq : P.info? E with
    | none => simp [hq] at hE
    | some i => simp [hq] at hE; simp [sizeOf, typeInfo, hq, hE]
  simp [Instr.indexAt, asIntOf, Sem.run_bind, run_underlying ht w, Instr.sureAddr, hi, hs, addr_add]
theorem l_indexSlI {α : Type} [Enc α] {t E : TypeId} {x y : Operand} {d : Nat} {k : IntKind} {a : Option Addr} {cp m : Nat} {j : Int} {xs : List α} (ht : P.underlying t = some (.slice E)) (hE : TyOk P E α)
    (hx : ev f x = .slice a m cp) (hm : m = xs.length) (hy : ev f y = .int k j) (hi : 0 ≤ j ∧ j < xs.length) (hsl : Sl V E a cp xs) (hd : d < n)
    (h : ∀ b o c, V b = some (.cells c E (0, 0)) → At c.toList o (xs[j.toNat]'(by omega)) → LW P n ops Q rest (upd f d (ptr b o)) w) : LW P n ops Q (⟨some d, .indexAddr t x y, ty, pos, aft, none⟩ :: rest) f w := by
  have e : j = (j.toNat : Int) := by omega
  rw [e] at hy
  exact l_indexSl ht hE hx hm hy (by omega) hsl hd h
theorem pw_indexSl {α : Type} [Enc α] {t' E : TypeId} {x y : Operand} {d : Nat} {k : IntKind} {a : Option Addr} {cp m' : Nat} {j : Int} {xs : List α} (hi' : ops[i]? = some ⟨some d, .indexAddr t' x y, ty, pos, aft, g⟩) (hw : Wt ops f ⟨some d, .indexAddr t' x y, ty, pos, aft, g⟩ true)
    (ht : P.underlying t' = some (.slice E)) (hE : TyOk P E α) (hx : ev f x = .slice a m' cp) (hm : m' = xs.length) (hy : ev f y = .int k j) (hi : 0 ≤ j ∧ j < xs.length) (hsl : Sl V E a cp xs) (hd : d < n) (hS : m.testBit i = true → S w)
    (h : ∀ b o c, V b = some (.cells c E (0, 0)) → At c.toList o (xs[j.toNat]'(by omega)) → PW P n ops Q S m t (upd f d (ptr b o)) w) : PW P n ops Q S m (.take i t) f w := by
  subst hm
  rcases hsl with rfl | ⟨b, o, c, rfl, h2, h3, h4⟩
  · simp at hi; omega
  · have e : j = (j.toNat : Int) := by omega
    rw [e] at hy
    have hp := p_indexAddr (P := P) (d := some d) (ty := ty) (pos := pos) (aft := aft) (g := g) ht hE.size hx hy (by omega)
    rw [addr_add] at hp
    exact pw_pur hi' hw hp hd hS (h _ _ _ h2 (h3.at j.toNat (by omega)))
theorem At.elemL {α β : Type} [Enc α] [Enc β] {off j : Nat} {gt : α → β} {st : α → β → α} {xs : List α} {sp : List Value} (hl : Lens α β off gt st) (hj : j < xs.length) : At (flat xs ++ sp) (j * Enc.size α + off) (gt xs[j]) := by
  have h := (AtL.arr xs sp).at j hj
  rw [Nat.zero_add] at h
  exact h.lens hl
theorem r_loadE {α β : Type} [Enc α] [Enc β] {T E : TypeId} {x : Operand} {b o off j : Nat} {gt : α → β} {st : α → β → α} {xs : List α} {sp : List Value} (hT : TyOk P T β) (hx : ρ x = ptr b o) (ho : o = j * Enc.size α + off)
    (hl : Lens α β off gt st) (hj : j < xs.length) (hg : w.heap[b]? = some (arr E xs sp)) : Runs P ρ ⟨d, .load T x, ty, pos, aft, g⟩ w (val (gt xs[j])) w := by
  subst ho
  exact r_load hT hx hg (by simpa using At.elemL hl hj)
theorem l_loadE {α β : Type} [Enc α] [Enc β] {T E : TypeId} {x : Operand} {d b o off j : Nat} {gt : α → β} {st : α → β → α} {xs : List α} {sp : List Value} (hT : TyOk P T β) (hx : ev f x = ptr b o) (ho : o = j * Enc.size α + off)
    (hl : Lens α β off gt st) (hj : j < xs.length) (hs : St W0 V w L) (hm : (b, arr E xs sp) ∈ L) (hd : d < n) (h : LW P n ops Q rest (upd f d (val (gt xs[j]))) w) : LW P n ops Q (⟨some d, .load T x, ty, pos, aft, none⟩ :: rest) f w :=
  l_run (r_loadE hT hx ho hl hj (hs.mem hm)) hd h
theorem Hold.runs_loadE {α β : Type} [Enc α] [Enc β] {K : List (Nat × Obj)} {T E : TypeId} {x : Operand} {b o off j : Nat} {gt : α → β} {st : α → β → α} {xs : List α} {sp : List Value} (hT : TyOk P T β) (hx : ev f x = ptr b o) (ho : o = j * Enc.size α + off)
    (hl : Lens α β off gt st) (hj : j < xs.length) (hm : (b, arr E xs sp) ∈ K) : ∀ w, Hold V K w → Runs P (ev f) ⟨d, .load T x, ty, pos, aft, g⟩ w (val (gt xs[j])) w := fun w h =>
  r_loadE hT hx ho hl hj (h.2 _ hm)
theorem splice_mid (p c R y : List Value) {off m : Nat} (h : off + m ≤ c.length) : (p ++ (c ++ R)).take (p.length + off) ++ y ++ (p ++ (c ++ R)).drop (p.length + off + m) = p ++ (c.take off ++ y ++ c.drop (off + m)) ++ R := by
  rw [List.take_length_add_append, Nat.add_assoc, List.drop_length_add_append, List.take_append_of_le_length (by omega), List.drop_append_of_le_length (by omega)]
  simp [List.append_assoc]
theorem flat_setL {α β : Type} [Enc α] [Enc β] {off j : Nat} {gt : α → β} {st : α → β → α} {xs : List α} {sp : List Value} (hl : Lens α β off gt st) (hj : j < xs.length) (z : β) :
    (flat xs ++ sp).take (j * Enc.size α + off) ++ cells z ++ (flat xs ++ sp).drop (j * Enc.size α + off + Enc.size β) = flat (xs.set j (st xs[j] z)) ++ sp := by
  have hle := hl.le
  have hx : flat xs = flat (xs.take j) ++ (cells xs[j] ++ flat (xs.drop (j + 1))) := by
    rw [← flat_cons, ← flat_append, List.getElem_cons_drop, List.take_append_drop]
  have hy : flat (xs.set j (st xs[j] z)) = flat (xs.take j) ++ (cells (st xs[j] z) ++ flat (xs.drop (j + 1))) := by
    rw [List.set_eq_take_append_cons_drop, if_pos hj, flat_append, flat_cons]
  have hlen : (flat (xs.take j)).length = j * Enc.size α := by rw [flat_length, List.length_take, Nat.min_eq_left (by omega)]
  have hc := cells_length xs[j]
  have e1 : flat xs ++ sp = flat (xs.take j) ++ (cells xs[j] ++ (flat (xs.drop (j + 1)) ++ sp)) := by rw [hx]; simp [List.append_assoc]
  rw [e1, hy, ← hl.set, ← hlen, splice_mid _ _ _ _ (by omega)]
  simp [List.append_assoc]
theorem st_setE {α β : Type} [Enc α] [Enc β] {T E : TypeId} {x y : Operand} {b o off j : Nat} {gt : α → β} {st : α → β → α} {xs : List α} {sp : List Value} {z : β} (hT : TyOk P T β) (hx : ρ x = ptr b o) (ho : o = j * Enc.size α + off)
    (hy : ρ y = val z) (hl : Lens α β off gt st) (hj : j < xs.length) (hs : St W0 V w L) (hr : Rep L b (arr E xs sp) (arr E (xs.set j (st xs[j] z)) sp) L') :
    ∃ w', (execOp ρ ⟨d, .store T x y, ty, pos, aft, g⟩).run P w = .ok .skip w' ∧ St W0 V w' L' := by
  subst ho
  have hle := hl.le
  have hg := hs.mem hr.mem
  refine ⟨_, r_store hT hx hy hg ?_, ?_⟩
  · have h1 : (j + 1) * Enc.size α ≤ xs.length * Enc.size α := Nat.mul_le_mul_right _ hj
    rw [Nat.add_mul, Nat.one_mul] at h1
    simp only [List.size_toArray, List.length_append, flat_length]; omega
  · rw [flat_setL hl hj z]
    exact hs.rep hr
theorem l_storeE {α β : Type} [Enc α] [Enc β] {T E : TypeId} {x y : Operand} {b o off j : Nat} {gt : α → β} {st : α → β → α} {xs : List α} {sp : List Value} {z : β} (hT : TyOk P T β) (hx : ev f x = ptr b o) (ho : o = j * Enc.size α + off)
    (hy : ev f y = val z) (hl : Lens α β off gt st) (hj : j < xs.length) (hs : St W0 V w L) (hr : Rep L b (arr E xs sp) (arr E (xs.set j (st xs[j] z)) sp) L')
    (k : ∀ w', St W0 V w' L' → LW P n ops Q rest f w') : LW P n ops Q (⟨none, .store T x y, ty, pos, aft, none⟩ :: rest) f w := by
  obtain ⟨w', h1, h2⟩ := st_setE (P := P) (d := none) (ty := ty) (pos := pos) (aft := aft) (g := none) hT hx ho hy hl hj hs hr
  exact lw_skip0 h1 (k _ h2)
theorem ow_storeE {α β : Type} [Enc α] [Enc β] {T E : TypeId} {x y : Operand} {b o off j : Nat} {gt : α → β} {st : α → β → α} {xs : List α} {sp : List Value} {z : β}
    (hi : ops[i]? = some ⟨none, .store T x y, ty, pos, aft, g⟩) (hw : Wt ops f ⟨none, .store T x y, ty, pos, aft, g⟩ true) (hT : TyOk P T β) (hx : ev f x = ptr b o) (ho : o = j * Enc.size α + off)
    (hy : ev f y = val z) (hl : Lens α β off gt st) (hj : j < xs.length) (hs : St W0 V w L) (hr : Rep L b (arr E xs sp) (arr E (xs.set j (st xs[j] z)) sp) L')
    (k : ∀ w', St W0 V w' L' → (m.testBit i = true → S w') ∧ PW P n ops Q S m t f w') : OW P n ops Q S m i t f w := by
  obtain ⟨w', h1, h2⟩ := st_setE (P := P) (d := none) (ty := ty) (pos := pos) (aft := aft) (g := g) hT hx ho hy hl hj hs hr
  exact ow_skip hi hw h1 (k _ h2).1 (k _ h2).2
def arrCells {α : Type} [Enc α] (xs : List α) (sp : List Value) : Array Value := (flat xs ++ sp).toArray
def vcopy {β : Type} {k : Nat} (v : Vec k β) (ys : List β) : Vec k β := ⟨(ys.take k ++ v.toList.drop ys.length).toArray, by simp; omega⟩
theorem vcopy_toList {β : Type} {k : Nat} (v : Vec k β) (ys : List β) : (vcopy v ys).toList = ys.take k ++ v.toList.drop ys.length := by simp [vcopy, Vector.toList]
theorem st_copyV {α β : Type} [Enc α] [Enc β] {t t2 E T T' tt : TypeId} {x y : Operand} {d : Option Nat} {k off c k2 c2 : Nat} {gt : α → Vec k β} {st : α → Vec k β → α} {b : Nat} {u : α} {a' : Option Addr} {ys : List β}
    (ht : P.underlying t = some (.slice E)) (hE : (P.info? E).map (·.size) = some (Enc.size β)) (hx : ρ x = .slice (some ⟨b, off, none⟩) k c) (hy : ρ y = .slice a' k2 c2) (hk2 : k2 = ys.length) (hle : ys.length ≤ k) (hsrc : Src1 w T a' ys)
    (hl : Lens α (Vec k β) off gt st) (hs : St W0 V w L) (hr : Rep L b (blk T' u) (blk T' (st u (vcopy (gt u) ys))) L') :
    ∃ w', (execOp ρ ⟨d, .call ⟨.builtin .copy, #[x, y], #[t, t2]⟩, tt, pos, aft, g⟩).run P w = .ok (.value (vi ys.length)) w' ∧ St W0 V w' L' := by
  subst hk2
  have hg := hs.mem hr.mem
  have hs' : (sizeOf E).run P w = .ok (Enc.size β) w := by
    cases hq : P.info? E with
    | none => simp [hq] at hE
    | some i => simp [hq] at hE; simp [sizeOf, typeInfo, hq, hE]
  have hsz : Enc.size (Vec k β) = k * Enc.size β := rfl
  have hll := hl.le
  have hmul : ys.length * Enc.size β ≤ k * Enc.size β := Nat.mul_le_mul_right _ hle
  have hst := run_storeCells_at P b off T' (flat ys) 0 (cells u).toArray w hg (by rw [flat_length]; simp only [List.size_toArray, cells_length]; omega) (flat_one ys)
  have hf := Src1.first (P := P) (c := c2) hsrc (m := ys.length) rfl
  have hmin : Nat.min ys.length k = ys.length := Nat.min_eq_left hle
  simp only [Nat.add_zero] at hst
  have hrun : (execOp ρ ⟨d, .call ⟨.builtin .copy, #[x, y], #[t, t2]⟩, tt, pos, aft, g⟩).run P w = .ok (.value (vi ys.length)) (w.setRow b ((cells u).take off ++ flat ys ++ (cells u).drop (off + (flat ys).length)).toArray) := by
    simp only [execOp, resolve, invoke, builtin, Sem.run_bind, Sem.run_pure, Result.andThen_ok, List.map_toArray, List.map_cons, List.map_nil, hx, hy]
    simp [Builtin.copy_, Sem.run_bind, run_underlying ht w, Builtin.lenOf, hmin, hs', hf, hst, goInt]
  refine ⟨_, hrun, ?_⟩
  have hnew : cells (st u (vcopy (gt u) ys)) = (cells u).take off ++ flat ys ++ (cells u).drop (off + (flat ys).length) := by
    rw [← hl.set, cells_vec, vcopy_toList, flat_append, List.take_of_length_le hle, flat_length]
    rw [← flat_drop, ← cells_vec, ← hl.get]
    simp only [List.append_assoc]
    congr 2
    rw [List.drop_take, List.drop_drop, hsz, ← Nat.sub_mul]
    have e : off + k * Enc.size β = off + ys.length * Enc.size β + (k - ys.length) * Enc.size β := by
      rw [Nat.sub_mul]; omega
    rw [e, show List.drop (off + ys.length * Enc.size β + (k - ys.length) * Enc.size β) (cells u) = List.drop ((k - ys.length) * Enc.size β) (List.drop (off + ys.length * Enc.size β) (cells u)) from by simp only [List.drop_drop, Nat.add_assoc], List.take_append_drop]
  have := hs.rep (c' := (cells (st u (vcopy (gt u) ys))).toArray) hr
  rw [hnew] at this
  exact this
theorem ow_copyV {α β : Type} [Enc α] [Enc β] {t' t2 E T T' tt : TypeId} {x y : Operand} {d k off c k2 c2 : Nat} {gt : α → Vec k β} {st : α → Vec k β → α} {b : Nat} {u : α} {a' : Option Addr} {ys : List β}
    (hi : ops[i]? = some ⟨some d, .call ⟨.builtin .copy, #[x, y], #[t', t2]⟩, tt, pos, aft, g⟩) (hw : Wt ops f ⟨some d, .call ⟨.builtin .copy, #[x, y], #[t', t2]⟩, tt, pos, aft, g⟩ true)
    (ht : P.underlying t' = some (.slice E)) (hE : (P.info? E).map (·.size) = some (Enc.size β)) (hx : ev f x = .slice (some ⟨b, off, none⟩) k c) (hy : ev f y = .slice a' k2 c2) (hk2 : k2 = ys.length) (hle : ys.length ≤ k) (hsrc : Src1 w T a' ys)
    (hl : Lens α (Vec k β) off gt st) (hs : St W0 V w L) (hr : Rep L b (blk T' u) (blk T' (st u (vcopy (gt u) ys))) L') (hd : d < n)
    (h : ∀ w', St W0 V w' L' → (m.testBit i = true → S w') ∧ PW P n ops Q S m t (upd f d (vi ys.length)) w') : OW P n ops Q S m i t f w := by
  obtain ⟨w', h1, h2⟩ := st_copyV (P := P) (d := some d) (pos := pos) (aft := aft) (g := g) (tt := tt) (t2 := t2) ht hE hx hy hk2 hle hsrc hl hs hr
  exact ow_val hi hw h1 hd (h _ h2).1 (h _ h2).2
theorem zeroCells_made (z : Array Value) (k : Nat) : Builtin.zeroCells z k = madeCells z (k * z.size) := rfl
theorem l_clear {α : Type} [Enc α] {t E tt : TypeId} {x : Operand} {d : Option Nat} {k c j b : Nat} {xs : List α} {sp : List Value} {z : α} {a : Option Addr} (ht : P.underlying t = some (.slice E)) (hz : ZeroOk P E z)
    (hx : ev f x = .slice a k c) (ha : k = 0 ∨ a = some ⟨b, j * Enc.size α, none⟩) (hjk : j + k = xs.length) (hs : St W0 V w L) (hr : Rep L b (arr E xs sp) (arr E (xs.take j ++ List.replicate k z) sp) L')
    (h : ∀ w', St W0 V w' L' → LW P n ops Q rest (match d with | some d => upd f d (.tuple #[]) | none => f) w') (hd : (match d with | some d => Nat.ble (d + 1) n | none => true) = true) :
    LW P n ops Q (⟨d, .call ⟨.builtin .clear, #[x], #[t]⟩, tt, pos, aft, none⟩ :: rest) f w := by
  have hg := hs.mem hr.mem
  have hfin : ∃ w', (execOp (ev f) ⟨d, .call ⟨.builtin .clear, #[x], #[t]⟩, tt, pos, aft, none⟩).run P w = .ok (.value (.tuple #[])) w' ∧ St W0 V w' L' := by
    by_cases hk : k = 0
    · subst hk
      refine ⟨w, ?_, ?_⟩
      · simp only [execOp, resolve, invoke, builtin, Sem.run_bind, Sem.run_pure, Result.andThen_ok, List.map_toArray, List.map_cons, List.map_nil, hx]
        cases a <;> simp [Builtin.clear_, Sem.run_bind, run_underlying ht w]
      · have e : xs.take j ++ List.replicate 0 z = xs := by rw [List.take_of_length_le (by omega)]; simp
        rw [e] at hr
        obtain ⟨A, B, rfl, rfl⟩ := hr.split
        exact hs
    · have ha' : a = some ⟨b, j * Enc.size α, none⟩ := ha.resolve_left hk
      subst ha'
      have hsz : (val z).cells.size = Enc.size α := Enc.hsize z
      have hzc : (Builtin.zeroCells (val z).cells k).toList = flat (List.replicate k z) := by
        rw [zeroCells_made, hsz, made_flat]
      have hflen : (flat xs).length = j * Enc.size α + k * Enc.size α := by rw [flat_length, ← hjk, Nat.add_mul]
      have hzl : (flat (List.replicate k z)).length = k * Enc.size α := by rw [flat_length]; simp
      have hst := run_storeCells_at P b (j * Enc.size α) E (flat (List.replicate k z)) 0 (flat xs ++ sp).toArray w hg (by rw [hzl]; simp only [List.size_toArray, List.length_append]; omega) (flat_one _)
      simp only [Nat.add_zero] at hst
      refine ⟨w.setRow b (arrCells (xs.take j ++ List.replicate k z) sp), ?_, ?_⟩
      · simp only [execOp, resolve, invoke, builtin, Sem.run_bind, Sem.run_pure, Result.andThen_ok, List.map_toArray, List.map_cons, List.map_nil, hx]
        obtain ⟨k', rfl⟩ : ∃ k', k = k' + 1 := ⟨k - 1, by omega⟩
        have e : (flat xs ++ sp).take (j * Enc.size α) ++ flat (List.replicate (k' + 1) z) ++ (flat xs ++ sp).drop (j * Enc.size α + (flat (List.replicate (k' + 1) z)).length) = flat (xs.take j ++ List.replicate (k' + 1) z) ++ sp := by
          rw [hzl, ← hflen, List.drop_left, List.take_append_of_le_length (by omega), flat_take, flat_append]
        rw [e] at hst
        simp [Builtin.clear_, Sem.run_bind, run_underlying ht w, hz w, hzc, hst, arrCells]
      · exact hs.rep hr
  obtain ⟨w', h1, h2⟩ := hfin
  cases d with
  | none => exact lw_val0 h1 (h _ h2)
  | some d => exact lw_val h1 (Nat.le_of_ble_eq_true hd) (h _ h2)
theorem l_callF {k : FuncId} {x : Operand} {xs : Array Operand} {ts : Array TypeId} {args first cap : Array Value} {R : Value → World → Prop} (hx : ev f x = .func (.func k) first cap) (hk : FnOk P k) (ha : first ++ xs.map (ev f) ++ cap = args)
    (hc : Calls P k args w (okR R)) (h : ∀ v w', R v w' → LW P n ops Q rest (match d with | some d => upd f d v | none => f) w') (hd : (match d with | some d => Nat.ble (d + 1) n | none => true) = true) :
    LW P n ops Q (⟨d, .call ⟨.value x, xs, ts⟩, ty, pos, aft, none⟩ :: rest) f w := fun a hA =>
  wpList_plain rfl fun K hK => by
    have hr : (execOp a.eval (⟨d, .call ⟨.value x, xs, ts⟩, ty, pos, aft, none⟩ : Oper)).run P w = .ok (.enter k args) w := by
      rw [hA.eval]
      simp only [execOp, resolve, hx, Deferred.ofValue, Sem.run_bind, Sem.run_pure, Result.andThen_ok, invoke, ha]
      exact run_callFunc hk args w
    unfold Oper.wp
    rw [hr]
    refine Calls.mono hc fun e w1 ⟨v, he, hR⟩ => ?_
    subst he
    cases d with
    | none => exact hK _ _ (h v w1 hR _ hA)
    | some d => exact hK _ _ (h v w1 hR _ (hA.put (Nat.le_of_ble_eq_true hd) v))
theorem max_u32 (a b : UInt32) : max (a.toNat : Int) (b.toNat : Int) = ((max a b).toNat : Int) := by
  by_cases h : a ≤ b
  · rw [show max a b = b from if_pos h]
    have := UInt32.le_iff_toNat_le.1 h
    omega
  · rw [show max a b = a from if_neg h]
    have : ¬ a.toNat ≤ b.toNat := fun h2 => h (UInt32.le_iff_toNat_le.2 h2)
    omega
theorem p_max_u32 {x y : Operand} {T T' tt : TypeId} {a b : UInt32} (hx : ρ x = val a) (hy : ρ y = val b) :
    Pur P ρ ⟨d, .call ⟨.builtin .max, #[x, y], #[T, T']⟩, tt, pos, aft, g⟩ (val (max a b)) := by
  have := p_max (P := P) (d := d) (tt := tt) (pos := pos) (aft := aft) (g := g) (T := T) (T' := T') hx hy
  rw [max_u32] at this; exact this
end
end Go.Bur
namespace Go.Bur
open Go Go.RowKit
section
variable {P : Program} {n : Nat} {Q : QF} {f : Fr} {w w' : World} {ops : Array Oper} {rest : List Oper} {ty : TypeId} {pos : String} {aft : Array Edge} {g : Option (Nat × Bool)} {d : Option Nat}
variable {ρ : Operand → Value} {W0 : World} {V : PH} {L L' : List (Nat × Obj)} {S : World → Prop} {m i : Nat} {t : Plan}
inductive FillO (P : Program) (ρ : Operand → Value) (T : TypeId) {α : Type} [Enc α] : α → List (Nat × Operand) → α → Prop
  | nil (a : α) : FillO P ρ T a [] a
  | cons {β : Type} [Enc β] {k off : Nat} {gt : α → β} {st : α → β → α} {a x : α} {y : β} {o : Operand} {rest : List (Nat × Operand)} (hx : ρ o = val y) (hp : plc P T k = some (off, Enc.size β)) (hl : Lens α β off gt st)
      (hr : FillO P ρ T (st a y) rest x) : FillO P ρ T a ((k, o) :: rest) x
theorem FillO.filled {T : TypeId} {α : Type} [Enc α] {a x : α} {parts : List (Nat × Operand)} (h : FillO P ρ T a parts x) : Filled P T a (parts.map fun (i, x) => (i, ρ x)) x := by
  induction h with
  | nil a => exact .nil a
  | cons hx hp hl _ ih => simp only [List.map_cons, hx]; exact .cons hp hl ih
theorem p_buildO {T : TypeId} {α : Type} [Enc α] {fs : Array Field} {parts : List (Nat × Operand)} {z x : α} (hu : P.underlying T = some (.struct fs)) (hs : (fs.all fun f : Field => (P.info? f.type).isSome) = true)
    (hz : ZeroOk P T z) (hr : Enc.agg α = true) (hf : FillO P ρ T z parts x) : Pur P ρ ⟨d, .build T parts.toArray, ty, pos, aft, g⟩ (val x) :=
  p_build hu hs hz hr (by simp) hf.filled
theorem Src1.atV {β : Type} [Enc β] {k b o : Nat} {c : Array Value} {t : TypeId} {v : Vec k β} (hs : ∀ b o, V b = some o → w.heap[b]? = some o) (hb : V b = some (.cells c t (0, 0))) (ha : At c.toList o v) : Src1 w t (some ⟨b, o, none⟩) v.toList := by
  refine .inr ⟨b, o, c, _, rfl, hs _ _ hb, ?_⟩
  unfold AtL
  unfold At at ha
  rw [← cells_vec]
  have hsz : v.toList.length * Enc.size β = Enc.size (Vec k β) := by simp [Enc.size]
  rw [hsz]; exact ha
theorem pw_indexSlN {α : Type} [Enc α] {t' E : TypeId} {x y : Operand} {d : Nat} {k : IntKind} {a : Option Addr} {cp m' : Nat} {j : Nat} {xs : List α} (hi' : ops[i]? = some ⟨some d, .indexAddr t' x y, ty, pos, aft, g⟩) (hw : Wt ops f ⟨some d, .indexAddr t' x y, ty, pos, aft, g⟩ true)
    (ht : P.underlying t' = some (.slice E)) (hE : TyOk P E α) (hx : ev f x = .slice a m' cp) (hm : m' = xs.length) (hy : ev f y = .int k (j : Int)) (hi : j < xs.length) (hsl : Sl V E a cp xs) (hd : d < n) (hS : m.testBit i = true → S w)
    (h : ∀ b o c, V b = some (.cells c E (0, 0)) → At c.toList o xs[j] → PW P n ops Q S m t (upd f d (ptr b o)) w) : PW P n ops Q S m (.take i t) f w :=
  pw_indexSl hi' hw ht hE hx hm hy (by omega) hsl hd hS h
theorem p_andNot_u8 {t t' : TypeId} {x y : Operand} {a b : UInt8} (hx : ρ x = val a) (hy : ρ y = val b) : Pur P ρ ⟨d, .binOp .andNot t x y t', ty, pos, aft, g⟩ (val (a &&& ~~~ b)) :=
  p_bin hx hy guard_int fun w => by
    show (binOp .andNot t (.int .u8 (a.toNat : Int)) (.int .u8 (b.toNat : Int))).run P w = .ok (.int .u8 ((a &&& ~~~ b).toNat : Int)) w
    show (pure (.int .u8 (IntKind.u8.wrap ((BitVec.ofInt 8 (a.toNat : Int) &&& ~~~ BitVec.ofInt 8 (b.toNat : Int)).toNat : Int))) : Sem Value).run P w = _
    rw [ofInt_u8, ofInt_u8, IntKind.wrap_u8]
    have e : (a.toBitVec &&& ~~~ b.toBitVec).toNat = (a &&& ~~~ b).toNat := rfl
    have hl := (a &&& ~~~ b).toNat_lt
    rw [e, show (((a &&& ~~~ b).toNat : Int) % 256) = ((a &&& ~~~ b).toNat : Int) by omega]
    rfl
end
end Go.Bur
namespace Go.Bur
open Go Go.RowKit
theorem tf_ret {M : Fr → World → Prop} {Q : QF} {f : Fr} {w : World} (h : Q .ret f w) : thenF M Q .ret f w := h
theorem ib_ret {id : Nat} {Q : QF} {f : Fr} {w : World} (h : Q .ret f w) : inBlockF id Q .ret f w := h
def updO : Fr → Option Nat → Value → Fr
  | f, some d, v => upd f d v
  | f, none, _ => f
def okD (n : Nat) : Option Nat → Bool
  | some d => Nat.ble (d + 1) n
  | none => true
section
variable {P : Program} {n : Nat} {Q : QF} {f : Fr} {w w' : World} {ops : Array Oper} {rest : List Oper} {ty : TypeId} {pos : String} {aft : Array Edge} {g : Option (Nat × Bool)} {d : Option Nat}
variable {S : World → Prop} {m i : Nat} {t : Plan} {k : FuncId} {ts : Array TypeId} {R : Value → World → Prop}
theorem l_call0  (hk : FnOk P k) (hc : Calls P k #[] w (okR R))
    (h : ∀ v w', R v w' → LW P n ops Q rest (updO f d v) w') (hd : okD n d = true) :
    LW P n ops Q (⟨d, .call ⟨.value (.func k), #[], ts⟩, ty, pos, aft, none⟩ :: rest) f w := by cases d <;> exact l_call' hk (by simp) hc h hd
theorem ow_call0  (hi : ops[i]? = some ⟨d, .call ⟨.value (.func k), #[], ts⟩, ty, pos, aft, g⟩)
    (hw : Wt ops f ⟨d, .call ⟨.value (.func k), #[], ts⟩, ty, pos, aft, g⟩ true) (hk : FnOk P k) (hc : Calls P k #[] w (okR R))
    (h : ∀ v w', R v w' → (m.testBit i = true → S w') ∧ PW P n ops Q S m t (updO f d v) w') (hd : okD n d = true) : OW P n ops Q S m i t f w := by cases d <;> exact ow_call' hi hw hk (by simp) hc h hd
theorem l_call1 {x0 : Operand} {v0 : Value} (hk : FnOk P k) (hc : Calls P k #[v0] w (okR R)) (h0 : ev f x0 = v0)
    (h : ∀ v w', R v w' → LW P n ops Q rest (updO f d v) w') (hd : okD n d = true) :
    LW P n ops Q (⟨d, .call ⟨.value (.func k), #[x0], ts⟩, ty, pos, aft, none⟩ :: rest) f w := by cases d <;> exact l_call' hk (by simp [h0]) hc h hd
theorem ow_call1 {x0 : Operand} {v0 : Value} (hi : ops[i]? = some ⟨d, .call ⟨.value (.func k), #[x0], ts⟩, ty, pos, aft, g⟩)
    (hw : Wt ops f ⟨d, .call ⟨.value (.func k), #[x0], ts⟩, ty, pos, aft, g⟩ true) (hk : FnOk P k) (hc : Calls P k #[v0] w (okR R)) (h0 : ev f x0 = v0)
    (h : ∀ v w', R v w' → (m.testBit i = true → S w') ∧ PW P n ops Q S m t (updO f d v) w') (hd : okD n d = true) : OW P n ops Q S m i t f w := by cases d <;> exact ow_call' hi hw hk (by simp [h0]) hc h hd
theorem l_callF1 {x0 : Operand} {v0 : Value} {x : Operand} {cl : List Value} (hx : ev f x = .func (.func k) #[] cl.toArray) (hk : FnOk P k) (hc : Calls P k (v0 :: cl).toArray w (okR R)) (h0 : ev f x0 = v0)
    (h : ∀ v w', R v w' → LW P n ops Q rest (updO f d v) w') (hd : okD n d = true) :
    LW P n ops Q (⟨d, .call ⟨.value x, #[x0], ts⟩, ty, pos, aft, none⟩ :: rest) f w := by cases d <;> exact l_callF hx hk (by simp [h0]) hc h hd
theorem l_call2 {x0 x1 : Operand} {v0 v1 : Value} (hk : FnOk P k) (hc : Calls P k #[v0, v1] w (okR R)) (h0 : ev f x0 = v0) (h1 : ev f x1 = v1)
    (h : ∀ v w', R v w' → LW P n ops Q rest (updO f d v) w') (hd : okD n d = true) :
    LW P n ops Q (⟨d, .call ⟨.value (.func k), #[x0, x1], ts⟩, ty, pos, aft, none⟩ :: rest) f w := by cases d <;> exact l_call' hk (by simp [h0, h1]) hc h hd
theorem ow_call2 {x0 x1 : Operand} {v0 v1 : Value} (hi : ops[i]? = some ⟨d, .call ⟨.value (.func k), #[x0, x1], ts⟩, ty, pos, aft, g⟩)
    (hw : Wt ops f ⟨d, .call ⟨.value (.func k), #[x0, x1], ts⟩, ty, pos, aft, g⟩ true) (hk : FnOk P k) (hc : Calls P k #[v0, v1] w (okR R)) (h0 : ev f x0 = v0) (h1 : ev f x1 = v1)
    (h : ∀ v w', R v w' → (m.testBit i = true → S w') ∧ PW P n ops Q S m t (updO f d v) w') (hd : okD n d = true) : OW P n ops Q S m i t f w := by cases d <;> exact ow_call' hi hw hk (by simp [h0, h1]) hc h hd
theorem l_call3 {x0 x1 x2 : Operand} {v0 v1 v2 : Value} (hk : FnOk P k) (hc : Calls P k #[v0, v1, v2] w (okR R)) (h0 : ev f x0 = v0) (h1 : ev f x1 = v1) (h2 : ev f x2 = v2)
    (h : ∀ v w', R v w' → LW P n ops Q rest (updO f d v) w') (hd : okD n d = true) :
    LW P n ops Q (⟨d, .call ⟨.value (.func k), #[x0, x1, x2], ts⟩, ty, pos, aft, none⟩ :: rest) f w := by cases d <;> exact l_call' hk (by simp [h0, h1, h2]) hc h hd
theorem ow_call3 {x0 x1 x2 : Operand} {v0 v1 v2 : Value} (hi : ops[i]? = some ⟨d, .call ⟨.value (.func k), #[x0, x1, x2], ts⟩, ty, pos, aft, g⟩)
    (hw : Wt ops f ⟨d, .call ⟨.value (.func k), #[x0, x1, x2], ts⟩, ty, pos, aft, g⟩ true) (hk : FnOk P k) (hc : Calls P k #[v0, v1, v2] w (okR R)) (h0 : ev f x0 = v0) (h1 : ev f x1 = v1) (h2 : ev f x2 = v2)
    (h : ∀ v w', R v w' → (m.testBit i = true → S w') ∧ PW P n ops Q S m t (updO f d v) w') (hd : okD n d = true) : OW P n ops Q S m i t f w := by cases d <;> exact ow_call' hi hw hk (by simp [h0, h1, h2]) hc h hd
theorem l_callF3 {x0 x1 x2 : Operand} {v0 v1 v2 : Value} {x : Operand} {cl : List Value} (hx : ev f x = .func (.func k) #[] cl.toArray) (hk : FnOk P k) (hc : Calls P k (v0 :: v1 :: v2 :: cl).toArray w (okR R)) (h0 : ev f x0 = v0) (h1 : ev f x1 = v1) (h2 : ev f x2 = v2)
    (h : ∀ v w', R v w' → LW P n ops Q rest (updO f d v) w') (hd : okD n d = true) :
    LW P n ops Q (⟨d, .call ⟨.value x, #[x0, x1, x2], ts⟩, ty, pos, aft, none⟩ :: rest) f w := by cases d <;> exact l_callF hx hk (by simp [h0, h1, h2]) hc h hd
theorem l_call4 {x0 x1 x2 x3 : Operand} {v0 v1 v2 v3 : Value} (hk : FnOk P k) (hc : Calls P k #[v0, v1, v2, v3] w (okR R)) (h0 : ev f x0 = v0) (h1 : ev f x1 = v1) (h2 : ev f x2 = v2) (h3 : ev f x3 = v3)
    (h : ∀ v w', R v w' → LW P n ops Q rest (updO f d v) w') (hd : okD n d = true) :
    LW P n ops Q (⟨d, .call ⟨.value (.func k), #[x0, x1, x2, x3], ts⟩, ty, pos, aft, none⟩ :: rest) f w := by cases d <;> exact l_call' hk (by simp [h0, h1, h2, h3]) hc h hd
theorem ow_call4 {x0 x1 x2 x3 : Operand} {v0 v1 v2 v3 : Value} (hi : ops[i]? = some ⟨d, .call ⟨.value (.func k), #[x0, x1, x2, x3], ts⟩, ty, pos, aft, g⟩)
    (hw : Wt ops f ⟨d, .call ⟨.value (.func k), #[x0, x1, x2, x3], ts⟩, ty, pos, aft, g⟩ true) (hk : FnOk P k) (hc : Calls P k #[v0, v1, v2, v3] w (okR R)) (h0 : ev f x0 = v0) (h1 : ev f x1 = v1) (h2 : ev f x2 = v2) (h3 : ev f x3 = v3)
    (h : ∀ v w', R v w' → (m.testBit i = true → S w') ∧ PW P n ops Q S m t (updO f d v) w') (hd : okD n d = true) : OW P n ops Q S m i t f w := by cases d <;> exact ow_call' hi hw hk (by simp [h0, h1, h2, h3]) hc h hd
theorem ow_call7 {x0 x1 x2 x3 x4 x5 x6 : Operand} {v0 v1 v2 v3 v4 v5 v6 : Value} (hi : ops[i]? = some ⟨d, .call ⟨.value (.func k), #[x0, x1, x2, x3, x4, x5, x6], ts⟩, ty, pos, aft, g⟩)
    (hw : Wt ops f ⟨d, .call ⟨.value (.func k), #[x0, x1, x2, x3, x4, x5, x6], ts⟩, ty, pos, aft, g⟩ true) (hk : FnOk P k) (hc : Calls P k #[v0, v1, v2, v3, v4, v5, v6] w (okR R)) (h0 : ev f x0 = v0) (h1 : ev f x1 = v1) (h2 : ev f x2 = v2) (h3 : ev f x3 = v3) (h4 : ev f x4 = v4) (h5 : ev f x5 = v5) (h6 : ev f x6 = v6)
    (h : ∀ v w', R v w' → (m.testBit i = true → S w') ∧ PW P n ops Q S m t (updO f d v) w') (hd : okD n d = true) : OW P n ops Q S m i t f w := by cases d <;> exact ow_call' hi hw hk (by simp [h0, h1, h2, h3, h4, h5, h6]) hc h hd
end
end Go.Bur
namespace Go.Bur
open Go Go.RowKit
section
variable {P : Program} {n : Nat} {Q : QF} {f : Fr} {w w' : World} {ops : Array Oper} {rest : List Oper} {ty : TypeId} {pos : String} {aft : Array Edge} {g : Option (Nat × Bool)} {d : Option Nat}
variable {ρ : Operand → Value} {W0 : World} {V : PH} {L L' : List (Nat × Obj)} {S : World → Prop} {m i : Nat} {t : Plan}
theorem p_shl64N {t t' : TypeId} {x y : Operand} {yk : IntKind} {a : Nat} {s : Nat} (hx : ρ x = vi a) (hy : ρ y = .int yk (s : Int)) (hs : s < 64) (h : a * 2 ^ s ≤ 9223372036854775807) :
    Pur P ρ ⟨d, .binOp .shl t x y t', ty, pos, aft, g⟩ (vi ((a * 2 ^ s : Nat) : Int)) := by
  have := p_shl64 (P := P) (d := d) (ty := ty) (pos := pos) (aft := aft) (g := g) (t := t) (t' := t') hx hy hs (by
    have e : (a : Int) * 2 ^ s = ((a * 2 ^ s : Nat) : Int) := by push_cast; rfl
    rw [e]; omega)
  have e : (a : Int) * 2 ^ s = ((a * 2 ^ s : Nat) : Int) := by push_cast; rfl
  rw [e] at this; exact this
theorem p_remN {t t' : TypeId} {x y : Operand} {a : Nat} {b : Int} (hx : ρ x = vi a) (hy : ρ y = vi b) (hb : 0 < b) :
    Pur P ρ ⟨d, .binOp .rem t x y t', ty, pos, aft, g⟩ (vi ((a % b.toNat : Nat) : Int)) := by
  have := p_rem (P := P) (d := d) (ty := ty) (pos := pos) (aft := aft) (g := g) (t := t) (t' := t') hx hy (by omega)
  have e : (a : Int).tmod b = ((a % b.toNat : Nat) : Int) := by
    rw [Int.tmod_eq_emod_of_nonneg (by omega)]
    have h2 : b = (b.toNat : Int) := by omega
    rw [h2, Int.toNat_natCast]; rfl
  rw [e] at this; exact this
theorem p_quoN {t t' : TypeId} {x y : Operand} {a : Nat} {b : Int} (hx : ρ x = vi a) (hy : ρ y = vi b) (hb : 0 < b) (ha : a ≤ 9223372036854775807) :
    Pur P ρ ⟨d, .binOp .quo t x y t', ty, pos, aft, g⟩ (vi ((a / b.toNat : Nat) : Int)) := by
  have := p_quo (P := P) (d := d) (ty := ty) (pos := pos) (aft := aft) (g := g) (t := t) (t' := t') hx hy (by omega)
  have e : (a : Int).tdiv b = ((a / b.toNat : Nat) : Int) := by
    rw [Int.tdiv_eq_ediv_of_nonneg (by omega)]
    have h2 : b = (b.toNat : Int) := by omega
    rw [h2, Int.toNat_natCast]; rfl
  have hle : a / b.toNat ≤ a := Nat.div_le_self _ _
  rw [e] at this
  generalize a / b.toNat = q at *
  rw [wrap64_in (by omega) (by omega)] at this; exact this
theorem p_quoK {t t' : TypeId} {x y : Operand} {a b : Nat} (hx : ρ x = vi a) (hy : ρ y = vi (b : Int)) (hb : 0 < b) (ha : a ≤ 9223372036854775807) :
    Pur P ρ ⟨d, .binOp .quo t x y t', ty, pos, aft, g⟩ (vi ((a / b : Nat) : Int)) := by
  have := p_quoN (P := P) (d := d) (ty := ty) (pos := pos) (aft := aft) (g := g) (t := t) (t' := t') hx hy (by omega) ha
  simpa using this
theorem p_remK {t t' : TypeId} {x y : Operand} {a b : Nat} (hx : ρ x = vi a) (hy : ρ y = vi (b : Int)) (hb : 0 < b) :
    Pur P ρ ⟨d, .binOp .rem t x y t', ty, pos, aft, g⟩ (vi ((a % b : Nat) : Int)) := by
  have := p_remN (P := P) (d := d) (ty := ty) (pos := pos) (aft := aft) (g := g) (t := t) (t' := t') hx hy (by omega)
  simpa using this
inductive FillA (ρ : Operand → Value) {α : Type} [Enc α] {N : Nat} : Vec N α → List (Nat × Operand) → Vec N α → Prop
  | nil (a : Vec N α) : FillA ρ a [] a
  | cons {k : Nat} {a x : Vec N α} {y : α} {o : Operand} {rest : List (Nat × Operand)} (hk : k < N) (hx : ρ o = val y) (hr : FillA ρ (a.set k y) rest x) : FillA ρ a ((k, o) :: rest) x
theorem FillA.run {α : Type} [Enc α] {N : Nat} {a x : Vec N α} {parts : List (Nat × Operand)} (h : FillA ρ a parts x) :
    Instr.fill (fun i => some (i * Enc.size α, Enc.size α)) (cells a).toArray (parts.map fun (i, x) => (i, ρ x)) = some (cells x).toArray := by
  induction h with
  | nil a => rfl
  | @cons k a x y o rest hk hx _ ih =>
    simp only [List.map_cons, Instr.fill, hx]
    have h1 : (val y).cells.size = Enc.size α := Enc.hsize y
    have hl := Lens.idx (α := α) (n := N) k hk
    have hle : ¬ (k * Enc.size α + Enc.size α > (cells a).toArray.size) := by have := hl.le; simp [cells_length]; omega
    simp only [h1, ne_eq, not_true_eq_false, decide_false, Bool.false_or, hle, Bool.false_eq_true, if_false]
    have e : (val y).cells = (cells y).toArray := by simp [cells]
    rw [e]
    have := fill_splice (cs := cells a) (o := k * Enc.size α) (l := cells y) (by have := hl.le; simp [cells_length]; omega)
    rw [this, cells_length, hl.set]
    exact ih
theorem p_buildA {T E N : TypeId} {α : Type} [Enc α] {parts : List (Nat × Operand)} {z x : Vec N α} (hu : P.underlying T = some (.array N E)) (hE : TyOk P E α)
    (hz : ZeroOk P T z) (hf : FillA ρ z parts x) : Pur P ρ ⟨d, .build T parts.toArray, ty, pos, aft, g⟩ (val x) := fun w => by
  simp only [Runs, execOp]
  refine run_v ?_
  have hr := hf.run
  have e : (val z).cells = (cells z).toArray := by simp [cells]
  have hp : (parts.toArray.map fun (i, x) => (i, ρ x)).toList = parts.map fun (i, x) => (i, ρ x) := by simp
  simp only [Instr.build, Sem.run_bind, hz w, Result.andThen_ok, run_underlying hu w, hE.run_sizeOf, hp, e, hr, Sem.run_pure]
  rfl
end
end Go.Bur
namespace Go.Bur
open Go Go.RowKit
theorem u64_ofInt (r : Nat) (h : r < 18446744073709551616) : (UInt64.ofInt (r : Int)).toNat = r := by
  unfold UInt64.ofInt
  rw [UInt64.toNat_ofNat']; omega
theorem u32_ofInt (r : Nat) (h : r < 4294967296) : (UInt32.ofInt (r : Int)).toNat = r := by
  unfold UInt32.ofInt
  rw [UInt32.toNat_ofNat']; omega
theorem umod4 (a : UInt64) : ((a % 4).toNat : Int) < 4 := by
  have : (a % 4).toNat = a.toNat % 4 := by simp
  omega
theorem umod4n (a : UInt64) : ((a % 4).toNat : Int).toNat < 4 := by have := umod4 a; omega
theorem umod64 (a : UInt64) : (a % 64).toNat < 64 := by
  have : (a % 64).toNat = a.toNat % 64 := by simp
  omega
theorem mulb {a b : Int} (h1 : 0 ≤ a) (h2 : a ≤ 1000000000) (h3 : 0 ≤ b) (h4 : b ≤ 1000000000) : -9223372036854775808 ≤ a * b ∧ a * b ≤ 9223372036854775807 := by
  have k1 : 0 ≤ a * b := Int.mul_nonneg h1 h3
  have k2 : a * b ≤ 1000000000 * 1000000000 := Int.mul_le_mul h2 h4 h3 (by omega)
  omega
section
variable {P : Program} {n : Nat} {Q : QF} {f : Fr} {w w' : World} {ops : Array Oper} {rest : List Oper} {ty : TypeId} {pos : String} {aft : Array Edge} {g : Option (Nat × Bool)} {d : Nat}
variable {ρ : Operand → Value} {W0 : World} {V V' : PH} {L L' : List (Nat × Obj)} {S : World → Prop} {m i : Nat} {t : Plan}
theorem St.weaken (h : St W0 V' w L) (hV : V ≤ V') : St W0 V w L :=
  ⟨h.base, fun b o hb => h.sub b o (hV b o hb), fun p hp => by
    obtain ⟨h1, h2, h3⟩ := h.own p hp
    refine ⟨h1, ?_, h3⟩
    cases hv : V p.1 with
    | none => rfl
    | some o => (rw [hV _ _ hv] at h2; cases h2), h.nodup⟩
theorem St.swap {x y : Nat × Obj} (h : St W0 V w (x :: y :: L)) : St W0 V w (y :: x :: L) := h.perm (List.Perm.swap ..)
theorem St.rot2 {x y z : Nat × Obj} (h : St W0 V w (x :: y :: z :: L)) : St W0 V w (z :: x :: y :: L) := h.rot (A := [x, y])
theorem St.unrot2 {x y z : Nat × Obj} (h : St W0 V w (z :: x :: y :: L)) : St W0 V w (x :: y :: z :: L) := h.unrot (A := [x, y])
theorem St.rot3 {x y z u : Nat × Obj} (h : St W0 V w (x :: y :: z :: u :: L)) : St W0 V w (u :: x :: y :: z :: L) := h.rot (A := [x, y, z])
theorem St.unrot3 {x y z u : Nat × Obj} (h : St W0 V w (u :: x :: y :: z :: L)) : St W0 V w (x :: y :: z :: u :: L) := h.unrot (A := [x, y, z])
theorem Own.weaken {α : Type} [Enc α] {T : TypeId} {v : Value} {xs : List α} (h : Own W0 V' w L T v xs) (hV : V ≤ V') : Own W0 V w L T v xs := by
  cases h with
  | nil hs => exact .nil (hs.weaken hV)
  | blk b cap _ sp hc hle hs => exact .blk b cap _ sp hc hle (hs.weaken hV)
theorem Own.of1 {α : Type} [Enc α] {T : TypeId} {b : Nat} {y : α} (h : St W0 V w ((b, Go.Bur.blk T y) :: L)) : Own W0 V w L T (.slice (some ⟨b, 0, none⟩) 1 1) [y] := by
  refine .blk b 1 [y] [] (by simp) (by simp) ?_
  have e : Go.Bur.blk T y = arr T [y] [] := by simp [Go.Bur.blk, arr, flat]
  rw [e] at h; exact h
theorem Own.ofArr {α : Type} [Enc α] {T : TypeId} {b : Nat} {ys : List α} (h : St W0 V w ((b, arr T ys []) :: L)) : Own W0 V w L T (.slice (some ⟨b, 0, none⟩) ys.length ys.length) ys :=
  .blk b ys.length ys [] (by simp) (Nat.le_refl _) h
theorem Sl.src {α : Type} [Enc α] {T : TypeId} {a : Option Addr} {cap : Nat} {xs : List α} (hl : Sl V T a cap xs) (hs : St W0 V w L) : Src1 w T a xs := by
  rcases hl with rfl | ⟨b, o, c, rfl, h2, h3, _⟩
  · exact .inl rfl
  · exact .inr ⟨b, o, c, _, rfl, hs.sub _ _ h2, h3⟩
theorem l_appendO {α : Type} [Enc α] {tt T bytes : TypeId} {x y : Operand} {v : Value} {xs ys : List α} {a' : Option Addr} {k c : Nat} (hE : ElemOk P tt T α bytes) (hx : ev f x = v) (hy : ev f y = .slice a' k c)
    (ho : Own W0 V w L T v xs) (hsrc : Src1 w T a' ys) (hk : k = ys.length) (hlen : (xs.length + k) * bytes ≤ 140737488355328) (hmax : xs.length + k ≤ 1099511627776) (hd : d < n)
    (h : ∀ v' w', Own W0 V w' L T v' (xs ++ ys) → LW P n ops Q rest (upd f d v') w') : LW P n ops Q (⟨some d, .call ⟨.builtin .append, #[x, y], #[tt, tt]⟩, ty, pos, aft, none⟩ :: rest) f w := by
  obtain ⟨v', w', h1, h2⟩ := run_append_own' (ty := ty) hE ho hsrc (c := c) hk hlen hmax
  exact l_run (r_append hx hy h1) hd (h v' w' h2)
theorem ow_appendO {α : Type} [Enc α] {tt T bytes : TypeId} {x y : Operand} {v : Value} {xs ys : List α} {a' : Option Addr} {k c : Nat} (hi : ops[i]? = some ⟨some d, .call ⟨.builtin .append, #[x, y], #[tt, tt]⟩, ty, pos, aft, g⟩)
    (hw : Wt ops f ⟨some d, .call ⟨.builtin .append, #[x, y], #[tt, tt]⟩, ty, pos, aft, g⟩ true) (hE : ElemOk P tt T α bytes) (hx : ev f x = v) (hy : ev f y = .slice a' k c)
    (ho : Own W0 V w L T v xs) (hsrc : Src1 w T a' ys) (hk : k = ys.length) (hlen : (xs.length + k) * bytes ≤ 140737488355328) (hmax : xs.length + k ≤ 1099511627776) (hd : d < n)
    (h : ∀ v' w', Own W0 V w' L T v' (xs ++ ys) → (m.testBit i = true → S w') ∧ PW P n ops Q S m t (upd f d v') w') : OW P n ops Q S m i t f w := by
  obtain ⟨v', w', h1, h2⟩ := run_append_own' (ty := ty) hE ho hsrc (c := c) hk hlen hmax
  exact ow_val hi hw (r_append hx hy h1) hd (h v' w' h2).1 (h v' w' h2).2
theorem run_appendN {α : Type} [Enc α] {tt T bytes : TypeId} {xs ys : List α} {a a' : Option Addr} {j k cp c : Nat} (hE : ElemOk P tt T α bytes)
    (hs : St W0 V w L) (hsx : Src1 w T a xs) (hsrc : Src1 w T a' ys) (hj : j = xs.length) (hk : k = ys.length) (hroom : cp < j + k) (hlen : (xs.length + k) * bytes ≤ 140737488355328) (hmax : xs.length + k ≤ 1099511627776) :
    ∃ v' w', (Builtin.append_ #[tt, tt] ty #[.slice a j cp, .slice a' k c]).run P w = .ok v' w' ∧ Own W0 V w' L T v' (xs ++ ys) := by
  subst hj hk
  obtain ⟨b, cap', sp, w', h1, h2, h3, h4⟩ := run_append_new (ty := ty) hE (c := c) hs hsx hsrc rfl rfl hroom hlen hmax
  refine ⟨_, w', h1, ?_⟩
  have e : xs.length + ys.length = (xs ++ ys).length := by simp
  rw [e] at h2 h3 ⊢
  exact Own.blk b cap' _ sp h2 h3 h4
theorem ow_appendN {α : Type} [Enc α] {tt T bytes : TypeId} {x y : Operand} {xs ys : List α} {a a' : Option Addr} {j k cp c : Nat} (hi : ops[i]? = some ⟨some d, .call ⟨.builtin .append, #[x, y], #[tt, tt]⟩, ty, pos, aft, g⟩)
    (hw : Wt ops f ⟨some d, .call ⟨.builtin .append, #[x, y], #[tt, tt]⟩, ty, pos, aft, g⟩ true) (hE : ElemOk P tt T α bytes) (hx : ev f x = .slice a j cp) (hy : ev f y = .slice a' k c)
    (hs : St W0 V w L) (hsx : Src1 w T a xs) (hsrc : Src1 w T a' ys) (hj : j = xs.length) (hk : k = ys.length) (hroom : cp < j + k) (hlen : (xs.length + k) * bytes ≤ 140737488355328) (hmax : xs.length + k ≤ 1099511627776) (hd : d < n)
    (h : ∀ v' w', Own W0 V w' L T v' (xs ++ ys) → (m.testBit i = true → S w') ∧ PW P n ops Q S m t (upd f d v') w') : OW P n ops Q S m i t f w := by
  obtain ⟨v', w', h1, h2⟩ := run_appendN (ty := ty) (c := c) hE hs hsx hsrc hj hk hroom hlen hmax
  exact ow_val hi hw (r_append hx hy h1) hd (h v' w' h2).1 (h v' w' h2).2
theorem l_appendNil {α : Type} [Enc α] {tt T bytes : TypeId} {x y : Operand} {ys : List α} {a' : Option Addr} {k c : Nat} (hE : ElemOk P tt T α bytes) (hx : ev f x = .slice none 0 0) (hy : ev f y = .slice a' k c)
    (hs : St W0 V w L) (hsrc : Src1 w T a' ys) (hk : k = ys.length) (hlen : k * bytes ≤ 140737488355328) (hmax : k ≤ 1099511627776) (hd : d < n)
    (h : ∀ v' w', Own W0 V w' L T v' ys → LW P n ops Q rest (upd f d v') w') : LW P n ops Q (⟨some d, .call ⟨.builtin .append, #[x, y], #[tt, tt]⟩, ty, pos, aft, none⟩ :: rest) f w :=
  l_appendO hE hx hy (Own.nil hs) hsrc hk (by simpa using hlen) (by simpa using hmax) hd h
theorem ow_buildSlice1 {α : Type} [Enc α] {tt E : TypeId} {bytes : Nat} {x : Operand} {y z : α} (hi : ops[i]? = some ⟨some d, .buildSlice tt 1 #[(0, x)], ty, pos, aft, g⟩) (hw : Wt ops f ⟨some d, .buildSlice tt 1 #[(0, x)], ty, pos, aft, g⟩ true)
    (hE : ElemOk P tt E α bytes) (hz : ZeroOk P E z) (hx : ev f x = val y) (hsm : Enc.size α ≤ 16777216) (hs : St W0 V w L) (hd : d < n)
    (k : ∀ b w', St W0 V w' ((b, blk E y) :: L) → (m.testBit i = true → S w') ∧ PW P n ops Q S m t (upd f d (.slice (some ⟨b, 0, none⟩) 1 1)) w') : OW P n ops Q S m i t f w :=
  ow_val hi hw (r_buildSlice1 hE.sl hE.ty hz hx ⟨hE.pos, hsm⟩) hd (k _ _ (hs.alloc _)).1 (k _ _ (hs.alloc _)).2
theorem sl_cap {α : Type} [Enc α] {T : TypeId} {a : Option Addr} {cap : Nat} {xs : List α} (h : Sl V T a cap xs) (hne : xs ≠ []) : xs.length ≤ cap := by
  rcases h with h | ⟨_, _, _, _, _, _, h⟩
  · exact absurd h hne
  · exact h
theorem p_indexAt {t : TypeId} {x y : Operand} {E : TypeId} {k : IntKind} {b o o' l c s : Nat} {j : Int} {d : Option Nat} (ht : P.underlying t = some (.slice E)) (hE : (P.info? E).map (·.size) = some s)
    (hx : ρ x = .slice (some ⟨b, o, none⟩) l c) (hy : ρ y = .int k j) (hi : 0 ≤ j ∧ j < l) (ho : o' = o + j.toNat * s) : Pur P ρ ⟨d, .indexAddr t x y, ty, pos, aft, g⟩ (ptr b o') := by
  have e : j = (j.toNat : Int) := by omega
  rw [e] at hy
  have := p_indexAddr (P := P) (d := d) (ty := ty) (pos := pos) (aft := aft) (g := g) ht hE hx hy (by omega)
  rw [addr_add] at this
  rw [ho]; exact this
theorem p_subN {t t' : TypeId} {x y : Operand} {d : Option Nat} {a b : Nat} (hx : ρ x = vi (a : Int)) (hy : ρ y = vi (b : Int)) (hb : b ≤ a) (ha : a ≤ 9223372036854775807) :
    Pur P ρ ⟨d, .binOp .sub t x y t', ty, pos, aft, g⟩ (vi ((a - b : Nat) : Int)) := by
  have := p_sub64 (P := P) (d := d) (ty := ty) (pos := pos) (aft := aft) (g := g) (t := t) (t' := t') hx hy (by omega)
  have e : (a : Int) - (b : Int) = ((a - b : Nat) : Int) := by omega
  rw [e] at this; exact this
end
end Go.Bur
namespace Go.Bur
open Go Go.RowKit
theorem Rep.app {A L L' : List (Nat × Obj)} {b : Nat} {o o' : Obj} (h : Rep L b o o' L') : Rep (A ++ L) b o o' (A ++ L') := by
  induction A with
  | nil => exact h
  | cons x A ih => exact .tail ih
section
variable {P : Program} {n : Nat} {Q : QF} {f : Fr} {w w' : World} {ops : Array Oper} {rest : List Oper} {ty : TypeId} {pos : String} {aft : Array Edge} {g : Option (Nat × Bool)} {d : Nat}
variable {ρ : Operand → Value} {W0 : World} {V V' : PH} {L L' : List (Nat × Obj)} {S : World → Prop} {m i : Nat} {t : Plan}
theorem st_storeR {α β : Type} [Enc α] [Enc β] {T T' : TypeId} {x y : Operand} {d : Option Nat} {b o : Nat} {gt : α → β} {st : α → β → α} {u : α} {z : β}
    (hT : TyOk P T β) (hx : ρ x = ptr b o) (hy : ρ y = val z) (hl : Lens α β o gt st) (hs : St W0 V w L) (hr : Rep L b (blk T' u) (blk T' (st u z)) L') :
    ∃ w', (execOp ρ ⟨d, .store T x y, ty, pos, aft, g⟩).run P w = .ok .skip w' ∧ St W0 V w' L' := by
  have hg : w.heap[b]? = some (blk T' u) := hs.mem hr.mem
  refine ⟨_, r_store hT hx hy hg ?_, ?_⟩
  · have := hl.le; simpa [cells_length] using this
  · have e := hl.set u z
    simp only [List.toList_toArray]
    rw [e]; exact hs.rep hr
theorem ow_storeR {α β : Type} [Enc α] [Enc β] {T T' : TypeId} {x y : Operand} {b o : Nat} {gt : α → β} {st : α → β → α} {u : α} {z : β}
    (hi : ops[i]? = some ⟨none, .store T x y, ty, pos, aft, g⟩) (hw : Wt ops f ⟨none, .store T x y, ty, pos, aft, g⟩ true)
    (hT : TyOk P T β) (hx : ev f x = ptr b o) (hy : ev f y = val z) (hl : Lens α β o gt st) (hs : St W0 V w L) (hr : Rep L b (blk T' u) (blk T' (st u z)) L')
    (k : ∀ w', St W0 V w' L' → (m.testBit i = true → S w') ∧ PW P n ops Q S m t f w') : OW P n ops Q S m i t f w := by
  obtain ⟨w', h1, h2⟩ := st_storeR (P := P) (d := none) (ty := ty) (pos := pos) (aft := aft) (g := g) hT hx hy hl hs hr
  exact ow_skip hi hw h1 (k _ h2).1 (k _ h2).2
theorem r_buildSliceN {α : Type} [Enc α] {tt E bytes N : Nat} {parts : List (Nat × Operand)} {z : α} {x : Vec N α} {d : Option Nat} (hE : ElemOk P tt E α bytes) (hz : ZeroOk P E z) (hN : 0 < N) (hsm : N * Enc.size α ≤ 16777216) (hf : FillA ρ (Vector.replicate N z) parts x) :
    Runs P ρ ⟨d, .buildSlice tt N parts.toArray, ty, pos, aft, g⟩ w (.slice (some ⟨w.heap.size, 0, none⟩) N N) (w.alloc (arr E x.toList [])) := by
  simp only [Runs, execOp]
  refine run_v ?_
  have hr := hf.run
  have hp : (parts.toArray.map fun (i, x) => (i, ρ x)).toList = parts.map fun (i, x) => (i, ρ x) := by simp
  have h1 : ¬ (N * Enc.size α > 2 ^ 24) := by omega
  have h2 : ¬ (N * Enc.size α = 0) := by have := Nat.mul_pos hN hE.pos; omega
  have hbase : (Array.range (N * Enc.size α)).map (fun j => (val z).cells[j % (val z).cells.size]!) = (cells (Vector.replicate N z : Vec N α)).toArray := by
    have := made_flat z N
    rw [cells_vec]
    simpa [madeCells] using this
  simp only [Instr.buildSlice, Sem.run_bind, run_underlying hE.sl w, hE.ty.run_sizeOf, Result.andThen_ok, h1, h2, if_false, hz w, Sem.run_pure, hbase, hp, hr, newRow, newObj]
  simp [Sem.run, arr, cells_vec]
theorem l_buildSlice2 {α : Type} [Enc α] {tt E bytes : Nat} {x0 x1 : Operand} {z y0 y1 : α} (hE : ElemOk P tt E α bytes) (hz : ZeroOk P E z) (h0 : ev f x0 = val y0) (h1 : ev f x1 = val y1) (hsm : 2 * Enc.size α ≤ 16777216) (hs : St W0 V w L) (hd : d < n)
    (k : ∀ b w', St W0 V w' ((b, arr E [y0, y1] []) :: L) → LW P n ops Q rest (upd f d (.slice (some ⟨b, 0, none⟩) 2 2)) w') : LW P n ops Q (⟨some d, .buildSlice tt 2 #[(0, x0), (1, x1)], ty, pos, aft, none⟩ :: rest) f w :=
  l_run (r_buildSliceN (x := ((Vector.replicate 2 z).set 0 y0).set 1 y1) hE hz (by decide) hsm (.cons (by decide) h0 (.cons (by decide) h1 (.nil _)))) hd (k _ _ (hs.alloc _))
theorem ow_buildSlice2 {α : Type} [Enc α] {tt E bytes : Nat} {x0 x1 : Operand} {z y0 y1 : α} (hi : ops[i]? = some ⟨some d, .buildSlice tt 2 #[(0, x0), (1, x1)], ty, pos, aft, g⟩) (hw : Wt ops f ⟨some d, .buildSlice tt 2 #[(0, x0), (1, x1)], ty, pos, aft, g⟩ true)
    (hE : ElemOk P tt E α bytes) (hz : ZeroOk P E z) (h0 : ev f x0 = val y0) (h1 : ev f x1 = val y1) (hsm : 2 * Enc.size α ≤ 16777216) (hs : St W0 V w L) (hd : d < n)
    (k : ∀ b w', St W0 V w' ((b, arr E [y0, y1] []) :: L) → (m.testBit i = true → S w') ∧ PW P n ops Q S m t (upd f d (.slice (some ⟨b, 0, none⟩) 2 2)) w') : OW P n ops Q S m i t f w :=
  ow_val hi hw (r_buildSliceN (x := ((Vector.replicate 2 z).set 0 y0).set 1 y1) hE hz (by decide) hsm (.cons (by decide) h0 (.cons (by decide) h1 (.nil _)))) hd (k _ _ (hs.alloc _)).1 (k _ _ (hs.alloc _)).2
theorem l_buildSlice3 {α : Type} [Enc α] {tt E bytes : Nat} {x0 x1 x2 : Operand} {z y0 y1 y2 : α} (hE : ElemOk P tt E α bytes) (hz : ZeroOk P E z) (h0 : ev f x0 = val y0) (h1 : ev f x1 = val y1) (h2 : ev f x2 = val y2) (hsm : 3 * Enc.size α ≤ 16777216) (hs : St W0 V w L) (hd : d < n)
    (k : ∀ b w', St W0 V w' ((b, arr E [y0, y1, y2] []) :: L) → LW P n ops Q rest (upd f d (.slice (some ⟨b, 0, none⟩) 3 3)) w') : LW P n ops Q (⟨some d, .buildSlice tt 3 #[(0, x0), (1, x1), (2, x2)], ty, pos, aft, none⟩ :: rest) f w :=
  l_run (r_buildSliceN (x := (((Vector.replicate 3 z).set 0 y0).set 1 y1).set 2 y2) hE hz (by decide) hsm (.cons (by decide) h0 (.cons (by decide) h1 (.cons (by decide) h2 (.nil _))))) hd (k _ _ (hs.alloc _))
end
end Go.Bur
namespace Go.Bur
open Go Go.RowKit
section
variable {P : Program} {n : Nat} {Q : QF} {f : Fr} {w w' : World} {ops : Array Oper} {rest : List Oper} {ty : TypeId} {pos : String} {aft : Array Edge} {g : Option (Nat × Bool)} {d : Nat}
variable {W0 : World} {V : PH} {L : List (Nat × Obj)} {S : World → Prop} {m i : Nat} {t : Plan}
theorem l_purIs {op : Op} {b c : Bool} (h : Pur P (ev f) ⟨some d, op, ty, pos, aft, none⟩ (.bool b)) (hb : b = c) (hd : d < n)
    (k : LW P n ops Q rest (upd f d (.bool c)) w) : LW P n ops Q (⟨some d, op, ty, pos, aft, none⟩ :: rest) f w := by subst hb; exact l_pur h hd k
theorem pw_purIs {op : Op} {b c : Bool} (hi : ops[i]? = some ⟨some d, op, ty, pos, aft, g⟩) (hw : Wt ops f ⟨some d, op, ty, pos, aft, g⟩ true) (h : Pur P (ev f) ⟨some d, op, ty, pos, aft, g⟩ (.bool b)) (hb : b = c) (hd : d < n)
    (hS : m.testBit i = true → S w) (k : PW P n ops Q S m t (upd f d (.bool c)) w) : PW P n ops Q S m (.take i t) f w := by subst hb; exact pw_pur hi hw h hd hS k
end
end Go.Bur
namespace Go.Bur
open Go Go.RowKit
section
variable {P : Program} {n : Nat} {Q : QF} {f : Fr} {w w' : World} {ops : Array Oper} {ty : TypeId} {pos : String} {aft : Array Edge} {g : Option (Nat × Bool)}
variable {S : World → Prop} {m i : Nat} {t : Plan}
theorem ow_valC {op : Op} {d : Nat} {v : Value} (hi : ops[i]? = some ⟨some d, op, ty, pos, aft, g⟩) (hw : Wt ops f ⟨some d, op, ty, pos, aft, g⟩ true)
    (h : Runs P (ev f) ⟨some d, op, ty, pos, aft, g⟩ w v w') (hd : d < n) (k : (m.testBit i = true → S w') ∧ PW P n ops Q S m t (upd f d v) w') : OW P n ops Q S m i t f w := ow_val hi hw h hd k.1 k.2
theorem yielded_undef {n : Nat} {a : Act} (ha : Has n a f) {oj : Oper} {j dj : Nat} (hj : ops[j]? = some oj) (hdj : oj.dst = some dj) (hv : f dj = undef) : yielded ops a.tmps j = none := by
  have hgd := ha.get dj
  rw [hv, Array.getD_eq_getD_getElem?] at hgd
  unfold yielded
  rw [hj]; simp only [Option.bind_some, hdj]
  cases hq : a.tmps[dj]? with
  | none => rfl
  | some u => rw [hq] at hgd; simp at hgd; subst hgd; rfl
theorem lw_passU {rest : List Oper} {o : Oper} {d : Nat} (ho : o.dst = some d) {j : Nat} {b : Bool} (hg : o.guard = some (j, b)) {oj : Oper} {dj : Nat} (hj : ops[j]? = some oj) (hdj : oj.dst = some dj)
    (hv : f dj = undef) (hd : d < n) (k : LW P n ops Q rest (upd f d undef) w) : LW P n ops Q (o :: rest) f w := fun a ha => by
  have hy := yielded_undef ha hj hdj hv
  refine wpList_step fun K hK => ?_
  have : Region.wanted o (yielded ops a.tmps) = false := by
    unfold Region.wanted; rw [hg]; simp only [hy]; rfl
  rw [this, ho]
  exact hK _ _ (k _ (ha.put hd undef))
theorem tf_exit {M : Fr → World → Prop} {id : Nat} (h : Q (.exit id) f w) : thenF M Q (.exit id) f w := h
theorem ib_exit {id : Nat} (h : Q .normal f w) : inBlockF id Q (.exit id) f w := by
  show (if id = id then Q .normal f w else Q (.exit id) f w)
  rw [if_pos rfl]; exact h
theorem ib_norm {id : Nat} (h : Q .normal f w) : inBlockF id Q .normal f w := h
end
end Go.Bur
namespace Go.Bur
open Go Go.RowKit
section
variable {P : Program} {n : Nat} {Q : QF} {f : Fr} {w w' : World} {ops : Array Oper} {rest : List Oper} {ty : TypeId} {pos : String} {aft : Array Edge} {g : Option (Nat × Bool)} {d : Nat}
variable {ρ : Operand → Value} {W0 : World} {V V' : PH} {L L' : List (Nat × Obj)} {S : World → Prop} {m i : Nat} {t : Plan}
theorem St.rot4 {x y z u v : Nat × Obj} (h : St W0 V w (x :: y :: z :: u :: v :: L)) : St W0 V w (v :: x :: y :: z :: u :: L) := h.rot (A := [x, y, z, u])
theorem Own.blk2 {α : Type} [Enc α] {T : TypeId} {v : Value} {xs : List α} (h : Own W0 V w L T v xs) (h0 : 0 < xs.length) :
    ∃ b cap sp, v = .slice (some ⟨b, 0, none⟩) xs.length cap ∧ xs.length ≤ cap ∧ sp.length + xs.length * Enc.size α = cap * Enc.size α ∧ St W0 V w ((b, arr T xs sp) :: L) := by
  cases h with
  | nil hs => simp at h0
  | blk b cap _ sp hc hle hs => exact ⟨b, cap, sp, rfl, hle, hc, hs⟩
theorem St.freezeArr {α : Type} [Enc α] {T : TypeId} {b cap : Nat} {xs : List α} {sp : List Value} (h : St W0 V w ((b, arr T xs sp) :: L)) (hle : xs.length ≤ cap) :
    ∃ V', V ≤ V' ∧ St W0 V' w L ∧ Sl V' T (some ⟨b, 0, none⟩) cap xs := by
  obtain ⟨h1, h2⟩ := h.freeze
  exact ⟨_, h2, h1, .inr ⟨b, 0, _, rfl, PH.add_self .., by simpa [arr] using AtL.arr xs sp, hle⟩⟩
theorem list_set_self {α : Type} {xs : List α} {i : Nat} (h : i < xs.length) : xs.set i xs[i] = xs := by simp
theorem ow_appendNil {α : Type} [Enc α] {tt T bytes : TypeId} {x y : Operand} {ys : List α} {a' : Option Addr} {k c : Nat} (hi : ops[i]? = some ⟨some d, .call ⟨.builtin .append, #[x, y], #[tt, tt]⟩, ty, pos, aft, g⟩)
    (hw : Wt ops f ⟨some d, .call ⟨.builtin .append, #[x, y], #[tt, tt]⟩, ty, pos, aft, g⟩ true) (hE : ElemOk P tt T α bytes) (hx : ev f x = .slice none 0 0) (hy : ev f y = .slice a' k c)
    (hs : St W0 V w L) (hsrc : Src1 w T a' ys) (hk : k = ys.length) (hlen : k * bytes ≤ 140737488355328) (hmax : k ≤ 1099511627776) (hd : d < n)
    (h : ∀ v' w', Own W0 V w' L T v' ys → (m.testBit i = true → S w') ∧ PW P n ops Q S m t (upd f d v') w') : OW P n ops Q S m i t f w :=
  ow_appendO hi hw hE hx hy (Own.nil hs) hsrc hk (by simpa using hlen) (by simpa using hmax) hd h
theorem run_append_none {t T ty : TypeId} {α : Type} [Enc α] {bytes : Nat} (hE : ElemOk P t T α bytes) {a' : Option Addr} {k c : Nat} (hk : k = 0) :
    (Builtin.append_ #[t, t] ty #[.slice none 0 0, .slice a' k c]).run P w = .ok (.slice none 0 0) w := by
  subst hk
  obtain ⟨i, z, hi, hz, hzs, hby⟩ := hE.info
  have hy1 : (Builtin.firstCells i.size 0 (.slice a' 0 c)).run P w = .ok #[] w := by
    have hsize : i.size = Enc.size α := by have := hE.ty.size; simpa [hi] using this
    have := Src1.first (P := P) (w := w) (T := T) (a := a') (ys := ([] : List α)) (c := c) (.inl rfl) rfl
    rw [hsize]; simpa [flat] using this
  simp [Builtin.append_, run_underlying hE.sl, sizeOf, typeInfo, hi, Builtin.lenOf, hy1]
theorem ow_appendNone {α : Type} [Enc α] {tt T bytes : TypeId} {x y : Operand} {a' : Option Addr} {k c : Nat} (hi : ops[i]? = some ⟨some d, .call ⟨.builtin .append, #[x, y], #[tt, tt]⟩, ty, pos, aft, g⟩)
    (hw : Wt ops f ⟨some d, .call ⟨.builtin .append, #[x, y], #[tt, tt]⟩, ty, pos, aft, g⟩ true) (hE : ElemOk P tt T α bytes) (hx : ev f x = .slice none 0 0) (hy : ev f y = .slice a' k c)
    (hk : k = 0) (hd : d < n) (h : (m.testBit i = true → S w) ∧ PW P n ops Q S m t (upd f d (.slice none 0 0)) w) : OW P n ops Q S m i t f w :=
  ow_val hi hw (r_append hx hy (run_append_none (ty := ty) hE hk)) hd h.1 h.2
theorem l_appendNone {α : Type} [Enc α] {tt T bytes : TypeId} {x y : Operand} {a' : Option Addr} {k c : Nat} (hE : ElemOk P tt T α bytes) (hx : ev f x = .slice none 0 0) (hy : ev f y = .slice a' k c)
    (hk : k = 0) (hd : d < n) (h : LW P n ops Q rest (upd f d (.slice none 0 0)) w) : LW P n ops Q (⟨some d, .call ⟨.builtin .append, #[x, y], #[tt, tt]⟩, ty, pos, aft, none⟩ :: rest) f w :=
  l_run (r_append hx hy (run_append_none (ty := ty) hE hk)) hd h
end
end Go.Bur
namespace Go.Bur
open Go Go.RowKit
section
variable {P : Program} {n : Nat} {Q : QF} {f : Fr} {w w' : World} {ops : Array Oper} {rest : List Oper} {ty : TypeId} {pos : String} {aft : Array Edge} {g : Option (Nat × Bool)} {d : Nat}
variable {ρ : Operand → Value} {W0 : World} {V V' : PH} {L L' : List (Nat × Obj)} {S : World → Prop} {m i : Nat} {t : Plan}
theorem St.borrow {b : Nat} {o : Obj} (h : St W0 V w ((b, o) :: L)) : St W0 (V.add b o) w L ∧ V ≤ V.add b o ∧ ∀ w', St W0 (V.add b o) w' L → St W0 V w' ((b, o) :: L) := by
  have hb := h.own (b, o) (List.mem_cons_self ..)
  refine ⟨h.freeze.1, h.freeze.2, fun w' h' => ⟨h'.base, fun b' o' hb' => h'.sub b' o' (h.freeze.2 b' o' hb'), fun p hp => ?_, h.nodup⟩⟩
  rcases List.mem_cons.1 hp with rfl | hp
  · exact ⟨h'.sub _ _ (PH.add_self ..), hb.2⟩
  · have h1 := h'.own p hp
    refine ⟨h1.1, ?_, h1.2.2⟩
    cases hv : V p.1 with
    | none => rfl
    | some o' => have := h.freeze.2 _ _ hv; rw [h1.2.1] at this; cases this
theorem sl_add {α : Type} [Enc α] {T : TypeId} {b cap : Nat} {xs : List α} {sp : List Value} (hle : xs.length ≤ cap) : Sl (V.add b (arr T xs sp)) T (some ⟨b, 0, none⟩) cap xs :=
  .inr ⟨b, 0, _, rfl, PH.add_self .., by simpa [arr] using AtL.arr xs sp, hle⟩
theorem OwnA.blk {α : Type} [Enc α] {T : TypeId} {v : Value} {xs : List α} {A : List (Nat × Obj)} (h : OwnA T v xs A) (h0 : 0 < xs.length) :
    ∃ b cap sp, v = .slice (some ⟨b, 0, none⟩) xs.length cap ∧ sp.length + xs.length * Enc.size α = cap * Enc.size α ∧ xs.length ≤ cap ∧ A = [(b, arr T xs sp)] := by
  rcases h with ⟨_, rfl, _⟩ | h
  · simp at h0
  · exact h
theorem OwnA.mk {α : Type} [Enc α] {T : TypeId} {b cap : Nat} {xs : List α} {sp : List Value} (hc : sp.length + xs.length * Enc.size α = cap * Enc.size α) (hle : xs.length ≤ cap) :
    OwnA T (.slice (some ⟨b, 0, none⟩) xs.length cap) xs [(b, arr T xs sp)] := .inr ⟨b, cap, sp, rfl, hc, hle, rfl⟩
theorem arr_split {α : Type} [Enc α] (T : TypeId) (xs ys : List α) (sp : List Value) : arr T (xs ++ ys) sp = arr T xs (flat ys ++ sp) := by
  simp [arr, flat_append, List.append_assoc]
theorem Sl.none {α : Type} [Enc α] {T : TypeId} {cap : Nat} {xs : List α} (h : Sl V T none cap xs) : xs = [] := by
  rcases h with h | ⟨_, _, _, h, _⟩
  · exact h
  · cases h
theorem r_buildSlice0 {α : Type} [Enc α] {tt E bytes : Nat} {d : Option Nat} (hE : ElemOk P tt E α bytes) :
    Runs P ρ ⟨d, .buildSlice tt 0 #[], ty, pos, aft, g⟩ w (.slice (some ⟨w.heap.size, 0, none⟩) 0 0) (w.alloc (arr E ([] : List α) [])) := by
  simp only [Runs, execOp]
  refine run_v ?_
  simp only [Instr.buildSlice, Sem.run_bind, run_underlying hE.sl w, hE.ty.run_sizeOf, Result.andThen_ok, Nat.zero_mul, gt_iff_lt, Nat.not_lt_zero, if_false, if_true, Sem.run_pure]
  have e0 : Array.range 0 = #[] := rfl
  simp [Instr.fill, newRow, newObj, Sem.run, arr, flat, e0]
theorem l_buildSlice0 {α : Type} [Enc α] {tt E bytes : Nat} (hE : ElemOk P tt E α bytes) (hs : St W0 V w L) (hd : d < n)
    (k : ∀ b w', St W0 V w' ((b, arr E ([] : List α) []) :: L) → LW P n ops Q rest (upd f d (.slice (some ⟨b, 0, none⟩) 0 0)) w') : LW P n ops Q (⟨some d, .buildSlice tt 0 #[], ty, pos, aft, none⟩ :: rest) f w :=
  l_run (r_buildSlice0 hE) hd (k _ _ (hs.alloc _))
def idxP {α : Type} (p : α → Bool) (xs : List α) : Int := match xs.findIdx? p with | some i => i | none => -1
theorem idxP_none {α : Type} {p : α → Bool} {xs : List α} (h : ∀ j (h : j < xs.length), p xs[j] = false) : idxP p xs = -1 := by
  unfold idxP
  have : xs.findIdx? p = none := by
    rw [List.findIdx?_eq_none_iff]
    intro x hx
    obtain ⟨j, hj, rfl⟩ := List.getElem_of_mem hx
    exact h j hj
  rw [this]
theorem idxP_some {α : Type} {p : α → Bool} {xs : List α} {i : Nat} (hi : i < xs.length) (h : ∀ j (h : j < xs.length), j < i → p xs[j] = false) (he : p xs[i] = true) : idxP p xs = i := by
  unfold idxP
  have : xs.findIdx? p = some i := by
    rw [List.findIdx?_eq_some_iff_getElem]
    exact ⟨hi, he, fun j hj => by have := h j (by omega) hj; simp [this]⟩
  rw [this]
theorem idxP_cases {α : Type} (p : α → Bool) (xs : List α) : (idxP p xs = -1 ∧ ∀ j (h : j < xs.length), p xs[j] = false) ∨ ∃ i, ∃ h : i < xs.length, idxP p xs = i ∧ p xs[i] = true ∧ ∀ j (h : j < xs.length), j < i → p xs[j] = false := by
  unfold idxP
  cases hq : xs.findIdx? p with
  | none =>
    left
    refine ⟨rfl, fun j h => ?_⟩
    rw [List.findIdx?_eq_none_iff] at hq
    exact hq _ (List.getElem_mem h)
  | some i =>
    right
    rw [List.findIdx?_eq_some_iff_getElem] at hq
    obtain ⟨hi, he, h⟩ := hq
    exact ⟨i, hi, rfl, he, fun j hj hji => by simpa using h j hji⟩
end
end Go.Bur
namespace Go.Bur
open Go Go.RowKit
section
variable {P : Program} {n : Nat} {Q : QF} {f : Fr} {w w' : World} {ops : Array Oper} {rest : List Oper} {ty : TypeId} {pos : String} {aft : Array Edge} {g : Option (Nat × Bool)} {d : Option Nat}
structure ExtOk (P : Program) (k : FuncId) (e : Array Value → Sem Value) : Prop where
  ok : ∃ fn, P.funcs[k]? = some fn ∧ (fn.name == "runtime.NumGoroutine") = false ∧ fn.body.isNone = true ∧ Extern.findNext fn = none ∧ Extern.find fn = some e
theorem p_ext {k : FuncId} {xs : Array Operand} {ts : Array TypeId} {args : Array Value} {v : Value} {e : Array Value → Sem Value} (hk : ExtOk P k e) (ha : xs.map (ev f) = args) (he : ∀ w, (e args).run P w = .ok v w) :
    Pur P (ev f) ⟨d, .call ⟨.value (.func k), xs, ts⟩, ty, pos, aft, g⟩ v := fun w => by
  obtain ⟨fn, h1, h2, h3, h4, h5⟩ := hk.ok
  have hr := run_callFunc_extern h1 h2 h3 h4 h5 args w
  rw [he w] at hr
  simp only [Runs, execOp, resolve, ev, Deferred.ofValue, Sem.run_bind, Sem.run_pure, Result.andThen_ok, invoke, ha, Array.empty_append, Array.append_empty]
  exact hr
theorem p_ext2 {k : FuncId} {x0 x1 : Operand} {v0 v1 : Value} {ts : Array TypeId} {v : Value} {e : Array Value → Sem Value} (hk : ExtOk P k e) (h0 : ev f x0 = v0) (h1 : ev f x1 = v1) (he : ∀ w, (e #[v0, v1]).run P w = .ok v w) :
    Pur P (ev f) ⟨d, .call ⟨.value (.func k), #[x0, x1], ts⟩, ty, pos, aft, g⟩ v := p_ext hk (by rw [← h0, ← h1]; simp) he
end
theorem shl_bd {b s : Nat} (hb : b ≤ 1) (hs : s ≤ 7) : b * 2 ^ s ≤ 9223372036854775807 := by
  have h1 : 2 ^ s ≤ 2 ^ 7 := Nat.pow_le_pow_right (by decide) hs
  have h2 : b * 2 ^ s ≤ 1 * 2 ^ 7 := Nat.mul_le_mul hb h1
  omega
section
variable {P : Program} {ty : TypeId} {pos : String} {aft : Array Edge} {g : Option (Nat × Bool)} {d : Option Nat} {ρ : Operand → Value}
theorem p_shr64N {t t' : TypeId} {x y : Operand} {yk : IntKind} {a s : Nat} (hx : ρ x = vi a) (hy : ρ y = .int yk (s : Int)) (hs : s < 64) :
    Pur P ρ ⟨d, .binOp .shr t x y t', ty, pos, aft, g⟩ (vi ((a / 2 ^ s : Nat) : Int)) := by
  have := p_shr64 (P := P) (d := d) (ty := ty) (pos := pos) (aft := aft) (g := g) (t := t) (t' := t') hx hy hs
  have e : (a : Int) / 2 ^ s = ((a / 2 ^ s : Nat) : Int) := by rw [Int.natCast_ediv]; norm_cast
  rw [e] at this; exact this
end
theorem u8_back (c : UInt8) : (c.toNat : Int).toNat.toUInt8 = c := by simp
theorem run_idxB {P : Program} (s : Str) (c : UInt8) (w : World) : (Extern.BytealgIndexByte.indexByte #[vs s, val c]).run P w = .ok (vi (Lib.indexByte s c)) w := by
  have := Lib.run_indexByteString (P := P) ⟨s.toArray⟩ (c.toNat : Int) w
  rw [u8_back] at this
  exact this
theorem run_cntB {P : Program} (s : Str) (c : UInt8) (w : World) : (Extern.BytealgCount.count #[vs s, val c]).run P w = .ok (vi ((s.count c : Nat) : Int)) w := by
  have := Lib.run_countString (P := P) ⟨s.toArray⟩ (c.toNat : Int) w
  rw [u8_back] at this
  exact this
def splitB (c : UInt8) : Str → List Str
  | [] => [[]]
  | x :: l => if x = c then [] :: splitB c l else match splitB c l with
    | h :: t => (x :: h) :: t
    | [] => [[x]]
theorem splitB_ne (c : UInt8) (l : Str) : splitB c l ≠ [] := by
  cases l with
  | nil => simp [splitB]
  | cons x l => unfold splitB; split <;> (try split) <;> simp
theorem idxB_cases (c : UInt8) : ∀ l : Str, (Lib.indexByte l c = -1 ∧ l.count c = 0 ∧ splitB c l = [l]) ∨
    ∃ m : Nat, Lib.indexByte l c = m ∧ m < l.length ∧ splitB c l = l.take m :: splitB c (l.drop (m + 1)) ∧ l.count c = (l.drop (m + 1)).count c + 1 ∧ l = l.take m ++ c :: l.drop (m + 1) ∧ c ∉ l.take m
  | [] => .inl ⟨rfl, rfl, rfl⟩
  | x :: l => by
    by_cases h : x = c
    · subst h
      refine .inr ⟨0, ?_, by simp, ?_, ?_, ?_, ?_⟩
      · simp [Lib.indexByte]
      · simp [splitB]
      · simp
      · simp
      · simp
    · have hb : (x == c) = false := by simpa using h
      rcases idxB_cases c l with ⟨h1, h2, h3⟩ | ⟨m, h1, h2, h3, h4, h5, h6⟩
      · refine .inl ⟨?_, ?_, ?_⟩
        · simp [Lib.indexByte, hb, h1]
        · rw [List.count_cons, h2, hb]; rfl
        · simp only [splitB, if_neg h, h3]
      · refine .inr ⟨m + 1, ?_, by simpa using h2, ?_, ?_, ?_, ?_⟩
        · have : ((m : Int) == -1) = false := by rw [beq_eq_false_iff_ne]; omega
          simp [Lib.indexByte, hb, h1, this]
        · simp only [splitB, if_neg h, h3, List.take_succ_cons, List.drop_succ_cons]
        · rw [List.count_cons, h4, hb]; simp
        · simp only [List.take_succ_cons, List.drop_succ_cons, List.cons_append]; rw [← h5]
        · simp only [List.take_succ_cons, List.mem_cons, not_or]; exact ⟨fun e => h e.symm, h6⟩
theorem splitB_len (c : UInt8) (l : Str) : (splitB c l).length = l.count c + 1 := by
  induction l with
  | nil => rfl
  | cons x l ih =>
    unfold splitB
    by_cases h : x = c
    · subst h; simp [ih]
    · rw [if_neg h, List.count_cons]
      have hb : (x == c) = false := by simpa using h
      rw [hb]
      split
      · rename_i e; rw [e] at ih; simpa using ih
      · rename_i e; exact absurd e (splitB_ne c l)
end Go.Bur
namespace Go.Bur
open Go Go.RowKit
def entry (i : Nat) (kv : Str × Value) : MapEntry := ⟨vs kv.1, kv.2, i⟩
def entries : Nat → List (Str × Value) → List MapEntry
  | _, [] => []
  | i, x :: l => entry i x :: entries (i + 1) l
def mapO (l : List (Str × Value)) : Obj := .map (entries 0 l).toArray l.length
theorem entries_snoc : ∀ (i : Nat) (l : List (Str × Value)) (x : Str × Value), entries i (l ++ [x]) = entries i l ++ [entry (i + l.length) x]
  | i, [], x => by simp [entries]
  | i, y :: l, x => by
    simp only [List.cons_append, entries, entries_snoc (i + 1) l x, List.length_cons]
    have e : i + 1 + l.length = i + (l.length + 1) := by omega
    rw [e]
theorem str_beq (s t : Str) : ((ByteArray.mk s.toArray) == (ByteArray.mk t.toArray)) = decide (s = t) := by
  show (s.toArray == t.toArray) = _
  by_cases h : s = t
  · subst h; simp
  · rw [decide_eq_false h, beq_eq_false_iff_ne]
    intro e
    exact h (by simpa using congrArg Array.toList e)
def kvFind (s : Str) : List (Str × Value) → Option Value
  | [] => none
  | x :: l => if s = x.1 then some x.2 else kvFind s l
theorem findNow_kv (s : Str) : ∀ (l : List (Str × Value)) (i j : Nat), (∃ k, Instr.findNow .string (vs s) (entries i l) j = some ((kvFind s l).map fun v => (k, v)))
  | [], i, j => ⟨0, rfl⟩
  | x :: l, i, j => by
    obtain ⟨k, hk⟩ := findNow_kv s l (i + 1) (j + 1)
    by_cases h : s = x.1
    · refine ⟨j, ?_⟩
      simp only [entries, entry, Instr.findNow, Instr.sameNow, kvFind, if_pos h, Option.map_some]
      rw [str_beq, decide_eq_true h]
    · refine ⟨k, ?_⟩
      simp only [entries, entry, Instr.findNow, Instr.sameNow, kvFind, if_neg h]
      rw [str_beq, decide_eq_false h]
      exact hk
section
variable {P : Program} {n : Nat} {Q : QF} {f : Fr} {w w' : World} {ops : Array Oper} {rest : List Oper} {ty : TypeId} {pos : String} {aft : Array Edge} {g : Option (Nat × Bool)} {d : Nat}
variable {ρ : Operand → Value} {W0 : World} {V V' : PH} {L L' : List (Nat × Obj)}
structure MapTy (P : Program) (T K E : TypeId) : Prop where
  m : P.underlying T = some (.map K E)
  k : P.underlying K = some .string
theorem run_findKey {K : TypeId} (hk : P.underlying K = some .string) (s : Str) (l : List (Str × Value)) (w : World) : ∃ k, (Instr.findKey K (vs s) (entries 0 l)).run P w = .ok ((kvFind s l).map fun v => (k, v)) w := by
  obtain ⟨k, h⟩ := findNow_kv s l 0 0
  refine ⟨k, ?_⟩
  unfold Instr.findKey
  simp only [Sem.run_bind, run_underlying hk w, Result.andThen_ok, h, Sem.run_pure]
theorem run_checkKey {K : TypeId} (hk : P.underlying K = some .string) (e : Bool) (s : Str) (w : World) : (Instr.checkKey e 10000 K (vs s)).run P w = .ok () w := by
  unfold Instr.checkKey
  simp only [Sem.run_bind, run_underlying hk w, Result.andThen_ok, Sem.run_pure]
theorem run_getObj {b k : Nat} {es : Array MapEntry} (h : w.heap[b]? = some (.map es k)) : (getObj b).run P w = .ok (.map es k) w := by simp [getObj, Sem.run, h]
theorem l_makeMap {T : TypeId} (hs : St W0 V w L) (hd : d < n) (k : ∀ b w', St W0 V w' ((b, mapO []) :: L) → LW P n ops Q rest (upd f d (.map (some b))) w') :
    LW P n ops Q (⟨some d, .makeMap T none, ty, pos, aft, none⟩ :: rest) f w := by
  refine lw_val (v := .map (some w.heap.size)) (w' := w.alloc (mapO [])) ?_ hd (k _ _ (hs.alloc _))
  simp [execOp, Instr.makeMap, newObj, Sem.run, mapO, entries]
theorem l_insert {T K E : TypeId} {x y z : Operand} {b : Nat} {l : List (Str × Value)} {s : Str} {v : Value} (hT : MapTy P T K E) (hx : ev f x = .map (some b)) (hy : ev f y = vs s) (hz : ev f z = v) (hne : kvFind s l = none)
    (hs : St W0 V w ((b, mapO l) :: L)) (k : ∀ w', St W0 V w' ((b, mapO (l ++ [(s, v)])) :: L) → LW P n ops Q rest f w') :
    LW P n ops Q (⟨none, .insert T x y z, ty, pos, aft, none⟩ :: rest) f w := by
  have hg := hs.mem (List.mem_cons_self ..)
  obtain ⟨j, hf⟩ := run_findKey (P := P) hT.k s l w
  rw [hne] at hf
  have hc := run_checkKey (P := P) hT.k false s w
  have hlt := hs.lt hg
  have e : Obj.map ((entries 0 l).toArray.push { key := vs s, val := v, born := l.length }) (l.length + 1) = mapO (l ++ [(s, v)]) := by
    unfold mapO; rw [entries_snoc]; simp [entry]
  have hr : (setObj b (mapO (l ++ [(s, v)]))).run P w = .ok () { w with heap := w.heap.setIfInBounds b (mapO (l ++ [(s, v)])) } := by
    have hg0 : w.heap[b] = mapO l := by
      have := hg
      rw [Array.getElem?_eq_getElem hlt] at this
      exact Option.some.inj this
    simp [setObj, Sem.run, hlt, hg0, mapO]
  refine lw_skip0 (w' := { w with heap := w.heap.setIfInBounds b (mapO (l ++ [(s, v)])) }) ?_ (k _ ?_)
  · have hu : (Instr.mapUpdate T (.map (some b)) (vs s) v).run P w = .ok () { w with heap := w.heap.setIfInBounds b (mapO (l ++ [(s, v)])) } := by
      unfold Instr.mapUpdate
      have hg' := run_getObj (P := P) hg
      simp only [Sem.run_bind, run_underlying hT.m w, Result.andThen_ok, hg', mapO, hc, hf, Option.map_none]
      simp only [mapO] at e hr
      rw [e]; exact hr
    simp only [execOp, hx, hy, hz, Sem.run_bind, hu, Result.andThen_ok, Sem.run_pure]
  · refine hs.set0 ?_ ?_ ?_ rfl rfl rfl
    · simp [hlt]
    · intro i hi
      show (w.heap.setIfInBounds b _)[i]? = _
      rw [Array.getElem?_setIfInBounds, if_neg (fun e => hi e.symm)]
    · simp
theorem r_lookup {α : Type} [Enc α] {T K E : TypeId} {x y : Operand} {b : Nat} {l : List (Str × Value)} {s : Str} {z : α} {d : Option Nat} (hT : MapTy P T K E) (hz : ZeroOk P E z) (hx : ρ x = .map (some b)) (hy : ρ y = vs s) (hg : w.heap[b]? = some (mapO l)) :
    Runs P ρ ⟨d, .lookup T x y true, ty, pos, aft, g⟩ w (.tuple #[(kvFind s l).getD (val z), .bool (kvFind s l).isSome]) w := by
  obtain ⟨j, hf⟩ := run_findKey (P := P) hT.k s l w
  have hc := fun e => run_checkKey (P := P) hT.k e s w
  have hg' := run_getObj (P := P) hg
  simp only [Runs, execOp, hx, hy]
  refine run_v ?_
  unfold Instr.lookup
  simp only [Sem.run_bind, run_underlying hT.m w, Result.andThen_ok, hg', mapO, Sem.run_pure, hc, hf]
  cases kvFind s l with
  | none => simp [Sem.run_bind, hz w]
  | some v => simp [Sem.run_bind]
end
end Go.Bur
namespace Go.Bur
open Go Go.RowKit
section
variable {P : Program} {ρ : Operand → Value} {ty : TypeId} {pos : String} {aft : Array Edge} {g : Option (Nat × Bool)} {d : Option Nat}
theorem p_indexON {t : TypeId} {x y : Operand} {E : TypeId} {k : IntKind} {b l c s j : Nat} (ht : P.underlying t = some (.slice E)) (hE : (P.info? E).map (·.size) = some s)
    (hx : ρ x = .slice (some ⟨b, 0, none⟩) l c) (hy : ρ y = .int k (j : Int)) (hi : j < l) : Pur P ρ ⟨d, .indexAddr t x y, ty, pos, aft, g⟩ (ptr b (j * s)) :=
  p_indexAt ht hE hx hy (by omega) (by simp)
end
section
variable {P : Program} {w : World} {W0 : World} {V : PH} {L : List (Nat × Obj)}
theorem sl_front (b o m size i : Nat) : Value.slice (slA (some ⟨b, o, none⟩) m 0 size) (i - 0) (m - 0) = .slice (some ⟨b, o, none⟩) i m := by
  have : slA (some ⟨b, o, none⟩) m 0 size = some ⟨b, o, none⟩ := by
    unfold slA; split
    · rfl
    · simp [addr_add]
  rw [this]; simp
theorem run_append_in2 {α : Type} [Enc α] {t T ty : TypeId} {bytes : Nat} (hE : ElemOk P t T α bytes) {xs ys : List α} {b : Nat} {sp : List Value} {a' : Option Addr} {cap c m k : Nat}
    (hs : St W0 V w ((b, arr T xs sp) :: L)) (hy : Src1 w T a' ys) (hm : m = xs.length) (hk : k = ys.length) (hg : m + k ≤ cap) (hc : sp.length + m * Enc.size α = cap * Enc.size α) :
    ∃ w', (Builtin.append_ #[t, t] ty #[.slice (some ⟨b, 0, none⟩) m cap, .slice a' k c]).run P w = .ok (.slice (some ⟨b, 0, none⟩) (m + k) cap) w' ∧
      St W0 V w' ((b, arr T (xs ++ ys) (sp.drop (k * Enc.size α))) :: L) := by
  obtain ⟨i, z, hi, hz, hzs, hby⟩ := hE.info
  have hsize : i.size = Enc.size α := by have := hE.ty.size; simpa [hi] using this
  have hy1 : (Builtin.firstCells (Enc.size α) k (.slice a' k c)).run P w = .ok (flat ys).toArray w := Src1.first hy hk
  have hmul : m * Enc.size α + k * Enc.size α ≤ cap * Enc.size α := by rw [← Nat.add_mul]; exact Nat.mul_le_mul_right _ hg
  have hst := run_storeCells_at P b (m * Enc.size α) T (flat ys) 0 (flat xs ++ sp).toArray w (hs.mem (List.mem_cons_self ..)) (by rw [flat_length, ← hk]; simp only [List.size_toArray, List.length_append, flat_length, ← hm]; omega) (flat_one ys)
  refine ⟨w.setRow b (flat (xs ++ ys) ++ sp.drop (k * Enc.size α)).toArray, ?_, ?_⟩
  · have e : (flat (xs ++ ys) ++ sp.drop (k * Enc.size α)) = List.take (m * Enc.size α) (flat xs ++ sp) ++ flat ys ++ List.drop (m * Enc.size α + (flat ys).length) (flat xs ++ sp) := by
      have h1 : m * Enc.size α = (flat xs).length := by rw [flat_length, hm]
      rw [h1, List.take_left, flat_length ys, ← hk, ← List.drop_drop, List.drop_left, flat_append]
    rw [e]
    rw [← hsize] at hy1 hst ⊢
    simp only [Nat.add_zero] at hst
    simp [Builtin.append_, run_underlying hE.sl, sizeOf, typeInfo, hi, Builtin.lenOf, hg, hy1, addr_add, hst]
  · exact hs.setRow0
theorem run_del {α : Type} [Enc α] {t T ty : TypeId} {bytes : Nat} (hE : ElemOk P t T α bytes) {xs : List α} {b i cap c : Nat} {sp : List Value}
    (hs : St W0 V w ((b, arr T xs sp) :: L)) (hle : xs.length ≤ cap) (hc : sp.length + xs.length * Enc.size α = cap * Enc.size α) (hi : i < xs.length) :
    ∃ w', (Builtin.append_ #[t, t] ty #[.slice (some ⟨b, 0, none⟩) i cap, .slice (slA (some ⟨b, 0, none⟩) cap (i + 1) (Enc.size α)) (xs.length - (i + 1)) c]).run P w = .ok (.slice (some ⟨b, 0, none⟩) (xs.length - 1) cap) w' ∧
      St W0 V w' ((b, arr T (xs.eraseIdx i ++ xs.drop (xs.length - 1)) sp) :: L) := by
  have e1 : arr T xs sp = arr T (xs.take i) (flat (xs.drop i) ++ sp) := by rw [← arr_split, List.take_append_drop]
  have hs1 := hs
  rw [e1] at hs1
  have hsrc : Src1 w T (slA (some ⟨b, 0, none⟩) cap (i + 1) (Enc.size α)) (xs.drop (i + 1)) := by
    by_cases hl : i + 1 = xs.length
    · exact .inl (by rw [hl, List.drop_length])
    · refine .inr ⟨b, (i + 1) * Enc.size α, _, _, ?_, hs.mem (List.mem_cons_self ..), ?_⟩
      · unfold slA; rw [if_neg (by omega)]; simp [addr_add]
      · have := (AtL.arr xs sp).drop (i + 1) (by omega)
        simpa using this
  obtain ⟨w', h1, h2⟩ := run_append_in2 (ty := ty) (c := c) (cap := cap) hE hs1 hsrc (m := i) (k := xs.length - (i + 1)) (by simp; omega) (by simp) (by omega) (by
    rw [List.length_append, flat_length, List.length_drop, ← hc, Nat.sub_mul]
    have : i * Enc.size α ≤ xs.length * Enc.size α := Nat.mul_le_mul_right _ (by omega)
    omega)
  refine ⟨w', ?_, ?_⟩
  · have e : i + (xs.length - (i + 1)) = xs.length - 1 := by omega
    rw [e] at h1; exact h1
  · have e2 : (flat (xs.drop i) ++ sp).drop ((xs.length - (i + 1)) * Enc.size α) = flat (xs.drop (xs.length - 1)) ++ sp := by
      rw [List.drop_append_of_le_length (by rw [flat_length, List.length_drop]; exact Nat.mul_le_mul_right _ (by omega)), flat_drop, List.drop_drop]
      have : i + (xs.length - (i + 1)) = xs.length - 1 := by omega
      rw [this]
    rw [e2, ← arr_split, ← List.eraseIdx_eq_take_drop_succ] at h2
    exact h2
end
end Go.Bur
namespace Go.Bur
open Go Go.RowKit
section
variable {P : Program} {n : Nat} {Q : QF} {f : Fr} {w w' : World} {ops : Array Oper} {rest : List Oper} {ty : TypeId} {pos : String} {aft : Array Edge} {g : Option (Nat × Bool)}
variable {ρ : Operand → Value} {W0 : World} {V V' : PH} {L L' K : List (Nat × Obj)} {S : World → Prop} {m i : Nat} {t : Plan}
theorem p_indexArrN {t E s nn : TypeId} {x y : Operand} {k : IntKind} {b o j : Nat} {d : Option Nat} (ht : P.underlying t = some (.array nn E)) (hE : (P.info? E).map (·.size) = some s)
    (hx : ρ x = ptr b o) (hy : ρ y = .int k (j : Int)) (hi : j < nn) : Pur P ρ ⟨d, .indexAddr t x y, ty, pos, aft, g⟩ (ptr b (o + j * s)) := by
  have := p_indexArr (P := P) (d := d) (ty := ty) (pos := pos) (aft := aft) (g := g) ht hE hx hy (by omega)
  simpa using this
theorem p_indexArr0N {t E s nn : TypeId} {x y : Operand} {k : IntKind} {b j : Nat} {d : Option Nat} (ht : P.underlying t = some (.array nn E)) (hE : (P.info? E).map (·.size) = some s)
    (hx : ρ x = ptr b 0) (hy : ρ y = .int k (j : Int)) (hi : j < nn) : Pur P ρ ⟨d, .indexAddr t x y, ty, pos, aft, g⟩ (ptr b (j * s)) := by
  have := p_indexArrN (P := P) (d := d) (ty := ty) (pos := pos) (aft := aft) (g := g) ht hE hx hy hi
  simpa using this
theorem p_makeFunc1 {fn : Fn} {x : Operand} {v : Value} {d : Option Nat} (hx : ρ x = v) : Pur P ρ ⟨d, .makeFunc fn #[] #[x], ty, pos, aft, g⟩ (.func fn #[] #[v]) :=
  p_makeFunc (by simp) (by rw [← hx]; simp)
theorem p_makeFunc2 {fn : Fn} {x y : Operand} {v u : Value} {d : Option Nat} (hx : ρ x = v) (hy : ρ y = u) : Pur P ρ ⟨d, .makeFunc fn #[] #[x, y], ty, pos, aft, g⟩ (.func fn #[] #[v, u]) :=
  p_makeFunc (by simp) (by rw [← hx, ← hy]; simp)
theorem p_lenStr {t : TypeId} {x : Operand} {a : Str} {tt : TypeId} {d : Option Nat} (ht : P.underlying t = some .string) (hx : ρ x = vs a) :
    Pur P ρ ⟨d, .call ⟨.builtin .len, #[x], #[t]⟩, tt, pos, aft, g⟩ (vi (a.length : Nat)) := by
  have := p_lenS (P := P) (d := d) (tt := tt) (pos := pos) (aft := aft) (g := g) ht hx
  have e : ((ByteArray.mk a.toArray).size : Int) = (a.length : Nat) := by simp [ByteArray.size]
  rw [e] at this; exact this
theorem r_lookupS {α : Type} [Enc α] {T K E : TypeId} {x y : Operand} {b : Nat} {l : List (Str × Value)} {s : Str} {z u : α} {d : Option Nat} (hT : MapTy P T K E) (hz : ZeroOk P E z) (hx : ρ x = .map (some b)) (hy : ρ y = vs s) (hf : kvFind s l = some (val u)) (hg : w.heap[b]? = some (mapO l)) :
    Runs P ρ ⟨d, .lookup T x y true, ty, pos, aft, g⟩ w (.tuple #[val u, .bool true]) w := by
  have := r_lookup (d := d) (ty := ty) (pos := pos) (aft := aft) (g := g) hT hz hx hy hg
  rw [hf] at this; exact this
theorem St.sublist (h : St W0 V w L) (hl : L'.Sublist L) : St W0 V w L' := h.subset (fun p hp => hl.subset hp) ((hl.map _).nodup h.nodup)
theorem l_loadEN {α : Type} [Enc α] {T E : TypeId} {x : Operand} {d b j : Nat} {xs : List α} {sp : List Value} (hT : TyOk P T α) (hx : ev f x = ptr b (j * Enc.size α))
    (hj : j < xs.length) (hs : St W0 V w L) (hm : (b, arr E xs sp) ∈ L) (hd : d < n) (h : LW P n ops Q rest (upd f d (val xs[j])) w) : LW P n ops Q (⟨some d, .load T x, ty, pos, aft, none⟩ :: rest) f w :=
  l_loadE hT hx (Nat.add_zero _).symm (Lens.id α) hj hs hm hd h
theorem l_storeEN {α : Type} [Enc α] {T E : TypeId} {x y : Operand} {b j : Nat} {xs : List α} {sp : List Value} {z : α} (hT : TyOk P T α) (hx : ev f x = ptr b (j * Enc.size α))
    (hy : ev f y = val z) (hj : j < xs.length) (hs : St W0 V w L) (hr : Rep L b (arr E xs sp) (arr E (xs.set j z) sp) L')
    (k : ∀ w', St W0 V w' L' → LW P n ops Q rest f w') : LW P n ops Q (⟨none, .store T x y, ty, pos, aft, none⟩ :: rest) f w :=
  l_storeE hT hx (Nat.add_zero _).symm hy (Lens.id α) hj hs hr k
end
end Go.Bur
namespace Go.Bur
open Go Go.RowKit
section
variable {P : Program} {n : Nat} {Q : QF} {f : Fr} {w w' : World} {ops : Array Oper} {rest : List Oper} {ty : TypeId} {pos : String} {aft : Array Edge} {g : Option (Nat × Bool)} {d : Option Nat}
variable {ρ : Operand → Value} {W0 : World} {V V' : PH} {L L' K : List (Nat × Obj)} {S : World → Prop} {m i : Nat} {t : Plan}
theorem run_compl (a : UInt8) (w : World) : (Op.unary .xor (.int .u8 (a.toNat : Int))).run P w = .ok (.int .u8 ((~~~a).toNat : Int)) w := by
  have key : ∀ n : Nat, n < 256 → IntKind.u8.wrap (((BitVec.ofInt 8 255 ^^^ BitVec.ofInt 8 ((UInt8.ofNat n).toNat : Int)).toNat : Nat) : Int) = ((~~~(UInt8.ofNat n)).toNat : Int) := by decide +kernel
  have h := key a.toNat a.toNat_lt
  rw [UInt8.ofNat_toNat] at h
  show (pure (.int .u8 (IntKind.u8.wrap (((BitVec.ofInt 8 255 ^^^ BitVec.ofInt 8 (a.toNat : Int)).toNat : Nat) : Int))) : Sem Value).run P w = _
  rw [h]; rfl
theorem p_compl_u8 {T : TypeId} {x : Operand} {a : UInt8} (hx : ρ x = val a) : Pur P ρ ⟨d, .unOp .xor T x, ty, pos, aft, g⟩ (val (~~~a)) := fun w => by
  simp only [Runs, execOp, hx]
  exact run_v (run_compl a w)
def shr8 (a : UInt8) (s : Nat) : UInt8 := if s < 8 then a >>> UInt8.ofNat s else 0
theorem p_shr_u8g {t t' : TypeId} {x y : Operand} {a : UInt8} {yk : IntKind} {s : Nat} (hx : ρ x = val a) (hy : ρ y = .int yk (s : Int)) : Pur P ρ ⟨d, .binOp .shr t x y t', ty, pos, aft, g⟩ (val (shr8 a s)) := by
  by_cases h : s < 8
  · have := p_shr_u8 (P := P) (d := d) (ty := ty) (pos := pos) (aft := aft) (g := g) (t := t) (t' := t') hx hy h
    rw [show shr8 a s = a >>> UInt8.ofNat s from if_pos h]; exact this
  · rw [show shr8 a s = 0 from if_neg h]
    refine p_bin hx hy guard_int fun w => ?_
    show (binOp .shr t (.int .u8 (a.toNat : Int)) (.int yk (s : Int))).run P w = .ok (.int .u8 ((0 : UInt8).toNat : Int)) w
    have h0 : ¬ ((s : Int) < 0) := by omega
    have hm : min s 8 = 8 := by omega
    have e : (a.toNat : Int).fdiv (2 ^ 8) = 0 := by
      have := a.toNat_lt
      rw [Int.fdiv_eq_ediv_of_nonneg _ (by decide)]
      omega
    simp only [binOp, Op.shift, h0, if_false, IntKind.bits, Int.toNat_natCast, hm, e]
    rfl
def vclr {β : Type} {k : Nat} (v : Vec k β) (j : Nat) (z : β) : Vec k β := ⟨((v.toList.take j) ++ List.replicate (k - min j k) z).toArray, by simp; omega⟩
theorem vclr_toList {β : Type} {k : Nat} (v : Vec k β) (j : Nat) (z : β) : (vclr v j z).toList = v.toList.take j ++ List.replicate (k - min j k) z := by simp [vclr, Vector.toList]
theorem l_clearV {α β : Type} [Enc α] [Enc β] {tt E T' t0 : TypeId} {x : Operand} {d : Option Nat} {k off j k2 c b : Nat} {gt : α → Vec k β} {st : α → Vec k β → α} {u : α} {z : β} (ht : P.underlying tt = some (.slice E)) (hz : ZeroOk P E z)
    (hx : ev f x = .slice (some ⟨b, off + j * Enc.size β, none⟩) k2 c) (hjk : j + k2 = k) (hk2 : 0 < k2) (hl : Lens α (Vec k β) off gt st) (hs : St W0 V w L) (hr : Rep L b (blk T' u) (blk T' (st u (vclr (gt u) j z))) L')
    (h : ∀ w', St W0 V w' L' → LW P n ops Q rest (match d with | some d => upd f d (.tuple #[]) | none => f) w') (hd : (match d with | some d => Nat.ble (d + 1) n | none => true) = true) :
    LW P n ops Q (⟨d, .call ⟨.builtin .clear, #[x], #[tt]⟩, t0, pos, aft, none⟩ :: rest) f w := by
  have hg := hs.mem hr.mem
  have hll := hl.le
  have hsz : Enc.size (Vec k β) = k * Enc.size β := rfl
  have hzs : (val z).cells.size = Enc.size β := Enc.hsize z
  have hzc : (Builtin.zeroCells (val z).cells k2).toList = flat (List.replicate k2 z) := by
    rw [zeroCells_made, hzs, made_flat]
  have hfl : (flat (List.replicate k2 z)).length = k2 * Enc.size β := by rw [flat_length]; simp
  have hks : j * Enc.size β + k2 * Enc.size β = k * Enc.size β := by rw [← Nat.add_mul, hjk]
  have hst := run_storeCells_at P b (off + j * Enc.size β) T' (flat (List.replicate k2 z)) 0 (cells u).toArray w hg (by rw [hfl]; simp only [List.size_toArray, cells_length]; omega) (flat_one _)
  simp only [Nat.add_zero] at hst
  have hnew : cells (st u (vclr (gt u) j z)) = (cells u).take (off + j * Enc.size β) ++ flat (List.replicate k2 z) ++ (cells u).drop (off + j * Enc.size β + (flat (List.replicate k2 z)).length) := by
    rw [← hl.set, cells_vec, vclr_toList, flat_append, hfl, List.take_add]
    have e1 : flat ((gt u).toList.take j) = ((cells u).drop off).take (j * Enc.size β) := by
      rw [← flat_take, ← cells_vec, ← hl.get, List.take_take, hsz, Nat.min_eq_left (by omega)]
    have e2 : k - min j k = k2 := by omega
    have e3 : off + j * Enc.size β + k2 * Enc.size β = off + Enc.size (Vec k β) := by rw [hsz]; omega
    rw [e1, e2, e3]; simp [List.append_assoc]
  have hfin : ∃ w', (execOp (ev f) ⟨d, .call ⟨.builtin .clear, #[x], #[tt]⟩, t0, pos, aft, none⟩).run P w = .ok (.value (.tuple #[])) w' ∧ St W0 V w' L' := by
    refine ⟨w.setRow b (cells (st u (vclr (gt u) j z))).toArray, ?_, hs.rep hr⟩
    rw [← hnew] at hst
    obtain ⟨k', rfl⟩ : ∃ k', k2 = k' + 1 := ⟨k2 - 1, by omega⟩
    simp only [execOp, resolve, invoke, builtin, Sem.run_bind, Sem.run_pure, Result.andThen_ok, List.map_toArray, List.map_cons, List.map_nil, hx]
    simp [Builtin.clear_, Sem.run_bind, run_underlying ht w, hz w, hzc, hst]
  obtain ⟨w', h1, h2⟩ := hfin
  cases d with
  | none => exact lw_val0 h1 (h _ h2)
  | some d => exact lw_val h1 (Nat.le_of_ble_eq_true hd) (h _ h2)
end
end Go.Bur
namespace Go.Bur
open Go Go.RowKit
section
variable {P : Program} {n : Nat} {Q : QF} {f : Fr} {w w' : World} {ops : Array Oper} {rest : List Oper} {ty : TypeId} {pos : String} {aft : Array Edge} {g : Option (Nat × Bool)} {d : Nat}
variable {ρ : Operand → Value} {W0 : World} {V V' : PH} {L L' : List (Nat × Obj)} {S : World → Prop} {m i : Nat} {t : Plan}
def SlG {α : Type} [Enc α] (V : PH) (a : Option Addr) (cap : Nat) (xs : List α) : Prop :=
  xs = [] ∨ ∃ b o c, a = some ⟨b, o, none⟩ ∧ (∃ T z, V b = some (.cells c T z)) ∧ AtL c.toList o xs ∧ xs.length ≤ cap
theorem SlG.mono {α : Type} [Enc α] {a : Option Addr} {cap : Nat} {xs : List α} (h : SlG V a cap xs) (hV : V ≤ V') : SlG V' a cap xs := by
  rcases h with h | ⟨b, o, c, h1, ⟨T, z, h2⟩, h3⟩
  · exact .inl h
  · exact .inr ⟨b, o, c, h1, ⟨T, z, hV _ _ h2⟩, h3⟩
theorem SlG.slice {α : Type} [Enc α] {a : Option Addr} {cap l h m : Nat} {xs : List α} (hs : SlG V a cap xs) (hl : l ≤ h) (hh : h ≤ xs.length) (hm : m ≤ cap) (hm' : h ≤ m) :
    SlG V (slA a m l (Enc.size α)) (m - l) ((xs.take h).drop l) := by
  rcases hs with rfl | ⟨b, o, c, rfl, h2, h3, h4⟩
  · left; simp
  · by_cases hml : m = l
    · left
      have : h = l := by omega
      subst this
      simp
    · right
      refine ⟨b, o + l * Enc.size α, c, ?_, h2, (h3.take h hh).drop l (by simp; omega), by simp; omega⟩
      simp [slA, hml, addr_add]
theorem pw_indexSlG {α : Type} [Enc α] {t' E : TypeId} {x y : Operand} {d : Nat} {k : IntKind} {a : Option Addr} {cp m' : Nat} {j : Int} {xs : List α} (hi' : ops[i]? = some ⟨some d, .indexAddr t' x y, ty, pos, aft, g⟩) (hw : Wt ops f ⟨some d, .indexAddr t' x y, ty, pos, aft, g⟩ true)
    (ht : P.underlying t' = some (.slice E)) (hE : TyOk P E α) (hx : ev f x = .slice a m' cp) (hm : m' = xs.length) (hy : ev f y = .int k j) (hi : 0 ≤ j ∧ j < xs.length) (hsl : SlG V a cp xs) (hd : d < n) (hS : m.testBit i = true → S w)
    (h : ∀ b o c, (∃ T z, V b = some (.cells c T z)) → At c.toList o (xs[j.toNat]'(by omega)) → PW P n ops Q S m t (upd f d (ptr b o)) w) : PW P n ops Q S m (.take i t) f w := by
  subst hm
  rcases hsl with rfl | ⟨b, o, c, rfl, h2, h3, h4⟩
  · simp at hi; omega
  · have e : j = (j.toNat : Int) := by omega
    rw [e] at hy
    have hp := p_indexAddr (P := P) (d := some d) (ty := ty) (pos := pos) (aft := aft) (g := g) ht hE.size hx hy (by omega)
    rw [addr_add] at hp
    exact pw_pur hi' hw hp hd hS (h _ _ _ h2 (h3.at j.toNat (by omega)))
theorem Hold.runs_loadVG {d' : Option Nat} {α : Type} [Enc α] {K : List (Nat × Obj)} {T : TypeId} {x : Operand} {b o : Nat} {c : Array Value} {y : α} (hT : TyOk P T α) (hx : ev f x = ptr b o)
    (hb : ∃ t z, V b = some (.cells c t z)) (ha : At c.toList o y) : ∀ w, Hold V K w → Runs P (ev f) ⟨d', .load T x, ty, pos, aft, g⟩ w (val y) w := fun w h => by
  obtain ⟨t, z, hb⟩ := hb
  exact r_load hT hx (h.1 _ _ hb) ha
end
end Go.Bur
namespace Go.Bur
open Go Go.RowKit Go.Proofs
theorem hmix : Tryz.prog.follows .mixedOrders = true := by kernel_rfl
theorem ty2 : TyOk Tryz.prog 2 Int := ⟨by kernel_rfl, ⟨_, Tryz.underlying2, rfl⟩⟩
theorem z2 : ZeroOk Tryz.prog 2 (0 : Int) := fun w => (Tryz.zeroValue2 w).trans (congrArg (fun v => Result.ok v w) (by kernel_rfl))
theorem ty3 : TyOk Tryz.prog 3 Int := ⟨by kernel_rfl, ⟨_, Tryz.underlying3, rfl⟩⟩
theorem z3 : ZeroOk Tryz.prog 3 (0 : Int) := fun w => (Tryz.zeroValue3 w).trans (congrArg (fun v => Result.ok v w) (by kernel_rfl))
theorem ty4 : TyOk Tryz.prog 4 Bool := ⟨by kernel_rfl, ⟨_, Tryz.underlying4, rfl⟩⟩
theorem ty5 : TyOk Tryz.prog 5 UInt8 := ⟨by kernel_rfl, ⟨_, Tryz.underlying5, rfl⟩⟩
theorem z5 : ZeroOk Tryz.prog 5 (0 : UInt8) := fun w => (Tryz.zeroValue5 w).trans (congrArg (fun v => Result.ok v w) (by kernel_rfl))
theorem ty9 : TyOk Tryz.prog 9 Str := ⟨by kernel_rfl, ⟨_, Tryz.underlying9, rfl⟩⟩
theorem ty22 : TyOk Tryz.prog 22 GSl := ⟨by kernel_rfl, ⟨_, Tryz.underlying22, rfl⟩⟩
theorem ty23 : TyOk Tryz.prog 23 UInt64 := ⟨by kernel_rfl, ⟨_, Tryz.underlying23, rfl⟩⟩
theorem ty25 : TyOk Tryz.prog 25 GRules := ⟨by kernel_rfl, ⟨_, Tryz.underlying25, rfl⟩⟩
theorem z25 : ZeroOk Tryz.prog 25 (GRules.zero : GRules) := fun w => (Tryz.zeroValue25 w).trans (congrArg (fun v => Result.ok v w) (by kernel_rfl))
theorem fo25_0 : FieldOk Tryz.prog 25 0 0 := ⟨_, _, Tryz.underlying25, rfl, rfl, 0, by kernel_rfl⟩
theorem fo25_1 : FieldOk Tryz.prog 25 1 1 := ⟨_, _, Tryz.underlying25, rfl, rfl, 0, by kernel_rfl⟩
theorem fo25_2 : FieldOk Tryz.prog 25 2 2 := ⟨_, _, Tryz.underlying25, rfl, rfl, 0, by kernel_rfl⟩
theorem fo25_3 : FieldOk Tryz.prog 25 3 3 := ⟨_, _, Tryz.underlying25, rfl, rfl, 0, by kernel_rfl⟩
theorem fo25_4 : FieldOk Tryz.prog 25 4 4 := ⟨_, _, Tryz.underlying25, rfl, rfl, 0, by kernel_rfl⟩
theorem fo25_5 : FieldOk Tryz.prog 25 5 5 := ⟨_, _, Tryz.underlying25, rfl, rfl, 0, by kernel_rfl⟩
theorem fo25_6 : FieldOk Tryz.prog 25 6 6 := ⟨_, _, Tryz.underlying25, rfl, rfl, 0, by kernel_rfl⟩
theorem fo25_7 : FieldOk Tryz.prog 25 7 7 := ⟨_, _, Tryz.underlying25, rfl, rfl, 0, by kernel_rfl⟩
theorem fo25_8 : FieldOk Tryz.prog 25 8 8 := ⟨_, _, Tryz.underlying25, rfl, rfl, 0, by kernel_rfl⟩
theorem fo25_9 : FieldOk Tryz.prog 25 9 9 := ⟨_, _, Tryz.underlying25, rfl, rfl, 0, by kernel_rfl⟩
theorem ty27 : TyOk Tryz.prog 27 (Vec 32 UInt8) := ⟨by kernel_rfl, ⟨_, Tryz.underlying27, rfl⟩⟩
theorem z27 : ZeroOk Tryz.prog 27 ((Vector.replicate 32 0) : (Vec 32 UInt8)) := fun w => (Tryz.zeroValue27 w).trans (congrArg (fun v => Result.ok v w) (by kernel_rfl))
theorem ty28 : TyOk Tryz.prog 28 GSl := ⟨by kernel_rfl, ⟨_, Tryz.underlying28, rfl⟩⟩
theorem ty29 : TyOk Tryz.prog 29 GSl := ⟨by kernel_rfl, ⟨_, Tryz.underlying29, rfl⟩⟩
theorem ty30 : TyOk Tryz.prog 30 GSl := ⟨by kernel_rfl, ⟨_, Tryz.underlying30, rfl⟩⟩
theorem ty31 : TyOk Tryz.prog 31 GSl := ⟨by kernel_rfl, ⟨_, Tryz.underlying31, rfl⟩⟩
theorem ty32 : TyOk Tryz.prog 32 GSl := ⟨by kernel_rfl, ⟨_, Tryz.underlying32, rfl⟩⟩
theorem ty33 : TyOk Tryz.prog 33 GSl := ⟨by kernel_rfl, ⟨_, Tryz.underlying33, rfl⟩⟩
theorem ty35 : TyOk Tryz.prog 35 GDaemon := ⟨by kernel_rfl, ⟨_, Tryz.underlying35, rfl⟩⟩
theorem z35 : ZeroOk Tryz.prog 35 (GDaemon.zero : GDaemon) := fun w => (Tryz.zeroValue35 w).trans (congrArg (fun v => Result.ok v w) (by kernel_rfl))
theorem fo35_0 : FieldOk Tryz.prog 35 0 0 := ⟨_, _, Tryz.underlying35, rfl, rfl, 9, by kernel_rfl⟩
theorem fo35_3 : FieldOk Tryz.prog 35 3 74 := ⟨_, _, Tryz.underlying35, rfl, rfl, 0, by kernel_rfl⟩
theorem fo35_5 : FieldOk Tryz.prog 35 5 107 := ⟨_, _, Tryz.underlying35, rfl, rfl, 0, by kernel_rfl⟩
theorem fo35_6 : FieldOk Tryz.prog 35 6 108 := ⟨_, _, Tryz.underlying35, rfl, rfl, 0, by kernel_rfl⟩
theorem fo35_7 : FieldOk Tryz.prog 35 7 109 := ⟨_, _, Tryz.underlying35, rfl, rfl, 0, by kernel_rfl⟩
theorem fo35_8 : FieldOk Tryz.prog 35 8 110 := ⟨_, _, Tryz.underlying35, rfl, rfl, 0, by kernel_rfl⟩
theorem fo35_9 : FieldOk Tryz.prog 35 9 111 := ⟨_, _, Tryz.underlying35, rfl, rfl, 0, by kernel_rfl⟩
theorem fo35_10 : FieldOk Tryz.prog 35 10 112 := ⟨_, _, Tryz.underlying35, rfl, rfl, 31, by kernel_rfl⟩
theorem fo35_11 : FieldOk Tryz.prog 35 11 144 := ⟨_, _, Tryz.underlying35, rfl, rfl, 0, by kernel_rfl⟩
theorem fo35_12 : FieldOk Tryz.prog 35 12 145 := ⟨_, _, Tryz.underlying35, rfl, rfl, 0, by kernel_rfl⟩
theorem fo35_13 : FieldOk Tryz.prog 35 13 146 := ⟨_, _, Tryz.underlying35, rfl, rfl, 0, by kernel_rfl⟩
theorem fo35_14 : FieldOk Tryz.prog 35 14 147 := ⟨_, _, Tryz.underlying35, rfl, rfl, 0, by kernel_rfl⟩
theorem ty39 : TyOk Tryz.prog 39 (Vec 16 UInt8) := ⟨by kernel_rfl, ⟨_, Tryz.underlying39, rfl⟩⟩
theorem z39 : ZeroOk Tryz.prog 39 ((Vector.replicate 16 0) : (Vec 16 UInt8)) := fun w => (Tryz.zeroValue39 w).trans (congrArg (fun v => Result.ok v w) (by kernel_rfl))
theorem ty41 : TyOk Tryz.prog 41 GAddr := ⟨by kernel_rfl, ⟨_, Tryz.underlying41, rfl⟩⟩
theorem z41 : ZeroOk Tryz.prog 41 (GAddr.zero : GAddr) := fun w => (Tryz.zeroValue41 w).trans (congrArg (fun v => Result.ok v w) (by kernel_rfl))
theorem fo41_0 : FieldOk Tryz.prog 41 0 0 := ⟨_, _, Tryz.underlying41, rfl, rfl, 0, by kernel_rfl⟩
theorem fo41_1 : FieldOk Tryz.prog 41 1 1 := ⟨_, _, Tryz.underlying41, rfl, rfl, 15, by kernel_rfl⟩
theorem ty43 : TyOk Tryz.prog 43 GEndpoint := ⟨by kernel_rfl, ⟨_, Tryz.underlying43, rfl⟩⟩
theorem z43 : ZeroOk Tryz.prog 43 (GEndpoint.zero : GEndpoint) := fun w => (Tryz.zeroValue43 w).trans (congrArg (fun v => Result.ok v w) (by kernel_rfl))
theorem fo43_0 : FieldOk Tryz.prog 43 0 0 := ⟨_, _, Tryz.underlying43, rfl, rfl, 16, by kernel_rfl⟩
theorem fo43_1 : FieldOk Tryz.prog 43 1 17 := ⟨_, _, Tryz.underlying43, rfl, rfl, 0, by kernel_rfl⟩
theorem ty45 : TyOk Tryz.prog 45 (Vec 12 UInt8) := ⟨by kernel_rfl, ⟨_, Tryz.underlying45, rfl⟩⟩
theorem ty46 : TyOk Tryz.prog 46 UInt32 := ⟨by kernel_rfl, ⟨_, Tryz.underlying46, rfl⟩⟩
theorem z46 : ZeroOk Tryz.prog 46 (0 : UInt32) := fun w => (Tryz.zeroValue46 w).trans (congrArg (fun v => Result.ok v w) (by kernel_rfl))
theorem ty48 : TyOk Tryz.prog 48 GNoise := ⟨by kernel_rfl, ⟨_, Tryz.underlying48, rfl⟩⟩
theorem ty50 : TyOk Tryz.prog 50 GHand := ⟨by kernel_rfl, ⟨_, Tryz.underlying50, rfl⟩⟩
theorem z50 : ZeroOk Tryz.prog 50 (GHand.zero : GHand) := fun w => (Tryz.zeroValue50 w).trans (congrArg (fun v => Result.ok v w) (by kernel_rfl))
theorem fo50_0 : FieldOk Tryz.prog 50 0 0 := ⟨_, _, Tryz.underlying50, rfl, rfl, 0, by kernel_rfl⟩
theorem fo50_1 : FieldOk Tryz.prog 50 1 1 := ⟨_, _, Tryz.underlying50, rfl, rfl, 0, by kernel_rfl⟩
theorem ty51 : TyOk Tryz.prog 51 (Vec 16 UInt8) := ⟨by kernel_rfl, ⟨_, Tryz.underlying51, rfl⟩⟩
theorem z51 : ZeroOk Tryz.prog 51 ((Vector.replicate 16 0) : (Vec 16 UInt8)) := fun w => (Tryz.zeroValue51 w).trans (congrArg (fun v => Result.ok v w) (by kernel_rfl))
theorem ty52 : TyOk Tryz.prog 52 (Vec 4 UInt64) := ⟨by kernel_rfl, ⟨_, Tryz.underlying52, rfl⟩⟩
theorem ty54 : TyOk Tryz.prog 54 GWindow := ⟨by kernel_rfl, ⟨_, Tryz.underlying54, rfl⟩⟩
theorem z54 : ZeroOk Tryz.prog 54 (GWindow.zero : GWindow) := fun w => (Tryz.zeroValue54 w).trans (congrArg (fun v => Result.ok v w) (by kernel_rfl))
theorem fo54_0 : FieldOk Tryz.prog 54 0 0 := ⟨_, _, Tryz.underlying54, rfl, rfl, 0, by kernel_rfl⟩
theorem fo54_1 : FieldOk Tryz.prog 54 1 1 := ⟨_, _, Tryz.underlying54, rfl, rfl, 0, by kernel_rfl⟩
theorem fo54_2 : FieldOk Tryz.prog 54 2 2 := ⟨_, _, Tryz.underlying54, rfl, rfl, 3, by kernel_rfl⟩
theorem ty56 : TyOk Tryz.prog 56 GSession := ⟨by kernel_rfl, ⟨_, Tryz.underlying56, rfl⟩⟩
theorem z56 : ZeroOk Tryz.prog 56 (GSession.zero : GSession) := fun w => (Tryz.zeroValue56 w).trans (congrArg (fun v => Result.ok v w) (by kernel_rfl))
theorem fo56_0 : FieldOk Tryz.prog 56 0 0 := ⟨_, _, Tryz.underlying56, rfl, rfl, 0, by kernel_rfl⟩
theorem fo56_2 : FieldOk Tryz.prog 56 2 2 := ⟨_, _, Tryz.underlying56, rfl, rfl, 31, by kernel_rfl⟩
theorem fo56_3 : FieldOk Tryz.prog 56 3 34 := ⟨_, _, Tryz.underlying56, rfl, rfl, 31, by kernel_rfl⟩
theorem fo56_4 : FieldOk Tryz.prog 56 4 66 := ⟨_, _, Tryz.underlying56, rfl, rfl, 0, by kernel_rfl⟩
theorem fo56_5 : FieldOk Tryz.prog 56 5 67 := ⟨_, _, Tryz.underlying56, rfl, rfl, 0, by kernel_rfl⟩
theorem fo56_6 : FieldOk Tryz.prog 56 6 68 := ⟨_, _, Tryz.underlying56, rfl, rfl, 5, by kernel_rfl⟩
theorem fo56_7 : FieldOk Tryz.prog 56 7 74 := ⟨_, _, Tryz.underlying56, rfl, rfl, 0, by kernel_rfl⟩
theorem ty58 : TyOk Tryz.prog 58 GPlace := ⟨by kernel_rfl, ⟨_, Tryz.underlying58, rfl⟩⟩
theorem z58 : ZeroOk Tryz.prog 58 (GPlace.zero : GPlace) := fun w => (Tryz.zeroValue58 w).trans (congrArg (fun v => Result.ok v w) (by kernel_rfl))
theorem fo58_0 : FieldOk Tryz.prog 58 0 0 := ⟨_, _, Tryz.underlying58, rfl, rfl, 0, by kernel_rfl⟩
theorem fo58_1 : FieldOk Tryz.prog 58 1 1 := ⟨_, _, Tryz.underlying58, rfl, rfl, 75, by kernel_rfl⟩
theorem ty60 : TyOk Tryz.prog 60 GRing := ⟨by kernel_rfl, ⟨_, Tryz.underlying60, rfl⟩⟩
theorem z60 : ZeroOk Tryz.prog 60 (GRing.zero : GRing) := fun w => (Tryz.zeroValue60 w).trans (congrArg (fun v => Result.ok v w) (by kernel_rfl))
theorem fo60_0 : FieldOk Tryz.prog 60 0 0 := ⟨_, _, Tryz.underlying60, rfl, rfl, 76, by kernel_rfl⟩
theorem fo60_1 : FieldOk Tryz.prog 60 1 77 := ⟨_, _, Tryz.underlying60, rfl, rfl, 76, by kernel_rfl⟩
theorem fo60_2 : FieldOk Tryz.prog 60 2 154 := ⟨_, _, Tryz.underlying60, rfl, rfl, 76, by kernel_rfl⟩
theorem ty61 : TyOk Tryz.prog 61 GSl := ⟨by kernel_rfl, ⟨_, Tryz.underlying61, rfl⟩⟩
theorem ty63 : TyOk Tryz.prog 63 GPeer := ⟨by kernel_rfl, ⟨_, Tryz.underlying63, rfl⟩⟩
theorem z63 : ZeroOk Tryz.prog 63 (GPeer.zero : GPeer) := fun w => (Tryz.zeroValue63 w).trans (congrArg (fun v => Result.ok v w) (by kernel_rfl))
theorem fo63_0 : FieldOk Tryz.prog 63 0 0 := ⟨_, _, Tryz.underlying63, rfl, rfl, 31, by kernel_rfl⟩
theorem fo63_1 : FieldOk Tryz.prog 63 1 32 := ⟨_, _, Tryz.underlying63, rfl, rfl, 31, by kernel_rfl⟩
theorem fo63_2 : FieldOk Tryz.prog 63 2 64 := ⟨_, _, Tryz.underlying63, rfl, rfl, 0, by kernel_rfl⟩
theorem fo63_3 : FieldOk Tryz.prog 63 3 65 := ⟨_, _, Tryz.underlying63, rfl, rfl, 17, by kernel_rfl⟩
theorem fo63_4 : FieldOk Tryz.prog 63 4 83 := ⟨_, _, Tryz.underlying63, rfl, rfl, 0, by kernel_rfl⟩
theorem fo63_5 : FieldOk Tryz.prog 63 5 84 := ⟨_, _, Tryz.underlying63, rfl, rfl, 11, by kernel_rfl⟩
theorem fo63_6 : FieldOk Tryz.prog 63 6 96 := ⟨_, _, Tryz.underlying63, rfl, rfl, 0, by kernel_rfl⟩
theorem fo63_7 : FieldOk Tryz.prog 63 7 97 := ⟨_, _, Tryz.underlying63, rfl, rfl, 0, by kernel_rfl⟩
theorem fo63_8 : FieldOk Tryz.prog 63 8 98 := ⟨_, _, Tryz.underlying63, rfl, rfl, 99, by kernel_rfl⟩
theorem fo63_9 : FieldOk Tryz.prog 63 9 198 := ⟨_, _, Tryz.underlying63, rfl, rfl, 0, by kernel_rfl⟩
theorem fo63_10 : FieldOk Tryz.prog 63 10 199 := ⟨_, _, Tryz.underlying63, rfl, rfl, 15, by kernel_rfl⟩
theorem fo63_11 : FieldOk Tryz.prog 63 11 215 := ⟨_, _, Tryz.underlying63, rfl, rfl, 0, by kernel_rfl⟩
theorem fo63_12 : FieldOk Tryz.prog 63 12 216 := ⟨_, _, Tryz.underlying63, rfl, rfl, 15, by kernel_rfl⟩
theorem fo63_13 : FieldOk Tryz.prog 63 13 232 := ⟨_, _, Tryz.underlying63, rfl, rfl, 230, by kernel_rfl⟩
theorem fo63_14 : FieldOk Tryz.prog 63 14 463 := ⟨_, _, Tryz.underlying63, rfl, rfl, 0, by kernel_rfl⟩
theorem ty69 : TyOk Tryz.prog 69 GSlot := ⟨by kernel_rfl, ⟨_, Tryz.underlying69, rfl⟩⟩
theorem z69 : ZeroOk Tryz.prog 69 (GSlot.zero : GSlot) := fun w => (Tryz.zeroValue69 w).trans (congrArg (fun v => Result.ok v w) (by kernel_rfl))
theorem fo69_0 : FieldOk Tryz.prog 69 0 0 := ⟨_, _, Tryz.underlying69, rfl, rfl, 0, by kernel_rfl⟩
theorem fo69_1 : FieldOk Tryz.prog 69 1 1 := ⟨_, _, Tryz.underlying69, rfl, rfl, 31, by kernel_rfl⟩
theorem fo69_2 : FieldOk Tryz.prog 69 2 33 := ⟨_, _, Tryz.underlying69, rfl, rfl, 0, by kernel_rfl⟩
theorem ty71 : TyOk Tryz.prog 71 GPrefix := ⟨by kernel_rfl, ⟨_, Tryz.underlying71, rfl⟩⟩
theorem z71 : ZeroOk Tryz.prog 71 (GPrefix.zero : GPrefix) := fun w => (Tryz.zeroValue71 w).trans (congrArg (fun v => Result.ok v w) (by kernel_rfl))
theorem fo71_0 : FieldOk Tryz.prog 71 0 0 := ⟨_, _, Tryz.underlying71, rfl, rfl, 16, by kernel_rfl⟩
theorem fo71_1 : FieldOk Tryz.prog 71 1 17 := ⟨_, _, Tryz.underlying71, rfl, rfl, 0, by kernel_rfl⟩
theorem ty73 : TyOk Tryz.prog 73 GRoute := ⟨by kernel_rfl, ⟨_, Tryz.underlying73, rfl⟩⟩
theorem z73 : ZeroOk Tryz.prog 73 (GRoute.zero : GRoute) := fun w => (Tryz.zeroValue73 w).trans (congrArg (fun v => Result.ok v w) (by kernel_rfl))
theorem fo73_0 : FieldOk Tryz.prog 73 0 0 := ⟨_, _, Tryz.underlying73, rfl, rfl, 17, by kernel_rfl⟩
theorem fo73_1 : FieldOk Tryz.prog 73 1 18 := ⟨_, _, Tryz.underlying73, rfl, rfl, 31, by kernel_rfl⟩
theorem ty75 : TyOk Tryz.prog 75 GTimer := ⟨by kernel_rfl, ⟨_, Tryz.underlying75, rfl⟩⟩
theorem z75 : ZeroOk Tryz.prog 75 (GTimer.zero : GTimer) := fun w => (Tryz.zeroValue75 w).trans (congrArg (fun v => Result.ok v w) (by kernel_rfl))
theorem fo75_0 : FieldOk Tryz.prog 75 0 0 := ⟨_, _, Tryz.underlying75, rfl, rfl, 0, by kernel_rfl⟩
theorem fo75_1 : FieldOk Tryz.prog 75 1 1 := ⟨_, _, Tryz.underlying75, rfl, rfl, 31, by kernel_rfl⟩
theorem fo75_2 : FieldOk Tryz.prog 75 2 33 := ⟨_, _, Tryz.underlying75, rfl, rfl, 0, by kernel_rfl⟩
theorem z93 : ZeroOk Tryz.prog 93 (GCodes.zero : GCodes) := fun w => (Tryz.zeroValue93 w).trans (congrArg (fun v => Result.ok v w) (by kernel_rfl))
theorem fo93_0 : FieldOk Tryz.prog 93 0 0 := ⟨_, _, Tryz.underlying93, rfl, rfl, 0, by kernel_rfl⟩
theorem fo93_1 : FieldOk Tryz.prog 93 1 1 := ⟨_, _, Tryz.underlying93, rfl, rfl, 0, by kernel_rfl⟩
theorem ty96 : TyOk Tryz.prog 96 GSl := ⟨by kernel_rfl, ⟨_, Tryz.underlying96, rfl⟩⟩
theorem z99 : ZeroOk Tryz.prog 99 (GCall.zero : GCall) := fun w => (Tryz.zeroValue99 w).trans (congrArg (fun v => Result.ok v w) (by kernel_rfl))
theorem fo99_0 : FieldOk Tryz.prog 99 0 0 := ⟨_, _, Tryz.underlying99, rfl, rfl, 147, by kernel_rfl⟩
theorem fo99_1 : FieldOk Tryz.prog 99 1 148 := ⟨_, _, Tryz.underlying99, rfl, rfl, 0, by kernel_rfl⟩
theorem fo99_2 : FieldOk Tryz.prog 99 2 149 := ⟨_, _, Tryz.underlying99, rfl, rfl, 0, by kernel_rfl⟩
theorem ty100 : TyOk Tryz.prog 100 GFun := ⟨by kernel_rfl, ⟨_, Tryz.underlying100, rfl⟩⟩
theorem ty102 : TyOk Tryz.prog 102 GCommand := ⟨by kernel_rfl, ⟨_, Tryz.underlying102, rfl⟩⟩
theorem z102 : ZeroOk Tryz.prog 102 (GCommand.zero : GCommand) := fun w => (Tryz.zeroValue102 w).trans (congrArg (fun v => Result.ok v w) (by kernel_rfl))
theorem fo102_0 : FieldOk Tryz.prog 102 0 0 := ⟨_, _, Tryz.underlying102, rfl, rfl, 0, by kernel_rfl⟩
theorem fo102_1 : FieldOk Tryz.prog 102 1 1 := ⟨_, _, Tryz.underlying102, rfl, rfl, 0, by kernel_rfl⟩
theorem fo102_2 : FieldOk Tryz.prog 102 2 2 := ⟨_, _, Tryz.underlying102, rfl, rfl, 0, by kernel_rfl⟩
theorem z113 : ZeroOk Tryz.prog 113 (GEvent.zero : GEvent) := fun w => (Tryz.zeroValue113 w).trans (congrArg (fun v => Result.ok v w) (by kernel_rfl))
theorem fo113_0 : FieldOk Tryz.prog 113 0 0 := ⟨_, _, Tryz.underlying113, rfl, rfl, 0, by kernel_rfl⟩
theorem fo113_4 : FieldOk Tryz.prog 113 4 21 := ⟨_, _, Tryz.underlying113, rfl, rfl, 0, by kernel_rfl⟩
theorem ty115 : TyOk Tryz.prog 115 GOutput := ⟨by kernel_rfl, ⟨_, Tryz.underlying115, rfl⟩⟩
theorem z115 : ZeroOk Tryz.prog 115 (GOutput.zero : GOutput) := fun w => (Tryz.zeroValue115 w).trans (congrArg (fun v => Result.ok v w) (by kernel_rfl))
theorem fo115_0 : FieldOk Tryz.prog 115 0 0 := ⟨_, _, Tryz.underlying115, rfl, rfl, 0, by kernel_rfl⟩
theorem fo115_6 : FieldOk Tryz.prog 115 6 85 := ⟨_, _, Tryz.underlying115, rfl, rfl, 0, by kernel_rfl⟩
theorem ty128 : TyOk Tryz.prog 128 GRMach := ⟨by kernel_rfl, ⟨_, Tryz.underlying128, rfl⟩⟩
theorem z128 : ZeroOk Tryz.prog 128 (GRMach.zero : GRMach) := fun w => (Tryz.zeroValue128 w).trans (congrArg (fun v => Result.ok v w) (by kernel_rfl))
theorem fo128_0 : FieldOk Tryz.prog 128 0 0 := ⟨_, _, Tryz.underlying128, rfl, rfl, 147, by kernel_rfl⟩
theorem ty148 : TyOk Tryz.prog 148 GBucket := ⟨by kernel_rfl, ⟨_, Tryz.underlying148, rfl⟩⟩
theorem z192 : ZeroOk Tryz.prog 192 (GMach.zero : GMach) := fun w => (Tryz.zeroValue192 w).trans (congrArg (fun v => Result.ok v w) (by kernel_rfl))
theorem fo192_0 : FieldOk Tryz.prog 192 0 0 := ⟨_, _, Tryz.underlying192, rfl, rfl, 147, by kernel_rfl⟩
theorem z238 : ZeroOk Tryz.prog 238 (GWTimer.zero : GWTimer) := fun w => (Tryz.zeroValue238 w).trans (congrArg (fun v => Result.ok v w) (by kernel_rfl))
theorem fo238_0 : FieldOk Tryz.prog 238 0 0 := ⟨_, _, Tryz.underlying238, rfl, rfl, 33, by kernel_rfl⟩
theorem el22 : ElemOk Tryz.prog 22 5 UInt8 1 := ⟨Tryz.underlying22, ty5, ⟨Tryz.t5, val (0 : UInt8), by kernel_rfl, by kernel_rfl, by kernel_rfl, by kernel_rfl⟩, by decide⟩
theorem el28 : ElemOk Tryz.prog 28 63 GPeer 808 := ⟨Tryz.underlying28, ty63, ⟨Tryz.t63, val (GPeer.zero : GPeer), by kernel_rfl, by kernel_rfl, by kernel_rfl, by kernel_rfl⟩, by decide⟩
theorem el29 : ElemOk Tryz.prog 29 73 GRoute 64 := ⟨Tryz.underlying29, ty73, ⟨Tryz.t73, val (GRoute.zero : GRoute), by kernel_rfl, by kernel_rfl, by kernel_rfl, by kernel_rfl⟩, by decide⟩
theorem el30 : ElemOk Tryz.prog 30 69 GSlot 40 := ⟨Tryz.underlying30, ty69, ⟨Tryz.t69, val (GSlot.zero : GSlot), by kernel_rfl, by kernel_rfl, by kernel_rfl, by kernel_rfl⟩, by decide⟩
theorem el31 : ElemOk Tryz.prog 31 75 GTimer 48 := ⟨Tryz.underlying31, ty75, ⟨Tryz.t75, val (GTimer.zero : GTimer), by kernel_rfl, by kernel_rfl, by kernel_rfl, by kernel_rfl⟩, by decide⟩
theorem el32 : ElemOk Tryz.prog 32 2 Int 8 := ⟨Tryz.underlying32, ty2, ⟨Tryz.t2, val (0 : Int), by kernel_rfl, by kernel_rfl, by kernel_rfl, by kernel_rfl⟩, by decide⟩
theorem el33 : ElemOk Tryz.prog 33 148 GBucket 40 := ⟨Tryz.underlying33, ty148, ⟨Tryz.t148, val (GBucket.zero : GBucket), by kernel_rfl, by kernel_rfl, by kernel_rfl, by kernel_rfl⟩, by decide⟩
theorem el96 : ElemOk Tryz.prog 96 9 Str 16 := ⟨Tryz.underlying96, ty9, ⟨Tryz.t9, val ([] : Str), by kernel_rfl, by kernel_rfl, by kernel_rfl, by kernel_rfl⟩, by decide⟩
theorem el109 : ElemOk Tryz.prog 109 115 GOutput 152 := ⟨Tryz.underlying109, ty115, ⟨Tryz.t115, val (GOutput.zero : GOutput), by kernel_rfl, by kernel_rfl, by kernel_rfl, by kernel_rfl⟩, by decide⟩
theorem el130 : ElemOk Tryz.prog 130 46 UInt32 4 := ⟨Tryz.underlying130, ty46, ⟨Tryz.t46, val (0 : UInt32), by kernel_rfl, by kernel_rfl, by kernel_rfl, by kernel_rfl⟩, by decide⟩
theorem el201 : ElemOk Tryz.prog 201 58 GPlace 160 := ⟨Tryz.underlying201, ty58, ⟨Tryz.t58, val (GPlace.zero : GPlace), by kernel_rfl, by kernel_rfl, by kernel_rfl, by kernel_rfl⟩, by decide⟩
theorem el305 : ElemOk Tryz.prog 305 3 Int 8 := ⟨Tryz.underlying305, ty3, ⟨Tryz.t3, val (0 : Int), by kernel_rfl, by kernel_rfl, by kernel_rfl, by kernel_rfl⟩, by decide⟩
theorem eqt2 : EqT Tryz.prog 2 Int 1 := eqT_int Tryz.underlying2 rfl
theorem eqt3 : EqT Tryz.prog 3 Int 1 := eqT_int Tryz.underlying3 rfl
theorem eqt4 : EqT Tryz.prog 4 Bool 1 := eqT_bool Tryz.underlying4
theorem eqt5 : EqT Tryz.prog 5 UInt8 1 := eqT_u8 Tryz.underlying5
theorem eqt23 : EqT Tryz.prog 23 UInt64 1 := eqT_u64 Tryz.underlying23
theorem eqt27 : EqT Tryz.prog 27 (Vec 32 UInt8) 2 := eqT_vec Tryz.underlying27 ty5 eqt5
theorem eq27 : EqOk Tryz.prog 27 (Vec 32 UInt8) := eqt27.ok (by decide) Tryz.eqGuardType27 rfl
theorem eqt39 : EqT Tryz.prog 39 (Vec 16 UInt8) 2 := eqT_vec Tryz.underlying39 ty5 eqt5
theorem eqt41 : EqT Tryz.prog 41 GAddr 3 := fun x y k w hk => by
  obtain ⟨k, rfl⟩ : ∃ j, k = j + 1 := ⟨k - 1, by omega⟩
  show (Op.equalIn (k + 1) 41 (.agg x.cs.toArray) (.agg y.cs.toArray)).run Tryz.prog w = _
  refine (eqT_struct_run Tryz.underlying41 Tryz.stoodInHeld41 _ _ k w).trans ((eqF_cons (a := x.six) (c := y.six) (by decide) ty4 eqt4 (by omega) (at_lens GAddr.l_six x) (at_lens GAddr.l_six y) (eqF_cons (a := x.ip) (c := y.ip) (by decide) ty39 eqt39 (by omega) (at_lens GAddr.l_ip x) (at_lens GAddr.l_ip y) (eqF_nil w))).trans ?_)
  congr 1
  cases x; cases y
  simp only [GAddr.mk.injEq, Bool.decide_and, Bool.and_true]
theorem eq41 : EqOk Tryz.prog 41 GAddr := eqt41.ok (by decide) Tryz.eqGuardType41 rfl
theorem eqt43 : EqT Tryz.prog 43 GEndpoint 4 := fun x y k w hk => by
  obtain ⟨k, rfl⟩ : ∃ j, k = j + 1 := ⟨k - 1, by omega⟩
  show (Op.equalIn (k + 1) 43 (.agg x.cs.toArray) (.agg y.cs.toArray)).run Tryz.prog w = _
  refine (eqT_struct_run Tryz.underlying43 Tryz.stoodInHeld43 _ _ k w).trans ((eqF_cons (a := x.addr) (c := y.addr) (by decide) ty41 eqt41 (by omega) (at_lens GEndpoint.l_addr x) (at_lens GEndpoint.l_addr y) (eqF_cons (a := x.port) (c := y.port) (by decide) ty3 eqt3 (by omega) (at_lens GEndpoint.l_port x) (at_lens GEndpoint.l_port y) (eqF_nil w))).trans ?_)
  congr 1
  cases x; cases y
  simp only [GEndpoint.mk.injEq, Bool.decide_and, Bool.and_true]
theorem eq43 : EqOk Tryz.prog 43 GEndpoint := eqt43.ok (by decide) Tryz.eqGuardType43 rfl
theorem eqt45 : EqT Tryz.prog 45 (Vec 12 UInt8) 2 := eqT_vec Tryz.underlying45 ty5 eqt5
theorem eq45 : EqOk Tryz.prog 45 (Vec 12 UInt8) := eqt45.ok (by decide) Tryz.eqGuardType45 rfl
theorem eqt46 : EqT Tryz.prog 46 UInt32 1 := eqT_u32 Tryz.underlying46
theorem eqt48 : EqT Tryz.prog 48 GNoise 3 := fun x y k w hk => by
  obtain ⟨k, rfl⟩ : ∃ j, k = j + 1 := ⟨k - 1, by omega⟩
  show (Op.equalIn (k + 1) 48 (.agg x.cs.toArray) (.agg y.cs.toArray)).run Tryz.prog w = _
  refine (eqT_struct_run Tryz.underlying48 Tryz.stoodInHeld48 _ _ k w).trans ((eqF_cons (a := x.hash) (c := y.hash) (by decide) ty27 eqt27 (by omega) (at_lens GNoise.l_hash x) (at_lens GNoise.l_hash y) (eqF_cons (a := x.chain) (c := y.chain) (by decide) ty27 eqt27 (by omega) (at_lens GNoise.l_chain x) (at_lens GNoise.l_chain y) (eqF_nil w))).trans ?_)
  congr 1
  cases x; cases y
  simp only [GNoise.mk.injEq, Bool.decide_and, Bool.and_true]
theorem eqt50 : EqT Tryz.prog 50 GHand 4 := fun x y k w hk => by
  obtain ⟨k, rfl⟩ : ∃ j, k = j + 1 := ⟨k - 1, by omega⟩
  show (Op.equalIn (k + 1) 50 (.agg x.cs.toArray) (.agg y.cs.toArray)).run Tryz.prog w = _
  refine (eqT_struct_run Tryz.underlying50 Tryz.stoodInHeld50 _ _ k w).trans ((eqF_cons (a := x.has) (c := y.has) (by decide) ty4 eqt4 (by omega) (at_lens GHand.l_has x) (at_lens GHand.l_has y) (eqF_cons (a := x.loc) (c := y.loc) (by decide) ty46 eqt46 (by omega) (at_lens GHand.l_loc x) (at_lens GHand.l_loc y) (eqF_cons (a := x.ephemeral) (c := y.ephemeral) (by decide) ty27 eqt27 (by omega) (at_lens GHand.l_ephemeral x) (at_lens GHand.l_ephemeral y) (eqF_cons (a := x.noise) (c := y.noise) (by decide) ty48 eqt48 (by omega) (at_lens GHand.l_noise x) (at_lens GHand.l_noise y) (eqF_cons (a := x.started) (c := y.started) (by decide) ty2 eqt2 (by omega) (at_lens GHand.l_started x) (at_lens GHand.l_started y) (eqF_cons (a := x.tried) (c := y.tried) (by decide) ty2 eqt2 (by omega) (at_lens GHand.l_tried x) (at_lens GHand.l_tried y) (eqF_nil w))))))).trans ?_)
  congr 1
  cases x; cases y
  simp only [GHand.mk.injEq, Bool.decide_and, Bool.and_true]
theorem eq50 : EqOk Tryz.prog 50 GHand := eqt50.ok (by decide) Tryz.eqGuardType50 rfl
theorem eqt51 : EqT Tryz.prog 51 (Vec 16 UInt8) 2 := eqT_vec Tryz.underlying51 ty5 eqt5
theorem eq51 : EqOk Tryz.prog 51 (Vec 16 UInt8) := eqt51.ok (by decide) Tryz.eqGuardType51 rfl
theorem eqt52 : EqT Tryz.prog 52 (Vec 4 UInt64) 2 := eqT_vec Tryz.underlying52 ty23 eqt23
theorem eqt54 : EqT Tryz.prog 54 GWindow 3 := fun x y k w hk => by
  obtain ⟨k, rfl⟩ : ∃ j, k = j + 1 := ⟨k - 1, by omega⟩
  show (Op.equalIn (k + 1) 54 (.agg x.cs.toArray) (.agg y.cs.toArray)).run Tryz.prog w = _
  refine (eqT_struct_run Tryz.underlying54 Tryz.stoodInHeld54 _ _ k w).trans ((eqF_cons (a := x.used) (c := y.used) (by decide) ty4 eqt4 (by omega) (at_lens GWindow.l_used x) (at_lens GWindow.l_used y) (eqF_cons (a := x.top) (c := y.top) (by decide) ty23 eqt23 (by omega) (at_lens GWindow.l_top x) (at_lens GWindow.l_top y) (eqF_cons (a := x.words) (c := y.words) (by decide) ty52 eqt52 (by omega) (at_lens GWindow.l_words x) (at_lens GWindow.l_words y) (eqF_nil w)))).trans ?_)
  congr 1
  cases x; cases y
  simp only [GWindow.mk.injEq, Bool.decide_and, Bool.and_true]
theorem eq54 : EqOk Tryz.prog 54 GWindow := eqt54.ok (by decide) Tryz.eqGuardType54 rfl
theorem eqt56 : EqT Tryz.prog 56 GSession 4 := fun x y k w hk => by
  obtain ⟨k, rfl⟩ : ∃ j, k = j + 1 := ⟨k - 1, by omega⟩
  show (Op.equalIn (k + 1) 56 (.agg x.cs.toArray) (.agg y.cs.toArray)).run Tryz.prog w = _
  refine (eqT_struct_run Tryz.underlying56 Tryz.stoodInHeld56 _ _ k w).trans ((eqF_cons (a := x.loc) (c := y.loc) (by decide) ty46 eqt46 (by omega) (at_lens GSession.l_loc x) (at_lens GSession.l_loc y) (eqF_cons (a := x.remote) (c := y.remote) (by decide) ty46 eqt46 (by omega) (at_lens GSession.l_remote x) (at_lens GSession.l_remote y) (eqF_cons (a := x.send) (c := y.send) (by decide) ty27 eqt27 (by omega) (at_lens GSession.l_send x) (at_lens GSession.l_send y) (eqF_cons (a := x.recv) (c := y.recv) (by decide) ty27 eqt27 (by omega) (at_lens GSession.l_recv x) (at_lens GSession.l_recv y) (eqF_cons (a := x.next) (c := y.next) (by decide) ty23 eqt23 (by omega) (at_lens GSession.l_next x) (at_lens GSession.l_next y) (eqF_cons (a := x.fence) (c := y.fence) (by decide) ty23 eqt23 (by omega) (at_lens GSession.l_fence x) (at_lens GSession.l_fence y) (eqF_cons (a := x.window) (c := y.window) (by decide) ty54 eqt54 (by omega) (at_lens GSession.l_window x) (at_lens GSession.l_window y) (eqF_cons (a := x.born) (c := y.born) (by decide) ty2 eqt2 (by omega) (at_lens GSession.l_born x) (at_lens GSession.l_born y) (eqF_cons (a := x.initiator) (c := y.initiator) (by decide) ty4 eqt4 (by omega) (at_lens GSession.l_initiator x) (at_lens GSession.l_initiator y) (eqF_nil w)))))))))).trans ?_)
  congr 1
  cases x; cases y
  simp only [GSession.mk.injEq, Bool.decide_and, Bool.and_true]
theorem eqt58 : EqT Tryz.prog 58 GPlace 5 := fun x y k w hk => by
  obtain ⟨k, rfl⟩ : ∃ j, k = j + 1 := ⟨k - 1, by omega⟩
  show (Op.equalIn (k + 1) 58 (.agg x.cs.toArray) (.agg y.cs.toArray)).run Tryz.prog w = _
  refine (eqT_struct_run Tryz.underlying58 Tryz.stoodInHeld58 _ _ k w).trans ((eqF_cons (a := x.has) (c := y.has) (by decide) ty4 eqt4 (by omega) (at_lens GPlace.l_has x) (at_lens GPlace.l_has y) (eqF_cons (a := x.session) (c := y.session) (by decide) ty56 eqt56 (by omega) (at_lens GPlace.l_session x) (at_lens GPlace.l_session y) (eqF_nil w))).trans ?_)
  congr 1
  cases x; cases y
  simp only [GPlace.mk.injEq, Bool.decide_and, Bool.and_true]
theorem eq58 : EqOk Tryz.prog 58 GPlace := eqt58.ok (by decide) Tryz.eqGuardType58 rfl
theorem eqt60 : EqT Tryz.prog 60 GRing 6 := fun x y k w hk => by
  obtain ⟨k, rfl⟩ : ∃ j, k = j + 1 := ⟨k - 1, by omega⟩
  show (Op.equalIn (k + 1) 60 (.agg x.cs.toArray) (.agg y.cs.toArray)).run Tryz.prog w = _
  refine (eqT_struct_run Tryz.underlying60 Tryz.stoodInHeld60 _ _ k w).trans ((eqF_cons (a := x.previous) (c := y.previous) (by decide) ty58 eqt58 (by omega) (at_lens GRing.l_previous x) (at_lens GRing.l_previous y) (eqF_cons (a := x.current) (c := y.current) (by decide) ty58 eqt58 (by omega) (at_lens GRing.l_current x) (at_lens GRing.l_current y) (eqF_cons (a := x.next) (c := y.next) (by decide) ty58 eqt58 (by omega) (at_lens GRing.l_next x) (at_lens GRing.l_next y) (eqF_nil w)))).trans ?_)
  congr 1
  cases x; cases y
  simp only [GRing.mk.injEq, Bool.decide_and, Bool.and_true]
theorem eq60 : EqOk Tryz.prog 60 GRing := eqt60.ok (by decide) Tryz.eqGuardType60 rfl
theorem eqt71 : EqT Tryz.prog 71 GPrefix 4 := fun x y k w hk => by
  obtain ⟨k, rfl⟩ : ∃ j, k = j + 1 := ⟨k - 1, by omega⟩
  show (Op.equalIn (k + 1) 71 (.agg x.cs.toArray) (.agg y.cs.toArray)).run Tryz.prog w = _
  refine (eqT_struct_run Tryz.underlying71 Tryz.stoodInHeld71 _ _ k w).trans ((eqF_cons (a := x.addr) (c := y.addr) (by decide) ty41 eqt41 (by omega) (at_lens GPrefix.l_addr x) (at_lens GPrefix.l_addr y) (eqF_cons (a := x.bits) (c := y.bits) (by decide) ty3 eqt3 (by omega) (at_lens GPrefix.l_bits x) (at_lens GPrefix.l_bits y) (eqF_nil w))).trans ?_)
  congr 1
  cases x; cases y
  simp only [GPrefix.mk.injEq, Bool.decide_and, Bool.and_true]
theorem eq71 : EqOk Tryz.prog 71 GPrefix := eqt71.ok (by decide) Tryz.eqGuardType71 rfl
theorem fn4 : FnOk Tryz.prog 4 := ⟨_, Tryz.func4, by kernel_rfl, by kernel_rfl⟩
theorem fn5 : FnOk Tryz.prog 5 := ⟨_, Tryz.func5, by kernel_rfl, by kernel_rfl⟩
theorem fn6 : FnOk Tryz.prog 6 := ⟨_, Tryz.func6, by kernel_rfl, by kernel_rfl⟩
theorem fn7 : FnOk Tryz.prog 7 := ⟨_, Tryz.func7, by kernel_rfl, by kernel_rfl⟩
theorem fn8 : FnOk Tryz.prog 8 := ⟨_, Tryz.func8, by kernel_rfl, by kernel_rfl⟩
theorem fn9 : FnOk Tryz.prog 9 := ⟨_, Tryz.func9, by kernel_rfl, by kernel_rfl⟩
theorem fn10 : FnOk Tryz.prog 10 := ⟨_, Tryz.func10, by kernel_rfl, by kernel_rfl⟩
theorem fn11 : FnOk Tryz.prog 11 := ⟨_, Tryz.func11, by kernel_rfl, by kernel_rfl⟩
theorem fn12 : FnOk Tryz.prog 12 := ⟨_, Tryz.func12, by kernel_rfl, by kernel_rfl⟩
theorem fn13 : FnOk Tryz.prog 13 := ⟨_, Tryz.func13, by kernel_rfl, by kernel_rfl⟩
theorem fn14 : FnOk Tryz.prog 14 := ⟨_, Tryz.func14, by kernel_rfl, by kernel_rfl⟩
theorem fn15 : FnOk Tryz.prog 15 := ⟨_, Tryz.func15, by kernel_rfl, by kernel_rfl⟩
theorem fn16 : FnOk Tryz.prog 16 := ⟨_, Tryz.func16, by kernel_rfl, by kernel_rfl⟩
theorem fn17 : FnOk Tryz.prog 17 := ⟨_, Tryz.func17, by kernel_rfl, by kernel_rfl⟩
theorem fn18 : FnOk Tryz.prog 18 := ⟨_, Tryz.func18, by kernel_rfl, by kernel_rfl⟩
theorem fn19 : FnOk Tryz.prog 19 := ⟨_, Tryz.func19, by kernel_rfl, by kernel_rfl⟩
theorem fn20 : FnOk Tryz.prog 20 := ⟨_, Tryz.func20, by kernel_rfl, by kernel_rfl⟩
theorem fn21 : FnOk Tryz.prog 21 := ⟨_, Tryz.func21, by kernel_rfl, by kernel_rfl⟩
theorem fn22 : FnOk Tryz.prog 22 := ⟨_, Tryz.func22, by kernel_rfl, by kernel_rfl⟩
theorem fn23 : FnOk Tryz.prog 23 := ⟨_, Tryz.func23, by kernel_rfl, by kernel_rfl⟩
theorem fn24 : FnOk Tryz.prog 24 := ⟨_, Tryz.func24, by kernel_rfl, by kernel_rfl⟩
theorem fn25 : FnOk Tryz.prog 25 := ⟨_, Tryz.func25, by kernel_rfl, by kernel_rfl⟩
theorem fn26 : FnOk Tryz.prog 26 := ⟨_, Tryz.func26, by kernel_rfl, by kernel_rfl⟩
theorem fn27 : FnOk Tryz.prog 27 := ⟨_, Tryz.func27, by kernel_rfl, by kernel_rfl⟩
theorem fn28 : FnOk Tryz.prog 28 := ⟨_, Tryz.func28, by kernel_rfl, by kernel_rfl⟩
theorem fn29 : FnOk Tryz.prog 29 := ⟨_, Tryz.func29, by kernel_rfl, by kernel_rfl⟩
theorem fn30 : FnOk Tryz.prog 30 := ⟨_, Tryz.func30, by kernel_rfl, by kernel_rfl⟩
theorem fn31 : FnOk Tryz.prog 31 := ⟨_, Tryz.func31, by kernel_rfl, by kernel_rfl⟩
theorem fn32 : FnOk Tryz.prog 32 := ⟨_, Tryz.func32, by kernel_rfl, by kernel_rfl⟩
theorem fn33 : FnOk Tryz.prog 33 := ⟨_, Tryz.func33, by kernel_rfl, by kernel_rfl⟩
theorem fn34 : FnOk Tryz.prog 34 := ⟨_, Tryz.func34, by kernel_rfl, by kernel_rfl⟩
theorem fn35 : FnOk Tryz.prog 35 := ⟨_, Tryz.func35, by kernel_rfl, by kernel_rfl⟩
theorem fn36 : FnOk Tryz.prog 36 := ⟨_, Tryz.func36, by kernel_rfl, by kernel_rfl⟩
theorem fn37 : FnOk Tryz.prog 37 := ⟨_, Tryz.func37, by kernel_rfl, by kernel_rfl⟩
theorem fn38 : FnOk Tryz.prog 38 := ⟨_, Tryz.func38, by kernel_rfl, by kernel_rfl⟩
theorem fn39 : FnOk Tryz.prog 39 := ⟨_, Tryz.func39, by kernel_rfl, by kernel_rfl⟩
theorem fn40 : FnOk Tryz.prog 40 := ⟨_, Tryz.func40, by kernel_rfl, by kernel_rfl⟩
theorem fn41 : FnOk Tryz.prog 41 := ⟨_, Tryz.func41, by kernel_rfl, by kernel_rfl⟩
theorem fn42 : FnOk Tryz.prog 42 := ⟨_, Tryz.func42, by kernel_rfl, by kernel_rfl⟩
theorem fn43 : FnOk Tryz.prog 43 := ⟨_, Tryz.func43, by kernel_rfl, by kernel_rfl⟩
theorem fn44 : FnOk Tryz.prog 44 := ⟨_, Tryz.func44, by kernel_rfl, by kernel_rfl⟩
theorem fn45 : FnOk Tryz.prog 45 := ⟨_, Tryz.func45, by kernel_rfl, by kernel_rfl⟩
theorem fn46 : FnOk Tryz.prog 46 := ⟨_, Tryz.func46, by kernel_rfl, by kernel_rfl⟩
theorem fn47 : FnOk Tryz.prog 47 := ⟨_, Tryz.func47, by kernel_rfl, by kernel_rfl⟩
theorem fn48 : FnOk Tryz.prog 48 := ⟨_, Tryz.func48, by kernel_rfl, by kernel_rfl⟩
theorem fn49 : FnOk Tryz.prog 49 := ⟨_, Tryz.func49, by kernel_rfl, by kernel_rfl⟩
theorem fn50 : FnOk Tryz.prog 50 := ⟨_, Tryz.func50, by kernel_rfl, by kernel_rfl⟩
theorem fn51 : FnOk Tryz.prog 51 := ⟨_, Tryz.func51, by kernel_rfl, by kernel_rfl⟩
theorem fn52 : FnOk Tryz.prog 52 := ⟨_, Tryz.func52, by kernel_rfl, by kernel_rfl⟩
theorem fn53 : FnOk Tryz.prog 53 := ⟨_, Tryz.func53, by kernel_rfl, by kernel_rfl⟩
theorem fn54 : FnOk Tryz.prog 54 := ⟨_, Tryz.func54, by kernel_rfl, by kernel_rfl⟩
theorem fn55 : FnOk Tryz.prog 55 := ⟨_, Tryz.func55, by kernel_rfl, by kernel_rfl⟩
theorem fn59 : FnOk Tryz.prog 59 := ⟨_, Tryz.func59, by kernel_rfl, by kernel_rfl⟩
theorem fn62 : FnOk Tryz.prog 62 := ⟨_, Tryz.func62, by kernel_rfl, by kernel_rfl⟩
theorem fn64 : FnOk Tryz.prog 64 := ⟨_, Tryz.func64, by kernel_rfl, by kernel_rfl⟩
theorem fn65 : FnOk Tryz.prog 65 := ⟨_, Tryz.func65, by kernel_rfl, by kernel_rfl⟩
theorem fn66 : FnOk Tryz.prog 66 := ⟨_, Tryz.func66, by kernel_rfl, by kernel_rfl⟩
theorem fn67 : FnOk Tryz.prog 67 := ⟨_, Tryz.func67, by kernel_rfl, by kernel_rfl⟩
theorem fn69 : FnOk Tryz.prog 69 := ⟨_, Tryz.func69, by kernel_rfl, by kernel_rfl⟩
theorem fn70 : FnOk Tryz.prog 70 := ⟨_, Tryz.func70, by kernel_rfl, by kernel_rfl⟩
theorem fn71 : FnOk Tryz.prog 71 := ⟨_, Tryz.func71, by kernel_rfl, by kernel_rfl⟩
theorem fn72 : FnOk Tryz.prog 72 := ⟨_, Tryz.func72, by kernel_rfl, by kernel_rfl⟩
theorem fn73 : FnOk Tryz.prog 73 := ⟨_, Tryz.func73, by kernel_rfl, by kernel_rfl⟩
theorem fn74 : FnOk Tryz.prog 74 := ⟨_, Tryz.func74, by kernel_rfl, by kernel_rfl⟩
theorem fn75 : FnOk Tryz.prog 75 := ⟨_, Tryz.func75, by kernel_rfl, by kernel_rfl⟩
theorem fn76 : FnOk Tryz.prog 76 := ⟨_, Tryz.func76, by kernel_rfl, by kernel_rfl⟩
theorem fn77 : FnOk Tryz.prog 77 := ⟨_, Tryz.func77, by kernel_rfl, by kernel_rfl⟩
theorem fn78 : FnOk Tryz.prog 78 := ⟨_, Tryz.func78, by kernel_rfl, by kernel_rfl⟩
theorem fn79 : FnOk Tryz.prog 79 := ⟨_, Tryz.func79, by kernel_rfl, by kernel_rfl⟩
theorem fn80 : FnOk Tryz.prog 80 := ⟨_, Tryz.func80, by kernel_rfl, by kernel_rfl⟩
theorem fn83 : FnOk Tryz.prog 83 := ⟨_, Tryz.func83, by kernel_rfl, by kernel_rfl⟩
theorem fn84 : FnOk Tryz.prog 84 := ⟨_, Tryz.func84, by kernel_rfl, by kernel_rfl⟩
theorem fn90 : FnOk Tryz.prog 90 := ⟨_, Tryz.func90, by kernel_rfl, by kernel_rfl⟩
theorem fn91 : FnOk Tryz.prog 91 := ⟨_, Tryz.func91, by kernel_rfl, by kernel_rfl⟩
theorem fn92 : FnOk Tryz.prog 92 := ⟨_, Tryz.func92, by kernel_rfl, by kernel_rfl⟩
theorem fn93 : FnOk Tryz.prog 93 := ⟨_, Tryz.func93, by kernel_rfl, by kernel_rfl⟩
theorem fn96 : FnOk Tryz.prog 96 := ⟨_, Tryz.func96, by kernel_rfl, by kernel_rfl⟩
theorem fn98 : FnOk Tryz.prog 98 := ⟨_, Tryz.func98, by kernel_rfl, by kernel_rfl⟩
theorem fn103 : FnOk Tryz.prog 103 := ⟨_, Tryz.func103, by kernel_rfl, by kernel_rfl⟩
theorem fn108 : FnOk Tryz.prog 108 := ⟨_, Tryz.func108, by kernel_rfl, by kernel_rfl⟩
theorem fn109 : FnOk Tryz.prog 109 := ⟨_, Tryz.func109, by kernel_rfl, by kernel_rfl⟩
theorem fn110 : FnOk Tryz.prog 110 := ⟨_, Tryz.func110, by kernel_rfl, by kernel_rfl⟩
theorem fn111 : FnOk Tryz.prog 111 := ⟨_, Tryz.func111, by kernel_rfl, by kernel_rfl⟩
theorem fn112 : FnOk Tryz.prog 112 := ⟨_, Tryz.func112, by kernel_rfl, by kernel_rfl⟩
theorem fn113 : FnOk Tryz.prog 113 := ⟨_, Tryz.func113, by kernel_rfl, by kernel_rfl⟩
theorem fn114 : FnOk Tryz.prog 114 := ⟨_, Tryz.func114, by kernel_rfl, by kernel_rfl⟩
theorem fn115 : FnOk Tryz.prog 115 := ⟨_, Tryz.func115, by kernel_rfl, by kernel_rfl⟩
theorem fn116 : FnOk Tryz.prog 116 := ⟨_, Tryz.func116, by kernel_rfl, by kernel_rfl⟩
theorem fn120 : FnOk Tryz.prog 120 := ⟨_, Tryz.func120, by kernel_rfl, by kernel_rfl⟩
theorem fn134 : FnOk Tryz.prog 134 := ⟨_, Tryz.func134, by kernel_rfl, by kernel_rfl⟩
theorem fn135 : FnOk Tryz.prog 135 := ⟨_, Tryz.func135, by kernel_rfl, by kernel_rfl⟩
theorem fn136 : FnOk Tryz.prog 136 := ⟨_, Tryz.func136, by kernel_rfl, by kernel_rfl⟩
theorem fn137 : FnOk Tryz.prog 137 := ⟨_, Tryz.func137, by kernel_rfl, by kernel_rfl⟩
theorem fn138 : FnOk Tryz.prog 138 := ⟨_, Tryz.func138, by kernel_rfl, by kernel_rfl⟩
theorem fn139 : FnOk Tryz.prog 139 := ⟨_, Tryz.func139, by kernel_rfl, by kernel_rfl⟩
theorem fn141 : FnOk Tryz.prog 141 := ⟨_, Tryz.func141, by kernel_rfl, by kernel_rfl⟩
theorem fn144 : FnOk Tryz.prog 144 := ⟨_, Tryz.func144, by kernel_rfl, by kernel_rfl⟩
theorem fn146 : FnOk Tryz.prog 146 := ⟨_, Tryz.func146, by kernel_rfl, by kernel_rfl⟩
theorem fn147 : FnOk Tryz.prog 147 := ⟨_, Tryz.func147, by kernel_rfl, by kernel_rfl⟩
theorem fn148 : FnOk Tryz.prog 148 := ⟨_, Tryz.func148, by kernel_rfl, by kernel_rfl⟩
theorem fn152 : FnOk Tryz.prog 152 := ⟨_, Tryz.func152, by kernel_rfl, by kernel_rfl⟩
theorem fn153 : FnOk Tryz.prog 153 := ⟨_, Tryz.func153, by kernel_rfl, by kernel_rfl⟩
theorem fn154 : FnOk Tryz.prog 154 := ⟨_, Tryz.func154, by kernel_rfl, by kernel_rfl⟩
theorem fn160 : FnOk Tryz.prog 160 := ⟨_, Tryz.func160, by kernel_rfl, by kernel_rfl⟩
theorem fn161 : FnOk Tryz.prog 161 := ⟨_, Tryz.func161, by kernel_rfl, by kernel_rfl⟩
theorem fn162 : FnOk Tryz.prog 162 := ⟨_, Tryz.func162, by kernel_rfl, by kernel_rfl⟩
theorem fn180 : FnOk Tryz.prog 180 := ⟨_, Tryz.func180, by kernel_rfl, by kernel_rfl⟩
theorem fn181 : FnOk Tryz.prog 181 := ⟨_, Tryz.func181, by kernel_rfl, by kernel_rfl⟩
theorem fn182 : FnOk Tryz.prog 182 := ⟨_, Tryz.func182, by kernel_rfl, by kernel_rfl⟩
theorem fn183 : FnOk Tryz.prog 183 := ⟨_, Tryz.func183, by kernel_rfl, by kernel_rfl⟩
theorem fn184 : FnOk Tryz.prog 184 := ⟨_, Tryz.func184, by kernel_rfl, by kernel_rfl⟩
theorem fn185 : FnOk Tryz.prog 185 := ⟨_, Tryz.func185, by kernel_rfl, by kernel_rfl⟩
theorem fn186 : FnOk Tryz.prog 186 := ⟨_, Tryz.func186, by kernel_rfl, by kernel_rfl⟩
theorem fn187 : FnOk Tryz.prog 187 := ⟨_, Tryz.func187, by kernel_rfl, by kernel_rfl⟩
theorem fn188 : FnOk Tryz.prog 188 := ⟨_, Tryz.func188, by kernel_rfl, by kernel_rfl⟩
theorem fn190 : FnOk Tryz.prog 190 := ⟨_, Tryz.func190, by kernel_rfl, by kernel_rfl⟩
theorem fn203 : FnOk Tryz.prog 203 := ⟨_, Tryz.func203, by kernel_rfl, by kernel_rfl⟩
theorem fn214 : FnOk Tryz.prog 214 := ⟨_, Tryz.func214, by kernel_rfl, by kernel_rfl⟩
theorem fn215 : FnOk Tryz.prog 215 := ⟨_, Tryz.func215, by kernel_rfl, by kernel_rfl⟩
theorem fn216 : FnOk Tryz.prog 216 := ⟨_, Tryz.func216, by kernel_rfl, by kernel_rfl⟩
theorem fn220 : FnOk Tryz.prog 220 := ⟨_, Tryz.func220, by kernel_rfl, by kernel_rfl⟩
theorem fn221 : FnOk Tryz.prog 221 := ⟨_, Tryz.func221, by kernel_rfl, by kernel_rfl⟩
theorem fn222 : FnOk Tryz.prog 222 := ⟨_, Tryz.func222, by kernel_rfl, by kernel_rfl⟩
theorem fn223 : FnOk Tryz.prog 223 := ⟨_, Tryz.func223, by kernel_rfl, by kernel_rfl⟩
theorem fn278 : FnOk Tryz.prog 278 := ⟨_, Tryz.func278, by kernel_rfl, by kernel_rfl⟩
theorem fn282 : FnOk Tryz.prog 282 := ⟨_, Tryz.func282, by kernel_rfl, by kernel_rfl⟩
theorem fn283 : FnOk Tryz.prog 283 := ⟨_, Tryz.func283, by kernel_rfl, by kernel_rfl⟩
theorem fn285 : FnOk Tryz.prog 285 := ⟨_, Tryz.func285, by kernel_rfl, by kernel_rfl⟩
theorem fn304 : FnOk Tryz.prog 304 := ⟨_, Tryz.func304, by kernel_rfl, by kernel_rfl⟩
theorem fn364 : FnOk Tryz.prog 364 := ⟨_, Tryz.func364, by kernel_rfl, by kernel_rfl⟩
theorem fn365 : FnOk Tryz.prog 365 := ⟨_, Tryz.func365, by kernel_rfl, by kernel_rfl⟩
end Go.Bur
namespace Go.Bur
open Go Go.RowKit Go.Proofs
theorem zi5 : ∃ i, Tryz.prog.info? 5 = some i ∧ i.zero = some (val (0 : UInt8)) ∧ i.bytes = 1 := ⟨Tryz.t5, by kernel_rfl, by kernel_rfl, by kernel_rfl⟩
theorem zi9 : ∃ i, Tryz.prog.info? 9 = some i ∧ i.zero = some (val ([] : Str)) ∧ i.bytes = 16 := ⟨Tryz.t9, by kernel_rfl, by kernel_rfl, by kernel_rfl⟩
theorem pl25_0 : plc Tryz.prog 25 0 = some (0, 1) := by kernel_rfl
theorem pl25_1 : plc Tryz.prog 25 1 = some (1, 1) := by kernel_rfl
theorem pl25_2 : plc Tryz.prog 25 2 = some (2, 1) := by kernel_rfl
theorem pl25_3 : plc Tryz.prog 25 3 = some (3, 1) := by kernel_rfl
theorem pl25_4 : plc Tryz.prog 25 4 = some (4, 1) := by kernel_rfl
theorem pl25_5 : plc Tryz.prog 25 5 = some (5, 1) := by kernel_rfl
theorem pl25_6 : plc Tryz.prog 25 6 = some (6, 1) := by kernel_rfl
theorem pl25_7 : plc Tryz.prog 25 7 = some (7, 1) := by kernel_rfl
theorem pl25_8 : plc Tryz.prog 25 8 = some (8, 1) := by kernel_rfl
theorem pl25_9 : plc Tryz.prog 25 9 = some (9, 1) := by kernel_rfl
theorem pl35_0 : plc Tryz.prog 35 0 = some (0, 10) := by kernel_rfl
theorem pl35_1 : plc Tryz.prog 35 1 = some (10, 32) := by kernel_rfl
theorem pl35_2 : plc Tryz.prog 35 2 = some (42, 32) := by kernel_rfl
theorem pl35_3 : plc Tryz.prog 35 3 = some (74, 1) := by kernel_rfl
theorem pl35_4 : plc Tryz.prog 35 4 = some (75, 32) := by kernel_rfl
theorem pl35_5 : plc Tryz.prog 35 5 = some (107, 1) := by kernel_rfl
theorem pl41_1 : plc Tryz.prog 41 1 = some (1, 16) := by kernel_rfl
theorem pl43_0 : plc Tryz.prog 43 0 = some (0, 17) := by kernel_rfl
theorem pl43_1 : plc Tryz.prog 43 1 = some (17, 1) := by kernel_rfl
theorem pl54_0 : plc Tryz.prog 54 0 = some (0, 1) := by kernel_rfl
theorem pl54_1 : plc Tryz.prog 54 1 = some (1, 1) := by kernel_rfl
theorem pl56_0 : plc Tryz.prog 56 0 = some (0, 1) := by kernel_rfl
theorem pl56_1 : plc Tryz.prog 56 1 = some (1, 1) := by kernel_rfl
theorem pl56_2 : plc Tryz.prog 56 2 = some (2, 32) := by kernel_rfl
theorem pl56_3 : plc Tryz.prog 56 3 = some (34, 32) := by kernel_rfl
theorem pl56_5 : plc Tryz.prog 56 5 = some (67, 1) := by kernel_rfl
theorem pl56_7 : plc Tryz.prog 56 7 = some (74, 1) := by kernel_rfl
theorem pl56_8 : plc Tryz.prog 56 8 = some (75, 1) := by kernel_rfl
theorem pl58_0 : plc Tryz.prog 58 0 = some (0, 1) := by kernel_rfl
theorem pl58_1 : plc Tryz.prog 58 1 = some (1, 76) := by kernel_rfl
theorem pl60_0 : plc Tryz.prog 60 0 = some (0, 77) := by kernel_rfl
theorem pl60_1 : plc Tryz.prog 60 1 = some (77, 77) := by kernel_rfl
theorem pl60_2 : plc Tryz.prog 60 2 = some (154, 77) := by kernel_rfl
theorem pl63_0 : plc Tryz.prog 63 0 = some (0, 32) := by kernel_rfl
theorem pl63_2 : plc Tryz.prog 63 2 = some (64, 1) := by kernel_rfl
theorem pl69_0 : plc Tryz.prog 69 0 = some (0, 1) := by kernel_rfl
theorem pl69_1 : plc Tryz.prog 69 1 = some (1, 32) := by kernel_rfl
theorem pl69_2 : plc Tryz.prog 69 2 = some (33, 1) := by kernel_rfl
theorem pl71_0 : plc Tryz.prog 71 0 = some (0, 17) := by kernel_rfl
theorem pl71_1 : plc Tryz.prog 71 1 = some (17, 1) := by kernel_rfl
theorem pl73_0 : plc Tryz.prog 73 0 = some (0, 18) := by kernel_rfl
theorem pl73_1 : plc Tryz.prog 73 1 = some (18, 32) := by kernel_rfl
theorem pl75_0 : plc Tryz.prog 75 0 = some (0, 1) := by kernel_rfl
theorem pl75_1 : plc Tryz.prog 75 1 = some (1, 32) := by kernel_rfl
theorem pl75_2 : plc Tryz.prog 75 2 = some (33, 1) := by kernel_rfl
theorem pl93_0 : plc Tryz.prog 93 0 = some (0, 1) := by kernel_rfl
theorem pl99_0 : plc Tryz.prog 99 0 = some (0, 148) := by kernel_rfl
theorem pl99_1 : plc Tryz.prog 99 1 = some (148, 1) := by kernel_rfl
theorem pl102_0 : plc Tryz.prog 102 0 = some (0, 1) := by kernel_rfl
theorem pl102_1 : plc Tryz.prog 102 1 = some (1, 1) := by kernel_rfl
theorem pl102_2 : plc Tryz.prog 102 2 = some (2, 1) := by kernel_rfl
theorem pl113_0 : plc Tryz.prog 113 0 = some (0, 1) := by kernel_rfl
theorem pl113_4 : plc Tryz.prog 113 4 = some (21, 1) := by kernel_rfl
theorem pl115_0 : plc Tryz.prog 115 0 = some (0, 1) := by kernel_rfl
theorem pl115_6 : plc Tryz.prog 115 6 = some (85, 1) := by kernel_rfl
theorem pl128_0 : plc Tryz.prog 128 0 = some (0, 148) := by kernel_rfl
theorem pl192_0 : plc Tryz.prog 192 0 = some (0, 148) := by kernel_rfl
theorem pl238_0 : plc Tryz.prog 238 0 = some (0, 34) := by kernel_rfl
end Go.Bur
namespace Go.Bur
open Go Go.RowKit Go.Proofs
theorem ex119 : ExtOk Tryz.prog 119 Extern.BytealgCount.count := ⟨_, Tryz.func119, by kernel_rfl, by kernel_rfl, by kernel_rfl, by kernel_rfl⟩
theorem ex286 : ExtOk Tryz.prog 286 Extern.BytealgIndexByte.indexByte := ⟨_, Tryz.func286, by kernel_rfl, by kernel_rfl, by kernel_rfl, by kernel_rfl⟩
end Go.Bur
namespace Go.Bur
open Go Go.RowKit Go.Proofs
set_option maxHeartbeats 4000000
variable {W0 : World} {V : PH} {w : World} {L : List (Nat × Obj)}
def CodeOk (V : PH) (c : GCodes) : Prop := ∃ xs : List UInt8, SlG V c.l.a c.l.cap xs ∧ c.l.len = xs.length ∧ xs.length ≤ 1000 ∧ 0 ≤ c.at_ ∧ c.at_ ≤ xs.length
theorem natmod_lt (q : Nat) {k : Int} (h : 1 ≤ k) : ((q % k.toNat : Nat) : Int) < k := by
  have := Nat.mod_lt q (show 0 < k.toNat by omega)
  omega
theorem big_or {a b : Nat} (ha : a < 256) (hb : b < 256) : a * 2 ^ 16 ||| b * 2 ^ 8 < 4611686018427387904 :=
  Nat.lt_of_lt_of_le (Nat.or_lt_two_pow (n := 62) (by omega) (by omega)) (by decide)
theorem s_left {b : Nat} {c : GCodes} (hs : St W0 V w ((b, blk 93 c) :: L)) :
    Calls Tryz.prog 31 #[ptr b 0] w (okR fun v w' => v = .bool (decide (c.at_ < (c.l.len : Int))) ∧ St W0 V w' ((b, blk 93 c) :: L)) := by
  refine fn_enter (n := 13) Tryz.func31 rfl rfl rfl ?_
  intro f hf
  have e0 := hf 0
  simp only [Array.getD_eq_getD_getElem?, List.getElem?_toArray, List.getElem?_cons_zero, List.getElem?_cons_succ, Option.getD_some] at e0
  clear hf
  refine cw_seq (cw_region ?_)
  refine l_pur (p_assignC) (by decide) ?_
  refine lw_nil ?_
  refine cw_seq ?_
  have hS := Hold.cons hs (List.Mem.head _) (Hold.nil hs (PH.refl _))
  refine cw_planH (.take 0 (.take 1 (.take 2 (.take 3 (.take 4 (.take 5 (.take 6 (.take 7 (.take 8 (.take 9 (.take 10 .done))))))))))) 511 hmix (by kernel_rfl) (fun _ _ _ h => h) hs hS ?_
  clear hS; clear hs; intro w hs; have hS := Hold.cons hs (List.Mem.head _) (Hold.nil hs (PH.refl _))
  refine pw_pur rfl (wt_free rfl) (p_move e0) (by decide) (fun _ => hS) ?_
  refine pw_pur rfl (wt_free rfl) (p_nilCheck rfl) (by decide) (fun _ => hS) ?_
  refine pw_pur rfl (wt_free rfl) (p_fieldAddr fo93_1 rfl) (by decide) (fun _ => hS) ?_
  refine pw_ld rfl (wt_free rfl) (by kernel_rfl) (Hold.runs_loadO (α := GCodes) (β := Int) ty3 rfl GCodes.l_at_ (List.Mem.head _)) (by decide) hS ?_
  refine pw_pur rfl (wt_free rfl) (p_move e0) (by decide) (fun _ => hS) ?_
  refine pw_pur rfl (wt_free rfl) (p_nilCheck rfl) (by decide) (fun _ => hS) ?_
  refine pw_pur rfl (wt_free rfl) (p_fieldAddr fo93_0 rfl) (by decide) (fun _ => hS) ?_
  refine pw_ld rfl (wt_free rfl) (by kernel_rfl) (Hold.runs_loadO (α := GCodes) (β := GSl) ty22 rfl GCodes.l_l (List.Mem.head _)) (by decide) hS ?_
  refine pw_pur rfl (wt_free rfl) (p_len Tryz.underlying22 rfl) (by decide) (fun _ => hS) ?_
  refine pw_pur rfl (wt_free rfl) (p_lss rfl rfl) (by decide) (fun h => absurd h (by decide)) ?_
  refine pw_pur rfl (wt_free rfl) (p_assignB rfl) (by decide) (fun h => absurd h (by decide)) ?_
  refine pw_done ?_
  refine cw_ret ?_
  repeat (with_reducible first | refine tf_ret ?_ | refine ib_ret ?_)
  refine fin1 (fn := Tryz.f31) rfl (rv_tmpB rfl) ?_
  exact ⟨rfl, hs⟩
theorem s_next {b : Nat} {c : GCodes} {k : Int} (hs : St W0 V w ((b, blk 93 c) :: L)) (hc : CodeOk V c) (hk : k < 1000000) :
    Calls Tryz.prog 13 #[ptr b 0, vi k] w (okR fun v w' => ∃ (r : Nat) (c' : GCodes), v = vi r ∧ ((r : Int) < k ∨ r = 0) ∧ CodeOk V c' ∧ St W0 V w' ((b, blk 93 c') :: L)) := by
  refine fn_enter (n := 33) Tryz.func13 rfl rfl rfl ?_
  intro f hf
  have e0 := hf 0
  have e1 := hf 1
  simp only [Array.getD_eq_getD_getElem?, List.getElem?_toArray, List.getElem?_cons_zero, List.getElem?_cons_succ, Option.getD_some] at e0 e1
  clear hf
  obtain ⟨xs, hsl, hlen, hx1, hx2, hx3⟩ := hc
  refine cw_seq (cw_region ?_)
  refine l_pur (p_assignC) (by decide) ?_
  refine lw_nil ?_
  refine cw_seq ?_
  refine cw_seq (cw_region ?_)
  refine l_pur (p_move e0) (by decide) ?_
  refine l_call1 fn31 (s_left hs) rfl ?_ (by decide)
  clear hs; rintro _ w ⟨rfl, hs⟩
  refine l_pur (p_not rfl) (by decide) ?_
  refine l_purB (p_moveB rfl) (by decide) (fun hg3 => ?_) (fun hg3 => ?_)
  · have hcc : CodeOk V c := ⟨xs, hsl, hlen, hx1, hx2, hx3⟩
    refine lw_pass rfl rfl rfl rfl rfl rfl (by decide) ?_
    refine lw_pass rfl rfl rfl rfl rfl rfl (by decide) ?_
    refine l_pur (p_pickT rfl rfl) (by decide) ?_
    refine lw_nil ?_
    refine cw_true rfl ?_
    refine cw_seq (cw_region ?_)
    refine l_pur (p_assignC) (by decide) ?_
    refine lw_nil ?_
    refine cw_ret ?_
    repeat (with_reducible first | refine tf_ret ?_ | refine ib_ret ?_)
    refine fin1 (fn := Tryz.f13) rfl (rv_tmpI rfl) ?_
    exact ⟨0, _, rfl, .inr rfl, ⟨xs, hsl, hlen, hx1, hx2, hx3⟩, hs⟩
  · simp only [Bool.not_eq_false', decide_eq_true_eq] at hg3
    refine lw_do rfl rfl rfl ?_
    refine l_pur (p_move e1) (by decide) ?_
    refine lw_do rfl rfl rfl ?_
    refine l_pur (p_lss rfl rfl) (by decide) ?_
    refine l_pur (p_pickF rfl rfl) (by decide) ?_
    refine lw_nil ?_
    refine cw_cond _ rfl (fun hc0 => ?_) (fun hc0 => ?_)
    · try simp only [decide_eq_true_eq, decide_eq_false_iff_not, Bool.not_eq_true', Bool.not_eq_false', beq_iff_eq, bne_iff_ne, beq_eq_false_iff_ne, bne_eq_false_iff_eq] at hc0
      refine cw_seq (cw_region ?_)
      refine l_pur (p_assignC) (by decide) ?_
      refine lw_nil ?_
      refine cw_ret ?_
      repeat (with_reducible first | refine tf_ret ?_ | refine ib_ret ?_)
      refine fin1 (fn := Tryz.f13) rfl (rv_tmpI rfl) ?_
      exact ⟨0, _, rfl, .inr rfl, ⟨xs, hsl, hlen, hx1, hx2, hx3⟩, hs⟩
    · have hk1 : 1 ≤ k := by simpa using hc0
      refine cw_skip ?_
      refine cw_seq (cw_region ?_)
      refine l_pur (p_move e0) (by decide) ?_
      refine l_pur (p_nilCheck rfl) (by decide) ?_
      refine l_pur (p_fieldAddr fo93_1 rfl) (by decide) ?_
      refine l_loadO (α := GCodes) (β := Int) ty3 rfl GCodes.l_at_ hs (List.Mem.head _) (by decide) ?_
      refine l_pur (p_add64 rfl rfl (by first | omega | (dsimp only; omega) | (simp <;> omega))) (by decide) ?_
      refine l_pur (p_nilCheck rfl) (by decide) ?_
      refine l_pur (p_fieldAddr fo93_1 rfl) (by decide) ?_
      refine l_store0 (α := GCodes) (β := Int) ty3 rfl rfl GCodes.l_at_ hs ?_; clear hs; intro w hs
      refine lw_nil ?_
      refine cw_seq ?_
      have hS := Hold.cons hs (List.Mem.head _) (Hold.nil hs (PH.refl _))
      refine cw_planH (.take 0 (.take 1 (.take 2 (.take 3 (.take 4 (.take 5 (.take 6 (.take 7 (.take 8 (.take 9 (.take 10 (.take 11 (.take 12 (.take 13 (.take 14 .done))))))))))))))) 6143 hmix (by kernel_rfl) (fun _ _ _ h => h) hs hS ?_
      clear hS; clear hs; intro w hs; have hS := Hold.cons hs (List.Mem.head _) (Hold.nil hs (PH.refl _))
      refine pw_pur rfl (wt_free rfl) (p_move e0) (by decide) (fun _ => hS) ?_
      refine pw_pur rfl (wt_free rfl) (p_nilCheck rfl) (by decide) (fun _ => hS) ?_
      refine pw_pur rfl (wt_free rfl) (p_fieldAddr fo93_0 rfl) (by decide) (fun _ => hS) ?_
      refine pw_ld rfl (wt_free rfl) (by kernel_rfl) (Hold.runs_loadO (α := GCodes) (β := GSl) ty22 rfl GCodes.l_l (List.Mem.head _)) (by decide) hS ?_
      refine pw_pur rfl (wt_free rfl) (p_move e0) (by decide) (fun _ => hS) ?_
      refine pw_pur rfl (wt_free rfl) (p_nilCheck rfl) (by decide) (fun _ => hS) ?_
      refine pw_pur rfl (wt_free rfl) (p_fieldAddr fo93_1 rfl) (by decide) (fun _ => hS) ?_
      refine pw_ld rfl (wt_free rfl) (by kernel_rfl) (Hold.runs_loadO (α := GCodes) (β := Int) ty3 rfl GCodes.l_at_ (List.Mem.head _)) (by decide) hS ?_
      refine pw_pur rfl (wt_free rfl) (p_sub64 rfl rfl (by first | omega | (dsimp only; omega) | (simp <;> omega))) (by decide) (fun _ => hS) ?_
      refine pw_indexSlG (α := UInt8) rfl (wt_free rfl) el22.sl ty5 rfl hlen rfl (by first | omega | (dsimp only; omega) | (simp <;> omega)) hsl (by decide) (fun _ => hS) ?_; intro bb28 oo28 cc28 hb28 ha28
      refine pw_ld rfl (wt_free rfl) (by kernel_rfl) (Hold.runs_loadVG (α := UInt8) ty5 rfl hb28 ha28) (by decide) hS ?_
      refine pw_pur rfl (wt_free rfl) (p_conv_u8_i Tryz.underlying5 Tryz.underlying3 rfl) (by decide) (fun h => absurd h (by decide)) ?_
      refine pw_pur rfl (wt_free rfl) (p_move e1) (by decide) (fun _ => hS) ?_
      refine pw_pur rfl (wt_free rfl) (p_remN rfl rfl (by omega)) (by decide) (fun h => absurd h (by decide)) ?_
      refine pw_pur rfl (wt_free rfl) (p_assignI rfl) (by decide) (fun h => absurd h (by decide)) ?_
      refine pw_done ?_
      refine cw_ret ?_
      repeat (with_reducible first | refine tf_ret ?_ | refine ib_ret ?_)
      refine fin1 (fn := Tryz.f13) rfl (rv_tmpI rfl) ?_
      refine ⟨_, { l := c.l, at_ := c.at_ + 1 }, rfl, .inl ?_, ⟨xs, hsl, hlen, hx1, by dsimp only; omega, by dsimp only; omega⟩, hs⟩
      exact natmod_lt _ hk1
theorem s_bool {b : Nat} {c : GCodes} (hs : St W0 V w ((b, blk 93 c) :: L)) (hc : CodeOk V c) :
    Calls Tryz.prog 22 #[ptr b 0] w (okR fun v w' => ∃ (r : Bool) (c' : GCodes), v = .bool r ∧ CodeOk V c' ∧ St W0 V w' ((b, blk 93 c') :: L)) := by
  refine fn_enter (n := 6) Tryz.func22 rfl rfl rfl ?_
  intro f hf
  have e0 := hf 0
  simp only [Array.getD_eq_getD_getElem?, List.getElem?_toArray, List.getElem?_cons_zero, List.getElem?_cons_succ, Option.getD_some] at e0
  clear hf
  refine cw_seq (cw_region ?_)
  refine l_pur (p_assignC) (by decide) ?_
  refine lw_nil ?_
  refine cw_seq (cw_region ?_)
  refine l_pur (p_move e0) (by decide) ?_
  refine l_call2 fn13 (s_next hs hc (by decide)) rfl rfl ?_ (by decide)
  clear hs
  rintro _ w ⟨r, c', rfl, hr, hc', hs⟩
  refine l_pur (p_eql rfl rfl) (by decide) ?_
  refine l_pur (p_assignB rfl) (by decide) ?_
  refine lw_nil ?_
  refine cw_ret ?_
  repeat (with_reducible first | refine tf_ret ?_ | refine ib_ret ?_)
  refine fin1 (fn := Tryz.f22) rfl (rv_tmpB rfl) ?_
  exact ⟨_, _, rfl, hc', hs⟩
theorem s_big {b : Nat} {c : GCodes} {k : Int} (hs : St W0 V w ((b, blk 93 c) :: L)) (hc : CodeOk V c) (hk : k < 16777217) :
    Calls Tryz.prog 12 #[ptr b 0, vi k] w (okR fun v w' => ∃ (r : Nat) (c' : GCodes), v = vi r ∧ ((r : Int) < k ∨ r = 0) ∧ CodeOk V c' ∧ St W0 V w' ((b, blk 93 c') :: L)) := by
  refine fn_enter (n := 19) Tryz.func12 rfl rfl rfl ?_
  intro f hf
  have e0 := hf 0
  have e1 := hf 1
  simp only [Array.getD_eq_getD_getElem?, List.getElem?_toArray, List.getElem?_cons_zero, List.getElem?_cons_succ, Option.getD_some] at e0 e1
  clear hf
  refine cw_seq (cw_region ?_)
  refine l_pur (p_assignC) (by decide) ?_
  refine lw_nil ?_
  refine cw_seq ?_
  refine cw_seq (cw_region ?_)
  refine l_pur (p_move e1) (by decide) ?_
  refine l_pur (p_lss rfl rfl) (by decide) ?_
  refine lw_nil ?_
  refine cw_cond _ rfl (fun hc0 => ?_) (fun hc0 => ?_)
  · try simp only [decide_eq_true_eq, decide_eq_false_iff_not, Bool.not_eq_true', Bool.not_eq_false', beq_iff_eq, bne_iff_ne, beq_eq_false_iff_ne, bne_eq_false_iff_eq] at hc0
    refine cw_seq (cw_region ?_)
    refine l_pur (p_assignC) (by decide) ?_
    refine lw_nil ?_
    refine cw_ret ?_
    repeat (with_reducible first | refine tf_ret ?_ | refine ib_ret ?_)
    refine fin1 (fn := Tryz.f12) rfl (rv_tmpI rfl) ?_
    exact ⟨0, _, rfl, .inr rfl, hc, hs⟩
  · have hk1 : 1 ≤ k := by simpa using hc0
    refine cw_skip ?_
    refine cw_seq (cw_region ?_)
    refine l_pur (p_move e0) (by decide) ?_
    refine l_call2 fn13 (s_next hs hc (by decide)) rfl rfl ?_ (by decide)
    clear hs
    rintro _ w ⟨r1, c1, rfl, hr1, hc1, hs⟩
    refine l_pur (p_shl64N (s := 16) rfl rfl (by decide) (by first | omega | (dsimp only; omega) | (simp <;> omega))) (by decide) ?_
    refine l_pur (p_move e0) (by decide) ?_
    refine l_call2 fn13 (s_next hs hc1 (by decide)) rfl rfl ?_ (by decide)
    clear hs
    rintro _ w ⟨r2, c2, rfl, hr2, hc2, hs⟩
    refine l_pur (p_shl64N (s := 8) rfl rfl (by decide) (by first | omega | (dsimp only; omega) | (simp <;> omega))) (by decide) ?_
    refine l_pur (p_or64 (a := _) (b := _) rfl rfl (by first | omega | (dsimp only; omega) | (simp <;> omega)) (by first | omega | (dsimp only; omega) | (simp <;> omega))) (by decide) ?_
    refine l_pur (p_move e0) (by decide) ?_
    refine l_call2 fn13 (s_next hs hc2 (by decide)) rfl rfl ?_ (by decide)
    clear hs
    rintro _ w ⟨r3, c3, rfl, hr3, hc3, hs⟩
    refine l_pur (p_or64 (a := _) (b := _) rfl rfl (by exact by first | omega | exact (big_or (by omega) (by omega))) (by exact by first | omega | exact (big_or (by omega) (by omega)))) (by decide) ?_
    refine l_pur (p_move e1) (by decide) ?_
    refine l_pur (p_remN rfl rfl (by omega)) (by decide) ?_
    refine l_pur (p_assignI rfl) (by decide) ?_
    refine lw_nil ?_
    refine cw_ret ?_
    repeat (with_reducible first | refine tf_ret ?_ | refine ib_ret ?_)
    refine fin1 (fn := Tryz.f12) rfl (rv_tmpI rfl) ?_
    refine ⟨_, _, rfl, .inl ?_, hc3, hs⟩
    exact natmod_lt _ hk1
end Go.Bur
namespace Go.Bur
open Go Go.RowKit Go.Proofs
set_option maxHeartbeats 4000000
variable {W0 : World} {V : PH} {w : World} {L : List (Nat × Obj)}
theorem s_new {a : Option Addr} {cap : Nat} {xs : List UInt8} {k : Int} (hs : St W0 V w L) (hl : SlG V a cap xs) (hk : 0 ≤ k ∧ k ≤ 1000) (hcap : xs.length ≤ cap) (hlen : xs.length < 9223372036854775808) :
    Calls Tryz.prog 5 #[.slice a xs.length cap, vi k] w (okR fun v w' => ∃ b c, v = ptr b 0 ∧ CodeOk V c ∧ St W0 V w' ((b, blk 93 c) :: L)) := by
  refine fn_enter (n := 13) Tryz.func5 rfl rfl rfl ?_
  intro f hf
  have e0 := hf 0
  have e1 := hf 1
  simp only [Array.getD_eq_getD_getElem?, List.getElem?_toArray, List.getElem?_cons_zero, List.getElem?_cons_succ, Option.getD_some] at e0 e1
  clear hf
  refine cw_seq (cw_region ?_)
  refine l_pur (p_assignC) (by decide) ?_
  refine lw_nil ?_
  refine cw_seq (cw_region ?_)
  refine l_pur (p_move e0) (by decide) ?_
  refine l_pur (p_move e0) (by decide) ?_
  refine l_pur (p_len Tryz.underlying22 rfl) (by decide) ?_
  refine l_pur (p_move e1) (by decide) ?_
  refine l_pur (p_min rfl rfl) (by decide) ?_
  refine l_pur (p_slice el22.sl el22.ty.size rfl (.no _) (.at_ _ rfl) (.no _) (.inl rfl) (by first | omega | (dsimp only; omega) | (simp <;> omega))) (by decide) ?_
  refine l_pur (p_buildO (α := GCodes) Tryz.underlying93 (by kernel_rfl) z93 rfl (.cons (β := GSl) (y := (⟨_, _, _⟩ : GSl)) rfl pl93_0 GCodes.l_l (.nil _))) (by decide) ?_
  refine l_box (α := GCodes) rfl hs (by decide) ?_; clear hs; intro b12 w hs
  refine l_pur (p_assignP rfl) (by decide) ?_
  refine lw_nil ?_
  refine cw_ret ?_
  repeat (with_reducible first | refine tf_ret ?_ | refine ib_ret ?_)
  refine fin1 (fn := Tryz.f5) rfl (rv_tmpP rfl) ?_
  refine ⟨_, _, rfl, ?_, hs⟩
  have := hl.slice (l := 0) (h := (min (xs.length : Int) k).toNat) (m := cap) (by omega) (by omega) (Nat.le_refl _) (by omega)
  exact ⟨_, this, by simp; omega, by simp; omega, Int.le_refl _, Int.natCast_nonneg _⟩
def hostA (net host : Int) : GAddr := { GAddr.zero with ip := (((GAddr.zero.ip.set 0 10).set 1 (UInt8.ofInt net)).set 2 0).set 3 (UInt8.ofInt host) }
theorem s_host {x y : Int} (hs : St W0 V w L) : Calls Tryz.prog 19 #[vi x, vi y] w (okR fun v w' => v = val (hostA x y) ∧ St W0 V w' L) := by
  refine fn_enter (n := 11) Tryz.func19 rfl rfl rfl ?_
  intro f hf
  have e0 := hf 0
  have e1 := hf 1
  simp only [Array.getD_eq_getD_getElem?, List.getElem?_toArray, List.getElem?_cons_zero, List.getElem?_cons_succ, Option.getD_some] at e0 e1
  clear hf
  refine cw_seq (cw_region ?_)
  refine l_alloc z41 hs (by decide) ?_; clear hs; intro b4 w hs
  refine lw_nil ?_
  refine cw_seq (cw_region ?_)
  refine l_pur (p_move e0) (by decide) ?_
  refine l_pur (p_conv_u8 Tryz.underlying3 Tryz.underlying5 rfl) (by decide) ?_
  refine l_pur (p_move e1) (by decide) ?_
  refine l_pur (p_conv_u8 Tryz.underlying3 Tryz.underlying5 rfl) (by decide) ?_
  refine l_pur (p_buildA (α := UInt8) Tryz.underlying39 ty5 z39 (.cons (k := 0) (y := (10 : UInt8)) (by decide) rfl (.cons (k := 1) (by decide) rfl (.cons (k := 2) (y := (0 : UInt8)) (by decide) rfl (.cons (k := 3) (by decide) rfl (.nil _)))))) (by decide) ?_
  refine l_pur (p_buildO (α := GAddr) Tryz.underlying41 (by kernel_rfl) z41 rfl (.cons (β := (Vec 16 UInt8)) rfl pl41_1 GAddr.l_ip (.nil _))) (by decide) ?_
  refine l_store0 (α := GAddr) (β := GAddr) ty41 rfl rfl (Lens.id GAddr) hs ?_; clear hs; intro w hs
  refine lw_nil ?_
  refine cw_ret ?_
  repeat (with_reducible first | refine tf_ret ?_ | refine ib_ret ?_)
  refine fin1 (fn := Tryz.f19) rfl (rv_own (α := GAddr) ty41 rfl (hs.mem (List.Mem.head _))) ?_
  exact ⟨rfl, hs.drop1⟩
def peerK (i : Int) : GKey := (((Vector.replicate 32 0 : GKey).set 0 (UInt8.ofInt (40 * (i + 1)))).set 1 9).set 2 7
theorem s_peer {i : Int} (hs : St W0 V w L) (hi : 0 ≤ i ∧ i < 1000) : Calls Tryz.prog 14 #[vi i] w (okR fun v w' => v = val (peerK i) ∧ St W0 V w' L) := by
  refine fn_enter (n := 8) Tryz.func14 rfl rfl rfl ?_
  intro f hf
  have e0 := hf 0
  simp only [Array.getD_eq_getD_getElem?, List.getElem?_toArray, List.getElem?_cons_zero, List.getElem?_cons_succ, Option.getD_some] at e0
  clear hf
  refine cw_seq (cw_region ?_)
  refine l_alloc z27 hs (by decide) ?_; clear hs; intro b2 w hs
  refine lw_nil ?_
  refine cw_seq (cw_region ?_)
  refine l_pur (p_move e0) (by decide) ?_
  refine l_pur (p_add64 rfl rfl (by first | omega | (dsimp only; omega) | (simp <;> omega))) (by decide) ?_
  refine l_pur (p_mul64 rfl rfl (by first | omega | (dsimp only; omega) | (simp <;> omega))) (by decide) ?_
  refine l_pur (p_conv_u8 Tryz.underlying3 Tryz.underlying5 rfl) (by decide) ?_
  refine l_pur (p_buildA (α := UInt8) Tryz.underlying27 ty5 z27 (.cons (k := 0) (by decide) rfl (.cons (k := 1) (y := (9 : UInt8)) (by decide) rfl (.cons (k := 2) (y := (7 : UInt8)) (by decide) rfl (.nil _))))) (by decide) ?_
  refine l_store0 (α := (Vec 32 UInt8)) (β := (Vec 32 UInt8)) ty27 rfl rfl (Lens.id (Vec 32 UInt8)) hs ?_; clear hs; intro w hs
  refine lw_nil ?_
  refine cw_ret ?_
  repeat (with_reducible first | refine tf_ret ?_ | refine ib_ret ?_)
  refine fin1 (fn := Tryz.f14) rfl (rv_own (α := (Vec 32 UInt8)) ty27 rfl (hs.mem (List.Mem.head _))) ?_
  exact ⟨rfl, hs.drop1⟩
def maskStep (ip : Vec 16 UInt8) (i : Nat) (h : i / 8 < 16) : Vec 16 UInt8 := ip.set (i / 8) (ip[i / 8] &&& ~~~ ((128 : UInt8) >>> UInt8.ofNat (i % 8)))
def maskFrom (ip : Vec 16 UInt8) (i : Nat) : Vec 16 UInt8 := if h : i < 128 then maskFrom (maskStep ip i (by omega)) (i + 1) else ip
termination_by 128 - i
def maskedP (a : GAddr) (bits : Nat) : GPrefix := { addr := { a with ip := maskFrom a.ip bits }, bits := bits }
theorem s_masked {a : GAddr} {k : Nat} (hs : St W0 V w L) (hk : k ≤ 128) : Calls Tryz.prog 18 #[val a, vi k] w (okR fun v w' => v = val (maskedP a k) ∧ St W0 V w' L) := by
  refine fn_enter (n := 25) Tryz.func18 rfl rfl rfl ?_
  intro f hf
  have e0 := hf 0
  have e1 := hf 1
  simp only [Array.getD_eq_getD_getElem?, List.getElem?_toArray, List.getElem?_cons_zero, List.getElem?_cons_succ, Option.getD_some] at e0 e1
  clear hf
  refine cw_seq (cw_region ?_)
  refine l_box (α := GAddr) e0 hs (by decide) ?_; clear hs; intro b2 w hs
  refine l_alloc z71 hs (by decide) ?_; clear hs; intro b4 w hs
  refine lw_nil ?_
  refine cw_seq ?_
  refine cw_seq (cw_region ?_)
  refine l_pur (p_move e1) (by decide) ?_
  refine l_pur (p_assignI rfl) (by decide) ?_
  refine lw_nil ?_
  refine cw_block ?_
  refine cw_loop (fun q f w => ∃ (i : Nat) (ip : Vec 16 UInt8), q = 128 - i ∧ i ≤ 128 ∧ f 5 = vi i ∧ f 1 = vi k ∧ f 2 = ptr b2 0 ∧ f 4 = ptr b4 0 ∧ maskFrom a.ip k = maskFrom ip i ∧ St W0 V w ((b4, blk 71 GPrefix.zero) :: (b2, blk 41 { a with ip := ip }) :: L)) (128 - k) ?_ ?_
  · exact ⟨k, a.ip, rfl, hk, rfl, e1, rfl, rfl, rfl, hs⟩
  · intro q f w hI
    obtain ⟨i, ip, rfl, hi, e5, e1, e2, e4, hm, hs⟩ := hI
    refine cw_seq ?_
    refine cw_seq (cw_region ?_)
    refine l_pur (p_move e5) (by decide) ?_
    refine l_pur (p_lss rfl rfl) (by decide) ?_
    refine lw_nil ?_
    refine cw_cond _ rfl (fun hc0 => ?_) (fun hc0 => ?_)
    · have hlt : i < 128 := by have := of_decide_eq_true hc0; omega
      refine cw_skip ?_
      refine cw_seq ?_
      refine cw_block ?_
      have hS := Hold.cons hs (List.Mem.head _) (Hold.cons hs (List.Mem.tail _ (List.Mem.head _)) (Hold.nil hs (PH.refl _)))
      refine cw_planH (.take 0 (.take 1 (.take 2 (.take 3 (.take 4 (.take 5 (.take 6 (.take 7 (.take 8 (.take 9 (.take 10 (.one 11 .done)))))))))))) 767 hmix (by kernel_rfl) (fun _ _ _ h => h) hs hS ?_
      clear hS; clear hs; intro w hs; have hS := Hold.cons hs (List.Mem.head _) (Hold.cons hs (List.Mem.tail _ (List.Mem.head _)) (Hold.nil hs (PH.refl _)))
      refine pw_pur rfl (wt_free rfl) (p_move e5) (by decide) (fun _ => hS) ?_
      refine pw_pur rfl (wt_free rfl) (p_quoK (b := 8) rfl rfl (by decide) (by first | omega | (dsimp only; omega) | (simp <;> omega))) (by decide) (fun _ => hS) ?_
      refine pw_pur rfl (wt_free rfl) (p_fieldAddr fo41_1 e2) (by decide) (fun _ => hS) ?_
      refine pw_pur rfl (wt_free rfl) (p_indexArr Tryz.underlying39 ty5.size rfl rfl (by (first | omega | decide | (dsimp only; omega) | (simp <;> omega)))) (by decide) (fun _ => hS) ?_
      refine pw_ld rfl (wt_free rfl) (by kernel_rfl) (Hold.runs_loadO (α := GAddr) (β := UInt8) ty5 rfl (Lens.comp GAddr.l_ip (Lens.idx (α := UInt8) (n := 16) _ (by first | omega | decide | (simp <;> omega) | simp | exact umod4n _))) (List.Mem.tail _ (List.Mem.head _))) (by decide) hS ?_
      refine pw_pur rfl (wt_free rfl) (p_move e5) (by decide) (fun _ => hS) ?_
      refine pw_pur rfl (wt_free rfl) (p_remK (b := 8) rfl rfl (by decide)) (by decide) (fun _ => hS) ?_
      refine pw_pur rfl (wt_free rfl) (p_shr_u8 (a := (128 : UInt8)) (s := _) rfl rfl (by first | omega | (dsimp only; omega) | (simp <;> omega))) (by decide) (fun _ => hS) ?_
      refine pw_pur rfl (wt_free rfl) (p_andNot_u8 rfl rfl) (by decide) (fun h => absurd h (by decide)) ?_
      refine pw_pur rfl (wt_free rfl) (p_fieldAddr fo41_1 e2) (by decide) (fun _ => hS) ?_
      refine pw_pur rfl (wt_free rfl) (p_indexArr Tryz.underlying39 ty5.size rfl rfl (by (first | omega | decide | (dsimp only; omega) | (simp <;> omega)))) (by decide) (fun h => absurd h (by decide)) ?_
      refine pw_one ?_
      refine ow_store1 (α := GAddr) (β := UInt8) rfl (wt_free rfl) ty5 rfl rfl (Lens.comp GAddr.l_ip (Lens.idx (α := UInt8) (n := 16) _ (by first | omega | decide | (simp <;> omega) | simp | exact umod4n _))) hs ?_; clear hs; intro w hs
      refine ⟨fun h => absurd h (by decide), ?_⟩; have hS := True.intro
      refine pw_done ?_
      refine cw_region ?_
      refine l_pur (p_move e5) (by decide) ?_
      refine l_pur (p_add64 rfl rfl (by first | omega | (dsimp only; omega) | (simp <;> omega))) (by decide) ?_
      refine l_pur (p_assignI rfl) (by decide) ?_
      refine lw_nil ?_
      refine ⟨_, ?_, i + 1, maskStep ip i (by omega), rfl, hlt, rfl, e1, e2, e4, ?_, hs⟩
      · omega
      · rw [hm, maskFrom, dif_pos hlt]
    · have hge : i = 128 := by have := of_decide_eq_false hc0; omega
      refine cw_exit ?_
      refine cw_seq (cw_region ?_)
      refine l_loadO (α := GAddr) (β := GAddr) ty41 e2 (Lens.id GAddr) hs (List.Mem.tail _ (List.Mem.head _)) (by decide) ?_
      refine l_pur (p_move e1) (by decide) ?_
      refine l_pur (p_buildO (α := GPrefix) Tryz.underlying71 (by kernel_rfl) z71 rfl (.cons (β := GAddr) rfl pl71_0 GPrefix.l_addr (.cons (β := Int) rfl pl71_1 GPrefix.l_bits (.nil _)))) (by decide) ?_
      refine l_store0 (α := GPrefix) (β := GPrefix) ty71 e4 rfl (Lens.id GPrefix) hs ?_; clear hs; intro w hs
      refine lw_nil ?_
      refine cw_ret ?_
      repeat (with_reducible first | refine tf_ret ?_ | refine ib_ret ?_)
      refine fin1 (fn := Tryz.f18) rfl (rv_own (α := GPrefix) ty71 e4 (hs.mem (List.Mem.head _))) ?_
      subst hge
      have e : maskFrom ip 128 = ip := by rw [maskFrom]; rfl
      refine ⟨?_, hs.drop1.drop1⟩
      unfold maskedP
      rw [hm, e]; rfl
end Go.Bur
namespace Go.Bur
open Go Go.RowKit Go.Proofs
set_option maxHeartbeats 4000000
variable {W0 : World} {V : PH} {w : World} {L : List (Nat × Obj)}
theorem s_bytes {b : Nat} {c : GCodes} {k : Int} (hs : St W0 V w ((b, blk 93 c) :: L)) (hc : CodeOk V c) (hk : 0 ≤ k ∧ k < 100000) :
    Calls Tryz.prog 30 #[ptr b 0, vi k] w (okR fun v w' => ∃ (ys : List UInt8) (c' : GCodes), ys.length = k.toNat ∧ CodeOk V c' ∧ Own W0 V w' ((b, blk 93 c') :: L) 5 v ys) := by
  refine fn_enter (n := 35) Tryz.func30 rfl rfl rfl ?_
  intro f hf
  have e0 := hf 0
  have e1 := hf 1
  simp only [Array.getD_eq_getD_getElem?, List.getElem?_toArray, List.getElem?_cons_zero, List.getElem?_cons_succ, Option.getD_some] at e0 e1
  clear hf
  refine cw_seq (cw_region ?_)
  refine l_pur (p_assignC) (by decide) ?_
  refine lw_nil ?_
  refine cw_seq (cw_region ?_)
  refine l_pur (p_move e1) (by decide) ?_
  refine l_makeSlice (α := UInt8) el22 zi5 rfl rfl (by omega) (by omega) (by omega) hs (by decide) ?_; clear hs; intro b10 w hs
  refine l_pur (p_assignL rfl) (by decide) ?_
  refine lw_nil ?_
  refine cw_seq (cw_region ?_)
  refine l_pur (p_move e0) (by decide) ?_
  refine l_call2 fn13 (s_next hs.swap hc (by decide)) rfl rfl ?_ (by decide)
  clear hs
  rintro _ w ⟨r, c', rfl, hr, hc', hs⟩
  replace hs := hs.swap
  refine l_pur (p_assignI rfl) (by decide) ?_
  refine lw_nil ?_
  refine cw_seq (cw_region ?_)
  refine l_pur (p_move e0) (by decide) ?_
  refine l_pur (p_nilCheck rfl) (by decide) ?_
  refine l_pur (p_fieldAddr fo93_1 rfl) (by decide) ?_
  refine l_loadO (α := GCodes) (β := Int) ty3 rfl GCodes.l_at_ hs (List.Mem.tail _ (List.Mem.head _)) (by decide) ?_
  refine l_pur (p_mul64 rfl rfl (by obtain ⟨_, _, _, _, h1, h2⟩ := hc'; omega)) (by decide) ?_
  refine l_pur (p_add64 rfl rfl (by obtain ⟨_, _, _, _, h1, h2⟩ := hc'; omega)) (by decide) ?_
  refine l_pur (p_assignI rfl) (by decide) ?_
  refine lw_nil ?_
  refine cw_seq ?_
  refine cw_seq ?_
  have hstep : 0 ≤ c'.at_ ∧ c'.at_ ≤ 1000 := by obtain ⟨_, _, _, _, h1, h2⟩ := hc'; omega
  refine cw_region ?_
  refine l_pur (p_moveL rfl) (by decide) ?_
  refine l_pur (p_len Tryz.underlying22 rfl) (by decide) ?_
  refine l_pur (p_moveC) (by decide) ?_
  refine lw_nil ?_
  refine cw_block ?_
  refine cw_loop (fun q f w => ∃ (i : Nat) (ys : List UInt8), q = k.toNat - i ∧ i ≤ k.toNat ∧ ys.length = k.toNat ∧ f 21 = vi i ∧ f 20 = vi k.toNat ∧ f 5 = .slice (some ⟨b10, 0, none⟩) k.toNat k.toNat ∧ f 6 = vi r ∧ f 7 = vi (2 * c'.at_ + 1) ∧ St W0 V w ((b10, arr 5 ys []) :: (b, blk 93 c') :: L)) (k.toNat) ?_ ?_
  · exact ⟨0, List.replicate k.toNat 0, rfl, Nat.zero_le _, by simp, rfl, rfl, rfl, rfl, rfl, hs⟩
  · intro q f w hI
    obtain ⟨i, ys, rfl, hi, hy, e21, e20, e5, e6, e7, hs⟩ := hI
    refine cw_seq (cw_region ?_)
    refine l_pur (p_lss e21 e20) (by decide) ?_
    refine lw_nil ?_
    refine cw_seq ?_
    refine cw_cond _ rfl (fun hc0 => ?_) (fun hc0 => ?_)
    · have hlt : i < k.toNat := by have := of_decide_eq_true hc0; omega
      have hmul : (i : Int) * (2 * c'.at_ + 1) ≤ 100000 * 2001 := Int.mul_le_mul (by omega) (by omega) (by omega) (by omega)
      have hmul0 : 0 ≤ (i : Int) * (2 * c'.at_ + 1) := Int.mul_nonneg (by omega) (by omega)
      refine cw_skip ?_
      refine cw_seq ?_
      refine cw_block ?_
      refine cw_seq (cw_region ?_)
      refine l_pur (p_move e21) (by decide) ?_
      refine l_pur (p_assignI rfl) (by decide) ?_
      refine lw_nil ?_
      refine cw_region ?_
      refine l_pur (p_move e5) (by decide) ?_
      refine l_pur (p_moveI rfl) (by decide) ?_
      refine l_pur (p_move e6) (by decide) ?_
      refine l_pur (p_moveI rfl) (by decide) ?_
      refine l_pur (p_move e7) (by decide) ?_
      refine l_pur (p_mul64 rfl rfl (by first | omega | (dsimp only; omega) | (simp; omega))) (by decide) ?_
      refine l_pur (p_add64 rfl rfl (by first | omega | (dsimp only; omega) | (simp; omega))) (by decide) ?_
      refine l_pur (p_conv_u8 Tryz.underlying3 Tryz.underlying5 rfl) (by decide) ?_
      refine l_pur (p_indexO el22.sl el22.ty.size rfl rfl (by (first | omega | decide | (dsimp only; omega) | (simp; omega)))) (by decide) ?_
      refine l_storeE (α := UInt8) (β := UInt8) ty5 rfl rfl rfl (Lens.id UInt8) (by first | omega | (simp; omega)) hs Rep.head ?_; clear hs; intro w hs
      refine lw_nil ?_
      refine cw_region ?_
      refine l_pur (p_add64 e21 rfl (by first | omega | (dsimp only; omega) | (simp; omega))) (by decide) ?_
      refine l_pur (p_moveI rfl) (by decide) ?_
      refine lw_nil ?_
      exact ⟨_, by omega, i + 1, _, rfl, hlt, by simpa using hy, rfl, e20, e5, e6, e7, hs⟩
    · have hge : i = k.toNat := by have := of_decide_eq_false hc0; omega
      refine cw_exit ?_
      refine cw_seq (cw_region ?_)
      refine l_pur (p_move e5) (by decide) ?_
      refine l_pur (p_assignL rfl) (by decide) ?_
      refine lw_nil ?_
      refine cw_ret ?_
      repeat (with_reducible first | refine tf_ret ?_ | refine ib_ret ?_)
      refine fin1 (fn := Tryz.f30) rfl (rv_tmpL rfl) ?_
      have := Own.ofArr hs
      rw [hy] at this
      exact ⟨ys, c', hy, hc', this⟩
theorem s_key {b : Nat} {c : GCodes} (hs : St W0 V w ((b, blk 93 c) :: L)) (hc : CodeOk V c) :
    Calls Tryz.prog 11 #[ptr b 0] w (okR fun v w' => ∃ (k : GKey) (c' : GCodes), v = val k ∧ CodeOk V c' ∧ St W0 V w' ((b, blk 93 c') :: L)) := by
  refine fn_enter (n := 9) Tryz.func11 rfl rfl rfl ?_
  intro f hf
  have e0 := hf 0
  simp only [Array.getD_eq_getD_getElem?, List.getElem?_toArray, List.getElem?_cons_zero, List.getElem?_cons_succ, Option.getD_some] at e0
  clear hf
  refine cw_seq (cw_region ?_)
  refine l_alloc z27 hs (by decide) ?_; clear hs; intro b2 w hs
  refine lw_nil ?_
  refine cw_seq (cw_region ?_)
  refine l_alloc z27 hs (by decide) ?_; clear hs; intro b3 w hs
  refine lw_nil ?_
  refine cw_seq ?_
  have hS := Hold.cons hs (List.Mem.tail _ (List.Mem.head _)) (Hold.nil hs (PH.refl _))
  refine cw_planH (.take 0 (.take 1 (.one 2 (.one 3 .done)))) 0 hmix (by kernel_rfl) (fun _ _ _ h => h) hs hS ?_
  clear hS; clear hs; intro w hs; have hS := Hold.cons hs (List.Mem.tail _ (List.Mem.head _)) (Hold.nil hs (PH.refl _))
  refine pw_pur rfl (wt_free rfl) (p_sliceArr Tryz.underlying27 ty5.size rfl (.no _) (.no _) (by decide)) (by decide) (fun h => absurd h (by decide)) ?_
  refine pw_pur rfl (wt_free rfl) (p_move e0) (by decide) (fun h => absurd h (by decide)) ?_
  refine pw_one ?_
  refine ow_call2 rfl (wt_free rfl) fn30 (s_bytes hs.rot2 hc (by decide)) rfl rfl ?_ (by decide)
  clear hs hS
  rintro v w ⟨ys, c', hy, hc', ho⟩
  obtain ⟨V', a, cap, hV, hs, rfl, hsl⟩ := ho.freeze
  replace hs := hs.unrot2
  refine ⟨fun h => absurd h (by decide), ?_⟩; have hS := True.intro
  refine pw_one ?_
  refine ow_copyV (α := GKey) (β := UInt8) rfl (wt_free rfl) el22.sl el22.ty.size rfl rfl rfl (by rw [hy]; decide) (hsl.src hs) (Lens.id _) hs Rep.head (by decide) ?_
  clear hs
  intro w hs
  refine ⟨fun h => absurd h (by decide), ?_⟩; have hS := True.intro
  refine pw_done ?_
  refine cw_seq (cw_region ?_)
  refine l_loadO (α := (Vec 32 UInt8)) (β := (Vec 32 UInt8)) ty27 rfl (Lens.id (Vec 32 UInt8)) hs (List.Mem.head _) (by decide) ?_
  refine l_store1 (α := (Vec 32 UInt8)) (β := (Vec 32 UInt8)) ty27 rfl rfl (Lens.id (Vec 32 UInt8)) hs ?_; clear hs; intro w hs
  refine lw_nil ?_
  refine cw_ret ?_
  repeat (with_reducible first | refine tf_ret ?_ | refine ib_ret ?_)
  refine fin1 (fn := Tryz.f11) rfl (rv_own (α := (Vec 32 UInt8)) ty27 rfl (hs.mem (List.Mem.tail _ (List.Mem.head _)))) ?_
  exact ⟨_, c', rfl, hc', (hs.drop1.drop1).weaken hV⟩
end Go.Bur
namespace Go.Bur
open Go Go.RowKit Go.Proofs
set_option maxHeartbeats 4000000
variable {W0 : World} {V : PH} {w : World} {L : List (Nat × Obj)}
def atE (i : Int) : GEndpoint := { addr := { GAddr.zero with ip := (((GAddr.zero.ip.set 0 192).set 1 0).set 2 2).set 3 (UInt8.ofInt (i + 1)) }, port := 1000 + i }
theorem s_at {i : Int} (hs : St W0 V w L) (hi : 0 ≤ i ∧ i < 1000) : Calls Tryz.prog 15 #[vi i] w (okR fun v w' => v = val (atE i) ∧ St W0 V w' L) := by
  refine fn_enter (n := 11) Tryz.func15 rfl rfl rfl ?_
  intro f hf
  have e0 := hf 0
  simp only [Array.getD_eq_getD_getElem?, List.getElem?_toArray, List.getElem?_cons_zero, List.getElem?_cons_succ, Option.getD_some] at e0
  clear hf
  refine cw_seq (cw_region ?_)
  refine l_alloc z43 hs (by decide) ?_; clear hs; intro b2 w hs
  refine lw_nil ?_
  refine cw_seq (cw_region ?_)
  refine l_pur (p_move e0) (by decide) ?_
  refine l_pur (p_add64 rfl rfl (by first | omega | (dsimp only; omega) | (simp; omega))) (by decide) ?_
  refine l_pur (p_conv_u8 Tryz.underlying3 Tryz.underlying5 rfl) (by decide) ?_
  refine l_pur (p_buildA (α := UInt8) Tryz.underlying39 ty5 z39 (.cons (k := 0) (y := (192 : UInt8)) (by decide) rfl (.cons (k := 1) (y := (0 : UInt8)) (by decide) rfl (.cons (k := 2) (y := (2 : UInt8)) (by decide) rfl (.cons (k := 3) (by decide) rfl (.nil _)))))) (by decide) ?_
  refine l_pur (p_buildO (α := GAddr) Tryz.underlying41 (by kernel_rfl) z41 rfl (.cons (β := (Vec 16 UInt8)) rfl pl41_1 GAddr.l_ip (.nil _))) (by decide) ?_
  refine l_pur (p_move e0) (by decide) ?_
  refine l_pur (p_add64 rfl rfl (by first | omega | (dsimp only; omega) | (simp; omega))) (by decide) ?_
  refine l_pur (p_buildO (α := GEndpoint) Tryz.underlying43 (by kernel_rfl) z43 rfl (.cons (β := GAddr) rfl pl43_0 GEndpoint.l_addr (.cons (β := Int) rfl pl43_1 GEndpoint.l_port (.nil _)))) (by decide) ?_
  refine l_store0 (α := GEndpoint) (β := GEndpoint) ty43 rfl rfl (Lens.id GEndpoint) hs ?_; clear hs; intro w hs
  refine lw_nil ?_
  refine cw_ret ?_
  repeat (with_reducible first | refine tf_ret ?_ | refine ib_ret ?_)
  refine fin1 (fn := Tryz.f15) rfl (rv_own (α := GEndpoint) ty43 rfl (hs.mem (List.Mem.head _))) ?_
  exact ⟨rfl, hs.drop1⟩
def usualR : GRules := { rekeyMessages := 1152921504606846976, rejectMessages := 18446744073709543423, rekeyTime := 120000, rejectTime := 180000, attemptTime := 90000, retryTime := 5000, keepaliveTime := 10000, cookieTime := 120000, load := 20, stage := 8 }
theorem s_usual (hs : St W0 V w L) : Calls Tryz.prog 28 #[] w (okR fun v w' => v = val usualR ∧ St W0 V w' L) := by
  refine fn_enter (n := 2) Tryz.func28 rfl rfl rfl ?_
  intro f hf
  clear hf
  refine cw_seq (cw_region ?_)
  refine l_alloc z25 hs (by decide) ?_; clear hs; intro b0 w hs
  refine lw_nil ?_
  refine cw_seq (cw_region ?_)
  refine l_pur (p_buildO (α := GRules) Tryz.underlying25 (by kernel_rfl) z25 rfl (.cons (β := UInt64) (y := (1152921504606846976 : UInt64)) rfl pl25_0 GRules.l_rekeyMessages (.cons (β := UInt64) (y := (18446744073709543423 : UInt64)) rfl pl25_1 GRules.l_rejectMessages (.cons (β := Int) rfl pl25_2 GRules.l_rekeyTime (.cons (β := Int) rfl pl25_3 GRules.l_rejectTime (.cons (β := Int) rfl pl25_4 GRules.l_attemptTime (.cons (β := Int) rfl pl25_5 GRules.l_retryTime (.cons (β := Int) rfl pl25_6 GRules.l_keepaliveTime (.cons (β := Int) rfl pl25_7 GRules.l_cookieTime (.cons (β := Int) rfl pl25_8 GRules.l_load (.cons (β := Int) rfl pl25_9 GRules.l_stage (.nil _)))))))))))) (by decide) ?_
  refine l_store0 (α := GRules) (β := GRules) ty25 rfl rfl (Lens.id GRules) hs ?_; clear hs; intro w hs
  refine lw_nil ?_
  refine cw_ret ?_
  repeat (with_reducible first | refine tf_ret ?_ | refine ib_ret ?_)
  refine fin1 (fn := Tryz.f28) rfl (rv_own (α := GRules) ty25 rfl (hs.mem (List.Mem.head _))) ?_
  exact ⟨rfl, hs.drop1⟩
structure RulesOk (r : GRules) : Prop where
  m1 : 1 ≤ r.rekeyMessages.toNat
  m2 : r.rekeyMessages.toNat ≤ r.rejectMessages.toNat
  m3 : r.rejectMessages.toNat ≤ 18446744073709543423
  t1 : 20000 ≤ r.rekeyTime ∧ r.rekeyTime ≤ r.rejectTime ∧ r.rejectTime ≤ 80000
  t2 : 1000 ≤ r.retryTime ∧ r.retryTime ≤ 3000
  t3 : r.retryTime ≤ r.attemptTime ∧ r.attemptTime ≤ 5 * r.retryTime
  t4 : 2000 ≤ r.keepaliveTime ∧ r.keepaliveTime ≤ 6000
  t5 : r.cookieTime = 30000
  t6 : 1 ≤ r.load ∧ r.load ≤ 6
  t7 : 1 ≤ r.stage ∧ r.stage ≤ 8
theorem s_rules {b : Nat} {c : GCodes} (hs : St W0 V w ((b, blk 93 c) :: L)) (hc : CodeOk V c) :
    Calls Tryz.prog 10 #[ptr b 0] w (okR fun v w' => ∃ (r : GRules) (c' : GCodes), v = val r ∧ RulesOk r ∧ CodeOk V c' ∧ St W0 V w' ((b, blk 93 c') :: L)) := by
  refine fn_enter (n := 54) Tryz.func10 rfl rfl rfl ?_
  intro f hf
  have e0 := hf 0
  simp only [Array.getD_eq_getD_getElem?, List.getElem?_toArray, List.getElem?_cons_zero, List.getElem?_cons_succ, Option.getD_some] at e0
  clear hf
  refine cw_seq (cw_region ?_)
  refine l_alloc z25 hs (by decide) ?_; clear hs; intro b2 w hs
  refine lw_nil ?_
  refine cw_seq (cw_region ?_)
  refine l_pur (p_move e0) (by decide) ?_
  refine l_call2 fn13 (s_next hs.swap hc (by decide)) rfl rfl ?_ (by decide)
  clear hs
  rintro _ w ⟨r1, c1, rfl, hr1, hc1, hs⟩
  replace hs := hs.swap
  refine l_pur (p_conv_u64 Tryz.underlying3 Tryz.underlying23 rfl) (by decide) ?_
  refine l_pur (p_add_u64 (a := (1 : UInt64)) rfl rfl) (by decide) ?_
  refine l_pur (p_move e0) (by decide) ?_
  refine l_call2 fn13 (s_next hs.swap hc1 (by decide)) rfl rfl ?_ (by decide)
  clear hs
  rintro _ w ⟨r2, c2, rfl, hr2, hc2, hs⟩
  replace hs := hs.swap
  refine l_pur (p_mul64 rfl rfl (by first | omega | (dsimp only; omega) | (simp; omega))) (by decide) ?_
  refine l_pur (p_add64 rfl rfl (by first | omega | (dsimp only; omega) | (simp; omega))) (by decide) ?_
  refine l_pur (p_move e0) (by decide) ?_
  refine l_call2 fn13 (s_next hs.swap hc2 (by decide)) rfl rfl ?_ (by decide)
  clear hs
  rintro _ w ⟨r3, c3, rfl, hr3, hc3, hs⟩
  replace hs := hs.swap
  refine l_pur (p_mul64 rfl rfl (by first | omega | (dsimp only; omega) | (simp; omega))) (by decide) ?_
  refine l_pur (p_add64 rfl rfl (by first | omega | (dsimp only; omega) | (simp; omega))) (by decide) ?_
  refine l_pur (p_move e0) (by decide) ?_
  refine l_call2 fn13 (s_next hs.swap hc3 (by decide)) rfl rfl ?_ (by decide)
  clear hs
  rintro _ w ⟨r4, c4, rfl, hr4, hc4, hs⟩
  replace hs := hs.swap
  refine l_pur (p_mul64 rfl rfl (by first | omega | (dsimp only; omega) | (simp; omega))) (by decide) ?_
  refine l_pur (p_add64 rfl rfl (by first | omega | (dsimp only; omega) | (simp; omega))) (by decide) ?_
  refine l_pur (p_move e0) (by decide) ?_
  refine l_call2 fn13 (s_next hs.swap hc4 (by decide)) rfl rfl ?_ (by decide)
  clear hs
  rintro _ w ⟨r5, c5, rfl, hr5, hc5, hs⟩
  replace hs := hs.swap
  refine l_pur (p_add64 rfl rfl (by first | omega | (dsimp only; omega) | (simp; omega))) (by decide) ?_
  refine l_pur (p_move e0) (by decide) ?_
  refine l_call2 fn13 (s_next hs.swap hc5 (by decide)) rfl rfl ?_ (by decide)
  clear hs
  rintro _ w ⟨r6, c6, rfl, hr6, hc6, hs⟩
  replace hs := hs.swap
  refine l_pur (p_add64 rfl rfl (by first | omega | (dsimp only; omega) | (simp; omega))) (by decide) ?_
  refine l_pur (p_buildO (α := GRules) Tryz.underlying25 (by kernel_rfl) z25 rfl (.cons (β := UInt64) rfl pl25_0 GRules.l_rekeyMessages (.cons (β := Int) rfl pl25_2 GRules.l_rekeyTime (.cons (β := Int) rfl pl25_5 GRules.l_retryTime (.cons (β := Int) rfl pl25_6 GRules.l_keepaliveTime (.cons (β := Int) rfl pl25_7 GRules.l_cookieTime (.cons (β := Int) rfl pl25_8 GRules.l_load (.cons (β := Int) rfl pl25_9 GRules.l_stage (.nil _))))))))) (by decide) ?_
  refine l_alloc z25 hs (by decide) ?_; clear hs; intro b3 w hs
  refine l_store0 (α := GRules) (β := GRules) ty25 rfl rfl (Lens.id GRules) hs ?_; clear hs; intro w hs
  refine lw_nil ?_
  refine cw_seq ?_
  have hS := Hold.cons hs (List.Mem.head _) (Hold.nil hs (PH.refl _))
  refine cw_planH (.take 0 (.take 1 (.take 2 (.one 3 (.take 4 (.take 5 (.take 6 (.one 7 .done)))))))) 31 hmix (by kernel_rfl) (fun _ _ _ h => h) hs hS ?_
  clear hS; clear hs; intro w hs; have hS := Hold.cons hs (List.Mem.head _) (Hold.nil hs (PH.refl _))
  refine pw_pur rfl (wt_free rfl) (p_fieldAddr fo25_0 rfl) (by decide) (fun _ => hS) ?_
  refine pw_ld rfl (wt_free rfl) (by kernel_rfl) (Hold.runs_loadO (α := GRules) (β := UInt64) ty23 rfl GRules.l_rekeyMessages (List.Mem.head _)) (by decide) hS ?_
  refine pw_pur rfl (wt_free rfl) (p_move e0) (by decide) (fun _ => hS) ?_
  refine pw_one ?_
  refine ow_call2 rfl (wt_free rfl) fn13 (s_next hs.rot2 hc6 (by decide)) rfl rfl ?_ (by decide)
  clear hs hS
  rintro _ w ⟨r7, c7, rfl, hr7, hc7, hs⟩
  replace hs := hs.unrot2
  refine ⟨fun _ => Hold.cons hs (List.Mem.head _) (Hold.nil hs (PH.refl _)), ?_⟩; have hS := Hold.cons hs (List.Mem.head _) (Hold.nil hs (PH.refl _))
  refine pw_pur rfl (wt_free rfl) (p_conv_u64 Tryz.underlying3 Tryz.underlying23 rfl) (by decide) (fun _ => hS) ?_
  refine pw_pur rfl (wt_free rfl) (p_add_u64 rfl rfl) (by decide) (fun h => absurd h (by decide)) ?_
  refine pw_pur rfl (wt_free rfl) (p_fieldAddr fo25_1 rfl) (by decide) (fun h => absurd h (by decide)) ?_
  refine pw_one ?_
  refine ow_store0 (α := GRules) (β := UInt64) rfl (wt_free rfl) ty23 rfl rfl GRules.l_rejectMessages hs ?_; clear hs; intro w hs
  refine ⟨fun h => absurd h (by decide), ?_⟩; have hS := True.intro
  refine pw_done ?_
  refine cw_seq ?_
  have hS := Hold.cons hs (List.Mem.head _) (Hold.nil hs (PH.refl _))
  refine cw_planH (.take 0 (.take 1 (.take 2 (.one 3 (.take 4 (.take 5 (.take 6 (.one 7 .done)))))))) 31 hmix (by kernel_rfl) (fun _ _ _ h => h) hs hS ?_
  clear hS; clear hs; intro w hs; have hS := Hold.cons hs (List.Mem.head _) (Hold.nil hs (PH.refl _))
  refine pw_pur rfl (wt_free rfl) (p_fieldAddr fo25_2 rfl) (by decide) (fun _ => hS) ?_
  refine pw_ld rfl (wt_free rfl) (by kernel_rfl) (Hold.runs_loadO (α := GRules) (β := Int) ty2 rfl GRules.l_rekeyTime (List.Mem.head _)) (by decide) hS ?_
  refine pw_pur rfl (wt_free rfl) (p_move e0) (by decide) (fun _ => hS) ?_
  refine pw_one ?_
  refine ow_call2 rfl (wt_free rfl) fn13 (s_next hs.rot2 hc7 (by decide)) rfl rfl ?_ (by decide)
  clear hs hS
  rintro _ w ⟨r8, c8, rfl, hr8, hc8, hs⟩
  replace hs := hs.unrot2
  refine ⟨fun _ => Hold.cons hs (List.Mem.head _) (Hold.nil hs (PH.refl _)), ?_⟩; have hS := Hold.cons hs (List.Mem.head _) (Hold.nil hs (PH.refl _))
  refine pw_pur rfl (wt_free rfl) (p_mul64 rfl rfl (by first | omega | (dsimp only; omega) | (simp; omega))) (by decide) (fun _ => hS) ?_
  refine pw_pur rfl (wt_free rfl) (p_add64 rfl rfl (by first | omega | (dsimp only; omega) | (simp; omega))) (by decide) (fun h => absurd h (by decide)) ?_
  refine pw_pur rfl (wt_free rfl) (p_fieldAddr fo25_3 rfl) (by decide) (fun h => absurd h (by decide)) ?_
  refine pw_one ?_
  refine ow_store0 (α := GRules) (β := Int) rfl (wt_free rfl) ty2 rfl rfl GRules.l_rejectTime hs ?_; clear hs; intro w hs
  refine ⟨fun h => absurd h (by decide), ?_⟩; have hS := True.intro
  refine pw_done ?_
  refine cw_seq ?_
  have hS := Hold.cons hs (List.Mem.head _) (Hold.nil hs (PH.refl _))
  refine cw_planH (.take 0 (.take 1 (.take 2 (.one 3 (.take 4 (.take 5 (.take 6 (.one 7 .done)))))))) 31 hmix (by kernel_rfl) (fun _ _ _ h => h) hs hS ?_
  clear hS; clear hs; intro w hs; have hS := Hold.cons hs (List.Mem.head _) (Hold.nil hs (PH.refl _))
  refine pw_pur rfl (wt_free rfl) (p_fieldAddr fo25_5 rfl) (by decide) (fun _ => hS) ?_
  refine pw_ld rfl (wt_free rfl) (by kernel_rfl) (Hold.runs_loadO (α := GRules) (β := Int) ty2 rfl GRules.l_retryTime (List.Mem.head _)) (by decide) hS ?_
  refine pw_pur rfl (wt_free rfl) (p_move e0) (by decide) (fun _ => hS) ?_
  refine pw_one ?_
  refine ow_call2 rfl (wt_free rfl) fn13 (s_next hs.rot2 hc8 (by decide)) rfl rfl ?_ (by decide)
  clear hs hS
  rintro _ w ⟨r9, c9, rfl, hr9, hc9, hs⟩
  replace hs := hs.unrot2
  refine ⟨fun _ => Hold.cons hs (List.Mem.head _) (Hold.nil hs (PH.refl _)), ?_⟩; have hS := Hold.cons hs (List.Mem.head _) (Hold.nil hs (PH.refl _))
  refine pw_pur rfl (wt_free rfl) (p_add64 rfl rfl (by first | omega | (dsimp only; omega) | (simp; omega))) (by decide) (fun _ => hS) ?_
  refine pw_pur rfl (wt_free rfl) (p_mul64 rfl rfl (by exact mulb (by first | omega | (simp; omega)) (by first | omega | (simp; omega)) (by first | omega | (simp; omega)) (by first | omega | (simp; omega)))) (by decide) (fun h => absurd h (by decide)) ?_
  refine pw_pur rfl (wt_free rfl) (p_fieldAddr fo25_4 rfl) (by decide) (fun h => absurd h (by decide)) ?_
  refine pw_one ?_
  refine ow_store0 (α := GRules) (β := Int) rfl (wt_free rfl) ty2 rfl rfl GRules.l_attemptTime hs ?_; clear hs; intro w hs
  refine ⟨fun h => absurd h (by decide), ?_⟩; have hS := True.intro
  refine pw_done ?_
  refine cw_seq ?_
  refine cw_seq (cw_region ?_)
  refine l_pur (p_move e0) (by decide) ?_
  refine l_call2 fn13 (s_next hs.rot2 hc9 (by decide)) rfl rfl ?_ (by decide)
  clear hs
  rintro _ w ⟨r10, c10, rfl, hr10, hc10, hs⟩
  replace hs := hs.unrot2
  refine l_pur (p_eql rfl rfl) (by decide) ?_
  refine lw_nil ?_
  refine cw_cond _ rfl (fun hc0 => ?_) (fun hc0 => ?_)
  · try simp only [decide_eq_true_eq, decide_eq_false_iff_not, Bool.not_eq_true', Bool.not_eq_false', beq_iff_eq, bne_iff_ne, beq_eq_false_iff_ne, bne_eq_false_iff_eq] at hc0
    refine cw_region ?_
    refine l_pur (p_fieldAddr fo25_0 rfl) (by decide) ?_
    refine l_store0 (α := GRules) (β := UInt64) (z := (1152921504606846976 : UInt64)) ty23 rfl rfl GRules.l_rekeyMessages hs ?_; clear hs; intro w hs
    refine l_pur (p_fieldAddr fo25_1 rfl) (by decide) ?_
    refine l_store0 (α := GRules) (β := UInt64) (z := (18446744073709543423 : UInt64)) ty23 rfl rfl GRules.l_rejectMessages hs ?_; clear hs; intro w hs
    refine lw_nil ?_
    refine cw_seq (cw_region ?_)
    refine l_loadO (α := GRules) (β := GRules) ty25 rfl (Lens.id GRules) hs (List.Mem.head _) (by decide) ?_
    refine l_store1 (α := GRules) (β := GRules) ty25 rfl rfl (Lens.id GRules) hs ?_; clear hs; intro w hs
    refine lw_nil ?_
    refine cw_ret ?_
    repeat (with_reducible first | refine tf_ret ?_ | refine ib_ret ?_)
    refine fin1 (fn := Tryz.f10) rfl (rv_own (α := GRules) ty25 rfl (hs.mem (List.Mem.tail _ (List.Mem.head _)))) ?_
    have q : ∀ r : Nat, r < 100 → (UInt64.ofInt (r : Int)).toNat = r := fun r h => u64_ofInt r (by omega)
    have q1 := q r1 (by omega)
    have q7 := q r7 (by omega)
    have p1 : (((1000 : Int) + r3 * 500)) * (1 + (r9 : Int)) ≤ (1000 + r3 * 500) * 5 := Int.mul_le_mul_of_nonneg_left (by omega) (by omega)
    have p2 : (((1000 : Int) + r3 * 500)) * 1 ≤ (1000 + r3 * 500) * (1 + (r9 : Int)) := Int.mul_le_mul_of_nonneg_left (by omega) (by omega)
    refine ⟨_, c10, rfl, ⟨?_, ?_, ?_, ?_, ?_, ?_, ?_, ?_, ?_, ?_⟩, hc10, hs.drop1.drop1⟩
    all_goals simp [UInt64.toNat_add, q1, q7]
    all_goals omega
  · try simp only [decide_eq_true_eq, decide_eq_false_iff_not, Bool.not_eq_true', Bool.not_eq_false', beq_iff_eq, bne_iff_ne, beq_eq_false_iff_ne, bne_eq_false_iff_eq] at hc0
    refine cw_skip ?_
    refine cw_seq (cw_region ?_)
    refine l_loadO (α := GRules) (β := GRules) ty25 rfl (Lens.id GRules) hs (List.Mem.head _) (by decide) ?_
    refine l_store1 (α := GRules) (β := GRules) ty25 rfl rfl (Lens.id GRules) hs ?_; clear hs; intro w hs
    refine lw_nil ?_
    refine cw_ret ?_
    repeat (with_reducible first | refine tf_ret ?_ | refine ib_ret ?_)
    refine fin1 (fn := Tryz.f10) rfl (rv_own (α := GRules) ty25 rfl (hs.mem (List.Mem.tail _ (List.Mem.head _)))) ?_
    have q : ∀ r : Nat, r < 100 → (UInt64.ofInt (r : Int)).toNat = r := fun r h => u64_ofInt r (by omega)
    have q1 := q r1 (by omega)
    have q7 := q r7 (by omega)
    have p1 : (((1000 : Int) + r3 * 500)) * (1 + (r9 : Int)) ≤ (1000 + r3 * 500) * 5 := Int.mul_le_mul_of_nonneg_left (by omega) (by omega)
    have p2 : (((1000 : Int) + r3 * 500)) * 1 ≤ (1000 + r3 * 500) * (1 + (r9 : Int)) := Int.mul_le_mul_of_nonneg_left (by omega) (by omega)
    refine ⟨_, c10, rfl, ⟨?_, ?_, ?_, ?_, ?_, ?_, ?_, ?_, ?_, ?_⟩, hc10, hs.drop1.drop1⟩
    all_goals simp [UInt64.toNat_add, q1, q7]
    all_goals omega
end Go.Bur
namespace Go.Bur
open Go Go.RowKit Go.Proofs
set_option maxHeartbeats 4000000
variable {W0 : World} {V : PH} {w : World} {L : List (Nat × Obj)}
def soundA (a : GAddr) : Bool := a.six || (a.ip.toList.drop 4).all (· == 0)
theorem s_sound {a : GAddr} (hs : St W0 V w L) : Calls Tryz.prog 70 #[val a] w (okR fun v w' => v = .bool (soundA a) ∧ St W0 V w' L) := by
  refine fn_enter (n := 20) Tryz.func70 rfl rfl rfl ?_
  intro f hf
  have e0 := hf 0
  simp only [Array.getD_eq_getD_getElem?, List.getElem?_toArray, List.getElem?_cons_zero, List.getElem?_cons_succ, Option.getD_some] at e0
  clear hf
  refine cw_seq (cw_region ?_)
  refine l_box (α := GAddr) e0 hs (by decide) ?_; clear hs; intro b1 w hs
  refine l_pur (p_assignC) (by decide) ?_
  refine lw_nil ?_
  refine cw_seq ?_
  refine cw_seq (cw_region ?_)
  refine l_pur (p_fieldAddr fo41_1 rfl) (by decide) ?_
  refine l_pur (p_sliceArr Tryz.underlying39 ty5.size rfl (.at_ _ rfl) (.no _) (by decide)) (by decide) ?_
  refine l_pur (p_len Tryz.underlying22 rfl) (by decide) ?_
  refine l_pur (p_moveC) (by decide) ?_
  refine lw_nil ?_
  refine cw_block ?_
  refine cw_loop (fun q f w => ∃ (i : Nat), q = 12 - i ∧ i ≤ 12 ∧ f 8 = vi i ∧ f 7 = vi 12 ∧ f 1 = ptr b1 0 ∧ f 6 = .slice (some ⟨b1, 5, none⟩) 12 12 ∧ (∀ j, j < i → a.six = true ∨ ∀ h : 4 + j < 16, a.ip[4 + j] = 0) ∧ St W0 V w ((b1, blk 41 a) :: L)) (12) ?_ ?_
  · exact ⟨0, rfl, by omega, rfl, rfl, rfl, rfl, fun j hj => by omega, hs⟩
  · intro q f w hI
    obtain ⟨i, rfl, hi, e8, e7, e1, e6, hall, hs⟩ := hI
    refine cw_seq (cw_region ?_)
    refine l_pur (p_lss e8 e7) (by decide) ?_
    refine lw_nil ?_
    refine cw_seq ?_
    refine cw_cond _ rfl (fun hc0 => ?_) (fun hc0 => ?_)
    · have hlt : i < 12 := by have := of_decide_eq_true hc0; omega
      refine cw_skip ?_
      refine cw_seq ?_
      refine cw_block ?_
      refine cw_seq (cw_region ?_)
      refine l_pur (p_indexAt (o' := 1 + (4 + i) * Enc.size UInt8) el22.sl el22.ty.size e6 e8 (by omega) (by have e : Enc.size UInt8 = 1 := rfl; rw [e]; simp; omega)) (by decide) ?_
      refine l_loadO (α := GAddr) (β := UInt8) ty5 rfl (Lens.comp GAddr.l_ip (Lens.idx (α := UInt8) (4 + i) (by omega))) hs (List.Mem.head _) (by decide) ?_
      refine l_pur (p_assignI rfl) (by decide) ?_
      refine lw_nil ?_
      refine cw_seq (cw_region ?_)
      refine l_pur (p_fieldAddr fo41_0 e1) (by decide) ?_
      refine l_loadO (α := GAddr) (β := Bool) ty4 rfl GAddr.l_six hs (List.Mem.head _) (by decide) ?_
      refine l_pur (p_not rfl) (by decide) ?_
      refine l_purB (p_moveB rfl) (by decide) (fun hg3 => ?_) (fun hg3 => ?_)
      · try simp only [decide_eq_true_eq, decide_eq_false_iff_not, Bool.not_eq_true', Bool.not_eq_false', beq_iff_eq, bne_iff_ne, beq_eq_false_iff_ne, bne_eq_false_iff_eq] at hg3
        refine lw_do rfl rfl rfl ?_
        refine l_pur (p_moveI rfl) (by decide) ?_
        refine lw_do rfl rfl rfl ?_
        refine l_pur (p_neq_u8 (b := (0 : UInt8)) rfl rfl) (by decide) ?_
        refine l_pur (p_pickT rfl rfl) (by decide) ?_
        refine lw_nil ?_
        refine cw_cond _ rfl (fun hc1 => ?_) (fun hc1 => ?_)
        · try simp only [decide_eq_true_eq, decide_eq_false_iff_not, Bool.not_eq_true', Bool.not_eq_false', beq_iff_eq, bne_iff_ne, beq_eq_false_iff_ne, bne_eq_false_iff_eq] at hc1
          refine cw_seq (cw_region ?_)
          refine l_pur (p_assignC) (by decide) ?_
          refine lw_nil ?_
          refine cw_ret ?_
          repeat (with_reducible first | refine tf_ret ?_ | refine ib_ret ?_)
          refine fin1 (fn := Tryz.f70) rfl (rv_tmpB rfl) ?_
          refine ⟨?_, hs.drop1⟩
          congr 1
          have hne : a.ip[4 + i] ≠ 0 := hc1
          have hm : a.ip[4 + i] ∈ a.ip.toList.drop 4 := by
            have : a.ip[4 + i] = (a.ip.toList.drop 4)[i]'(by simp; omega) := by simp
            rw [this]; exact List.getElem_mem _
          simp only [soundA, hg3, Bool.false_or]
          rw [eq_comm, Bool.eq_false_iff]
          intro hall
          exact hne (by simpa using List.all_eq_true.1 hall _ hm)
        · try simp only [decide_eq_true_eq, decide_eq_false_iff_not, Bool.not_eq_true', Bool.not_eq_false', beq_iff_eq, bne_iff_ne, beq_eq_false_iff_ne, bne_eq_false_iff_eq] at hc1
          refine cw_skip ?_
          refine cw_region ?_
          refine l_pur (p_add64 e8 rfl (by first | omega | (dsimp only; omega) | (simp; omega))) (by decide) ?_
          refine l_pur (p_moveI rfl) (by decide) ?_
          refine lw_nil ?_
          refine ⟨_, by omega, i + 1, rfl, by omega, rfl, e7, e1, e6, fun j hj => ?_, hs⟩
          by_cases hji : j < i
          · exact hall j hji
          · obtain rfl : j = i := by omega
            first
            | exact .inl hg3
            | exact .inr fun h => Decidable.not_not.1 hc1
      · try simp only [decide_eq_true_eq, decide_eq_false_iff_not, Bool.not_eq_true', Bool.not_eq_false', beq_iff_eq, bne_iff_ne, beq_eq_false_iff_ne, bne_eq_false_iff_eq] at hg3
        refine lw_pass rfl rfl rfl rfl rfl rfl (by decide) ?_
        refine lw_pass rfl rfl rfl rfl rfl rfl (by decide) ?_
        refine l_pur (p_pickF rfl rfl) (by decide) ?_
        refine lw_nil ?_
        refine cw_false rfl ?_
        refine cw_skip ?_
        refine cw_region ?_
        refine l_pur (p_add64 e8 rfl (by first | omega | (dsimp only; omega) | (simp; omega))) (by decide) ?_
        refine l_pur (p_moveI rfl) (by decide) ?_
        refine lw_nil ?_
        refine ⟨_, by omega, i + 1, rfl, by omega, rfl, e7, e1, e6, fun j hj => ?_, hs⟩
        by_cases hji : j < i
        · exact hall j hji
        · obtain rfl : j = i := by omega
          first
          | exact .inl hg3
          | exact .inr fun h => Decidable.not_not.1 hc1
    · have hge : i = 12 := by have := of_decide_eq_false hc0; omega
      refine cw_exit ?_
      refine cw_seq (cw_region ?_)
      refine l_pur (p_assignC) (by decide) ?_
      refine lw_nil ?_
      refine cw_ret ?_
      repeat (with_reducible first | refine tf_ret ?_ | refine ib_ret ?_)
      refine fin1 (fn := Tryz.f70) rfl (rv_tmpB rfl) ?_
      refine ⟨?_, hs.drop1⟩
      congr 1
      unfold soundA
      rw [eq_comm, Bool.or_eq_true]
      cases h6 : a.six with
      | true => exact .inl rfl
      | false =>
        right
        rw [List.all_eq_true]
        intro x hx
        obtain ⟨j, hj, rfl⟩ := List.getElem_of_mem hx
        have hj' : j < 12 := by simpa using hj
        have := (hall j (by omega)).resolve_left (by rw [h6]; decide) (by omega)
        simpa using this
end Go.Bur
namespace Go.Bur
open Go Go.RowKit Go.Proofs
set_option maxHeartbeats 4000000
variable {W0 : World} {V : PH} {w : World} {L : List (Nat × Obj)}
def widthA (a : GAddr) : Int := if a.six then 128 else 32
theorem s_width {a : GAddr} (hs : St W0 V w L) : Calls Tryz.prog 71 #[val a] w (okR fun v w' => v = vi (widthA a) ∧ St W0 V w' L) := by
  refine fn_enter (n := 5) Tryz.func71 rfl rfl rfl ?_
  intro f hf
  have e0 := hf 0
  simp only [Array.getD_eq_getD_getElem?, List.getElem?_toArray, List.getElem?_cons_zero, List.getElem?_cons_succ, Option.getD_some] at e0
  clear hf
  refine cw_seq (cw_region ?_)
  refine l_box (α := GAddr) e0 hs (by decide) ?_; clear hs; intro b1 w hs
  refine l_pur (p_assignC) (by decide) ?_
  refine lw_nil ?_
  refine cw_seq ?_
  refine cw_seq (cw_region ?_)
  refine l_pur (p_fieldAddr fo41_0 rfl) (by decide) ?_
  refine l_loadO (α := GAddr) (β := Bool) ty4 rfl GAddr.l_six hs (List.Mem.head _) (by decide) ?_
  refine lw_nil ?_
  refine cw_cond _ rfl (fun hc0 => ?_) (fun hc0 => ?_)
  · try simp only [decide_eq_true_eq, decide_eq_false_iff_not, Bool.not_eq_true', Bool.not_eq_false', beq_iff_eq, bne_iff_ne, beq_eq_false_iff_ne, bne_eq_false_iff_eq] at hc0
    refine cw_seq (cw_region ?_)
    refine l_pur (p_assignC) (by decide) ?_
    refine lw_nil ?_
    refine cw_ret ?_
    repeat (with_reducible first | refine tf_ret ?_ | refine ib_ret ?_)
    refine fin1 (fn := Tryz.f71) rfl (rv_tmpI rfl) ?_
    exact ⟨by simp [widthA, hc0], hs.drop1⟩
  · try simp only [decide_eq_true_eq, decide_eq_false_iff_not, Bool.not_eq_true', Bool.not_eq_false', beq_iff_eq, bne_iff_ne, beq_eq_false_iff_ne, bne_eq_false_iff_eq] at hc0
    refine cw_skip ?_
    refine cw_seq (cw_region ?_)
    refine l_pur (p_assignC) (by decide) ?_
    refine lw_nil ?_
    refine cw_ret ?_
    repeat (with_reducible first | refine tf_ret ?_ | refine ib_ret ?_)
    refine fin1 (fn := Tryz.f71) rfl (rv_tmpI rfl) ?_
    exact ⟨by simp [widthA, hc0], hs.drop1⟩
def bitA (a : GAddr) (i : Nat) (h : i / 8 < 16) : UInt8 := (a.ip[i / 8] >>> UInt8.ofNat (7 - i % 8)) &&& 1
theorem s_bit {a : GAddr} {i : Nat} (hs : St W0 V w L) (hi : i < 128) : Calls Tryz.prog 72 #[val a, vi i] w (okR fun v w' => v = val (bitA a i (by omega)) ∧ St W0 V w' L) := by
  refine fn_enter (n := 15) Tryz.func72 rfl rfl rfl ?_
  intro f hf
  have e0 := hf 0
  have e1 := hf 1
  simp only [Array.getD_eq_getD_getElem?, List.getElem?_toArray, List.getElem?_cons_zero, List.getElem?_cons_succ, Option.getD_some] at e0 e1
  clear hf
  refine cw_seq (cw_region ?_)
  refine l_box (α := GAddr) e0 hs (by decide) ?_; clear hs; intro b2 w hs
  refine l_pur (p_assignC) (by decide) ?_
  refine lw_nil ?_
  refine cw_seq (cw_region ?_)
  refine l_pur (p_move e1) (by decide) ?_
  refine l_pur (p_quoK (b := 8) rfl rfl (by decide) (by first | omega | (dsimp only; omega) | (simp; omega))) (by decide) ?_
  refine l_pur (p_fieldAddr fo41_1 rfl) (by decide) ?_
  refine l_pur (p_indexArr Tryz.underlying39 ty5.size rfl rfl (by (first | omega | decide | (dsimp only; omega) | (simp; omega)))) (by decide) ?_
  refine l_loadO (α := GAddr) (β := UInt8) ty5 rfl (Lens.comp GAddr.l_ip (Lens.idx (α := UInt8) (n := 16) _ (by first | omega | decide | (simp; omega) | simp | exact umod4n _))) hs (List.Mem.head _) (by decide) ?_
  refine l_pur (p_move e1) (by decide) ?_
  refine l_pur (p_remK (b := 8) rfl rfl (by decide)) (by decide) ?_
  refine l_pur (p_subN (a := 7) (b := _) rfl rfl (by first | omega | (dsimp only; omega) | (simp; omega)) (by first | omega | (dsimp only; omega) | (simp; omega))) (by decide) ?_
  refine l_pur (p_shr_u8 (a := _) (s := _) rfl rfl (by first | omega | (dsimp only; omega) | (simp; omega))) (by decide) ?_
  refine l_pur (p_and_u8 (b := (1 : UInt8)) rfl rfl) (by decide) ?_
  refine l_pur (p_assignI rfl) (by decide) ?_
  refine lw_nil ?_
  refine cw_ret ?_
  repeat (with_reducible first | refine tf_ret ?_ | refine ib_ret ?_)
  refine fin1 (fn := Tryz.f72) rfl (rv_tmpI rfl) ?_
  exact ⟨rfl, hs.drop1⟩
def lessA (a b : GAddr) : Bool := if a.six = b.six then Op.bytesLess a.ip.toList b.ip.toList else !a.six
theorem s_less09 {a b : GAddr} (hs : St W0 V w L) : Calls Tryz.prog 73 #[val a, val b] w (okR fun v w' => v = .bool (lessA a b) ∧ St W0 V w' L) := by
  refine fn_enter (n := 20) Tryz.func73 rfl rfl rfl ?_
  intro f hf
  have e0 := hf 0
  have e1 := hf 1
  simp only [Array.getD_eq_getD_getElem?, List.getElem?_toArray, List.getElem?_cons_zero, List.getElem?_cons_succ, Option.getD_some] at e0 e1
  clear hf
  refine cw_seq (cw_region ?_)
  refine l_box (α := GAddr) e0 hs (by decide) ?_; clear hs; intro b2 w hs
  refine l_box (α := GAddr) e1 hs (by decide) ?_; clear hs; intro b3 w hs
  refine l_pur (p_assignC) (by decide) ?_
  refine lw_nil ?_
  refine cw_seq ?_
  refine cw_seq (cw_region ?_)
  refine l_pur (p_fieldAddr fo41_0 rfl) (by decide) ?_
  refine l_loadO (α := GAddr) (β := Bool) ty4 rfl GAddr.l_six hs (List.Mem.tail _ (List.Mem.head _)) (by decide) ?_
  refine l_pur (p_fieldAddr fo41_0 rfl) (by decide) ?_
  refine l_loadO (α := GAddr) (β := Bool) ty4 rfl GAddr.l_six hs (List.Mem.head _) (by decide) ?_
  refine l_pur (p_neqB Tryz.underlying4 rfl rfl) (by decide) ?_
  refine lw_nil ?_
  refine cw_cond _ rfl (fun hc0 => ?_) (fun hc0 => ?_)
  · try simp only [decide_eq_true_eq, decide_eq_false_iff_not, Bool.not_eq_true', Bool.not_eq_false', beq_iff_eq, bne_iff_ne, beq_eq_false_iff_ne, bne_eq_false_iff_eq] at hc0
    refine cw_seq (cw_region ?_)
    refine l_pur (p_fieldAddr fo41_0 rfl) (by decide) ?_
    refine l_loadO (α := GAddr) (β := Bool) ty4 rfl GAddr.l_six hs (List.Mem.tail _ (List.Mem.head _)) (by decide) ?_
    refine l_pur (p_not rfl) (by decide) ?_
    refine l_pur (p_assignB rfl) (by decide) ?_
    refine lw_nil ?_
    refine cw_ret ?_
    repeat (with_reducible first | refine tf_ret ?_ | refine ib_ret ?_)
    refine fin1 (fn := Tryz.f73) rfl (rv_tmpB rfl) ?_
    have hne : a.six ≠ b.six := by simpa using hc0
    exact ⟨by simp [lessA, hne], hs.drop1.drop1⟩
  · try simp only [decide_eq_true_eq, decide_eq_false_iff_not, Bool.not_eq_true', Bool.not_eq_false', beq_iff_eq, bne_iff_ne, beq_eq_false_iff_ne, bne_eq_false_iff_eq] at hc0
    refine cw_skip ?_
    refine cw_seq ?_
    have hS := Hold.cons hs (List.Mem.head _) (Hold.cons hs (List.Mem.tail _ (List.Mem.head _)) (Hold.nil hs (PH.refl _)))
    refine cw_planH (.take 0 (.take 1 (.take 2 (.take 3 (.take 4 (.take 5 (.take 6 (.take 7 .done)))))))) 63 hmix (by kernel_rfl) (fun _ _ _ h => h) hs hS ?_
    clear hS; clear hs; intro w hs; have hS := Hold.cons hs (List.Mem.head _) (Hold.cons hs (List.Mem.tail _ (List.Mem.head _)) (Hold.nil hs (PH.refl _)))
    refine pw_pur rfl (wt_free rfl) (p_fieldAddr fo41_1 rfl) (by decide) (fun _ => hS) ?_
    refine pw_pur rfl (wt_free rfl) (p_sliceArr Tryz.underlying39 ty5.size rfl (.no _) (.no _) (by decide)) (by decide) (fun _ => hS) ?_
    refine pw_ld rfl (wt_free rfl) (by kernel_rfl) (fun w h => r_bytesStr Tryz.underlying22 Tryz.underlying5 Tryz.underlying9 rfl (Src1.vec (T := 0) (α := GAddr) (β := UInt8) GAddr.l_ip (h.2 _ (List.Mem.tail _ (List.Mem.head _)))) (by simp)) (by decide) hS ?_
    refine pw_pur rfl (wt_free rfl) (p_fieldAddr fo41_1 rfl) (by decide) (fun _ => hS) ?_
    refine pw_pur rfl (wt_free rfl) (p_sliceArr Tryz.underlying39 ty5.size rfl (.no _) (.no _) (by decide)) (by decide) (fun _ => hS) ?_
    refine pw_ld rfl (wt_free rfl) (by kernel_rfl) (fun w h => r_bytesStr Tryz.underlying22 Tryz.underlying5 Tryz.underlying9 rfl (Src1.vec (T := 0) (α := GAddr) (β := UInt8) GAddr.l_ip (h.2 _ (List.Mem.head _))) (by simp)) (by decide) hS ?_
    refine pw_pur rfl (wt_free rfl) (p_lssStr rfl rfl) (by decide) (fun h => absurd h (by decide)) ?_
    refine pw_pur rfl (wt_free rfl) (p_assignB rfl) (by decide) (fun h => absurd h (by decide)) ?_
    refine pw_done ?_
    refine cw_ret ?_
    repeat (with_reducible first | refine tf_ret ?_ | refine ib_ret ?_)
    refine fin1 (fn := Tryz.f73) rfl (rv_tmpB rfl) ?_
    have hne : a.six = b.six := by simpa using hc0
    exact ⟨by simp only [lessA, if_pos hne], hs.drop1.drop1⟩
def beforeP (a b : GPrefix) : Bool := if a.addr = b.addr then decide (a.bits < b.bits) else lessA a.addr b.addr
theorem s_before {a b : GPrefix} (hs : St W0 V w L) : Calls Tryz.prog 35 #[val a, val b] w (okR fun v w' => v = .bool (beforeP a b) ∧ St W0 V w' L) := by
  refine fn_enter (n := 20) Tryz.func35 rfl rfl rfl ?_
  intro f hf
  have e0 := hf 0
  have e1 := hf 1
  simp only [Array.getD_eq_getD_getElem?, List.getElem?_toArray, List.getElem?_cons_zero, List.getElem?_cons_succ, Option.getD_some] at e0 e1
  clear hf
  refine cw_seq (cw_region ?_)
  refine l_box (α := GPrefix) e0 hs (by decide) ?_; clear hs; intro b2 w hs
  refine l_box (α := GPrefix) e1 hs (by decide) ?_; clear hs; intro b3 w hs
  refine l_pur (p_assignC) (by decide) ?_
  refine lw_nil ?_
  refine cw_seq ?_
  refine cw_seq (cw_region ?_)
  refine l_pur (p_fieldAddr fo71_0 rfl) (by decide) ?_
  refine l_loadO (α := GPrefix) (β := GAddr) ty41 rfl GPrefix.l_addr hs (List.Mem.tail _ (List.Mem.head _)) (by decide) ?_
  refine l_pur (p_fieldAddr fo71_0 rfl) (by decide) ?_
  refine l_loadO (α := GPrefix) (β := GAddr) ty41 rfl GPrefix.l_addr hs (List.Mem.head _) (by decide) ?_
  refine l_pur (p_neqS eq41 rfl rfl) (by decide) ?_
  refine lw_nil ?_
  refine cw_cond _ rfl (fun hc0 => ?_) (fun hc0 => ?_)
  · try simp only [decide_eq_true_eq, decide_eq_false_iff_not, Bool.not_eq_true', Bool.not_eq_false', beq_iff_eq, bne_iff_ne, beq_eq_false_iff_ne, bne_eq_false_iff_eq] at hc0
    refine cw_seq (cw_region ?_)
    refine l_pur (p_fieldAddr fo71_0 rfl) (by decide) ?_
    refine l_loadO (α := GPrefix) (β := GAddr) ty41 rfl GPrefix.l_addr hs (List.Mem.tail _ (List.Mem.head _)) (by decide) ?_
    refine l_pur (p_fieldAddr fo71_0 rfl) (by decide) ?_
    refine l_loadO (α := GPrefix) (β := GAddr) ty41 rfl GPrefix.l_addr hs (List.Mem.head _) (by decide) ?_
    refine l_call2 fn73 (s_less09 hs) rfl rfl ?_ (by decide)
    clear hs; rintro _ w ⟨rfl, hs⟩
    refine l_pur (p_assignB rfl) (by decide) ?_
    refine lw_nil ?_
    refine cw_ret ?_
    repeat (with_reducible first | refine tf_ret ?_ | refine ib_ret ?_)
    refine fin1 (fn := Tryz.f35) rfl (rv_tmpB rfl) ?_
    exact ⟨by simp only [beforeP, if_neg hc0], hs.drop1.drop1⟩
  · try simp only [decide_eq_true_eq, decide_eq_false_iff_not, Bool.not_eq_true', Bool.not_eq_false', beq_iff_eq, bne_iff_ne, beq_eq_false_iff_ne, bne_eq_false_iff_eq] at hc0
    refine cw_skip ?_
    refine cw_seq (cw_region ?_)
    refine l_pur (p_fieldAddr fo71_1 rfl) (by decide) ?_
    refine l_loadO (α := GPrefix) (β := Int) ty3 rfl GPrefix.l_bits hs (List.Mem.tail _ (List.Mem.head _)) (by decide) ?_
    refine l_pur (p_fieldAddr fo71_1 rfl) (by decide) ?_
    refine l_loadO (α := GPrefix) (β := Int) ty3 rfl GPrefix.l_bits hs (List.Mem.head _) (by decide) ?_
    refine l_pur (p_lss rfl rfl) (by decide) ?_
    refine l_pur (p_assignB rfl) (by decide) ?_
    refine lw_nil ?_
    refine cw_ret ?_
    repeat (with_reducible first | refine tf_ret ?_ | refine ib_ret ?_)
    refine fin1 (fn := Tryz.f35) rfl (rv_tmpB rfl) ?_
    exact ⟨by simp only [beforeP, if_pos hc0], hs.drop1.drop1⟩
def zerosFrom (a : GAddr) (i : Nat) : Bool := if h : i < 128 then (bitA a i (by omega) == 0) && zerosFrom a (i + 1) else true
termination_by 128 - i
def validP (p : GPrefix) : Bool := soundA p.addr && decide (0 ≤ p.bits) && decide (p.bits ≤ widthA p.addr) && zerosFrom p.addr p.bits.toNat
theorem s_valid09 {p : GPrefix} (hs : St W0 V w L) : Calls Tryz.prog 34 #[val p] w (okR fun v w' => v = .bool (validP p) ∧ St W0 V w' L) := by
  refine fn_enter (n := 32) Tryz.func34 rfl rfl rfl ?_
  intro f hf
  have e0 := hf 0
  simp only [Array.getD_eq_getD_getElem?, List.getElem?_toArray, List.getElem?_cons_zero, List.getElem?_cons_succ, Option.getD_some] at e0
  clear hf
  refine cw_seq (cw_region ?_)
  refine l_box (α := GPrefix) e0 hs (by decide) ?_; clear hs; intro b1 w hs
  refine l_pur (p_assignC) (by decide) ?_
  refine lw_nil ?_
  refine cw_seq ?_
  refine cw_seq ?_
  have hS := Hold.cons hs (List.Mem.head _) (Hold.nil hs (PH.refl _))
  refine cw_planH (.take 0 (.take 1 (.one 2 (.take 3 (.take 4 (.take 5 (.take 6 (.take 7 (.take 8 (.take 9 (.take 10 (.take 11 (.take 12 (.take 13 (.one 14 (.take 15 (.take 16 .done))))))))))))))))) 32767 hmix (by kernel_rfl) (fun _ _ _ h => h) hs hS ?_
  clear hS; clear hs; intro w hs; have hS := Hold.cons hs (List.Mem.head _) (Hold.nil hs (PH.refl _))
  refine pw_pur rfl (wt_free rfl) (p_fieldAddr fo71_0 rfl) (by decide) (fun _ => hS) ?_
  refine pw_ld rfl (wt_free rfl) (by kernel_rfl) (Hold.runs_loadO (α := GPrefix) (β := GAddr) ty41 rfl GPrefix.l_addr (List.Mem.head _)) (by decide) hS ?_
  refine pw_one ?_
  refine ow_call1 rfl (wt_free rfl) fn70 (s_sound hs) rfl ?_ (by decide)
  clear hs hS
  rintro _ w ⟨rfl, hs⟩
  refine ⟨fun _ => Hold.cons hs (List.Mem.head _) (Hold.nil hs (PH.refl _)), ?_⟩; have hS := Hold.cons hs (List.Mem.head _) (Hold.nil hs (PH.refl _))
  refine pw_pur rfl (wt_free rfl) (p_not rfl) (by decide) (fun _ => hS) ?_
  refine pw_purB rfl (wt_free rfl) (p_moveB rfl) (by decide) (fun _ => hS) (fun hg4 => ?_) (fun hg4 => ?_)
  · try simp only [decide_eq_true_eq, decide_eq_false_iff_not, Bool.not_eq_true', Bool.not_eq_false', beq_iff_eq, bne_iff_ne, beq_eq_false_iff_ne, bne_eq_false_iff_eq] at hg4
    refine pw_pass rfl (wt_no rfl rfl rfl rfl rfl) (by decide) (fun _ => hS) ?_
    refine pw_pass rfl (wt_no rfl rfl rfl rfl rfl) (by decide) (fun _ => hS) ?_
    refine pw_pass rfl (wt_no rfl rfl rfl rfl rfl) (by decide) (fun _ => hS) ?_
    refine pw_pur rfl (wt_free rfl) (p_pickT rfl rfl) (by decide) (fun _ => hS) ?_
    refine pw_pur rfl (wt_free rfl) (p_moveB rfl) (by decide) (fun _ => hS) ?_
    refine pw_pass rfl (wt_no rfl rfl rfl rfl rfl) (by decide) (fun _ => hS) ?_
    refine pw_pass rfl (wt_no rfl rfl rfl rfl rfl) (by decide) (fun _ => hS) ?_
    refine pw_pass rfl (wt_no rfl rfl rfl rfl rfl) (by decide) (fun _ => hS) ?_
    refine pw_pass rfl (wt_no rfl rfl rfl rfl rfl) (by decide) (fun _ => hS) ?_
    refine pw_one ?_
    refine ow_pass rfl (wt_no rfl rfl rfl rfl rfl) (by decide) (fun _ => hS) ?_
    refine pw_pass rfl (wt_no rfl rfl rfl rfl rfl) (by decide) (fun h => absurd h (by decide)) ?_
    refine pw_pur rfl (wt_free rfl) (p_pickT rfl rfl) (by decide) (fun h => absurd h (by decide)) ?_
    refine pw_done ?_
    refine cw_true rfl ?_
    refine cw_seq (cw_region ?_)
    refine l_pur (p_assignC) (by decide) ?_
    refine lw_nil ?_
    refine cw_ret ?_
    repeat (with_reducible first | refine tf_ret ?_ | refine ib_ret ?_)
    refine fin1 (fn := Tryz.f34) rfl (rv_tmpB rfl) ?_
    exact ⟨by simp [validP, hg4], hs.drop1⟩
  · try simp only [decide_eq_true_eq, decide_eq_false_iff_not, Bool.not_eq_true', Bool.not_eq_false', beq_iff_eq, bne_iff_ne, beq_eq_false_iff_ne, bne_eq_false_iff_eq] at hg4
    refine pw_pur rfl (wt_yes rfl rfl rfl rfl) (p_fieldAddr fo71_1 rfl) (by decide) (fun _ => hS) ?_
    refine pw_ld rfl (wt_yes rfl rfl rfl rfl) (by kernel_rfl) (Hold.runs_loadO (α := GPrefix) (β := Int) ty3 rfl GPrefix.l_bits (List.Mem.head _)) (by decide) hS ?_
    refine pw_pur rfl (wt_yes rfl rfl rfl rfl) (p_lss rfl rfl) (by decide) (fun _ => hS) ?_
    refine pw_pur rfl (wt_free rfl) (p_pickF rfl rfl) (by decide) (fun _ => hS) ?_
    refine pw_purB rfl (wt_free rfl) (p_moveB rfl) (by decide) (fun _ => hS) (fun hg9 => ?_) (fun hg9 => ?_)
    · try simp only [decide_eq_true_eq, decide_eq_false_iff_not, Bool.not_eq_true', Bool.not_eq_false', beq_iff_eq, bne_iff_ne, beq_eq_false_iff_ne, bne_eq_false_iff_eq] at hg9
      refine pw_pass rfl (wt_no rfl rfl rfl rfl rfl) (by decide) (fun _ => hS) ?_
      refine pw_pass rfl (wt_no rfl rfl rfl rfl rfl) (by decide) (fun _ => hS) ?_
      refine pw_pass rfl (wt_no rfl rfl rfl rfl rfl) (by decide) (fun _ => hS) ?_
      refine pw_pass rfl (wt_no rfl rfl rfl rfl rfl) (by decide) (fun _ => hS) ?_
      refine pw_one ?_
      refine ow_pass rfl (wt_no rfl rfl rfl rfl rfl) (by decide) (fun _ => hS) ?_
      refine pw_pass rfl (wt_no rfl rfl rfl rfl rfl) (by decide) (fun h => absurd h (by decide)) ?_
      refine pw_pur rfl (wt_free rfl) (p_pickT rfl rfl) (by decide) (fun h => absurd h (by decide)) ?_
      refine pw_done ?_
      refine cw_true rfl ?_
      refine cw_seq (cw_region ?_)
      refine l_pur (p_assignC) (by decide) ?_
      refine lw_nil ?_
      refine cw_ret ?_
      repeat (with_reducible first | refine tf_ret ?_ | refine ib_ret ?_)
      refine fin1 (fn := Tryz.f34) rfl (rv_tmpB rfl) ?_
      have h0 : ¬ 0 ≤ p.bits := by omega
      exact ⟨by simp [validP, h0], hs.drop1⟩
    · try simp only [decide_eq_true_eq, decide_eq_false_iff_not, Bool.not_eq_true', Bool.not_eq_false', beq_iff_eq, bne_iff_ne, beq_eq_false_iff_ne, bne_eq_false_iff_eq] at hg9
      refine pw_pur rfl (wt_yes rfl rfl rfl rfl) (p_fieldAddr fo71_1 rfl) (by decide) (fun _ => hS) ?_
      refine pw_ld rfl (wt_yes rfl rfl rfl rfl) (by kernel_rfl) (Hold.runs_loadO (α := GPrefix) (β := Int) ty3 rfl GPrefix.l_bits (List.Mem.head _)) (by decide) hS ?_
      refine pw_pur rfl (wt_yes rfl rfl rfl rfl) (p_fieldAddr fo71_0 rfl) (by decide) (fun _ => hS) ?_
      refine pw_ld rfl (wt_yes rfl rfl rfl rfl) (by kernel_rfl) (Hold.runs_loadO (α := GPrefix) (β := GAddr) ty41 rfl GPrefix.l_addr (List.Mem.head _)) (by decide) hS ?_
      refine pw_one ?_
      refine ow_call1 rfl (wt_yes rfl rfl rfl rfl) fn71 (s_width hs) rfl ?_ (by decide)
      clear hs hS
      rintro _ w ⟨rfl, hs⟩
      refine ⟨fun _ => Hold.cons hs (List.Mem.head _) (Hold.nil hs (PH.refl _)), ?_⟩; have hS := Hold.cons hs (List.Mem.head _) (Hold.nil hs (PH.refl _))
      refine pw_pur rfl (wt_yes rfl rfl rfl rfl) (p_gtr rfl rfl) (by decide) (fun h => absurd h (by decide)) ?_
      refine pw_pur rfl (wt_free rfl) (p_pickF rfl rfl) (by decide) (fun h => absurd h (by decide)) ?_
      refine pw_done ?_
      refine cw_cond _ rfl (fun hc0 => ?_) (fun hc0 => ?_)
      · try simp only [decide_eq_true_eq, decide_eq_false_iff_not, Bool.not_eq_true', Bool.not_eq_false', beq_iff_eq, bne_iff_ne, beq_eq_false_iff_ne, bne_eq_false_iff_eq] at hc0
        refine cw_seq (cw_region ?_)
        refine l_pur (p_assignC) (by decide) ?_
        refine lw_nil ?_
        refine cw_ret ?_
        repeat (with_reducible first | refine tf_ret ?_ | refine ib_ret ?_)
        refine fin1 (fn := Tryz.f34) rfl (rv_tmpB rfl) ?_
        have h0 : ¬ p.bits ≤ widthA p.addr := by omega
        exact ⟨by simp [validP, h0], hs.drop1⟩
      · try simp only [decide_eq_true_eq, decide_eq_false_iff_not, Bool.not_eq_true', Bool.not_eq_false', beq_iff_eq, bne_iff_ne, beq_eq_false_iff_ne, bne_eq_false_iff_eq] at hc0
        refine cw_skip ?_
        refine cw_seq ?_
        refine cw_seq (cw_region ?_)
        refine l_pur (p_fieldAddr fo71_1 rfl) (by decide) ?_
        refine l_loadO (α := GPrefix) (β := Int) ty3 rfl GPrefix.l_bits hs (List.Mem.head _) (by decide) ?_
        refine l_pur (p_assignI rfl) (by decide) ?_
        refine lw_nil ?_
        refine cw_block ?_
        refine cw_loop (fun q f w => ∃ (i : Nat), q = 128 - i ∧ f 3 = vi i ∧ f 1 = ptr b1 0 ∧ zerosFrom p.addr p.bits.toNat = zerosFrom p.addr i ∧ i ≤ 128 ∧ St W0 V w ((b1, blk 71 p) :: L)) (128 - p.bits.toNat) ?_ ?_
        · have hw : widthA p.addr ≤ 128 := by unfold widthA; split <;> omega
          refine ⟨p.bits.toNat, rfl, ?_, rfl, rfl, by omega, hs⟩
          show vi p.bits = vi (p.bits.toNat : Int)
          congr 1; omega
        · intro q f w hI
          obtain ⟨i, rfl, e3, e1, hz, hi, hs⟩ := hI
          refine cw_seq ?_
          refine cw_seq (cw_region ?_)
          refine l_pur (p_move e3) (by decide) ?_
          refine l_pur (p_lss rfl rfl) (by decide) ?_
          refine lw_nil ?_
          refine cw_cond _ rfl (fun hc1 => ?_) (fun hc1 => ?_)
          · have hlt : i < 128 := by have := of_decide_eq_true hc1; omega
            refine cw_skip ?_
            refine cw_seq ?_
            refine cw_block ?_
            refine cw_seq (cw_region ?_)
            refine l_pur (p_fieldAddr fo71_0 e1) (by decide) ?_
            refine l_loadO (α := GPrefix) (β := GAddr) ty41 rfl GPrefix.l_addr hs (List.Mem.head _) (by decide) ?_
            refine l_pur (p_move e3) (by decide) ?_
            refine l_call2 fn72 (s_bit hs hlt) rfl rfl ?_ (by decide)
            clear hs; rintro _ w ⟨rfl, hs⟩
            refine l_pur (p_neq_u8 (b := (0 : UInt8)) rfl rfl) (by decide) ?_
            refine lw_nil ?_
            refine cw_cond _ rfl (fun hc2 => ?_) (fun hc2 => ?_)
            · try simp only [decide_eq_true_eq, decide_eq_false_iff_not, Bool.not_eq_true', Bool.not_eq_false', beq_iff_eq, bne_iff_ne, beq_eq_false_iff_ne, bne_eq_false_iff_eq] at hc2
              refine cw_seq (cw_region ?_)
              refine l_pur (p_assignC) (by decide) ?_
              refine lw_nil ?_
              refine cw_ret ?_
              repeat (with_reducible first | refine tf_ret ?_ | refine ib_ret ?_)
              refine fin1 (fn := Tryz.f34) rfl (rv_tmpB rfl) ?_
              have h0 : zerosFrom p.addr p.bits.toNat = false := by rw [hz, zerosFrom, dif_pos hlt]; simp [hc2]
              exact ⟨by simp [validP, h0], hs.drop1⟩
            · try simp only [decide_eq_true_eq, decide_eq_false_iff_not, Bool.not_eq_true', Bool.not_eq_false', beq_iff_eq, bne_iff_ne, beq_eq_false_iff_ne, bne_eq_false_iff_eq] at hc2
              refine cw_skip ?_
              refine cw_region ?_
              refine l_pur (p_move e3) (by decide) ?_
              refine l_pur (p_add64 rfl rfl (by first | omega | (dsimp only; omega) | (simp; omega))) (by decide) ?_
              refine l_pur (p_assignI rfl) (by decide) ?_
              refine lw_nil ?_
              exact ⟨_, by omega, i + 1, rfl, rfl, e1, by rw [hz, zerosFrom, dif_pos hlt]; simp [Decidable.not_not.1 hc2], by omega, hs⟩
          · have hge : i = 128 := by have := of_decide_eq_false hc1; omega
            refine cw_exit ?_
            refine cw_seq (cw_region ?_)
            refine l_pur (p_assignC) (by decide) ?_
            refine lw_nil ?_
            refine cw_ret ?_
            repeat (with_reducible first | refine tf_ret ?_ | refine ib_ret ?_)
            refine fin1 (fn := Tryz.f34) rfl (rv_tmpB rfl) ?_
            have h0 : zerosFrom p.addr p.bits.toNat = true := by rw [hz, zerosFrom, dif_neg (by omega)]
            have h1 : 0 ≤ p.bits := by omega
            have h2 : p.bits ≤ widthA p.addr := by omega
            exact ⟨by simp [validP, hg4, h0, h1, h2], hs.drop1⟩
end Go.Bur
namespace Go.Bur
open Go Go.RowKit Go.Proofs
set_option maxHeartbeats 4000000
variable {W0 : World} {V : PH} {w : World} {L : List (Nat × Obj)}
def cancelT (xs : List GTimer) (peer : GKey) (kind : Int) : List GTimer := xs.filter fun t => decide (t.peer ≠ peer ∨ t.kind ≠ kind)
theorem cancelT_snoc (xs : List GTimer) (peer : GKey) (kind : Int) (i : Nat) (h : i < xs.length) :
    cancelT (xs.take (i + 1)) peer kind = cancelT (xs.take i) peer kind ++ if xs[i].peer ≠ peer ∨ xs[i].kind ≠ kind then [xs[i]] else [] := by
  unfold cancelT
  rw [List.take_succ_eq_append_getElem h, List.filter_append]
  congr 1
  by_cases hc : xs[i].peer ≠ peer ∨ xs[i].kind ≠ kind <;> simp [List.filter_cons, hc]
theorem cancelT_len (xs : List GTimer) (peer : GKey) (kind : Int) (i : Nat) : (cancelT (xs.take i) peer kind).length ≤ xs.length :=
  Nat.le_trans (List.length_filter_le _ _) (by simp; omega)
theorem s_cancel {a : Option Addr} {cap : Nat} {xs : List GTimer} {peer : GKey} {kind : Int} (hs : St W0 V w L) (hl : Sl V 75 a cap xs) (hlen : xs.length < 1000000) :
    Calls Tryz.prog 32 #[.slice a xs.length cap, val peer, vi kind] w (okR fun v w' => Own W0 V w' L 75 v (cancelT xs peer kind)) := by
  refine fn_enter (n := 32) Tryz.func32 rfl rfl rfl ?_
  intro f hf
  have e0 := hf 0
  have e1 := hf 1
  have e2 := hf 2
  simp only [Array.getD_eq_getD_getElem?, List.getElem?_toArray, List.getElem?_cons_zero, List.getElem?_cons_succ, Option.getD_some] at e0 e1 e2
  clear hf
  refine cw_seq (cw_region ?_)
  refine l_box (α := (Vec 32 UInt8)) e1 hs (by decide) ?_; clear hs; intro b4 w hs
  refine l_pur (p_assignC) (by decide) ?_
  refine lw_nil ?_
  refine cw_seq (cw_region ?_)
  refine l_pur (p_assignC) (by decide) ?_
  refine lw_nil ?_
  refine cw_seq ?_
  refine cw_seq (cw_region ?_)
  refine l_pur (p_move e0) (by decide) ?_
  refine l_pur (p_len Tryz.underlying31 rfl) (by decide) ?_
  refine l_pur (p_moveC) (by decide) ?_
  refine lw_nil ?_
  refine cw_block ?_
  refine cw_loop (fun q f w => ∃ (i : Nat) (v : Value), q = xs.length - i ∧ i ≤ xs.length ∧ f 12 = vi i ∧ f 10 = .slice a xs.length cap ∧ f 11 = vi xs.length ∧ f 4 = ptr b4 0 ∧ f 2 = vi kind ∧ f 7 = v ∧ Own W0 V w ((b4, blk 27 peer) :: L) 75 v (cancelT (xs.take i) peer kind)) (xs.length) ?_ ?_
  · exact ⟨0, _, rfl, Nat.zero_le _, rfl, rfl, rfl, rfl, e2, rfl, Own.nil hs⟩
  · intro q f w hI
    obtain ⟨i, v, rfl, hi, e12, e10, e11, e4, e2, e7, ho⟩ := hI
    clear hs
    obtain ⟨A, hs, hA⟩ := ho.open'
    obtain ⟨a2, c2, rfl⟩ := hA.len
    replace hs := hs.rot
    refine cw_seq (cw_region ?_)
    refine l_pur (p_lss e12 e11) (by decide) ?_
    refine lw_nil ?_
    refine cw_seq ?_
    refine cw_cond _ rfl (fun hc0 => ?_) (fun hc0 => ?_)
    · have hlt : i < xs.length := by simpa using hc0
      clear hc0
      refine cw_skip ?_
      refine cw_seq ?_
      refine cw_block ?_
      refine cw_seq (cw_region ?_)
      refine l_indexSl (α := GTimer) el31.sl ty75 e10 rfl e12 (by first | omega | (dsimp only; omega) | (simp; omega)) hl (by decide) ?_; intro bb14 oo14 cc14 hb14 ha14
      refine l_loadV (α := GTimer) ty75 rfl hs hb14 ha14 (by decide) ?_
      refine l_alloc z75 hs (by decide) ?_; clear hs; intro b9 w hs
      refine l_store0 (α := GTimer) (β := GTimer) ty75 rfl rfl (Lens.id GTimer) hs ?_; clear hs; intro w hs
      refine lw_nil ?_
      refine cw_seq (cw_region ?_)
      refine l_pur (p_fieldAddr fo75_1 rfl) (by decide) ?_
      refine l_loadO (α := GTimer) (β := (Vec 32 UInt8)) ty27 rfl GTimer.l_peer hs (List.Mem.head _) (by decide) ?_
      refine l_loadO (α := (Vec 32 UInt8)) (β := (Vec 32 UInt8)) ty27 e4 (Lens.id (Vec 32 UInt8)) hs (List.Mem.tail _ (List.Mem.head _)) (by decide) ?_
      refine l_pur (p_neqS eq27 rfl rfl) (by decide) ?_
      refine l_purB (p_moveB rfl) (by decide) (fun hg4 => ?_) (fun hg4 => ?_)
      · try simp only [decide_eq_true_eq, decide_eq_false_iff_not, Bool.not_eq_true', Bool.not_eq_false', beq_iff_eq, bne_iff_ne, beq_eq_false_iff_ne, bne_eq_false_iff_eq] at hg4
        refine lw_pass rfl rfl rfl rfl rfl rfl (by decide) ?_
        refine lw_pass rfl rfl rfl rfl rfl rfl (by decide) ?_
        refine lw_pass rfl rfl rfl rfl rfl rfl (by decide) ?_
        refine lw_pass rfl rfl rfl rfl rfl rfl (by decide) ?_
        refine l_pur (p_pickT rfl rfl) (by decide) ?_
        refine lw_nil ?_
        refine cw_true rfl ?_
        refine cw_region ?_
        refine l_pur (p_move e7) (by decide) ?_
        refine l_loadO (α := GTimer) (β := GTimer) ty75 rfl (Lens.id GTimer) hs (List.Mem.head _) (by decide) ?_
        refine l_buildSlice1 (α := GTimer) el31 z75 rfl (by decide) hs (by decide) ?_; clear hs; intro b28 w hs
        refine l_append1 el31 rfl rfl (hA.close3 hs) (by have := cancelT_len xs peer kind i; omega) (by have := cancelT_len xs peer kind i; omega) (by decide) ?_; intro v2 w ho
        obtain ⟨a3, c3, rfl⟩ := ho.len
        refine l_pur (p_assignL rfl) (by decide) ?_
        refine lw_nil ?_
        refine cw_region ?_
        refine l_pur (p_add64 e12 rfl (by first | omega | (dsimp only; omega) | (simp; omega))) (by decide) ?_
        refine l_pur (p_moveI rfl) (by decide) ?_
        refine lw_nil ?_
        have hsn := cancelT_snoc xs peer kind i hlt
        first
        | (rw [if_neg (by simp [*])] at hsn; exact ⟨_, by omega, i + 1, _, rfl, hlt, rfl, e10, e11, e4, e2, e7, by rw [hsn, List.append_nil]; exact (hA.close2 hs).drop1⟩)
        | (rw [if_pos (by simp [*])] at hsn; exact ⟨_, by omega, i + 1, _, rfl, hlt, rfl, e10, e11, e4, e2, rfl, by rw [hsn]; exact ho.drop1⟩)
      · try simp only [decide_eq_true_eq, decide_eq_false_iff_not, Bool.not_eq_true', Bool.not_eq_false', beq_iff_eq, bne_iff_ne, beq_eq_false_iff_ne, bne_eq_false_iff_eq] at hg4
        refine lw_do rfl rfl rfl ?_
        refine l_pur (p_fieldAddr fo75_2 rfl) (by decide) ?_
        refine lw_do rfl rfl rfl ?_
        refine l_loadO (α := GTimer) (β := Int) ty3 rfl GTimer.l_kind hs (List.Mem.head _) (by decide) ?_
        refine lw_do rfl rfl rfl ?_
        refine l_pur (p_move e2) (by decide) ?_
        refine lw_do rfl rfl rfl ?_
        refine l_pur (p_neq rfl rfl) (by decide) ?_
        refine l_pur (p_pickF rfl rfl) (by decide) ?_
        refine lw_nil ?_
        refine cw_cond _ rfl (fun hc1 => ?_) (fun hc1 => ?_)
        · try simp only [decide_eq_true_eq, decide_eq_false_iff_not, Bool.not_eq_true', Bool.not_eq_false', beq_iff_eq, bne_iff_ne, beq_eq_false_iff_ne, bne_eq_false_iff_eq] at hc1
          refine cw_region ?_
          refine l_pur (p_move e7) (by decide) ?_
          refine l_loadO (α := GTimer) (β := GTimer) ty75 rfl (Lens.id GTimer) hs (List.Mem.head _) (by decide) ?_
          refine l_buildSlice1 (α := GTimer) el31 z75 rfl (by decide) hs (by decide) ?_; clear hs; intro b28 w hs
          refine l_append1 el31 rfl rfl (hA.close3 hs) (by have := cancelT_len xs peer kind i; omega) (by have := cancelT_len xs peer kind i; omega) (by decide) ?_; intro v2 w ho
          obtain ⟨a3, c3, rfl⟩ := ho.len
          refine l_pur (p_assignL rfl) (by decide) ?_
          refine lw_nil ?_
          refine cw_region ?_
          refine l_pur (p_add64 e12 rfl (by first | omega | (dsimp only; omega) | (simp; omega))) (by decide) ?_
          refine l_pur (p_moveI rfl) (by decide) ?_
          refine lw_nil ?_
          have hsn := cancelT_snoc xs peer kind i hlt
          first
          | (rw [if_neg (by simp [*])] at hsn; exact ⟨_, by omega, i + 1, _, rfl, hlt, rfl, e10, e11, e4, e2, e7, by rw [hsn, List.append_nil]; exact (hA.close2 hs).drop1⟩)
          | (rw [if_pos (by simp [*])] at hsn; exact ⟨_, by omega, i + 1, _, rfl, hlt, rfl, e10, e11, e4, e2, rfl, by rw [hsn]; exact ho.drop1⟩)
        · try simp only [decide_eq_true_eq, decide_eq_false_iff_not, Bool.not_eq_true', Bool.not_eq_false', beq_iff_eq, bne_iff_ne, beq_eq_false_iff_ne, bne_eq_false_iff_eq] at hc1
          refine cw_skip ?_
          refine cw_region ?_
          refine l_pur (p_add64 e12 rfl (by first | omega | (dsimp only; omega) | (simp; omega))) (by decide) ?_
          refine l_pur (p_moveI rfl) (by decide) ?_
          refine lw_nil ?_
          have hsn := cancelT_snoc xs peer kind i hlt
          first
          | (rw [if_neg (by simp [*])] at hsn; exact ⟨_, by omega, i + 1, _, rfl, hlt, rfl, e10, e11, e4, e2, e7, by rw [hsn, List.append_nil]; exact (hA.close2 hs).drop1⟩)
          | (rw [if_pos (by simp [*])] at hsn; exact ⟨_, by omega, i + 1, _, rfl, hlt, rfl, e10, e11, e4, e2, rfl, by rw [hsn]; exact ho.drop1⟩)
    · have hge : i = xs.length := by simp at hc0; omega
      subst hge
      refine cw_exit ?_
      refine cw_seq (cw_region ?_)
      refine l_pur (p_move e7) (by decide) ?_
      refine l_pur (p_assignL rfl) (by decide) ?_
      refine lw_nil ?_
      refine cw_ret ?_
      repeat (with_reducible first | refine tf_ret ?_ | refine ib_ret ?_)
      refine fin1 (fn := Tryz.f32) rfl (rv_tmpL rfl) ?_
      have := (hA.close1 hs).drop1
      rwa [List.take_length] at this ⊢
end Go.Bur
