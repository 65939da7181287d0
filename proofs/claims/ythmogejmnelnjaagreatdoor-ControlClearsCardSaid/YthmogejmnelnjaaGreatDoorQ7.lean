/- A part of a proof over the given seat: how values, memory, calls and regions are told, and the walks of functions, each once. No condition. -/
import Derived.Test.YthmogejmnelnjaaGreatDoorRows
import Derived.Test.YthmogejmnelnjaaGreatDoorCards
import Derived.Test.YthmogejmnelnjaaGreatDoorTie
import Derived.ProofKit
import Derived.ChangeVars
import Derived.JoinedOf
import Derived.LaidLaws
import Derived.LaidMore
import Derived.Lay
import Derived.MakeChecks
import Derived.OpenShut
import Derived.Stop.Joined
import Derived.SevenTiedAt
import Derived.KernelRfl
import Derived.Test.YthmogejmnelnjaaGreatDoorQ6
set_option linter.unusedVariables false
set_option linter.unusedSimpArgs false
namespace Go.Proofs.YthmogejmnelnjaaGreatDoor
open Go.ChangeShapes Go.WideShapes Go.ChangeAt Go.RowKit Go.Bur
theorem own : ownKnob Tryz.prog.godebug = none := by kernel_rfl
theorem laidOut : laidOutB Tryz.prog = true := by kernel_rfl
theorem slG_of {W : World} {b off len cap : Nat} {zs : List Int} (hc : ∀ i, i < zs.length → W.cell? ⟨b, off + i, none⟩ = some (.int .u8 (zs.getD i 0))) (hw : ∀ n ∈ zs, (Lit.int .u8 n).wf = true) (hlen : len ≤ zs.length) (hcap : len ≤ cap) :
    SlG (fun i => W.heap[i]?) (some ⟨b, off, none⟩) cap ((zs.take len).map fun z => UInt8.ofNat z.toNat) := by
  by_cases h0 : len = 0
  · subst h0; left; simp
  right
  have h1 := hc 0 (by omega)
  simp only [World.cell?, Option.isSome_none, Bool.false_eq_true, if_false] at h1 hc
  cases hq : W.heap[b]? with
  | none => rw [hq] at h1; cases h1
  | some o =>
    rw [hq] at h1 hc
    cases o with
    | cells c T z =>
      refine ⟨b, off, c, rfl, ⟨T, z, hq⟩, ?_, by simp; omega⟩
      unfold AtL
      apply List.ext_getElem?
      intro i
      have hl : ((zs.take len).map fun z => UInt8.ofNat z.toNat).length * Enc.size UInt8 = len := by
        show _ * 1 = _
        simp; omega
      rw [hl, List.getElem?_take]
      have hfl : flat ((zs.take len).map fun z => UInt8.ofNat z.toNat) = (zs.take len).map fun z => (.int .u8 ((UInt8.ofNat z.toNat).toNat : Int) : Value) := by
        unfold flat
        rw [List.flatMap_map]
        generalize zs.take len = l
        induction l with
        | nil => rfl
        | cons x l ih => rw [List.flatMap_cons, List.map_cons, ih]; rfl
      rw [hfl, List.getElem?_map, List.getElem?_take]
      by_cases hi : i < len
      · rw [if_pos hi, if_pos hi, List.getElem?_drop]
        have h2 := hc i (by omega)
        dsimp only at h2
        rw [← Array.getElem?_toList] at h2
        rw [h2]
        have h3 : zs.getD i 0 = zs[i]'(by omega) := by simp [List.getD, show i < zs.length by omega]
        have h4 := bounds_u8 (hw _ (List.getElem_mem (show i < zs.length by omega)))
        rw [List.getElem?_eq_getElem (show i < zs.length by omega), h3, Option.map_some]
        have h5 : ((UInt8.ofNat (zs[i]'(by omega)).toNat).toNat : Int) = zs[i]'(by omega) := by
          rw [UInt8.toNat_ofNat']
          omega
        rw [h5]
      · rw [if_neg hi, if_neg hi]; rfl
    | _ => cases h1
theorem walk_nil (W : World) (x : UInt8) : Calls Tryz.prog 3 #[.slice none 0 0, val x] W fun e W' => e = .returned (.bool true) ∧ Below W.heap.size W W' := by
  have hs : St W (fun i => W.heap[i]?) W [] := ⟨Below.refl _ _, fun _ _ h => h, fun _ h => (by cases h), List.nodup_nil⟩
  refine (s_law (a := none) (cap := 0) (xs := []) (which := x) hs (.inl rfl) (Nat.le_refl _) (by decide)).mono ?_
  rintro e w' ⟨v, rfl, rfl, hs2⟩
  exact ⟨rfl, hs2.base⟩
theorem walk_some (W : World) (x : UInt8) {b off len cap : Nat} {zs : List Int} (hc : ∀ i, i < zs.length → W.cell? ⟨b, off + i, none⟩ = some (.int .u8 (zs.getD i 0))) (hw : ∀ n ∈ zs, (Lit.int .u8 n).wf = true) (hlen : len ≤ zs.length) (hcap : len ≤ cap) (hmax : cap ≤ maxLen) :
    Calls Tryz.prog 3 #[.slice (some ⟨b, off, none⟩) len cap, val x] W fun e W' => e = .returned (.bool true) ∧ Below W.heap.size W W' := by
  have hs : St W (fun i => W.heap[i]?) W [] := ⟨Below.refl _ _, fun _ _ h => h, fun _ h => (by cases h), List.nodup_nil⟩
  have hl : ((zs.take len).map fun z => UInt8.ofNat z.toNat).length = len := by simp; omega
  have hm : maxLen = 9223372036854775807 := rfl
  have h := s_law (which := x) hs (slG_of hc hw hlen hcap) (by rw [hl]; exact hcap) (by rw [hl]; omega)
  rw [hl] at h
  refine h.mono ?_
  rintro e w' ⟨v, rfl, rfl, hs2⟩
  exact ⟨rfl, hs2.base⟩
theorem walk_zero (W : World) (x : UInt8) (a : Option Addr) (cap : Nat) (hmax : cap ≤ maxLen) :
    Calls Tryz.prog 3 #[.slice a 0 cap, val x] W fun e W' => e = .returned (.bool true) ∧ Below W.heap.size W W' := by
  have hs : St W (fun i => W.heap[i]?) W [] := ⟨Below.refl _ _, fun _ _ h => h, fun _ h => (by cases h), List.nodup_nil⟩
  refine (s_law (a := a) (cap := cap) (xs := []) (which := x) hs (.inl rfl) (Nat.zero_le _) (by decide)).mono ?_
  rintro e w' ⟨v, rfl, rfl, hs2⟩
  exact ⟨rfl, hs2.base⟩
end Go.Proofs.YthmogejmnelnjaaGreatDoor
namespace Go.Proofs.YthmogejmnelnjaaGreatDoor
open Go.ChangeShapes Go.WideShapes Go.ChangeAt Go.RowKit Go.Bur
set_option maxRecDepth 100000 in
theorem lifted (os : Os) (started : os.Started) (H : Type) (enc : TypeId × Value → H) :
    ReturnsInHanded {} Tryz.checked os 3 .any (fun w args => (Rows.controlClearsSpec.pre enc Tryz.prog Tryz.f3 [] false w args ∧ laidMetH Tryz.prog Rows.controlClearsRow.laid w) ∧ sizedMet enc Tryz.prog Tryz.f3 (OpenSpec.ofChange Rows.controlClearsSpec) false w args)
      (Rows.controlClearsSpec.post enc Tryz.prog Tryz.f3 false true false false) := by
  refine returnsInHanded_of_change_and (C := Tryz.checked) (X := fun w _ => laidMetH Tryz.prog Rows.controlClearsRow.laid w) (fun _ _ _ hh h => h.of_heap hh) own started (by kernel_rfl) Tryz.func3
    (ChangeSpec.witness_shaped (enc := enc) (C := Tryz.checked) (os := os) (X := fun w _ => laidMetH Tryz.prog Rows.controlClearsRow.laid w) false (World.laidAll Tryz.prog os Rows.controlClearsRow.laid) #[.slice none 0 0, .int .u8 0] 8 (World.laidAll_os _ _ _)
      (World.shaped_of_ZipB (by kernel_rfl) (by kernel_rfl)) (by kernel_rfl) (by kernel_rfl) (by kernel_rfl)
      (by rw [MakeChecks.laidMetH_plain _ _ _ (by kernel_rfl)]; exact laidMet_laidAll _ (by kernel_rfl) (by kernel_rfl))) ?_
  intro W base args ds gs before hval0 hW _ _ _ _
  have hval : ∀ (j : Nat) t v, Tryz.f3.params[j]? = some t → args[j]? = some v → Value.okWide Tryz.prog W .any base t v := hval0
  have hW' := hW
  obtain ⟨p, q, hA0, hV, rfl, _, _⟩ := hW
  have hA : DataW.TrodAll enc Tryz.prog W 0 (fun _ => true) true Tryz.f3.params.toList args.toList ds p := hA0
  rw [Tryz.params3] at hA hval
  obtain ⟨v0, v1, d0, d1, p0, p1, rfl, rfl, rfl, h0, h1⟩ := trodAll_two hA
  obtain ⟨rfl, rfl⟩ := trodVars_none hV
  obtain ⟨x, rfl, rfl, rfl, wx⟩ := open_int Tryz.underlying5 (hval 1 5 v1 rfl rfl) h1
  have hx := bounds_u8 wx
  have ex : (.int .u8 x : Value) = val (UInt8.ofNat x.toNat) := by
    show _ = Value.int .u8 ((UInt8.ofNat x.toNat).toNat : Int)
    rw [UInt8.toNat_ofNat']
    congr 1
    omega
  simp only [List.append_nil] at hW'
  have hlt : ∀ y ∈ p0, y.block < W.heap.size := fun y hy => hW'.lt y (by simpa using hy)
  have fin : ∀ W', Below W.heap.size W W' → Rows.controlClearsSpec.post enc Tryz.prog Tryz.f3 false true false false W #[v0, .int .u8 x] (.bool true) W' := fun W' hb => by
    refine ⟨_, _, _, [], p0 ++ [], [], hW', trodAll_mk1 (shut_bool Tryz.underlying4 _), ?_, rfl, hb.frame _, fun h => by cases h⟩
    have := trodAll_mk2 (Below.trod laidOut (by kernel_rfl) (of_decide_eq_true (by kernel_rfl)) h0 hb hlt) (shut_int (enc := enc) (w := W') (base := 0) (spare := fun b => decide (b < W.heap.size)) (held := true) Tryz.underlying5 wx)
    exact this
  suffices hx : Calls Tryz.prog 3 #[v0, val (UInt8.ofNat x.toNat)] W fun e W' => e = .returned (.bool true) ∧ Below W.heap.size W W' by
    rw [← ex] at hx
    refine hx.mono fun e W' ⟨he, hb⟩ => ?_
    subst he
    exact ⟨_, rfl, fin W' hb⟩
  obtain ⟨a0, l0, c0, rfl⟩ := okWide_slice Tryz.underlying22 (hval 0 22 v0 rfl rfl)
  obtain ⟨fuel, h0'⟩ := h0
  rcases open_ints Tryz.underlying22 Tryz.underlying5 (by kernel_rfl) h0' with ⟨e1, e2⟩ | ⟨a, len, cap, zs, e1, hb, hle, hmax, hzl, e2, hcell, hwf⟩
  · have e3 : [Value.slice a0 l0 c0] = [.slice none 0 0] := e1
    injection e3 with e3 _
    rw [e3]
    exact walk_nil W _
  · have e3 : [Value.slice a0 l0 c0] = [.slice (some a) len cap] := e1
    injection e3 with e3 _
    rw [e3]
    have hzl' : zs.length = cap := by simpa using hzl
    by_cases hz : len = 0
    · subst hz
      exact walk_zero W _ _ _ hmax
    · obtain ⟨b, off, rfl, hc⟩ := ints_at hcell (by omega)
      exact walk_some W _ hc hwf (by omega) hle hmax
end Go.Proofs.YthmogejmnelnjaaGreatDoor
namespace Go.Proofs.YthmogejmnelnjaaGreatDoor
theorem noGo_goes {P : Program} {f : FuncId} (h : P.funcs.any Func.goes = false) : P.goes f = false := by
  unfold Program.goes
  rw [h, Bool.and_false, Bool.or_false]
  rw [Array.any_eq_false] at h
  simp only [List.any_eq_false, Array.any_eq_false']
  intro g _
  cases hq : P.funcs[g]? with
  | none => simp
  | some fn =>
    obtain ⟨hlt, hv⟩ := Array.getElem?_eq_some_iff.1 hq
    have := h g hlt
    rw [hv] at this
    simpa using this
theorem noGo : Tryz.pinned.checked.prog.funcs.any Func.goes = false := by kernel_rfl
theorem named3' : Tryz.prog.funcNamed "burrow/burrowlaw25.ControlClears" = some 3 := by kernel_rfl
theorem goesBy_of {c : OpenClaim} {P : Program} {k : FuncId} (hc : c.start = .entering) (hn : P.funcNamed c.func = some k) (h : P.funcs.any Func.goes = false) : false = c.goesBy P := by
  unfold OpenClaim.goesBy Program.goesAt Program.goesFrom
  rw [hc, hn]
  simp [noGo_goes h]
theorem goes3 : false = Rows.controlClearsRow.goesBy Tryz.pinned.checked.prog := goesBy_of rfl named3' noGo
end Go.Proofs.YthmogejmnelnjaaGreatDoor
namespace Go.Proofs.YthmogejmnelnjaaGreatDoor
theorem wants3 : ([22, 5].all fun u => !Tryz.prog.wantsStandIn u) = true := by kernel_rfl
theorem wf3 : Rows.controlClearsRow.wfByText (OpenSpec.ofChange Rows.controlClearsSpec) = true := by kernel_rfl
theorem main3 : Tryz.pinned.checked.prog.mainIs = some (true, "21a968cd142d1cea1954b733b441584b1d96b47ce8d776acee3724ba7335d09b".toList) := by kernel_rfl
theorem looks3 : true = Tryz.pinned.checked.prog.looks [] := by kernel_rfl
theorem card_of (holds : Rows.ControlClearsSaid) : Rows.ControlClearsCardSaid :=
  Claim7.holds_tied_plain_at .later [] [.data, .data, .data, .data, .sentinel, .sentinel, .pinned] true (true, "21a968cd142d1cea1954b733b441584b1d96b47ce8d776acee3724ba7335d09b") true holds (fun _ h => by cases h) wf3 (fun _ h => by cases h) controlClears_row_tie rfl ⟨rfl, rfl⟩ main3 rfl
    (fun f fn hf hfn => by
      obtain rfl : f = 3 := Option.some.inj (named3'.symm.trans hf) |>.symm
      obtain rfl : fn = Tryz.f3 := (Option.some.inj (Tryz.func3.symm.trans hfn)).symm
      exact ⟨looks3, fun j t ht => by
        rw [Tryz.params3] at ht
        have hm : t ∈ [22, 5] := by simpa using Array.mem_of_getElem? ht
        exact (show Tryz.prog.wantsStandIn t = false by simpa using List.all_eq_true.1 wants3 t hm)⟩)
    goes3
end Go.Proofs.YthmogejmnelnjaaGreatDoor
