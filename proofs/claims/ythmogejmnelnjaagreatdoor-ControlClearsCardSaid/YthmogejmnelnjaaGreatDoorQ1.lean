/- A part of a proof over the given seat: how values, memory, calls and regions are told, and the walks of functions, each once. No condition. -/
import Derived.Laws.IdiomStrings
import Derived.Laws.OwnMore
import Derived.Test.YthmogejmnelnjaaGreatDoorQ0
set_option linter.unusedVariables false
set_option linter.unusedSimpArgs false
namespace Go.Bur
open Go Go.RowKit
abbrev GKey := Vec 32 UInt8
abbrev GTag := Vec 16 UInt8
abbrev Enc.row {α : Type} (cs : α → List Value) (n : Nat) (h : ∀ a, (cs a).length = n) (h1 : ∀ a, ∀ u ∈ cs a, u.oneCell' = true) : Enc α where
  val a := .agg (cs a).toArray
  size := n
  agg := true
  hsize a := by simpa [Value.cells] using h a
  one a u hu := h1 a u (by simpa [Value.cells] using hu)
  hagg a := rfl
  hone a hh := by cases hh
theorem one_cells {α : Type} [Enc α] (x : α) : ∀ u ∈ cells x, u.oneCell' = true := fun u hu => Enc.one x u (by simpa [cells] using hu)
theorem one_app {a b : List Value} (h : ∀ u ∈ a, u.oneCell' = true) (k : ∀ u ∈ b, u.oneCell' = true) : ∀ u ∈ a ++ b, u.oneCell' = true := fun u hu =>
  (List.mem_append.1 hu).elim (h u) (k u)
theorem one_nil : ∀ u ∈ ([] : List Value), u.oneCell' = true := fun u hu => by cases hu
structure GAddr where
  six : Bool
  ip : (Vec 16 UInt8)
deriving DecidableEq
def GAddr.zero : GAddr := ⟨false, (Vector.replicate 16 0)⟩
def GAddr.cs (x : GAddr) : List Value := cells x.six ++ (cells x.ip ++ [])
instance : Enc GAddr := Enc.row GAddr.cs (Enc.size Bool + (Enc.size (Vec 16 UInt8) + 0)) (fun x => by simp only [GAddr.cs, List.length_append, cells_length, List.length_nil]) (fun x => one_app (one_cells _) (one_app (one_cells _) (one_nil)))
theorem GAddr.cells_eq (x : GAddr) : cells x = GAddr.cs x := rfl
def GAddr.s_six (x : GAddr) (y : Bool) : GAddr := { x with six := y }
theorem GAddr.l_six : Lens GAddr Bool 0 GAddr.six GAddr.s_six :=
  lens_mid (fun x => []) (fun x => cells x.ip ++ ([])) (fun x => by simp only [GAddr.cells_eq, GAddr.cs, List.append_assoc, List.nil_append]) (fun x => by simp only [List.length_append, cells_length, List.length_nil] <;> rfl)
    (fun x y => by simp only [GAddr.s_six, GAddr.cells_eq, GAddr.cs, List.append_assoc, List.nil_append]) (by decide)
def GAddr.s_ip (x : GAddr) (y : (Vec 16 UInt8)) : GAddr := { x with ip := y }
@[simp] theorem GAddr.six_s_ip (x : GAddr) (y : (Vec 16 UInt8)) : (GAddr.s_ip x y).six = x.six := rfl
@[simp] theorem GAddr.ip_s_ip (x : GAddr) (y : (Vec 16 UInt8)) : (GAddr.s_ip x y).ip = y := rfl
theorem GAddr.l_ip : Lens GAddr (Vec 16 UInt8) 1 GAddr.ip GAddr.s_ip :=
  lens_mid (fun x => cells x.six) (fun x => []) (fun x => by simp only [GAddr.cells_eq, GAddr.cs, List.append_assoc, List.nil_append]) (fun x => by simp only [List.length_append, cells_length, List.length_nil] <;> rfl)
    (fun x y => by simp only [GAddr.s_ip, GAddr.cells_eq, GAddr.cs, List.append_assoc, List.nil_append]) (by decide)
structure GEndpoint where
  addr : GAddr
  port : Int
deriving DecidableEq
def GEndpoint.zero : GEndpoint := ⟨GAddr.zero, 0⟩
def GEndpoint.cs (x : GEndpoint) : List Value := cells x.addr ++ (cells x.port ++ [])
instance : Enc GEndpoint := Enc.row GEndpoint.cs (Enc.size GAddr + (Enc.size Int + 0)) (fun x => by simp only [GEndpoint.cs, List.length_append, cells_length, List.length_nil]) (fun x => one_app (one_cells _) (one_app (one_cells _) (one_nil)))
theorem GEndpoint.cells_eq (x : GEndpoint) : cells x = GEndpoint.cs x := rfl
def GEndpoint.s_addr (x : GEndpoint) (y : GAddr) : GEndpoint := { x with addr := y }
@[simp] theorem GEndpoint.addr_s_addr (x : GEndpoint) (y : GAddr) : (GEndpoint.s_addr x y).addr = y := rfl
@[simp] theorem GEndpoint.port_s_addr (x : GEndpoint) (y : GAddr) : (GEndpoint.s_addr x y).port = x.port := rfl
theorem GEndpoint.l_addr : Lens GEndpoint GAddr 0 GEndpoint.addr GEndpoint.s_addr :=
  lens_mid (fun x => []) (fun x => cells x.port ++ ([])) (fun x => by simp only [GEndpoint.cells_eq, GEndpoint.cs, List.append_assoc, List.nil_append]) (fun x => by simp only [List.length_append, cells_length, List.length_nil] <;> rfl)
    (fun x y => by simp only [GEndpoint.s_addr, GEndpoint.cells_eq, GEndpoint.cs, List.append_assoc, List.nil_append]) (by decide)
def GEndpoint.s_port (x : GEndpoint) (y : Int) : GEndpoint := { x with port := y }
@[simp] theorem GEndpoint.addr_s_port (x : GEndpoint) (y : Int) : (GEndpoint.s_port x y).addr = x.addr := rfl
@[simp] theorem GEndpoint.port_s_port (x : GEndpoint) (y : Int) : (GEndpoint.s_port x y).port = y := rfl
theorem GEndpoint.l_port : Lens GEndpoint Int 17 GEndpoint.port GEndpoint.s_port :=
  lens_mid (fun x => cells x.addr) (fun x => []) (fun x => by simp only [GEndpoint.cells_eq, GEndpoint.cs, List.append_assoc, List.nil_append]) (fun x => by simp only [List.length_append, cells_length, List.length_nil] <;> rfl)
    (fun x y => by simp only [GEndpoint.s_port, GEndpoint.cells_eq, GEndpoint.cs, List.append_assoc, List.nil_append]) (by decide)
structure GEvent where
  kind : Int
  src : GEndpoint
  bytes : GSl
  at_ : Int
  text : Str
def GEvent.zero : GEvent := ⟨0, GEndpoint.zero, ⟨none, 0, 0⟩, 0, []⟩
def GEvent.cs (x : GEvent) : List Value := cells x.kind ++ (cells x.src ++ (cells x.bytes ++ (cells x.at_ ++ (cells x.text ++ []))))
instance : Enc GEvent := Enc.row GEvent.cs (Enc.size Int + (Enc.size GEndpoint + (Enc.size GSl + (Enc.size Int + (Enc.size Str + 0))))) (fun x => by simp only [GEvent.cs, List.length_append, cells_length, List.length_nil]) (fun x => one_app (one_cells _) (one_app (one_cells _) (one_app (one_cells _) (one_app (one_cells _) (one_app (one_cells _) (one_nil))))))
theorem GEvent.cells_eq (x : GEvent) : cells x = GEvent.cs x := rfl
def GEvent.s_kind (x : GEvent) (y : Int) : GEvent := { x with kind := y }
@[simp] theorem GEvent.kind_s_kind (x : GEvent) (y : Int) : (GEvent.s_kind x y).kind = y := rfl
@[simp] theorem GEvent.src_s_kind (x : GEvent) (y : Int) : (GEvent.s_kind x y).src = x.src := rfl
@[simp] theorem GEvent.bytes_s_kind (x : GEvent) (y : Int) : (GEvent.s_kind x y).bytes = x.bytes := rfl
@[simp] theorem GEvent.at__s_kind (x : GEvent) (y : Int) : (GEvent.s_kind x y).at_ = x.at_ := rfl
@[simp] theorem GEvent.text_s_kind (x : GEvent) (y : Int) : (GEvent.s_kind x y).text = x.text := rfl
theorem GEvent.l_kind : Lens GEvent Int 0 GEvent.kind GEvent.s_kind :=
  lens_mid (fun x => []) (fun x => cells x.src ++ (cells x.bytes ++ (cells x.at_ ++ (cells x.text ++ ([]))))) (fun x => by simp only [GEvent.cells_eq, GEvent.cs, List.append_assoc, List.nil_append]) (fun x => by simp only [List.length_append, cells_length, List.length_nil] <;> rfl)
    (fun x y => by simp only [GEvent.s_kind, GEvent.cells_eq, GEvent.cs, List.append_assoc, List.nil_append]) (by decide)
def GEvent.s_text (x : GEvent) (y : Str) : GEvent := { x with text := y }
@[simp] theorem GEvent.kind_s_text (x : GEvent) (y : Str) : (GEvent.s_text x y).kind = x.kind := rfl
@[simp] theorem GEvent.src_s_text (x : GEvent) (y : Str) : (GEvent.s_text x y).src = x.src := rfl
@[simp] theorem GEvent.bytes_s_text (x : GEvent) (y : Str) : (GEvent.s_text x y).bytes = x.bytes := rfl
@[simp] theorem GEvent.at__s_text (x : GEvent) (y : Str) : (GEvent.s_text x y).at_ = x.at_ := rfl
@[simp] theorem GEvent.text_s_text (x : GEvent) (y : Str) : (GEvent.s_text x y).text = y := rfl
theorem GEvent.l_text : Lens GEvent Str 21 GEvent.text GEvent.s_text :=
  lens_mid (fun x => cells x.kind ++ cells x.src ++ cells x.bytes ++ cells x.at_) (fun x => []) (fun x => by simp only [GEvent.cells_eq, GEvent.cs, List.append_assoc, List.nil_append]) (fun x => by simp only [List.length_append, cells_length, List.length_nil] <;> rfl)
    (fun x y => by simp only [GEvent.s_text, GEvent.cells_eq, GEvent.cs, List.append_assoc, List.nil_append]) (by decide)
structure GRules where
  rekeyMessages : UInt64
  rejectMessages : UInt64
  rekeyTime : Int
  rejectTime : Int
  attemptTime : Int
  retryTime : Int
  keepaliveTime : Int
  cookieTime : Int
  load : Int
  stage : Int
deriving DecidableEq
def GRules.zero : GRules := ⟨0, 0, 0, 0, 0, 0, 0, 0, 0, 0⟩
def GRules.cs (x : GRules) : List Value := cells x.rekeyMessages ++ (cells x.rejectMessages ++ (cells x.rekeyTime ++ (cells x.rejectTime ++ (cells x.attemptTime ++ (cells x.retryTime ++ (cells x.keepaliveTime ++ (cells x.cookieTime ++ (cells x.load ++ (cells x.stage ++ [])))))))))
instance : Enc GRules := Enc.row GRules.cs (Enc.size UInt64 + (Enc.size UInt64 + (Enc.size Int + (Enc.size Int + (Enc.size Int + (Enc.size Int + (Enc.size Int + (Enc.size Int + (Enc.size Int + (Enc.size Int + 0)))))))))) (fun x => by simp only [GRules.cs, List.length_append, cells_length, List.length_nil]) (fun x => one_app (one_cells _) (one_app (one_cells _) (one_app (one_cells _) (one_app (one_cells _) (one_app (one_cells _) (one_app (one_cells _) (one_app (one_cells _) (one_app (one_cells _) (one_app (one_cells _) (one_app (one_cells _) (one_nil)))))))))))
theorem GRules.cells_eq (x : GRules) : cells x = GRules.cs x := rfl
def GRules.s_rekeyMessages (x : GRules) (y : UInt64) : GRules := { x with rekeyMessages := y }
@[simp] theorem GRules.rekeyMessages_s_rekeyMessages (x : GRules) (y : UInt64) : (GRules.s_rekeyMessages x y).rekeyMessages = y := rfl
@[simp] theorem GRules.rejectMessages_s_rekeyMessages (x : GRules) (y : UInt64) : (GRules.s_rekeyMessages x y).rejectMessages = x.rejectMessages := rfl
@[simp] theorem GRules.rekeyTime_s_rekeyMessages (x : GRules) (y : UInt64) : (GRules.s_rekeyMessages x y).rekeyTime = x.rekeyTime := rfl
@[simp] theorem GRules.rejectTime_s_rekeyMessages (x : GRules) (y : UInt64) : (GRules.s_rekeyMessages x y).rejectTime = x.rejectTime := rfl
@[simp] theorem GRules.attemptTime_s_rekeyMessages (x : GRules) (y : UInt64) : (GRules.s_rekeyMessages x y).attemptTime = x.attemptTime := rfl
@[simp] theorem GRules.retryTime_s_rekeyMessages (x : GRules) (y : UInt64) : (GRules.s_rekeyMessages x y).retryTime = x.retryTime := rfl
@[simp] theorem GRules.keepaliveTime_s_rekeyMessages (x : GRules) (y : UInt64) : (GRules.s_rekeyMessages x y).keepaliveTime = x.keepaliveTime := rfl
@[simp] theorem GRules.cookieTime_s_rekeyMessages (x : GRules) (y : UInt64) : (GRules.s_rekeyMessages x y).cookieTime = x.cookieTime := rfl
@[simp] theorem GRules.load_s_rekeyMessages (x : GRules) (y : UInt64) : (GRules.s_rekeyMessages x y).load = x.load := rfl
@[simp] theorem GRules.stage_s_rekeyMessages (x : GRules) (y : UInt64) : (GRules.s_rekeyMessages x y).stage = x.stage := rfl
theorem GRules.l_rekeyMessages : Lens GRules UInt64 0 GRules.rekeyMessages GRules.s_rekeyMessages :=
  lens_mid (fun x => []) (fun x => cells x.rejectMessages ++ (cells x.rekeyTime ++ (cells x.rejectTime ++ (cells x.attemptTime ++ (cells x.retryTime ++ (cells x.keepaliveTime ++ (cells x.cookieTime ++ (cells x.load ++ (cells x.stage ++ ([])))))))))) (fun x => by simp only [GRules.cells_eq, GRules.cs, List.append_assoc, List.nil_append]) (fun x => by simp only [List.length_append, cells_length, List.length_nil] <;> rfl)
    (fun x y => by simp only [GRules.s_rekeyMessages, GRules.cells_eq, GRules.cs, List.append_assoc, List.nil_append]) (by decide)
def GRules.s_rejectMessages (x : GRules) (y : UInt64) : GRules := { x with rejectMessages := y }
@[simp] theorem GRules.rekeyMessages_s_rejectMessages (x : GRules) (y : UInt64) : (GRules.s_rejectMessages x y).rekeyMessages = x.rekeyMessages := rfl
@[simp] theorem GRules.rejectMessages_s_rejectMessages (x : GRules) (y : UInt64) : (GRules.s_rejectMessages x y).rejectMessages = y := rfl
@[simp] theorem GRules.rekeyTime_s_rejectMessages (x : GRules) (y : UInt64) : (GRules.s_rejectMessages x y).rekeyTime = x.rekeyTime := rfl
@[simp] theorem GRules.rejectTime_s_rejectMessages (x : GRules) (y : UInt64) : (GRules.s_rejectMessages x y).rejectTime = x.rejectTime := rfl
@[simp] theorem GRules.attemptTime_s_rejectMessages (x : GRules) (y : UInt64) : (GRules.s_rejectMessages x y).attemptTime = x.attemptTime := rfl
@[simp] theorem GRules.retryTime_s_rejectMessages (x : GRules) (y : UInt64) : (GRules.s_rejectMessages x y).retryTime = x.retryTime := rfl
@[simp] theorem GRules.keepaliveTime_s_rejectMessages (x : GRules) (y : UInt64) : (GRules.s_rejectMessages x y).keepaliveTime = x.keepaliveTime := rfl
@[simp] theorem GRules.cookieTime_s_rejectMessages (x : GRules) (y : UInt64) : (GRules.s_rejectMessages x y).cookieTime = x.cookieTime := rfl
@[simp] theorem GRules.load_s_rejectMessages (x : GRules) (y : UInt64) : (GRules.s_rejectMessages x y).load = x.load := rfl
@[simp] theorem GRules.stage_s_rejectMessages (x : GRules) (y : UInt64) : (GRules.s_rejectMessages x y).stage = x.stage := rfl
theorem GRules.l_rejectMessages : Lens GRules UInt64 1 GRules.rejectMessages GRules.s_rejectMessages :=
  lens_mid (fun x => cells x.rekeyMessages) (fun x => cells x.rekeyTime ++ (cells x.rejectTime ++ (cells x.attemptTime ++ (cells x.retryTime ++ (cells x.keepaliveTime ++ (cells x.cookieTime ++ (cells x.load ++ (cells x.stage ++ ([]))))))))) (fun x => by simp only [GRules.cells_eq, GRules.cs, List.append_assoc, List.nil_append]) (fun x => by simp only [List.length_append, cells_length, List.length_nil] <;> rfl)
    (fun x y => by simp only [GRules.s_rejectMessages, GRules.cells_eq, GRules.cs, List.append_assoc, List.nil_append]) (by decide)
def GRules.s_rekeyTime (x : GRules) (y : Int) : GRules := { x with rekeyTime := y }
@[simp] theorem GRules.rekeyMessages_s_rekeyTime (x : GRules) (y : Int) : (GRules.s_rekeyTime x y).rekeyMessages = x.rekeyMessages := rfl
@[simp] theorem GRules.rejectMessages_s_rekeyTime (x : GRules) (y : Int) : (GRules.s_rekeyTime x y).rejectMessages = x.rejectMessages := rfl
@[simp] theorem GRules.rekeyTime_s_rekeyTime (x : GRules) (y : Int) : (GRules.s_rekeyTime x y).rekeyTime = y := rfl
@[simp] theorem GRules.rejectTime_s_rekeyTime (x : GRules) (y : Int) : (GRules.s_rekeyTime x y).rejectTime = x.rejectTime := rfl
@[simp] theorem GRules.attemptTime_s_rekeyTime (x : GRules) (y : Int) : (GRules.s_rekeyTime x y).attemptTime = x.attemptTime := rfl
@[simp] theorem GRules.retryTime_s_rekeyTime (x : GRules) (y : Int) : (GRules.s_rekeyTime x y).retryTime = x.retryTime := rfl
@[simp] theorem GRules.keepaliveTime_s_rekeyTime (x : GRules) (y : Int) : (GRules.s_rekeyTime x y).keepaliveTime = x.keepaliveTime := rfl
@[simp] theorem GRules.cookieTime_s_rekeyTime (x : GRules) (y : Int) : (GRules.s_rekeyTime x y).cookieTime = x.cookieTime := rfl
@[simp] theorem GRules.load_s_rekeyTime (x : GRules) (y : Int) : (GRules.s_rekeyTime x y).load = x.load := rfl
@[simp] theorem GRules.stage_s_rekeyTime (x : GRules) (y : Int) : (GRules.s_rekeyTime x y).stage = x.stage := rfl
theorem GRules.l_rekeyTime : Lens GRules Int 2 GRules.rekeyTime GRules.s_rekeyTime :=
  lens_mid (fun x => cells x.rekeyMessages ++ cells x.rejectMessages) (fun x => cells x.rejectTime ++ (cells x.attemptTime ++ (cells x.retryTime ++ (cells x.keepaliveTime ++ (cells x.cookieTime ++ (cells x.load ++ (cells x.stage ++ ([])))))))) (fun x => by simp only [GRules.cells_eq, GRules.cs, List.append_assoc, List.nil_append]) (fun x => by simp only [List.length_append, cells_length, List.length_nil] <;> rfl)
    (fun x y => by simp only [GRules.s_rekeyTime, GRules.cells_eq, GRules.cs, List.append_assoc, List.nil_append]) (by decide)
def GRules.s_rejectTime (x : GRules) (y : Int) : GRules := { x with rejectTime := y }
@[simp] theorem GRules.rekeyMessages_s_rejectTime (x : GRules) (y : Int) : (GRules.s_rejectTime x y).rekeyMessages = x.rekeyMessages := rfl
@[simp] theorem GRules.rejectMessages_s_rejectTime (x : GRules) (y : Int) : (GRules.s_rejectTime x y).rejectMessages = x.rejectMessages := rfl
@[simp] theorem GRules.rekeyTime_s_rejectTime (x : GRules) (y : Int) : (GRules.s_rejectTime x y).rekeyTime = x.rekeyTime := rfl
@[simp] theorem GRules.rejectTime_s_rejectTime (x : GRules) (y : Int) : (GRules.s_rejectTime x y).rejectTime = y := rfl
@[simp] theorem GRules.attemptTime_s_rejectTime (x : GRules) (y : Int) : (GRules.s_rejectTime x y).attemptTime = x.attemptTime := rfl
@[simp] theorem GRules.retryTime_s_rejectTime (x : GRules) (y : Int) : (GRules.s_rejectTime x y).retryTime = x.retryTime := rfl
@[simp] theorem GRules.keepaliveTime_s_rejectTime (x : GRules) (y : Int) : (GRules.s_rejectTime x y).keepaliveTime = x.keepaliveTime := rfl
@[simp] theorem GRules.cookieTime_s_rejectTime (x : GRules) (y : Int) : (GRules.s_rejectTime x y).cookieTime = x.cookieTime := rfl
@[simp] theorem GRules.load_s_rejectTime (x : GRules) (y : Int) : (GRules.s_rejectTime x y).load = x.load := rfl
@[simp] theorem GRules.stage_s_rejectTime (x : GRules) (y : Int) : (GRules.s_rejectTime x y).stage = x.stage := rfl
theorem GRules.l_rejectTime : Lens GRules Int 3 GRules.rejectTime GRules.s_rejectTime :=
  lens_mid (fun x => cells x.rekeyMessages ++ cells x.rejectMessages ++ cells x.rekeyTime) (fun x => cells x.attemptTime ++ (cells x.retryTime ++ (cells x.keepaliveTime ++ (cells x.cookieTime ++ (cells x.load ++ (cells x.stage ++ ([]))))))) (fun x => by simp only [GRules.cells_eq, GRules.cs, List.append_assoc, List.nil_append]) (fun x => by simp only [List.length_append, cells_length, List.length_nil] <;> rfl)
    (fun x y => by simp only [GRules.s_rejectTime, GRules.cells_eq, GRules.cs, List.append_assoc, List.nil_append]) (by decide)
def GRules.s_attemptTime (x : GRules) (y : Int) : GRules := { x with attemptTime := y }
@[simp] theorem GRules.rekeyMessages_s_attemptTime (x : GRules) (y : Int) : (GRules.s_attemptTime x y).rekeyMessages = x.rekeyMessages := rfl
@[simp] theorem GRules.rejectMessages_s_attemptTime (x : GRules) (y : Int) : (GRules.s_attemptTime x y).rejectMessages = x.rejectMessages := rfl
@[simp] theorem GRules.rekeyTime_s_attemptTime (x : GRules) (y : Int) : (GRules.s_attemptTime x y).rekeyTime = x.rekeyTime := rfl
@[simp] theorem GRules.rejectTime_s_attemptTime (x : GRules) (y : Int) : (GRules.s_attemptTime x y).rejectTime = x.rejectTime := rfl
@[simp] theorem GRules.attemptTime_s_attemptTime (x : GRules) (y : Int) : (GRules.s_attemptTime x y).attemptTime = y := rfl
@[simp] theorem GRules.retryTime_s_attemptTime (x : GRules) (y : Int) : (GRules.s_attemptTime x y).retryTime = x.retryTime := rfl
@[simp] theorem GRules.keepaliveTime_s_attemptTime (x : GRules) (y : Int) : (GRules.s_attemptTime x y).keepaliveTime = x.keepaliveTime := rfl
@[simp] theorem GRules.cookieTime_s_attemptTime (x : GRules) (y : Int) : (GRules.s_attemptTime x y).cookieTime = x.cookieTime := rfl
@[simp] theorem GRules.load_s_attemptTime (x : GRules) (y : Int) : (GRules.s_attemptTime x y).load = x.load := rfl
@[simp] theorem GRules.stage_s_attemptTime (x : GRules) (y : Int) : (GRules.s_attemptTime x y).stage = x.stage := rfl
theorem GRules.l_attemptTime : Lens GRules Int 4 GRules.attemptTime GRules.s_attemptTime :=
  lens_mid (fun x => cells x.rekeyMessages ++ cells x.rejectMessages ++ cells x.rekeyTime ++ cells x.rejectTime) (fun x => cells x.retryTime ++ (cells x.keepaliveTime ++ (cells x.cookieTime ++ (cells x.load ++ (cells x.stage ++ ([])))))) (fun x => by simp only [GRules.cells_eq, GRules.cs, List.append_assoc, List.nil_append]) (fun x => by simp only [List.length_append, cells_length, List.length_nil] <;> rfl)
    (fun x y => by simp only [GRules.s_attemptTime, GRules.cells_eq, GRules.cs, List.append_assoc, List.nil_append]) (by decide)
def GRules.s_retryTime (x : GRules) (y : Int) : GRules := { x with retryTime := y }
@[simp] theorem GRules.rekeyMessages_s_retryTime (x : GRules) (y : Int) : (GRules.s_retryTime x y).rekeyMessages = x.rekeyMessages := rfl
@[simp] theorem GRules.rejectMessages_s_retryTime (x : GRules) (y : Int) : (GRules.s_retryTime x y).rejectMessages = x.rejectMessages := rfl
@[simp] theorem GRules.rekeyTime_s_retryTime (x : GRules) (y : Int) : (GRules.s_retryTime x y).rekeyTime = x.rekeyTime := rfl
@[simp] theorem GRules.rejectTime_s_retryTime (x : GRules) (y : Int) : (GRules.s_retryTime x y).rejectTime = x.rejectTime := rfl
@[simp] theorem GRules.attemptTime_s_retryTime (x : GRules) (y : Int) : (GRules.s_retryTime x y).attemptTime = x.attemptTime := rfl
@[simp] theorem GRules.retryTime_s_retryTime (x : GRules) (y : Int) : (GRules.s_retryTime x y).retryTime = y := rfl
@[simp] theorem GRules.keepaliveTime_s_retryTime (x : GRules) (y : Int) : (GRules.s_retryTime x y).keepaliveTime = x.keepaliveTime := rfl
@[simp] theorem GRules.cookieTime_s_retryTime (x : GRules) (y : Int) : (GRules.s_retryTime x y).cookieTime = x.cookieTime := rfl
@[simp] theorem GRules.load_s_retryTime (x : GRules) (y : Int) : (GRules.s_retryTime x y).load = x.load := rfl
@[simp] theorem GRules.stage_s_retryTime (x : GRules) (y : Int) : (GRules.s_retryTime x y).stage = x.stage := rfl
theorem GRules.l_retryTime : Lens GRules Int 5 GRules.retryTime GRules.s_retryTime :=
  lens_mid (fun x => cells x.rekeyMessages ++ cells x.rejectMessages ++ cells x.rekeyTime ++ cells x.rejectTime ++ cells x.attemptTime) (fun x => cells x.keepaliveTime ++ (cells x.cookieTime ++ (cells x.load ++ (cells x.stage ++ ([]))))) (fun x => by simp only [GRules.cells_eq, GRules.cs, List.append_assoc, List.nil_append]) (fun x => by simp only [List.length_append, cells_length, List.length_nil] <;> rfl)
    (fun x y => by simp only [GRules.s_retryTime, GRules.cells_eq, GRules.cs, List.append_assoc, List.nil_append]) (by decide)
def GRules.s_keepaliveTime (x : GRules) (y : Int) : GRules := { x with keepaliveTime := y }
@[simp] theorem GRules.rekeyMessages_s_keepaliveTime (x : GRules) (y : Int) : (GRules.s_keepaliveTime x y).rekeyMessages = x.rekeyMessages := rfl
@[simp] theorem GRules.rejectMessages_s_keepaliveTime (x : GRules) (y : Int) : (GRules.s_keepaliveTime x y).rejectMessages = x.rejectMessages := rfl
@[simp] theorem GRules.rekeyTime_s_keepaliveTime (x : GRules) (y : Int) : (GRules.s_keepaliveTime x y).rekeyTime = x.rekeyTime := rfl
@[simp] theorem GRules.rejectTime_s_keepaliveTime (x : GRules) (y : Int) : (GRules.s_keepaliveTime x y).rejectTime = x.rejectTime := rfl
@[simp] theorem GRules.attemptTime_s_keepaliveTime (x : GRules) (y : Int) : (GRules.s_keepaliveTime x y).attemptTime = x.attemptTime := rfl
@[simp] theorem GRules.retryTime_s_keepaliveTime (x : GRules) (y : Int) : (GRules.s_keepaliveTime x y).retryTime = x.retryTime := rfl
@[simp] theorem GRules.keepaliveTime_s_keepaliveTime (x : GRules) (y : Int) : (GRules.s_keepaliveTime x y).keepaliveTime = y := rfl
@[simp] theorem GRules.cookieTime_s_keepaliveTime (x : GRules) (y : Int) : (GRules.s_keepaliveTime x y).cookieTime = x.cookieTime := rfl
@[simp] theorem GRules.load_s_keepaliveTime (x : GRules) (y : Int) : (GRules.s_keepaliveTime x y).load = x.load := rfl
@[simp] theorem GRules.stage_s_keepaliveTime (x : GRules) (y : Int) : (GRules.s_keepaliveTime x y).stage = x.stage := rfl
theorem GRules.l_keepaliveTime : Lens GRules Int 6 GRules.keepaliveTime GRules.s_keepaliveTime :=
  lens_mid (fun x => cells x.rekeyMessages ++ cells x.rejectMessages ++ cells x.rekeyTime ++ cells x.rejectTime ++ cells x.attemptTime ++ cells x.retryTime) (fun x => cells x.cookieTime ++ (cells x.load ++ (cells x.stage ++ ([])))) (fun x => by simp only [GRules.cells_eq, GRules.cs, List.append_assoc, List.nil_append]) (fun x => by simp only [List.length_append, cells_length, List.length_nil] <;> rfl)
    (fun x y => by simp only [GRules.s_keepaliveTime, GRules.cells_eq, GRules.cs, List.append_assoc, List.nil_append]) (by decide)
def GRules.s_cookieTime (x : GRules) (y : Int) : GRules := { x with cookieTime := y }
@[simp] theorem GRules.rekeyMessages_s_cookieTime (x : GRules) (y : Int) : (GRules.s_cookieTime x y).rekeyMessages = x.rekeyMessages := rfl
@[simp] theorem GRules.rejectMessages_s_cookieTime (x : GRules) (y : Int) : (GRules.s_cookieTime x y).rejectMessages = x.rejectMessages := rfl
@[simp] theorem GRules.rekeyTime_s_cookieTime (x : GRules) (y : Int) : (GRules.s_cookieTime x y).rekeyTime = x.rekeyTime := rfl
@[simp] theorem GRules.rejectTime_s_cookieTime (x : GRules) (y : Int) : (GRules.s_cookieTime x y).rejectTime = x.rejectTime := rfl
@[simp] theorem GRules.attemptTime_s_cookieTime (x : GRules) (y : Int) : (GRules.s_cookieTime x y).attemptTime = x.attemptTime := rfl
@[simp] theorem GRules.retryTime_s_cookieTime (x : GRules) (y : Int) : (GRules.s_cookieTime x y).retryTime = x.retryTime := rfl
@[simp] theorem GRules.keepaliveTime_s_cookieTime (x : GRules) (y : Int) : (GRules.s_cookieTime x y).keepaliveTime = x.keepaliveTime := rfl
@[simp] theorem GRules.cookieTime_s_cookieTime (x : GRules) (y : Int) : (GRules.s_cookieTime x y).cookieTime = y := rfl
@[simp] theorem GRules.load_s_cookieTime (x : GRules) (y : Int) : (GRules.s_cookieTime x y).load = x.load := rfl
@[simp] theorem GRules.stage_s_cookieTime (x : GRules) (y : Int) : (GRules.s_cookieTime x y).stage = x.stage := rfl
theorem GRules.l_cookieTime : Lens GRules Int 7 GRules.cookieTime GRules.s_cookieTime :=
  lens_mid (fun x => cells x.rekeyMessages ++ cells x.rejectMessages ++ cells x.rekeyTime ++ cells x.rejectTime ++ cells x.attemptTime ++ cells x.retryTime ++ cells x.keepaliveTime) (fun x => cells x.load ++ (cells x.stage ++ ([]))) (fun x => by simp only [GRules.cells_eq, GRules.cs, List.append_assoc, List.nil_append]) (fun x => by simp only [List.length_append, cells_length, List.length_nil] <;> rfl)
    (fun x y => by simp only [GRules.s_cookieTime, GRules.cells_eq, GRules.cs, List.append_assoc, List.nil_append]) (by decide)
def GRules.s_load (x : GRules) (y : Int) : GRules := { x with load := y }
@[simp] theorem GRules.rekeyMessages_s_load (x : GRules) (y : Int) : (GRules.s_load x y).rekeyMessages = x.rekeyMessages := rfl
@[simp] theorem GRules.rejectMessages_s_load (x : GRules) (y : Int) : (GRules.s_load x y).rejectMessages = x.rejectMessages := rfl
@[simp] theorem GRules.rekeyTime_s_load (x : GRules) (y : Int) : (GRules.s_load x y).rekeyTime = x.rekeyTime := rfl
@[simp] theorem GRules.rejectTime_s_load (x : GRules) (y : Int) : (GRules.s_load x y).rejectTime = x.rejectTime := rfl
@[simp] theorem GRules.attemptTime_s_load (x : GRules) (y : Int) : (GRules.s_load x y).attemptTime = x.attemptTime := rfl
@[simp] theorem GRules.retryTime_s_load (x : GRules) (y : Int) : (GRules.s_load x y).retryTime = x.retryTime := rfl
@[simp] theorem GRules.keepaliveTime_s_load (x : GRules) (y : Int) : (GRules.s_load x y).keepaliveTime = x.keepaliveTime := rfl
@[simp] theorem GRules.cookieTime_s_load (x : GRules) (y : Int) : (GRules.s_load x y).cookieTime = x.cookieTime := rfl
@[simp] theorem GRules.load_s_load (x : GRules) (y : Int) : (GRules.s_load x y).load = y := rfl
@[simp] theorem GRules.stage_s_load (x : GRules) (y : Int) : (GRules.s_load x y).stage = x.stage := rfl
theorem GRules.l_load : Lens GRules Int 8 GRules.load GRules.s_load :=
  lens_mid (fun x => cells x.rekeyMessages ++ cells x.rejectMessages ++ cells x.rekeyTime ++ cells x.rejectTime ++ cells x.attemptTime ++ cells x.retryTime ++ cells x.keepaliveTime ++ cells x.cookieTime) (fun x => cells x.stage ++ ([])) (fun x => by simp only [GRules.cells_eq, GRules.cs, List.append_assoc, List.nil_append]) (fun x => by simp only [List.length_append, cells_length, List.length_nil] <;> rfl)
    (fun x y => by simp only [GRules.s_load, GRules.cells_eq, GRules.cs, List.append_assoc, List.nil_append]) (by decide)
def GRules.s_stage (x : GRules) (y : Int) : GRules := { x with stage := y }
@[simp] theorem GRules.rekeyMessages_s_stage (x : GRules) (y : Int) : (GRules.s_stage x y).rekeyMessages = x.rekeyMessages := rfl
@[simp] theorem GRules.rejectMessages_s_stage (x : GRules) (y : Int) : (GRules.s_stage x y).rejectMessages = x.rejectMessages := rfl
@[simp] theorem GRules.rekeyTime_s_stage (x : GRules) (y : Int) : (GRules.s_stage x y).rekeyTime = x.rekeyTime := rfl
@[simp] theorem GRules.rejectTime_s_stage (x : GRules) (y : Int) : (GRules.s_stage x y).rejectTime = x.rejectTime := rfl
@[simp] theorem GRules.attemptTime_s_stage (x : GRules) (y : Int) : (GRules.s_stage x y).attemptTime = x.attemptTime := rfl
@[simp] theorem GRules.retryTime_s_stage (x : GRules) (y : Int) : (GRules.s_stage x y).retryTime = x.retryTime := rfl
@[simp] theorem GRules.keepaliveTime_s_stage (x : GRules) (y : Int) : (GRules.s_stage x y).keepaliveTime = x.keepaliveTime := rfl
@[simp] theorem GRules.cookieTime_s_stage (x : GRules) (y : Int) : (GRules.s_stage x y).cookieTime = x.cookieTime := rfl
@[simp] theorem GRules.load_s_stage (x : GRules) (y : Int) : (GRules.s_stage x y).load = x.load := rfl
@[simp] theorem GRules.stage_s_stage (x : GRules) (y : Int) : (GRules.s_stage x y).stage = y := rfl
theorem GRules.l_stage : Lens GRules Int 9 GRules.stage GRules.s_stage :=
  lens_mid (fun x => cells x.rekeyMessages ++ cells x.rejectMessages ++ cells x.rekeyTime ++ cells x.rejectTime ++ cells x.attemptTime ++ cells x.retryTime ++ cells x.keepaliveTime ++ cells x.cookieTime ++ cells x.load) (fun x => []) (fun x => by simp only [GRules.cells_eq, GRules.cs, List.append_assoc, List.nil_append]) (fun x => by simp only [List.length_append, cells_length, List.length_nil] <;> rfl)
    (fun x y => by simp only [GRules.s_stage, GRules.cells_eq, GRules.cs, List.append_assoc, List.nil_append]) (by decide)
structure GDaemon where
  rules : GRules
  priv : (Vec 32 UInt8)
  pub : (Vec 32 UInt8)
  port : Int
  random : (Vec 32 UInt8)
  now : Int
  peers : GSl
  routes : GSl
  slots : GSl
  timers : GSl
  secret : (Vec 32 UInt8)
  secretAt : Int
  recent : GSl
  buckets : GSl
  bad : Int
def GDaemon.zero : GDaemon := ⟨GRules.zero, (Vector.replicate 32 0), (Vector.replicate 32 0), 0, (Vector.replicate 32 0), 0, ⟨none, 0, 0⟩, ⟨none, 0, 0⟩, ⟨none, 0, 0⟩, ⟨none, 0, 0⟩, (Vector.replicate 32 0), 0, ⟨none, 0, 0⟩, ⟨none, 0, 0⟩, 0⟩
def GDaemon.cs (x : GDaemon) : List Value := cells x.rules ++ (cells x.priv ++ (cells x.pub ++ (cells x.port ++ (cells x.random ++ (cells x.now ++ (cells x.peers ++ (cells x.routes ++ (cells x.slots ++ (cells x.timers ++ (cells x.secret ++ (cells x.secretAt ++ (cells x.recent ++ (cells x.buckets ++ (cells x.bad ++ []))))))))))))))
instance : Enc GDaemon := Enc.row GDaemon.cs (Enc.size GRules + (Enc.size (Vec 32 UInt8) + (Enc.size (Vec 32 UInt8) + (Enc.size Int + (Enc.size (Vec 32 UInt8) + (Enc.size Int + (Enc.size GSl + (Enc.size GSl + (Enc.size GSl + (Enc.size GSl + (Enc.size (Vec 32 UInt8) + (Enc.size Int + (Enc.size GSl + (Enc.size GSl + (Enc.size Int + 0))))))))))))))) (fun x => by simp only [GDaemon.cs, List.length_append, cells_length, List.length_nil]) (fun x => one_app (one_cells _) (one_app (one_cells _) (one_app (one_cells _) (one_app (one_cells _) (one_app (one_cells _) (one_app (one_cells _) (one_app (one_cells _) (one_app (one_cells _) (one_app (one_cells _) (one_app (one_cells _) (one_app (one_cells _) (one_app (one_cells _) (one_app (one_cells _) (one_app (one_cells _) (one_app (one_cells _) (one_nil))))))))))))))))
theorem GDaemon.cells_eq (x : GDaemon) : cells x = GDaemon.cs x := rfl
def GDaemon.s_rules (x : GDaemon) (y : GRules) : GDaemon := { x with rules := y }
@[simp] theorem GDaemon.rules_s_rules (x : GDaemon) (y : GRules) : (GDaemon.s_rules x y).rules = y := rfl
@[simp] theorem GDaemon.priv_s_rules (x : GDaemon) (y : GRules) : (GDaemon.s_rules x y).priv = x.priv := rfl
@[simp] theorem GDaemon.pub_s_rules (x : GDaemon) (y : GRules) : (GDaemon.s_rules x y).pub = x.pub := rfl
@[simp] theorem GDaemon.port_s_rules (x : GDaemon) (y : GRules) : (GDaemon.s_rules x y).port = x.port := rfl
@[simp] theorem GDaemon.random_s_rules (x : GDaemon) (y : GRules) : (GDaemon.s_rules x y).random = x.random := rfl
@[simp] theorem GDaemon.now_s_rules (x : GDaemon) (y : GRules) : (GDaemon.s_rules x y).now = x.now := rfl
@[simp] theorem GDaemon.peers_s_rules (x : GDaemon) (y : GRules) : (GDaemon.s_rules x y).peers = x.peers := rfl
@[simp] theorem GDaemon.routes_s_rules (x : GDaemon) (y : GRules) : (GDaemon.s_rules x y).routes = x.routes := rfl
@[simp] theorem GDaemon.slots_s_rules (x : GDaemon) (y : GRules) : (GDaemon.s_rules x y).slots = x.slots := rfl
@[simp] theorem GDaemon.timers_s_rules (x : GDaemon) (y : GRules) : (GDaemon.s_rules x y).timers = x.timers := rfl
@[simp] theorem GDaemon.secret_s_rules (x : GDaemon) (y : GRules) : (GDaemon.s_rules x y).secret = x.secret := rfl
@[simp] theorem GDaemon.secretAt_s_rules (x : GDaemon) (y : GRules) : (GDaemon.s_rules x y).secretAt = x.secretAt := rfl
@[simp] theorem GDaemon.recent_s_rules (x : GDaemon) (y : GRules) : (GDaemon.s_rules x y).recent = x.recent := rfl
@[simp] theorem GDaemon.buckets_s_rules (x : GDaemon) (y : GRules) : (GDaemon.s_rules x y).buckets = x.buckets := rfl
@[simp] theorem GDaemon.bad_s_rules (x : GDaemon) (y : GRules) : (GDaemon.s_rules x y).bad = x.bad := rfl
theorem GDaemon.l_rules : Lens GDaemon GRules 0 GDaemon.rules GDaemon.s_rules :=
  lens_mid (fun x => []) (fun x => cells x.priv ++ (cells x.pub ++ (cells x.port ++ (cells x.random ++ (cells x.now ++ (cells x.peers ++ (cells x.routes ++ (cells x.slots ++ (cells x.timers ++ (cells x.secret ++ (cells x.secretAt ++ (cells x.recent ++ (cells x.buckets ++ (cells x.bad ++ ([]))))))))))))))) (fun x => by simp only [GDaemon.cells_eq, GDaemon.cs, List.append_assoc, List.nil_append]) (fun x => by simp only [List.length_append, cells_length, List.length_nil] <;> rfl)
    (fun x y => by simp only [GDaemon.s_rules, GDaemon.cells_eq, GDaemon.cs, List.append_assoc, List.nil_append]) (by decide)
def GDaemon.s_priv (x : GDaemon) (y : (Vec 32 UInt8)) : GDaemon := { x with priv := y }
@[simp] theorem GDaemon.rules_s_priv (x : GDaemon) (y : (Vec 32 UInt8)) : (GDaemon.s_priv x y).rules = x.rules := rfl
@[simp] theorem GDaemon.priv_s_priv (x : GDaemon) (y : (Vec 32 UInt8)) : (GDaemon.s_priv x y).priv = y := rfl
@[simp] theorem GDaemon.pub_s_priv (x : GDaemon) (y : (Vec 32 UInt8)) : (GDaemon.s_priv x y).pub = x.pub := rfl
@[simp] theorem GDaemon.port_s_priv (x : GDaemon) (y : (Vec 32 UInt8)) : (GDaemon.s_priv x y).port = x.port := rfl
@[simp] theorem GDaemon.random_s_priv (x : GDaemon) (y : (Vec 32 UInt8)) : (GDaemon.s_priv x y).random = x.random := rfl
@[simp] theorem GDaemon.now_s_priv (x : GDaemon) (y : (Vec 32 UInt8)) : (GDaemon.s_priv x y).now = x.now := rfl
@[simp] theorem GDaemon.peers_s_priv (x : GDaemon) (y : (Vec 32 UInt8)) : (GDaemon.s_priv x y).peers = x.peers := rfl
@[simp] theorem GDaemon.routes_s_priv (x : GDaemon) (y : (Vec 32 UInt8)) : (GDaemon.s_priv x y).routes = x.routes := rfl
@[simp] theorem GDaemon.slots_s_priv (x : GDaemon) (y : (Vec 32 UInt8)) : (GDaemon.s_priv x y).slots = x.slots := rfl
@[simp] theorem GDaemon.timers_s_priv (x : GDaemon) (y : (Vec 32 UInt8)) : (GDaemon.s_priv x y).timers = x.timers := rfl
@[simp] theorem GDaemon.secret_s_priv (x : GDaemon) (y : (Vec 32 UInt8)) : (GDaemon.s_priv x y).secret = x.secret := rfl
@[simp] theorem GDaemon.secretAt_s_priv (x : GDaemon) (y : (Vec 32 UInt8)) : (GDaemon.s_priv x y).secretAt = x.secretAt := rfl
@[simp] theorem GDaemon.recent_s_priv (x : GDaemon) (y : (Vec 32 UInt8)) : (GDaemon.s_priv x y).recent = x.recent := rfl
@[simp] theorem GDaemon.buckets_s_priv (x : GDaemon) (y : (Vec 32 UInt8)) : (GDaemon.s_priv x y).buckets = x.buckets := rfl
@[simp] theorem GDaemon.bad_s_priv (x : GDaemon) (y : (Vec 32 UInt8)) : (GDaemon.s_priv x y).bad = x.bad := rfl
theorem GDaemon.l_priv : Lens GDaemon (Vec 32 UInt8) 10 GDaemon.priv GDaemon.s_priv :=
  lens_mid (fun x => cells x.rules) (fun x => cells x.pub ++ (cells x.port ++ (cells x.random ++ (cells x.now ++ (cells x.peers ++ (cells x.routes ++ (cells x.slots ++ (cells x.timers ++ (cells x.secret ++ (cells x.secretAt ++ (cells x.recent ++ (cells x.buckets ++ (cells x.bad ++ ([])))))))))))))) (fun x => by simp only [GDaemon.cells_eq, GDaemon.cs, List.append_assoc, List.nil_append]) (fun x => by simp only [List.length_append, cells_length, List.length_nil] <;> rfl)
    (fun x y => by simp only [GDaemon.s_priv, GDaemon.cells_eq, GDaemon.cs, List.append_assoc, List.nil_append]) (by decide)
def GDaemon.s_pub (x : GDaemon) (y : (Vec 32 UInt8)) : GDaemon := { x with pub := y }
@[simp] theorem GDaemon.rules_s_pub (x : GDaemon) (y : (Vec 32 UInt8)) : (GDaemon.s_pub x y).rules = x.rules := rfl
@[simp] theorem GDaemon.priv_s_pub (x : GDaemon) (y : (Vec 32 UInt8)) : (GDaemon.s_pub x y).priv = x.priv := rfl
@[simp] theorem GDaemon.pub_s_pub (x : GDaemon) (y : (Vec 32 UInt8)) : (GDaemon.s_pub x y).pub = y := rfl
@[simp] theorem GDaemon.port_s_pub (x : GDaemon) (y : (Vec 32 UInt8)) : (GDaemon.s_pub x y).port = x.port := rfl
@[simp] theorem GDaemon.random_s_pub (x : GDaemon) (y : (Vec 32 UInt8)) : (GDaemon.s_pub x y).random = x.random := rfl
@[simp] theorem GDaemon.now_s_pub (x : GDaemon) (y : (Vec 32 UInt8)) : (GDaemon.s_pub x y).now = x.now := rfl
@[simp] theorem GDaemon.peers_s_pub (x : GDaemon) (y : (Vec 32 UInt8)) : (GDaemon.s_pub x y).peers = x.peers := rfl
@[simp] theorem GDaemon.routes_s_pub (x : GDaemon) (y : (Vec 32 UInt8)) : (GDaemon.s_pub x y).routes = x.routes := rfl
@[simp] theorem GDaemon.slots_s_pub (x : GDaemon) (y : (Vec 32 UInt8)) : (GDaemon.s_pub x y).slots = x.slots := rfl
@[simp] theorem GDaemon.timers_s_pub (x : GDaemon) (y : (Vec 32 UInt8)) : (GDaemon.s_pub x y).timers = x.timers := rfl
@[simp] theorem GDaemon.secret_s_pub (x : GDaemon) (y : (Vec 32 UInt8)) : (GDaemon.s_pub x y).secret = x.secret := rfl
@[simp] theorem GDaemon.secretAt_s_pub (x : GDaemon) (y : (Vec 32 UInt8)) : (GDaemon.s_pub x y).secretAt = x.secretAt := rfl
@[simp] theorem GDaemon.recent_s_pub (x : GDaemon) (y : (Vec 32 UInt8)) : (GDaemon.s_pub x y).recent = x.recent := rfl
@[simp] theorem GDaemon.buckets_s_pub (x : GDaemon) (y : (Vec 32 UInt8)) : (GDaemon.s_pub x y).buckets = x.buckets := rfl
@[simp] theorem GDaemon.bad_s_pub (x : GDaemon) (y : (Vec 32 UInt8)) : (GDaemon.s_pub x y).bad = x.bad := rfl
theorem GDaemon.l_pub : Lens GDaemon (Vec 32 UInt8) 42 GDaemon.pub GDaemon.s_pub :=
  lens_mid (fun x => cells x.rules ++ cells x.priv) (fun x => cells x.port ++ (cells x.random ++ (cells x.now ++ (cells x.peers ++ (cells x.routes ++ (cells x.slots ++ (cells x.timers ++ (cells x.secret ++ (cells x.secretAt ++ (cells x.recent ++ (cells x.buckets ++ (cells x.bad ++ ([]))))))))))))) (fun x => by simp only [GDaemon.cells_eq, GDaemon.cs, List.append_assoc, List.nil_append]) (fun x => by simp only [List.length_append, cells_length, List.length_nil] <;> rfl)
    (fun x y => by simp only [GDaemon.s_pub, GDaemon.cells_eq, GDaemon.cs, List.append_assoc, List.nil_append]) (by decide)
def GDaemon.s_port (x : GDaemon) (y : Int) : GDaemon := { x with port := y }
@[simp] theorem GDaemon.rules_s_port (x : GDaemon) (y : Int) : (GDaemon.s_port x y).rules = x.rules := rfl
@[simp] theorem GDaemon.priv_s_port (x : GDaemon) (y : Int) : (GDaemon.s_port x y).priv = x.priv := rfl
@[simp] theorem GDaemon.pub_s_port (x : GDaemon) (y : Int) : (GDaemon.s_port x y).pub = x.pub := rfl
@[simp] theorem GDaemon.port_s_port (x : GDaemon) (y : Int) : (GDaemon.s_port x y).port = y := rfl
@[simp] theorem GDaemon.random_s_port (x : GDaemon) (y : Int) : (GDaemon.s_port x y).random = x.random := rfl
@[simp] theorem GDaemon.now_s_port (x : GDaemon) (y : Int) : (GDaemon.s_port x y).now = x.now := rfl
@[simp] theorem GDaemon.peers_s_port (x : GDaemon) (y : Int) : (GDaemon.s_port x y).peers = x.peers := rfl
@[simp] theorem GDaemon.routes_s_port (x : GDaemon) (y : Int) : (GDaemon.s_port x y).routes = x.routes := rfl
@[simp] theorem GDaemon.slots_s_port (x : GDaemon) (y : Int) : (GDaemon.s_port x y).slots = x.slots := rfl
@[simp] theorem GDaemon.timers_s_port (x : GDaemon) (y : Int) : (GDaemon.s_port x y).timers = x.timers := rfl
@[simp] theorem GDaemon.secret_s_port (x : GDaemon) (y : Int) : (GDaemon.s_port x y).secret = x.secret := rfl
@[simp] theorem GDaemon.secretAt_s_port (x : GDaemon) (y : Int) : (GDaemon.s_port x y).secretAt = x.secretAt := rfl
@[simp] theorem GDaemon.recent_s_port (x : GDaemon) (y : Int) : (GDaemon.s_port x y).recent = x.recent := rfl
@[simp] theorem GDaemon.buckets_s_port (x : GDaemon) (y : Int) : (GDaemon.s_port x y).buckets = x.buckets := rfl
@[simp] theorem GDaemon.bad_s_port (x : GDaemon) (y : Int) : (GDaemon.s_port x y).bad = x.bad := rfl
theorem GDaemon.l_port : Lens GDaemon Int 74 GDaemon.port GDaemon.s_port :=
  lens_mid (fun x => cells x.rules ++ cells x.priv ++ cells x.pub) (fun x => cells x.random ++ (cells x.now ++ (cells x.peers ++ (cells x.routes ++ (cells x.slots ++ (cells x.timers ++ (cells x.secret ++ (cells x.secretAt ++ (cells x.recent ++ (cells x.buckets ++ (cells x.bad ++ ([])))))))))))) (fun x => by simp only [GDaemon.cells_eq, GDaemon.cs, List.append_assoc, List.nil_append]) (fun x => by simp only [List.length_append, cells_length, List.length_nil] <;> rfl)
    (fun x y => by simp only [GDaemon.s_port, GDaemon.cells_eq, GDaemon.cs, List.append_assoc, List.nil_append]) (by decide)
def GDaemon.s_random (x : GDaemon) (y : (Vec 32 UInt8)) : GDaemon := { x with random := y }
@[simp] theorem GDaemon.rules_s_random (x : GDaemon) (y : (Vec 32 UInt8)) : (GDaemon.s_random x y).rules = x.rules := rfl
@[simp] theorem GDaemon.priv_s_random (x : GDaemon) (y : (Vec 32 UInt8)) : (GDaemon.s_random x y).priv = x.priv := rfl
@[simp] theorem GDaemon.pub_s_random (x : GDaemon) (y : (Vec 32 UInt8)) : (GDaemon.s_random x y).pub = x.pub := rfl
@[simp] theorem GDaemon.port_s_random (x : GDaemon) (y : (Vec 32 UInt8)) : (GDaemon.s_random x y).port = x.port := rfl
@[simp] theorem GDaemon.random_s_random (x : GDaemon) (y : (Vec 32 UInt8)) : (GDaemon.s_random x y).random = y := rfl
@[simp] theorem GDaemon.now_s_random (x : GDaemon) (y : (Vec 32 UInt8)) : (GDaemon.s_random x y).now = x.now := rfl
@[simp] theorem GDaemon.peers_s_random (x : GDaemon) (y : (Vec 32 UInt8)) : (GDaemon.s_random x y).peers = x.peers := rfl
@[simp] theorem GDaemon.routes_s_random (x : GDaemon) (y : (Vec 32 UInt8)) : (GDaemon.s_random x y).routes = x.routes := rfl
@[simp] theorem GDaemon.slots_s_random (x : GDaemon) (y : (Vec 32 UInt8)) : (GDaemon.s_random x y).slots = x.slots := rfl
@[simp] theorem GDaemon.timers_s_random (x : GDaemon) (y : (Vec 32 UInt8)) : (GDaemon.s_random x y).timers = x.timers := rfl
@[simp] theorem GDaemon.secret_s_random (x : GDaemon) (y : (Vec 32 UInt8)) : (GDaemon.s_random x y).secret = x.secret := rfl
@[simp] theorem GDaemon.secretAt_s_random (x : GDaemon) (y : (Vec 32 UInt8)) : (GDaemon.s_random x y).secretAt = x.secretAt := rfl
@[simp] theorem GDaemon.recent_s_random (x : GDaemon) (y : (Vec 32 UInt8)) : (GDaemon.s_random x y).recent = x.recent := rfl
@[simp] theorem GDaemon.buckets_s_random (x : GDaemon) (y : (Vec 32 UInt8)) : (GDaemon.s_random x y).buckets = x.buckets := rfl
@[simp] theorem GDaemon.bad_s_random (x : GDaemon) (y : (Vec 32 UInt8)) : (GDaemon.s_random x y).bad = x.bad := rfl
theorem GDaemon.l_random : Lens GDaemon (Vec 32 UInt8) 75 GDaemon.random GDaemon.s_random :=
  lens_mid (fun x => cells x.rules ++ cells x.priv ++ cells x.pub ++ cells x.port) (fun x => cells x.now ++ (cells x.peers ++ (cells x.routes ++ (cells x.slots ++ (cells x.timers ++ (cells x.secret ++ (cells x.secretAt ++ (cells x.recent ++ (cells x.buckets ++ (cells x.bad ++ ([]))))))))))) (fun x => by simp only [GDaemon.cells_eq, GDaemon.cs, List.append_assoc, List.nil_append]) (fun x => by simp only [List.length_append, cells_length, List.length_nil] <;> rfl)
    (fun x y => by simp only [GDaemon.s_random, GDaemon.cells_eq, GDaemon.cs, List.append_assoc, List.nil_append]) (by decide)
def GDaemon.s_now (x : GDaemon) (y : Int) : GDaemon := { x with now := y }
@[simp] theorem GDaemon.rules_s_now (x : GDaemon) (y : Int) : (GDaemon.s_now x y).rules = x.rules := rfl
@[simp] theorem GDaemon.priv_s_now (x : GDaemon) (y : Int) : (GDaemon.s_now x y).priv = x.priv := rfl
@[simp] theorem GDaemon.pub_s_now (x : GDaemon) (y : Int) : (GDaemon.s_now x y).pub = x.pub := rfl
@[simp] theorem GDaemon.port_s_now (x : GDaemon) (y : Int) : (GDaemon.s_now x y).port = x.port := rfl
@[simp] theorem GDaemon.random_s_now (x : GDaemon) (y : Int) : (GDaemon.s_now x y).random = x.random := rfl
@[simp] theorem GDaemon.now_s_now (x : GDaemon) (y : Int) : (GDaemon.s_now x y).now = y := rfl
@[simp] theorem GDaemon.peers_s_now (x : GDaemon) (y : Int) : (GDaemon.s_now x y).peers = x.peers := rfl
@[simp] theorem GDaemon.routes_s_now (x : GDaemon) (y : Int) : (GDaemon.s_now x y).routes = x.routes := rfl
@[simp] theorem GDaemon.slots_s_now (x : GDaemon) (y : Int) : (GDaemon.s_now x y).slots = x.slots := rfl
@[simp] theorem GDaemon.timers_s_now (x : GDaemon) (y : Int) : (GDaemon.s_now x y).timers = x.timers := rfl
@[simp] theorem GDaemon.secret_s_now (x : GDaemon) (y : Int) : (GDaemon.s_now x y).secret = x.secret := rfl
@[simp] theorem GDaemon.secretAt_s_now (x : GDaemon) (y : Int) : (GDaemon.s_now x y).secretAt = x.secretAt := rfl
@[simp] theorem GDaemon.recent_s_now (x : GDaemon) (y : Int) : (GDaemon.s_now x y).recent = x.recent := rfl
@[simp] theorem GDaemon.buckets_s_now (x : GDaemon) (y : Int) : (GDaemon.s_now x y).buckets = x.buckets := rfl
@[simp] theorem GDaemon.bad_s_now (x : GDaemon) (y : Int) : (GDaemon.s_now x y).bad = x.bad := rfl
theorem GDaemon.l_now : Lens GDaemon Int 107 GDaemon.now GDaemon.s_now :=
  lens_mid (fun x => cells x.rules ++ cells x.priv ++ cells x.pub ++ cells x.port ++ cells x.random) (fun x => cells x.peers ++ (cells x.routes ++ (cells x.slots ++ (cells x.timers ++ (cells x.secret ++ (cells x.secretAt ++ (cells x.recent ++ (cells x.buckets ++ (cells x.bad ++ ([])))))))))) (fun x => by simp only [GDaemon.cells_eq, GDaemon.cs, List.append_assoc, List.nil_append]) (fun x => by simp only [List.length_append, cells_length, List.length_nil] <;> rfl)
    (fun x y => by simp only [GDaemon.s_now, GDaemon.cells_eq, GDaemon.cs, List.append_assoc, List.nil_append]) (by decide)
def GDaemon.s_peers (x : GDaemon) (y : GSl) : GDaemon := { x with peers := y }
@[simp] theorem GDaemon.rules_s_peers (x : GDaemon) (y : GSl) : (GDaemon.s_peers x y).rules = x.rules := rfl
@[simp] theorem GDaemon.priv_s_peers (x : GDaemon) (y : GSl) : (GDaemon.s_peers x y).priv = x.priv := rfl
@[simp] theorem GDaemon.pub_s_peers (x : GDaemon) (y : GSl) : (GDaemon.s_peers x y).pub = x.pub := rfl
@[simp] theorem GDaemon.port_s_peers (x : GDaemon) (y : GSl) : (GDaemon.s_peers x y).port = x.port := rfl
@[simp] theorem GDaemon.random_s_peers (x : GDaemon) (y : GSl) : (GDaemon.s_peers x y).random = x.random := rfl
@[simp] theorem GDaemon.now_s_peers (x : GDaemon) (y : GSl) : (GDaemon.s_peers x y).now = x.now := rfl
@[simp] theorem GDaemon.peers_s_peers (x : GDaemon) (y : GSl) : (GDaemon.s_peers x y).peers = y := rfl
@[simp] theorem GDaemon.routes_s_peers (x : GDaemon) (y : GSl) : (GDaemon.s_peers x y).routes = x.routes := rfl
@[simp] theorem GDaemon.slots_s_peers (x : GDaemon) (y : GSl) : (GDaemon.s_peers x y).slots = x.slots := rfl
@[simp] theorem GDaemon.timers_s_peers (x : GDaemon) (y : GSl) : (GDaemon.s_peers x y).timers = x.timers := rfl
@[simp] theorem GDaemon.secret_s_peers (x : GDaemon) (y : GSl) : (GDaemon.s_peers x y).secret = x.secret := rfl
@[simp] theorem GDaemon.secretAt_s_peers (x : GDaemon) (y : GSl) : (GDaemon.s_peers x y).secretAt = x.secretAt := rfl
@[simp] theorem GDaemon.recent_s_peers (x : GDaemon) (y : GSl) : (GDaemon.s_peers x y).recent = x.recent := rfl
@[simp] theorem GDaemon.buckets_s_peers (x : GDaemon) (y : GSl) : (GDaemon.s_peers x y).buckets = x.buckets := rfl
@[simp] theorem GDaemon.bad_s_peers (x : GDaemon) (y : GSl) : (GDaemon.s_peers x y).bad = x.bad := rfl
theorem GDaemon.l_peers : Lens GDaemon GSl 108 GDaemon.peers GDaemon.s_peers :=
  lens_mid (fun x => cells x.rules ++ cells x.priv ++ cells x.pub ++ cells x.port ++ cells x.random ++ cells x.now) (fun x => cells x.routes ++ (cells x.slots ++ (cells x.timers ++ (cells x.secret ++ (cells x.secretAt ++ (cells x.recent ++ (cells x.buckets ++ (cells x.bad ++ ([]))))))))) (fun x => by simp only [GDaemon.cells_eq, GDaemon.cs, List.append_assoc, List.nil_append]) (fun x => by simp only [List.length_append, cells_length, List.length_nil] <;> rfl)
    (fun x y => by simp only [GDaemon.s_peers, GDaemon.cells_eq, GDaemon.cs, List.append_assoc, List.nil_append]) (by decide)
def GDaemon.s_routes (x : GDaemon) (y : GSl) : GDaemon := { x with routes := y }
@[simp] theorem GDaemon.rules_s_routes (x : GDaemon) (y : GSl) : (GDaemon.s_routes x y).rules = x.rules := rfl
@[simp] theorem GDaemon.priv_s_routes (x : GDaemon) (y : GSl) : (GDaemon.s_routes x y).priv = x.priv := rfl
@[simp] theorem GDaemon.pub_s_routes (x : GDaemon) (y : GSl) : (GDaemon.s_routes x y).pub = x.pub := rfl
@[simp] theorem GDaemon.port_s_routes (x : GDaemon) (y : GSl) : (GDaemon.s_routes x y).port = x.port := rfl
@[simp] theorem GDaemon.random_s_routes (x : GDaemon) (y : GSl) : (GDaemon.s_routes x y).random = x.random := rfl
@[simp] theorem GDaemon.now_s_routes (x : GDaemon) (y : GSl) : (GDaemon.s_routes x y).now = x.now := rfl
@[simp] theorem GDaemon.peers_s_routes (x : GDaemon) (y : GSl) : (GDaemon.s_routes x y).peers = x.peers := rfl
@[simp] theorem GDaemon.routes_s_routes (x : GDaemon) (y : GSl) : (GDaemon.s_routes x y).routes = y := rfl
@[simp] theorem GDaemon.slots_s_routes (x : GDaemon) (y : GSl) : (GDaemon.s_routes x y).slots = x.slots := rfl
@[simp] theorem GDaemon.timers_s_routes (x : GDaemon) (y : GSl) : (GDaemon.s_routes x y).timers = x.timers := rfl
@[simp] theorem GDaemon.secret_s_routes (x : GDaemon) (y : GSl) : (GDaemon.s_routes x y).secret = x.secret := rfl
@[simp] theorem GDaemon.secretAt_s_routes (x : GDaemon) (y : GSl) : (GDaemon.s_routes x y).secretAt = x.secretAt := rfl
@[simp] theorem GDaemon.recent_s_routes (x : GDaemon) (y : GSl) : (GDaemon.s_routes x y).recent = x.recent := rfl
@[simp] theorem GDaemon.buckets_s_routes (x : GDaemon) (y : GSl) : (GDaemon.s_routes x y).buckets = x.buckets := rfl
@[simp] theorem GDaemon.bad_s_routes (x : GDaemon) (y : GSl) : (GDaemon.s_routes x y).bad = x.bad := rfl
theorem GDaemon.l_routes : Lens GDaemon GSl 109 GDaemon.routes GDaemon.s_routes :=
  lens_mid (fun x => cells x.rules ++ cells x.priv ++ cells x.pub ++ cells x.port ++ cells x.random ++ cells x.now ++ cells x.peers) (fun x => cells x.slots ++ (cells x.timers ++ (cells x.secret ++ (cells x.secretAt ++ (cells x.recent ++ (cells x.buckets ++ (cells x.bad ++ ([])))))))) (fun x => by simp only [GDaemon.cells_eq, GDaemon.cs, List.append_assoc, List.nil_append]) (fun x => by simp only [List.length_append, cells_length, List.length_nil] <;> rfl)
    (fun x y => by simp only [GDaemon.s_routes, GDaemon.cells_eq, GDaemon.cs, List.append_assoc, List.nil_append]) (by decide)
def GDaemon.s_slots (x : GDaemon) (y : GSl) : GDaemon := { x with slots := y }
@[simp] theorem GDaemon.rules_s_slots (x : GDaemon) (y : GSl) : (GDaemon.s_slots x y).rules = x.rules := rfl
@[simp] theorem GDaemon.priv_s_slots (x : GDaemon) (y : GSl) : (GDaemon.s_slots x y).priv = x.priv := rfl
@[simp] theorem GDaemon.pub_s_slots (x : GDaemon) (y : GSl) : (GDaemon.s_slots x y).pub = x.pub := rfl
@[simp] theorem GDaemon.port_s_slots (x : GDaemon) (y : GSl) : (GDaemon.s_slots x y).port = x.port := rfl
@[simp] theorem GDaemon.random_s_slots (x : GDaemon) (y : GSl) : (GDaemon.s_slots x y).random = x.random := rfl
@[simp] theorem GDaemon.now_s_slots (x : GDaemon) (y : GSl) : (GDaemon.s_slots x y).now = x.now := rfl
@[simp] theorem GDaemon.peers_s_slots (x : GDaemon) (y : GSl) : (GDaemon.s_slots x y).peers = x.peers := rfl
@[simp] theorem GDaemon.routes_s_slots (x : GDaemon) (y : GSl) : (GDaemon.s_slots x y).routes = x.routes := rfl
@[simp] theorem GDaemon.slots_s_slots (x : GDaemon) (y : GSl) : (GDaemon.s_slots x y).slots = y := rfl
@[simp] theorem GDaemon.timers_s_slots (x : GDaemon) (y : GSl) : (GDaemon.s_slots x y).timers = x.timers := rfl
@[simp] theorem GDaemon.secret_s_slots (x : GDaemon) (y : GSl) : (GDaemon.s_slots x y).secret = x.secret := rfl
@[simp] theorem GDaemon.secretAt_s_slots (x : GDaemon) (y : GSl) : (GDaemon.s_slots x y).secretAt = x.secretAt := rfl
@[simp] theorem GDaemon.recent_s_slots (x : GDaemon) (y : GSl) : (GDaemon.s_slots x y).recent = x.recent := rfl
@[simp] theorem GDaemon.buckets_s_slots (x : GDaemon) (y : GSl) : (GDaemon.s_slots x y).buckets = x.buckets := rfl
@[simp] theorem GDaemon.bad_s_slots (x : GDaemon) (y : GSl) : (GDaemon.s_slots x y).bad = x.bad := rfl
theorem GDaemon.l_slots : Lens GDaemon GSl 110 GDaemon.slots GDaemon.s_slots :=
  lens_mid (fun x => cells x.rules ++ cells x.priv ++ cells x.pub ++ cells x.port ++ cells x.random ++ cells x.now ++ cells x.peers ++ cells x.routes) (fun x => cells x.timers ++ (cells x.secret ++ (cells x.secretAt ++ (cells x.recent ++ (cells x.buckets ++ (cells x.bad ++ ([]))))))) (fun x => by simp only [GDaemon.cells_eq, GDaemon.cs, List.append_assoc, List.nil_append]) (fun x => by simp only [List.length_append, cells_length, List.length_nil] <;> rfl)
    (fun x y => by simp only [GDaemon.s_slots, GDaemon.cells_eq, GDaemon.cs, List.append_assoc, List.nil_append]) (by decide)
def GDaemon.s_timers (x : GDaemon) (y : GSl) : GDaemon := { x with timers := y }
@[simp] theorem GDaemon.rules_s_timers (x : GDaemon) (y : GSl) : (GDaemon.s_timers x y).rules = x.rules := rfl
@[simp] theorem GDaemon.priv_s_timers (x : GDaemon) (y : GSl) : (GDaemon.s_timers x y).priv = x.priv := rfl
@[simp] theorem GDaemon.pub_s_timers (x : GDaemon) (y : GSl) : (GDaemon.s_timers x y).pub = x.pub := rfl
@[simp] theorem GDaemon.port_s_timers (x : GDaemon) (y : GSl) : (GDaemon.s_timers x y).port = x.port := rfl
@[simp] theorem GDaemon.random_s_timers (x : GDaemon) (y : GSl) : (GDaemon.s_timers x y).random = x.random := rfl
@[simp] theorem GDaemon.now_s_timers (x : GDaemon) (y : GSl) : (GDaemon.s_timers x y).now = x.now := rfl
@[simp] theorem GDaemon.peers_s_timers (x : GDaemon) (y : GSl) : (GDaemon.s_timers x y).peers = x.peers := rfl
@[simp] theorem GDaemon.routes_s_timers (x : GDaemon) (y : GSl) : (GDaemon.s_timers x y).routes = x.routes := rfl
@[simp] theorem GDaemon.slots_s_timers (x : GDaemon) (y : GSl) : (GDaemon.s_timers x y).slots = x.slots := rfl
@[simp] theorem GDaemon.timers_s_timers (x : GDaemon) (y : GSl) : (GDaemon.s_timers x y).timers = y := rfl
@[simp] theorem GDaemon.secret_s_timers (x : GDaemon) (y : GSl) : (GDaemon.s_timers x y).secret = x.secret := rfl
@[simp] theorem GDaemon.secretAt_s_timers (x : GDaemon) (y : GSl) : (GDaemon.s_timers x y).secretAt = x.secretAt := rfl
@[simp] theorem GDaemon.recent_s_timers (x : GDaemon) (y : GSl) : (GDaemon.s_timers x y).recent = x.recent := rfl
@[simp] theorem GDaemon.buckets_s_timers (x : GDaemon) (y : GSl) : (GDaemon.s_timers x y).buckets = x.buckets := rfl
@[simp] theorem GDaemon.bad_s_timers (x : GDaemon) (y : GSl) : (GDaemon.s_timers x y).bad = x.bad := rfl
theorem GDaemon.l_timers : Lens GDaemon GSl 111 GDaemon.timers GDaemon.s_timers :=
  lens_mid (fun x => cells x.rules ++ cells x.priv ++ cells x.pub ++ cells x.port ++ cells x.random ++ cells x.now ++ cells x.peers ++ cells x.routes ++ cells x.slots) (fun x => cells x.secret ++ (cells x.secretAt ++ (cells x.recent ++ (cells x.buckets ++ (cells x.bad ++ ([])))))) (fun x => by simp only [GDaemon.cells_eq, GDaemon.cs, List.append_assoc, List.nil_append]) (fun x => by simp only [List.length_append, cells_length, List.length_nil] <;> rfl)
    (fun x y => by simp only [GDaemon.s_timers, GDaemon.cells_eq, GDaemon.cs, List.append_assoc, List.nil_append]) (by decide)
def GDaemon.s_secret (x : GDaemon) (y : (Vec 32 UInt8)) : GDaemon := { x with secret := y }
@[simp] theorem GDaemon.rules_s_secret (x : GDaemon) (y : (Vec 32 UInt8)) : (GDaemon.s_secret x y).rules = x.rules := rfl
@[simp] theorem GDaemon.priv_s_secret (x : GDaemon) (y : (Vec 32 UInt8)) : (GDaemon.s_secret x y).priv = x.priv := rfl
@[simp] theorem GDaemon.pub_s_secret (x : GDaemon) (y : (Vec 32 UInt8)) : (GDaemon.s_secret x y).pub = x.pub := rfl
@[simp] theorem GDaemon.port_s_secret (x : GDaemon) (y : (Vec 32 UInt8)) : (GDaemon.s_secret x y).port = x.port := rfl
@[simp] theorem GDaemon.random_s_secret (x : GDaemon) (y : (Vec 32 UInt8)) : (GDaemon.s_secret x y).random = x.random := rfl
@[simp] theorem GDaemon.now_s_secret (x : GDaemon) (y : (Vec 32 UInt8)) : (GDaemon.s_secret x y).now = x.now := rfl
@[simp] theorem GDaemon.peers_s_secret (x : GDaemon) (y : (Vec 32 UInt8)) : (GDaemon.s_secret x y).peers = x.peers := rfl
@[simp] theorem GDaemon.routes_s_secret (x : GDaemon) (y : (Vec 32 UInt8)) : (GDaemon.s_secret x y).routes = x.routes := rfl
@[simp] theorem GDaemon.slots_s_secret (x : GDaemon) (y : (Vec 32 UInt8)) : (GDaemon.s_secret x y).slots = x.slots := rfl
@[simp] theorem GDaemon.timers_s_secret (x : GDaemon) (y : (Vec 32 UInt8)) : (GDaemon.s_secret x y).timers = x.timers := rfl
@[simp] theorem GDaemon.secret_s_secret (x : GDaemon) (y : (Vec 32 UInt8)) : (GDaemon.s_secret x y).secret = y := rfl
@[simp] theorem GDaemon.secretAt_s_secret (x : GDaemon) (y : (Vec 32 UInt8)) : (GDaemon.s_secret x y).secretAt = x.secretAt := rfl
@[simp] theorem GDaemon.recent_s_secret (x : GDaemon) (y : (Vec 32 UInt8)) : (GDaemon.s_secret x y).recent = x.recent := rfl
@[simp] theorem GDaemon.buckets_s_secret (x : GDaemon) (y : (Vec 32 UInt8)) : (GDaemon.s_secret x y).buckets = x.buckets := rfl
@[simp] theorem GDaemon.bad_s_secret (x : GDaemon) (y : (Vec 32 UInt8)) : (GDaemon.s_secret x y).bad = x.bad := rfl
theorem GDaemon.l_secret : Lens GDaemon (Vec 32 UInt8) 112 GDaemon.secret GDaemon.s_secret :=
  lens_mid (fun x => cells x.rules ++ cells x.priv ++ cells x.pub ++ cells x.port ++ cells x.random ++ cells x.now ++ cells x.peers ++ cells x.routes ++ cells x.slots ++ cells x.timers) (fun x => cells x.secretAt ++ (cells x.recent ++ (cells x.buckets ++ (cells x.bad ++ ([]))))) (fun x => by simp only [GDaemon.cells_eq, GDaemon.cs, List.append_assoc, List.nil_append]) (fun x => by simp only [List.length_append, cells_length, List.length_nil] <;> rfl)
    (fun x y => by simp only [GDaemon.s_secret, GDaemon.cells_eq, GDaemon.cs, List.append_assoc, List.nil_append]) (by decide)
def GDaemon.s_secretAt (x : GDaemon) (y : Int) : GDaemon := { x with secretAt := y }
@[simp] theorem GDaemon.rules_s_secretAt (x : GDaemon) (y : Int) : (GDaemon.s_secretAt x y).rules = x.rules := rfl
@[simp] theorem GDaemon.priv_s_secretAt (x : GDaemon) (y : Int) : (GDaemon.s_secretAt x y).priv = x.priv := rfl
@[simp] theorem GDaemon.pub_s_secretAt (x : GDaemon) (y : Int) : (GDaemon.s_secretAt x y).pub = x.pub := rfl
@[simp] theorem GDaemon.port_s_secretAt (x : GDaemon) (y : Int) : (GDaemon.s_secretAt x y).port = x.port := rfl
@[simp] theorem GDaemon.random_s_secretAt (x : GDaemon) (y : Int) : (GDaemon.s_secretAt x y).random = x.random := rfl
@[simp] theorem GDaemon.now_s_secretAt (x : GDaemon) (y : Int) : (GDaemon.s_secretAt x y).now = x.now := rfl
@[simp] theorem GDaemon.peers_s_secretAt (x : GDaemon) (y : Int) : (GDaemon.s_secretAt x y).peers = x.peers := rfl
@[simp] theorem GDaemon.routes_s_secretAt (x : GDaemon) (y : Int) : (GDaemon.s_secretAt x y).routes = x.routes := rfl
@[simp] theorem GDaemon.slots_s_secretAt (x : GDaemon) (y : Int) : (GDaemon.s_secretAt x y).slots = x.slots := rfl
@[simp] theorem GDaemon.timers_s_secretAt (x : GDaemon) (y : Int) : (GDaemon.s_secretAt x y).timers = x.timers := rfl
@[simp] theorem GDaemon.secret_s_secretAt (x : GDaemon) (y : Int) : (GDaemon.s_secretAt x y).secret = x.secret := rfl
@[simp] theorem GDaemon.secretAt_s_secretAt (x : GDaemon) (y : Int) : (GDaemon.s_secretAt x y).secretAt = y := rfl
@[simp] theorem GDaemon.recent_s_secretAt (x : GDaemon) (y : Int) : (GDaemon.s_secretAt x y).recent = x.recent := rfl
@[simp] theorem GDaemon.buckets_s_secretAt (x : GDaemon) (y : Int) : (GDaemon.s_secretAt x y).buckets = x.buckets := rfl
@[simp] theorem GDaemon.bad_s_secretAt (x : GDaemon) (y : Int) : (GDaemon.s_secretAt x y).bad = x.bad := rfl
theorem GDaemon.l_secretAt : Lens GDaemon Int 144 GDaemon.secretAt GDaemon.s_secretAt :=
  lens_mid (fun x => cells x.rules ++ cells x.priv ++ cells x.pub ++ cells x.port ++ cells x.random ++ cells x.now ++ cells x.peers ++ cells x.routes ++ cells x.slots ++ cells x.timers ++ cells x.secret) (fun x => cells x.recent ++ (cells x.buckets ++ (cells x.bad ++ ([])))) (fun x => by simp only [GDaemon.cells_eq, GDaemon.cs, List.append_assoc, List.nil_append]) (fun x => by simp only [List.length_append, cells_length, List.length_nil] <;> rfl)
    (fun x y => by simp only [GDaemon.s_secretAt, GDaemon.cells_eq, GDaemon.cs, List.append_assoc, List.nil_append]) (by decide)
def GDaemon.s_recent (x : GDaemon) (y : GSl) : GDaemon := { x with recent := y }
@[simp] theorem GDaemon.rules_s_recent (x : GDaemon) (y : GSl) : (GDaemon.s_recent x y).rules = x.rules := rfl
@[simp] theorem GDaemon.priv_s_recent (x : GDaemon) (y : GSl) : (GDaemon.s_recent x y).priv = x.priv := rfl
@[simp] theorem GDaemon.pub_s_recent (x : GDaemon) (y : GSl) : (GDaemon.s_recent x y).pub = x.pub := rfl
@[simp] theorem GDaemon.port_s_recent (x : GDaemon) (y : GSl) : (GDaemon.s_recent x y).port = x.port := rfl
@[simp] theorem GDaemon.random_s_recent (x : GDaemon) (y : GSl) : (GDaemon.s_recent x y).random = x.random := rfl
@[simp] theorem GDaemon.now_s_recent (x : GDaemon) (y : GSl) : (GDaemon.s_recent x y).now = x.now := rfl
@[simp] theorem GDaemon.peers_s_recent (x : GDaemon) (y : GSl) : (GDaemon.s_recent x y).peers = x.peers := rfl
@[simp] theorem GDaemon.routes_s_recent (x : GDaemon) (y : GSl) : (GDaemon.s_recent x y).routes = x.routes := rfl
@[simp] theorem GDaemon.slots_s_recent (x : GDaemon) (y : GSl) : (GDaemon.s_recent x y).slots = x.slots := rfl
@[simp] theorem GDaemon.timers_s_recent (x : GDaemon) (y : GSl) : (GDaemon.s_recent x y).timers = x.timers := rfl
@[simp] theorem GDaemon.secret_s_recent (x : GDaemon) (y : GSl) : (GDaemon.s_recent x y).secret = x.secret := rfl
@[simp] theorem GDaemon.secretAt_s_recent (x : GDaemon) (y : GSl) : (GDaemon.s_recent x y).secretAt = x.secretAt := rfl
@[simp] theorem GDaemon.recent_s_recent (x : GDaemon) (y : GSl) : (GDaemon.s_recent x y).recent = y := rfl
@[simp] theorem GDaemon.buckets_s_recent (x : GDaemon) (y : GSl) : (GDaemon.s_recent x y).buckets = x.buckets := rfl
@[simp] theorem GDaemon.bad_s_recent (x : GDaemon) (y : GSl) : (GDaemon.s_recent x y).bad = x.bad := rfl
theorem GDaemon.l_recent : Lens GDaemon GSl 145 GDaemon.recent GDaemon.s_recent :=
  lens_mid (fun x => cells x.rules ++ cells x.priv ++ cells x.pub ++ cells x.port ++ cells x.random ++ cells x.now ++ cells x.peers ++ cells x.routes ++ cells x.slots ++ cells x.timers ++ cells x.secret ++ cells x.secretAt) (fun x => cells x.buckets ++ (cells x.bad ++ ([]))) (fun x => by simp only [GDaemon.cells_eq, GDaemon.cs, List.append_assoc, List.nil_append]) (fun x => by simp only [List.length_append, cells_length, List.length_nil] <;> rfl)
    (fun x y => by simp only [GDaemon.s_recent, GDaemon.cells_eq, GDaemon.cs, List.append_assoc, List.nil_append]) (by decide)
def GDaemon.s_buckets (x : GDaemon) (y : GSl) : GDaemon := { x with buckets := y }
@[simp] theorem GDaemon.rules_s_buckets (x : GDaemon) (y : GSl) : (GDaemon.s_buckets x y).rules = x.rules := rfl
@[simp] theorem GDaemon.priv_s_buckets (x : GDaemon) (y : GSl) : (GDaemon.s_buckets x y).priv = x.priv := rfl
@[simp] theorem GDaemon.pub_s_buckets (x : GDaemon) (y : GSl) : (GDaemon.s_buckets x y).pub = x.pub := rfl
@[simp] theorem GDaemon.port_s_buckets (x : GDaemon) (y : GSl) : (GDaemon.s_buckets x y).port = x.port := rfl
@[simp] theorem GDaemon.random_s_buckets (x : GDaemon) (y : GSl) : (GDaemon.s_buckets x y).random = x.random := rfl
@[simp] theorem GDaemon.now_s_buckets (x : GDaemon) (y : GSl) : (GDaemon.s_buckets x y).now = x.now := rfl
@[simp] theorem GDaemon.peers_s_buckets (x : GDaemon) (y : GSl) : (GDaemon.s_buckets x y).peers = x.peers := rfl
@[simp] theorem GDaemon.routes_s_buckets (x : GDaemon) (y : GSl) : (GDaemon.s_buckets x y).routes = x.routes := rfl
@[simp] theorem GDaemon.slots_s_buckets (x : GDaemon) (y : GSl) : (GDaemon.s_buckets x y).slots = x.slots := rfl
@[simp] theorem GDaemon.timers_s_buckets (x : GDaemon) (y : GSl) : (GDaemon.s_buckets x y).timers = x.timers := rfl
@[simp] theorem GDaemon.secret_s_buckets (x : GDaemon) (y : GSl) : (GDaemon.s_buckets x y).secret = x.secret := rfl
@[simp] theorem GDaemon.secretAt_s_buckets (x : GDaemon) (y : GSl) : (GDaemon.s_buckets x y).secretAt = x.secretAt := rfl
@[simp] theorem GDaemon.recent_s_buckets (x : GDaemon) (y : GSl) : (GDaemon.s_buckets x y).recent = x.recent := rfl
@[simp] theorem GDaemon.buckets_s_buckets (x : GDaemon) (y : GSl) : (GDaemon.s_buckets x y).buckets = y := rfl
@[simp] theorem GDaemon.bad_s_buckets (x : GDaemon) (y : GSl) : (GDaemon.s_buckets x y).bad = x.bad := rfl
theorem GDaemon.l_buckets : Lens GDaemon GSl 146 GDaemon.buckets GDaemon.s_buckets :=
  lens_mid (fun x => cells x.rules ++ cells x.priv ++ cells x.pub ++ cells x.port ++ cells x.random ++ cells x.now ++ cells x.peers ++ cells x.routes ++ cells x.slots ++ cells x.timers ++ cells x.secret ++ cells x.secretAt ++ cells x.recent) (fun x => cells x.bad ++ ([])) (fun x => by simp only [GDaemon.cells_eq, GDaemon.cs, List.append_assoc, List.nil_append]) (fun x => by simp only [List.length_append, cells_length, List.length_nil] <;> rfl)
    (fun x y => by simp only [GDaemon.s_buckets, GDaemon.cells_eq, GDaemon.cs, List.append_assoc, List.nil_append]) (by decide)
def GDaemon.s_bad (x : GDaemon) (y : Int) : GDaemon := { x with bad := y }
theorem GDaemon.l_bad : Lens GDaemon Int 147 GDaemon.bad GDaemon.s_bad :=
  lens_mid (fun x => cells x.rules ++ cells x.priv ++ cells x.pub ++ cells x.port ++ cells x.random ++ cells x.now ++ cells x.peers ++ cells x.routes ++ cells x.slots ++ cells x.timers ++ cells x.secret ++ cells x.secretAt ++ cells x.recent ++ cells x.buckets) (fun x => []) (fun x => by simp only [GDaemon.cells_eq, GDaemon.cs, List.append_assoc, List.nil_append]) (fun x => by simp only [List.length_append, cells_length, List.length_nil] <;> rfl)
    (fun x y => by simp only [GDaemon.s_bad, GDaemon.cells_eq, GDaemon.cs, List.append_assoc, List.nil_append]) (by decide)
structure GOutput where
  kind : Int
  dst : GEndpoint
  peer : (Vec 32 UInt8)
  key : (Vec 32 UInt8)
  counter : UInt64
  bytes : GSl
  text : Str
def GOutput.zero : GOutput := ⟨0, GEndpoint.zero, (Vector.replicate 32 0), (Vector.replicate 32 0), 0, ⟨none, 0, 0⟩, []⟩
def GOutput.cs (x : GOutput) : List Value := cells x.kind ++ (cells x.dst ++ (cells x.peer ++ (cells x.key ++ (cells x.counter ++ (cells x.bytes ++ (cells x.text ++ []))))))
instance : Enc GOutput := Enc.row GOutput.cs (Enc.size Int + (Enc.size GEndpoint + (Enc.size (Vec 32 UInt8) + (Enc.size (Vec 32 UInt8) + (Enc.size UInt64 + (Enc.size GSl + (Enc.size Str + 0))))))) (fun x => by simp only [GOutput.cs, List.length_append, cells_length, List.length_nil]) (fun x => one_app (one_cells _) (one_app (one_cells _) (one_app (one_cells _) (one_app (one_cells _) (one_app (one_cells _) (one_app (one_cells _) (one_app (one_cells _) (one_nil))))))))
theorem GOutput.cells_eq (x : GOutput) : cells x = GOutput.cs x := rfl
def GOutput.s_kind (x : GOutput) (y : Int) : GOutput := { x with kind := y }
@[simp] theorem GOutput.kind_s_kind (x : GOutput) (y : Int) : (GOutput.s_kind x y).kind = y := rfl
@[simp] theorem GOutput.dst_s_kind (x : GOutput) (y : Int) : (GOutput.s_kind x y).dst = x.dst := rfl
@[simp] theorem GOutput.peer_s_kind (x : GOutput) (y : Int) : (GOutput.s_kind x y).peer = x.peer := rfl
@[simp] theorem GOutput.key_s_kind (x : GOutput) (y : Int) : (GOutput.s_kind x y).key = x.key := rfl
@[simp] theorem GOutput.counter_s_kind (x : GOutput) (y : Int) : (GOutput.s_kind x y).counter = x.counter := rfl
@[simp] theorem GOutput.bytes_s_kind (x : GOutput) (y : Int) : (GOutput.s_kind x y).bytes = x.bytes := rfl
@[simp] theorem GOutput.text_s_kind (x : GOutput) (y : Int) : (GOutput.s_kind x y).text = x.text := rfl
theorem GOutput.l_kind : Lens GOutput Int 0 GOutput.kind GOutput.s_kind :=
  lens_mid (fun x => []) (fun x => cells x.dst ++ (cells x.peer ++ (cells x.key ++ (cells x.counter ++ (cells x.bytes ++ (cells x.text ++ ([]))))))) (fun x => by simp only [GOutput.cells_eq, GOutput.cs, List.append_assoc, List.nil_append]) (fun x => by simp only [List.length_append, cells_length, List.length_nil] <;> rfl)
    (fun x y => by simp only [GOutput.s_kind, GOutput.cells_eq, GOutput.cs, List.append_assoc, List.nil_append]) (by decide)
def GOutput.s_peer (x : GOutput) (y : (Vec 32 UInt8)) : GOutput := { x with peer := y }
@[simp] theorem GOutput.kind_s_peer (x : GOutput) (y : (Vec 32 UInt8)) : (GOutput.s_peer x y).kind = x.kind := rfl
@[simp] theorem GOutput.dst_s_peer (x : GOutput) (y : (Vec 32 UInt8)) : (GOutput.s_peer x y).dst = x.dst := rfl
@[simp] theorem GOutput.peer_s_peer (x : GOutput) (y : (Vec 32 UInt8)) : (GOutput.s_peer x y).peer = y := rfl
@[simp] theorem GOutput.key_s_peer (x : GOutput) (y : (Vec 32 UInt8)) : (GOutput.s_peer x y).key = x.key := rfl
@[simp] theorem GOutput.counter_s_peer (x : GOutput) (y : (Vec 32 UInt8)) : (GOutput.s_peer x y).counter = x.counter := rfl
@[simp] theorem GOutput.bytes_s_peer (x : GOutput) (y : (Vec 32 UInt8)) : (GOutput.s_peer x y).bytes = x.bytes := rfl
@[simp] theorem GOutput.text_s_peer (x : GOutput) (y : (Vec 32 UInt8)) : (GOutput.s_peer x y).text = x.text := rfl
def GOutput.s_text (x : GOutput) (y : Str) : GOutput := { x with text := y }
@[simp] theorem GOutput.kind_s_text (x : GOutput) (y : Str) : (GOutput.s_text x y).kind = x.kind := rfl
@[simp] theorem GOutput.dst_s_text (x : GOutput) (y : Str) : (GOutput.s_text x y).dst = x.dst := rfl
@[simp] theorem GOutput.peer_s_text (x : GOutput) (y : Str) : (GOutput.s_text x y).peer = x.peer := rfl
@[simp] theorem GOutput.key_s_text (x : GOutput) (y : Str) : (GOutput.s_text x y).key = x.key := rfl
@[simp] theorem GOutput.counter_s_text (x : GOutput) (y : Str) : (GOutput.s_text x y).counter = x.counter := rfl
@[simp] theorem GOutput.bytes_s_text (x : GOutput) (y : Str) : (GOutput.s_text x y).bytes = x.bytes := rfl
@[simp] theorem GOutput.text_s_text (x : GOutput) (y : Str) : (GOutput.s_text x y).text = y := rfl
theorem GOutput.l_text : Lens GOutput Str 85 GOutput.text GOutput.s_text :=
  lens_mid (fun x => cells x.kind ++ cells x.dst ++ cells x.peer ++ cells x.key ++ cells x.counter ++ cells x.bytes) (fun x => []) (fun x => by simp only [GOutput.cells_eq, GOutput.cs, List.append_assoc, List.nil_append]) (fun x => by simp only [List.length_append, cells_length, List.length_nil] <;> rfl)
    (fun x y => by simp only [GOutput.s_text, GOutput.cells_eq, GOutput.cs, List.append_assoc, List.nil_append]) (by decide)
structure GTransport where
  receiver : UInt32
  counter : UInt64
  body : GSl
def GTransport.cs (x : GTransport) : List Value := cells x.receiver ++ (cells x.counter ++ (cells x.body ++ []))
instance : Enc GTransport := Enc.row GTransport.cs (Enc.size UInt32 + (Enc.size UInt64 + (Enc.size GSl + 0))) (fun x => by simp only [GTransport.cs, List.length_append, cells_length, List.length_nil]) (fun x => one_app (one_cells _) (one_app (one_cells _) (one_app (one_cells _) (one_nil))))
structure GConfig where
  priv : (Vec 32 UInt8)
  port : Int
  peers : GSl
def GConfig.cs (x : GConfig) : List Value := cells x.priv ++ (cells x.port ++ (cells x.peers ++ []))
instance : Enc GConfig := Enc.row GConfig.cs (Enc.size (Vec 32 UInt8) + (Enc.size Int + (Enc.size GSl + 0))) (fun x => by simp only [GConfig.cs, List.length_append, cells_length, List.length_nil]) (fun x => one_app (one_cells _) (one_app (one_cells _) (one_app (one_cells _) (one_nil))))
def GConfig.s_peers (x : GConfig) (y : GSl) : GConfig := { x with peers := y }
@[simp] theorem GConfig.priv_s_peers (x : GConfig) (y : GSl) : (GConfig.s_peers x y).priv = x.priv := rfl
@[simp] theorem GConfig.port_s_peers (x : GConfig) (y : GSl) : (GConfig.s_peers x y).port = x.port := rfl
@[simp] theorem GConfig.peers_s_peers (x : GConfig) (y : GSl) : (GConfig.s_peers x y).peers = y := rfl
structure GWindow where
  used : Bool
  top : UInt64
  words : (Vec 4 UInt64)
deriving DecidableEq
def GWindow.zero : GWindow := ⟨false, 0, (Vector.replicate 4 0)⟩
def GWindow.cs (x : GWindow) : List Value := cells x.used ++ (cells x.top ++ (cells x.words ++ []))
instance : Enc GWindow := Enc.row GWindow.cs (Enc.size Bool + (Enc.size UInt64 + (Enc.size (Vec 4 UInt64) + 0))) (fun x => by simp only [GWindow.cs, List.length_append, cells_length, List.length_nil]) (fun x => one_app (one_cells _) (one_app (one_cells _) (one_app (one_cells _) (one_nil))))
theorem GWindow.cells_eq (x : GWindow) : cells x = GWindow.cs x := rfl
def GWindow.s_used (x : GWindow) (y : Bool) : GWindow := { x with used := y }
@[simp] theorem GWindow.used_s_used (x : GWindow) (y : Bool) : (GWindow.s_used x y).used = y := rfl
@[simp] theorem GWindow.top_s_used (x : GWindow) (y : Bool) : (GWindow.s_used x y).top = x.top := rfl
@[simp] theorem GWindow.words_s_used (x : GWindow) (y : Bool) : (GWindow.s_used x y).words = x.words := rfl
theorem GWindow.l_used : Lens GWindow Bool 0 GWindow.used GWindow.s_used :=
  lens_mid (fun x => []) (fun x => cells x.top ++ (cells x.words ++ ([]))) (fun x => by simp only [GWindow.cells_eq, GWindow.cs, List.append_assoc, List.nil_append]) (fun x => by simp only [List.length_append, cells_length, List.length_nil] <;> rfl)
    (fun x y => by simp only [GWindow.s_used, GWindow.cells_eq, GWindow.cs, List.append_assoc, List.nil_append]) (by decide)
def GWindow.s_top (x : GWindow) (y : UInt64) : GWindow := { x with top := y }
@[simp] theorem GWindow.used_s_top (x : GWindow) (y : UInt64) : (GWindow.s_top x y).used = x.used := rfl
@[simp] theorem GWindow.top_s_top (x : GWindow) (y : UInt64) : (GWindow.s_top x y).top = y := rfl
@[simp] theorem GWindow.words_s_top (x : GWindow) (y : UInt64) : (GWindow.s_top x y).words = x.words := rfl
theorem GWindow.l_top : Lens GWindow UInt64 1 GWindow.top GWindow.s_top :=
  lens_mid (fun x => cells x.used) (fun x => cells x.words ++ ([])) (fun x => by simp only [GWindow.cells_eq, GWindow.cs, List.append_assoc, List.nil_append]) (fun x => by simp only [List.length_append, cells_length, List.length_nil] <;> rfl)
    (fun x y => by simp only [GWindow.s_top, GWindow.cells_eq, GWindow.cs, List.append_assoc, List.nil_append]) (by decide)
def GWindow.s_words (x : GWindow) (y : (Vec 4 UInt64)) : GWindow := { x with words := y }
@[simp] theorem GWindow.used_s_words (x : GWindow) (y : (Vec 4 UInt64)) : (GWindow.s_words x y).used = x.used := rfl
@[simp] theorem GWindow.top_s_words (x : GWindow) (y : (Vec 4 UInt64)) : (GWindow.s_words x y).top = x.top := rfl
@[simp] theorem GWindow.words_s_words (x : GWindow) (y : (Vec 4 UInt64)) : (GWindow.s_words x y).words = y := rfl
theorem GWindow.l_words : Lens GWindow (Vec 4 UInt64) 2 GWindow.words GWindow.s_words :=
  lens_mid (fun x => cells x.used ++ cells x.top) (fun x => []) (fun x => by simp only [GWindow.cells_eq, GWindow.cs, List.append_assoc, List.nil_append]) (fun x => by simp only [List.length_append, cells_length, List.length_nil] <;> rfl)
    (fun x y => by simp only [GWindow.s_words, GWindow.cells_eq, GWindow.cs, List.append_assoc, List.nil_append]) (by decide)
structure GSession where
  loc : UInt32
  remote : UInt32
  send : (Vec 32 UInt8)
  recv : (Vec 32 UInt8)
  next : UInt64
  fence : UInt64
  window : GWindow
  born : Int
  initiator : Bool
deriving DecidableEq
def GSession.zero : GSession := ⟨0, 0, (Vector.replicate 32 0), (Vector.replicate 32 0), 0, 0, GWindow.zero, 0, false⟩
def GSession.cs (x : GSession) : List Value := cells x.loc ++ (cells x.remote ++ (cells x.send ++ (cells x.recv ++ (cells x.next ++ (cells x.fence ++ (cells x.window ++ (cells x.born ++ (cells x.initiator ++ []))))))))
instance : Enc GSession := Enc.row GSession.cs (Enc.size UInt32 + (Enc.size UInt32 + (Enc.size (Vec 32 UInt8) + (Enc.size (Vec 32 UInt8) + (Enc.size UInt64 + (Enc.size UInt64 + (Enc.size GWindow + (Enc.size Int + (Enc.size Bool + 0))))))))) (fun x => by simp only [GSession.cs, List.length_append, cells_length, List.length_nil]) (fun x => one_app (one_cells _) (one_app (one_cells _) (one_app (one_cells _) (one_app (one_cells _) (one_app (one_cells _) (one_app (one_cells _) (one_app (one_cells _) (one_app (one_cells _) (one_app (one_cells _) (one_nil))))))))))
theorem GSession.cells_eq (x : GSession) : cells x = GSession.cs x := rfl
def GSession.s_loc (x : GSession) (y : UInt32) : GSession := { x with loc := y }
@[simp] theorem GSession.loc_s_loc (x : GSession) (y : UInt32) : (GSession.s_loc x y).loc = y := rfl
@[simp] theorem GSession.remote_s_loc (x : GSession) (y : UInt32) : (GSession.s_loc x y).remote = x.remote := rfl
@[simp] theorem GSession.send_s_loc (x : GSession) (y : UInt32) : (GSession.s_loc x y).send = x.send := rfl
@[simp] theorem GSession.recv_s_loc (x : GSession) (y : UInt32) : (GSession.s_loc x y).recv = x.recv := rfl
@[simp] theorem GSession.next_s_loc (x : GSession) (y : UInt32) : (GSession.s_loc x y).next = x.next := rfl
@[simp] theorem GSession.fence_s_loc (x : GSession) (y : UInt32) : (GSession.s_loc x y).fence = x.fence := rfl
@[simp] theorem GSession.window_s_loc (x : GSession) (y : UInt32) : (GSession.s_loc x y).window = x.window := rfl
@[simp] theorem GSession.born_s_loc (x : GSession) (y : UInt32) : (GSession.s_loc x y).born = x.born := rfl
@[simp] theorem GSession.initiator_s_loc (x : GSession) (y : UInt32) : (GSession.s_loc x y).initiator = x.initiator := rfl
theorem GSession.l_loc : Lens GSession UInt32 0 GSession.loc GSession.s_loc :=
  lens_mid (fun x => []) (fun x => cells x.remote ++ (cells x.send ++ (cells x.recv ++ (cells x.next ++ (cells x.fence ++ (cells x.window ++ (cells x.born ++ (cells x.initiator ++ ([]))))))))) (fun x => by simp only [GSession.cells_eq, GSession.cs, List.append_assoc, List.nil_append]) (fun x => by simp only [List.length_append, cells_length, List.length_nil] <;> rfl)
    (fun x y => by simp only [GSession.s_loc, GSession.cells_eq, GSession.cs, List.append_assoc, List.nil_append]) (by decide)
def GSession.s_remote (x : GSession) (y : UInt32) : GSession := { x with remote := y }
@[simp] theorem GSession.loc_s_remote (x : GSession) (y : UInt32) : (GSession.s_remote x y).loc = x.loc := rfl
@[simp] theorem GSession.remote_s_remote (x : GSession) (y : UInt32) : (GSession.s_remote x y).remote = y := rfl
@[simp] theorem GSession.send_s_remote (x : GSession) (y : UInt32) : (GSession.s_remote x y).send = x.send := rfl
@[simp] theorem GSession.recv_s_remote (x : GSession) (y : UInt32) : (GSession.s_remote x y).recv = x.recv := rfl
@[simp] theorem GSession.next_s_remote (x : GSession) (y : UInt32) : (GSession.s_remote x y).next = x.next := rfl
@[simp] theorem GSession.fence_s_remote (x : GSession) (y : UInt32) : (GSession.s_remote x y).fence = x.fence := rfl
@[simp] theorem GSession.window_s_remote (x : GSession) (y : UInt32) : (GSession.s_remote x y).window = x.window := rfl
@[simp] theorem GSession.born_s_remote (x : GSession) (y : UInt32) : (GSession.s_remote x y).born = x.born := rfl
@[simp] theorem GSession.initiator_s_remote (x : GSession) (y : UInt32) : (GSession.s_remote x y).initiator = x.initiator := rfl
theorem GSession.l_remote : Lens GSession UInt32 1 GSession.remote GSession.s_remote :=
  lens_mid (fun x => cells x.loc) (fun x => cells x.send ++ (cells x.recv ++ (cells x.next ++ (cells x.fence ++ (cells x.window ++ (cells x.born ++ (cells x.initiator ++ ([])))))))) (fun x => by simp only [GSession.cells_eq, GSession.cs, List.append_assoc, List.nil_append]) (fun x => by simp only [List.length_append, cells_length, List.length_nil] <;> rfl)
    (fun x y => by simp only [GSession.s_remote, GSession.cells_eq, GSession.cs, List.append_assoc, List.nil_append]) (by decide)
def GSession.s_send (x : GSession) (y : (Vec 32 UInt8)) : GSession := { x with send := y }
@[simp] theorem GSession.loc_s_send (x : GSession) (y : (Vec 32 UInt8)) : (GSession.s_send x y).loc = x.loc := rfl
@[simp] theorem GSession.remote_s_send (x : GSession) (y : (Vec 32 UInt8)) : (GSession.s_send x y).remote = x.remote := rfl
@[simp] theorem GSession.send_s_send (x : GSession) (y : (Vec 32 UInt8)) : (GSession.s_send x y).send = y := rfl
@[simp] theorem GSession.recv_s_send (x : GSession) (y : (Vec 32 UInt8)) : (GSession.s_send x y).recv = x.recv := rfl
@[simp] theorem GSession.next_s_send (x : GSession) (y : (Vec 32 UInt8)) : (GSession.s_send x y).next = x.next := rfl
@[simp] theorem GSession.fence_s_send (x : GSession) (y : (Vec 32 UInt8)) : (GSession.s_send x y).fence = x.fence := rfl
@[simp] theorem GSession.window_s_send (x : GSession) (y : (Vec 32 UInt8)) : (GSession.s_send x y).window = x.window := rfl
@[simp] theorem GSession.born_s_send (x : GSession) (y : (Vec 32 UInt8)) : (GSession.s_send x y).born = x.born := rfl
@[simp] theorem GSession.initiator_s_send (x : GSession) (y : (Vec 32 UInt8)) : (GSession.s_send x y).initiator = x.initiator := rfl
theorem GSession.l_send : Lens GSession (Vec 32 UInt8) 2 GSession.send GSession.s_send :=
  lens_mid (fun x => cells x.loc ++ cells x.remote) (fun x => cells x.recv ++ (cells x.next ++ (cells x.fence ++ (cells x.window ++ (cells x.born ++ (cells x.initiator ++ ([]))))))) (fun x => by simp only [GSession.cells_eq, GSession.cs, List.append_assoc, List.nil_append]) (fun x => by simp only [List.length_append, cells_length, List.length_nil] <;> rfl)
    (fun x y => by simp only [GSession.s_send, GSession.cells_eq, GSession.cs, List.append_assoc, List.nil_append]) (by decide)
def GSession.s_recv (x : GSession) (y : (Vec 32 UInt8)) : GSession := { x with recv := y }
@[simp] theorem GSession.loc_s_recv (x : GSession) (y : (Vec 32 UInt8)) : (GSession.s_recv x y).loc = x.loc := rfl
@[simp] theorem GSession.remote_s_recv (x : GSession) (y : (Vec 32 UInt8)) : (GSession.s_recv x y).remote = x.remote := rfl
@[simp] theorem GSession.send_s_recv (x : GSession) (y : (Vec 32 UInt8)) : (GSession.s_recv x y).send = x.send := rfl
@[simp] theorem GSession.recv_s_recv (x : GSession) (y : (Vec 32 UInt8)) : (GSession.s_recv x y).recv = y := rfl
@[simp] theorem GSession.next_s_recv (x : GSession) (y : (Vec 32 UInt8)) : (GSession.s_recv x y).next = x.next := rfl
@[simp] theorem GSession.fence_s_recv (x : GSession) (y : (Vec 32 UInt8)) : (GSession.s_recv x y).fence = x.fence := rfl
@[simp] theorem GSession.window_s_recv (x : GSession) (y : (Vec 32 UInt8)) : (GSession.s_recv x y).window = x.window := rfl
@[simp] theorem GSession.born_s_recv (x : GSession) (y : (Vec 32 UInt8)) : (GSession.s_recv x y).born = x.born := rfl
@[simp] theorem GSession.initiator_s_recv (x : GSession) (y : (Vec 32 UInt8)) : (GSession.s_recv x y).initiator = x.initiator := rfl
theorem GSession.l_recv : Lens GSession (Vec 32 UInt8) 34 GSession.recv GSession.s_recv :=
  lens_mid (fun x => cells x.loc ++ cells x.remote ++ cells x.send) (fun x => cells x.next ++ (cells x.fence ++ (cells x.window ++ (cells x.born ++ (cells x.initiator ++ ([])))))) (fun x => by simp only [GSession.cells_eq, GSession.cs, List.append_assoc, List.nil_append]) (fun x => by simp only [List.length_append, cells_length, List.length_nil] <;> rfl)
    (fun x y => by simp only [GSession.s_recv, GSession.cells_eq, GSession.cs, List.append_assoc, List.nil_append]) (by decide)
def GSession.s_next (x : GSession) (y : UInt64) : GSession := { x with next := y }
@[simp] theorem GSession.loc_s_next (x : GSession) (y : UInt64) : (GSession.s_next x y).loc = x.loc := rfl
@[simp] theorem GSession.remote_s_next (x : GSession) (y : UInt64) : (GSession.s_next x y).remote = x.remote := rfl
@[simp] theorem GSession.send_s_next (x : GSession) (y : UInt64) : (GSession.s_next x y).send = x.send := rfl
@[simp] theorem GSession.recv_s_next (x : GSession) (y : UInt64) : (GSession.s_next x y).recv = x.recv := rfl
@[simp] theorem GSession.next_s_next (x : GSession) (y : UInt64) : (GSession.s_next x y).next = y := rfl
@[simp] theorem GSession.fence_s_next (x : GSession) (y : UInt64) : (GSession.s_next x y).fence = x.fence := rfl
@[simp] theorem GSession.window_s_next (x : GSession) (y : UInt64) : (GSession.s_next x y).window = x.window := rfl
@[simp] theorem GSession.born_s_next (x : GSession) (y : UInt64) : (GSession.s_next x y).born = x.born := rfl
@[simp] theorem GSession.initiator_s_next (x : GSession) (y : UInt64) : (GSession.s_next x y).initiator = x.initiator := rfl
theorem GSession.l_next : Lens GSession UInt64 66 GSession.next GSession.s_next :=
  lens_mid (fun x => cells x.loc ++ cells x.remote ++ cells x.send ++ cells x.recv) (fun x => cells x.fence ++ (cells x.window ++ (cells x.born ++ (cells x.initiator ++ ([]))))) (fun x => by simp only [GSession.cells_eq, GSession.cs, List.append_assoc, List.nil_append]) (fun x => by simp only [List.length_append, cells_length, List.length_nil] <;> rfl)
    (fun x y => by simp only [GSession.s_next, GSession.cells_eq, GSession.cs, List.append_assoc, List.nil_append]) (by decide)
def GSession.s_fence (x : GSession) (y : UInt64) : GSession := { x with fence := y }
@[simp] theorem GSession.loc_s_fence (x : GSession) (y : UInt64) : (GSession.s_fence x y).loc = x.loc := rfl
@[simp] theorem GSession.remote_s_fence (x : GSession) (y : UInt64) : (GSession.s_fence x y).remote = x.remote := rfl
@[simp] theorem GSession.send_s_fence (x : GSession) (y : UInt64) : (GSession.s_fence x y).send = x.send := rfl
@[simp] theorem GSession.recv_s_fence (x : GSession) (y : UInt64) : (GSession.s_fence x y).recv = x.recv := rfl
@[simp] theorem GSession.next_s_fence (x : GSession) (y : UInt64) : (GSession.s_fence x y).next = x.next := rfl
@[simp] theorem GSession.fence_s_fence (x : GSession) (y : UInt64) : (GSession.s_fence x y).fence = y := rfl
@[simp] theorem GSession.window_s_fence (x : GSession) (y : UInt64) : (GSession.s_fence x y).window = x.window := rfl
@[simp] theorem GSession.born_s_fence (x : GSession) (y : UInt64) : (GSession.s_fence x y).born = x.born := rfl
@[simp] theorem GSession.initiator_s_fence (x : GSession) (y : UInt64) : (GSession.s_fence x y).initiator = x.initiator := rfl
theorem GSession.l_fence : Lens GSession UInt64 67 GSession.fence GSession.s_fence :=
  lens_mid (fun x => cells x.loc ++ cells x.remote ++ cells x.send ++ cells x.recv ++ cells x.next) (fun x => cells x.window ++ (cells x.born ++ (cells x.initiator ++ ([])))) (fun x => by simp only [GSession.cells_eq, GSession.cs, List.append_assoc, List.nil_append]) (fun x => by simp only [List.length_append, cells_length, List.length_nil] <;> rfl)
    (fun x y => by simp only [GSession.s_fence, GSession.cells_eq, GSession.cs, List.append_assoc, List.nil_append]) (by decide)
def GSession.s_window (x : GSession) (y : GWindow) : GSession := { x with window := y }
@[simp] theorem GSession.loc_s_window (x : GSession) (y : GWindow) : (GSession.s_window x y).loc = x.loc := rfl
@[simp] theorem GSession.remote_s_window (x : GSession) (y : GWindow) : (GSession.s_window x y).remote = x.remote := rfl
@[simp] theorem GSession.send_s_window (x : GSession) (y : GWindow) : (GSession.s_window x y).send = x.send := rfl
@[simp] theorem GSession.recv_s_window (x : GSession) (y : GWindow) : (GSession.s_window x y).recv = x.recv := rfl
@[simp] theorem GSession.next_s_window (x : GSession) (y : GWindow) : (GSession.s_window x y).next = x.next := rfl
@[simp] theorem GSession.fence_s_window (x : GSession) (y : GWindow) : (GSession.s_window x y).fence = x.fence := rfl
@[simp] theorem GSession.window_s_window (x : GSession) (y : GWindow) : (GSession.s_window x y).window = y := rfl
@[simp] theorem GSession.born_s_window (x : GSession) (y : GWindow) : (GSession.s_window x y).born = x.born := rfl
@[simp] theorem GSession.initiator_s_window (x : GSession) (y : GWindow) : (GSession.s_window x y).initiator = x.initiator := rfl
theorem GSession.l_window : Lens GSession GWindow 68 GSession.window GSession.s_window :=
  lens_mid (fun x => cells x.loc ++ cells x.remote ++ cells x.send ++ cells x.recv ++ cells x.next ++ cells x.fence) (fun x => cells x.born ++ (cells x.initiator ++ ([]))) (fun x => by simp only [GSession.cells_eq, GSession.cs, List.append_assoc, List.nil_append]) (fun x => by simp only [List.length_append, cells_length, List.length_nil] <;> rfl)
    (fun x y => by simp only [GSession.s_window, GSession.cells_eq, GSession.cs, List.append_assoc, List.nil_append]) (by decide)
def GSession.s_born (x : GSession) (y : Int) : GSession := { x with born := y }
@[simp] theorem GSession.loc_s_born (x : GSession) (y : Int) : (GSession.s_born x y).loc = x.loc := rfl
@[simp] theorem GSession.remote_s_born (x : GSession) (y : Int) : (GSession.s_born x y).remote = x.remote := rfl
@[simp] theorem GSession.send_s_born (x : GSession) (y : Int) : (GSession.s_born x y).send = x.send := rfl
@[simp] theorem GSession.recv_s_born (x : GSession) (y : Int) : (GSession.s_born x y).recv = x.recv := rfl
@[simp] theorem GSession.next_s_born (x : GSession) (y : Int) : (GSession.s_born x y).next = x.next := rfl
@[simp] theorem GSession.fence_s_born (x : GSession) (y : Int) : (GSession.s_born x y).fence = x.fence := rfl
@[simp] theorem GSession.window_s_born (x : GSession) (y : Int) : (GSession.s_born x y).window = x.window := rfl
@[simp] theorem GSession.born_s_born (x : GSession) (y : Int) : (GSession.s_born x y).born = y := rfl
@[simp] theorem GSession.initiator_s_born (x : GSession) (y : Int) : (GSession.s_born x y).initiator = x.initiator := rfl
theorem GSession.l_born : Lens GSession Int 74 GSession.born GSession.s_born :=
  lens_mid (fun x => cells x.loc ++ cells x.remote ++ cells x.send ++ cells x.recv ++ cells x.next ++ cells x.fence ++ cells x.window) (fun x => cells x.initiator ++ ([])) (fun x => by simp only [GSession.cells_eq, GSession.cs, List.append_assoc, List.nil_append]) (fun x => by simp only [List.length_append, cells_length, List.length_nil] <;> rfl)
    (fun x y => by simp only [GSession.s_born, GSession.cells_eq, GSession.cs, List.append_assoc, List.nil_append]) (by decide)
def GSession.s_initiator (x : GSession) (y : Bool) : GSession := { x with initiator := y }
@[simp] theorem GSession.loc_s_initiator (x : GSession) (y : Bool) : (GSession.s_initiator x y).loc = x.loc := rfl
@[simp] theorem GSession.remote_s_initiator (x : GSession) (y : Bool) : (GSession.s_initiator x y).remote = x.remote := rfl
@[simp] theorem GSession.send_s_initiator (x : GSession) (y : Bool) : (GSession.s_initiator x y).send = x.send := rfl
@[simp] theorem GSession.recv_s_initiator (x : GSession) (y : Bool) : (GSession.s_initiator x y).recv = x.recv := rfl
@[simp] theorem GSession.next_s_initiator (x : GSession) (y : Bool) : (GSession.s_initiator x y).next = x.next := rfl
@[simp] theorem GSession.fence_s_initiator (x : GSession) (y : Bool) : (GSession.s_initiator x y).fence = x.fence := rfl
@[simp] theorem GSession.window_s_initiator (x : GSession) (y : Bool) : (GSession.s_initiator x y).window = x.window := rfl
@[simp] theorem GSession.born_s_initiator (x : GSession) (y : Bool) : (GSession.s_initiator x y).born = x.born := rfl
@[simp] theorem GSession.initiator_s_initiator (x : GSession) (y : Bool) : (GSession.s_initiator x y).initiator = y := rfl
theorem GSession.l_initiator : Lens GSession Bool 75 GSession.initiator GSession.s_initiator :=
  lens_mid (fun x => cells x.loc ++ cells x.remote ++ cells x.send ++ cells x.recv ++ cells x.next ++ cells x.fence ++ cells x.window ++ cells x.born) (fun x => []) (fun x => by simp only [GSession.cells_eq, GSession.cs, List.append_assoc, List.nil_append]) (fun x => by simp only [List.length_append, cells_length, List.length_nil] <;> rfl)
    (fun x y => by simp only [GSession.s_initiator, GSession.cells_eq, GSession.cs, List.append_assoc, List.nil_append]) (by decide)
structure GNoise where
  hash : (Vec 32 UInt8)
  chain : (Vec 32 UInt8)
deriving DecidableEq
def GNoise.zero : GNoise := ⟨(Vector.replicate 32 0), (Vector.replicate 32 0)⟩
def GNoise.cs (x : GNoise) : List Value := cells x.hash ++ (cells x.chain ++ [])
instance : Enc GNoise := Enc.row GNoise.cs (Enc.size (Vec 32 UInt8) + (Enc.size (Vec 32 UInt8) + 0)) (fun x => by simp only [GNoise.cs, List.length_append, cells_length, List.length_nil]) (fun x => one_app (one_cells _) (one_app (one_cells _) (one_nil)))
theorem GNoise.cells_eq (x : GNoise) : cells x = GNoise.cs x := rfl
def GNoise.s_hash (x : GNoise) (y : (Vec 32 UInt8)) : GNoise := { x with hash := y }
theorem GNoise.l_hash : Lens GNoise (Vec 32 UInt8) 0 GNoise.hash GNoise.s_hash :=
  lens_mid (fun x => []) (fun x => cells x.chain ++ ([])) (fun x => by simp only [GNoise.cells_eq, GNoise.cs, List.append_assoc, List.nil_append]) (fun x => by simp only [List.length_append, cells_length, List.length_nil] <;> rfl)
    (fun x y => by simp only [GNoise.s_hash, GNoise.cells_eq, GNoise.cs, List.append_assoc, List.nil_append]) (by decide)
def GNoise.s_chain (x : GNoise) (y : (Vec 32 UInt8)) : GNoise := { x with chain := y }
theorem GNoise.l_chain : Lens GNoise (Vec 32 UInt8) 32 GNoise.chain GNoise.s_chain :=
  lens_mid (fun x => cells x.hash) (fun x => []) (fun x => by simp only [GNoise.cells_eq, GNoise.cs, List.append_assoc, List.nil_append]) (fun x => by simp only [List.length_append, cells_length, List.length_nil] <;> rfl)
    (fun x y => by simp only [GNoise.s_chain, GNoise.cells_eq, GNoise.cs, List.append_assoc, List.nil_append]) (by decide)
structure GHand where
  has : Bool
  loc : UInt32
  ephemeral : (Vec 32 UInt8)
  noise : GNoise
  started : Int
  tried : Int
deriving DecidableEq
def GHand.zero : GHand := ⟨false, 0, (Vector.replicate 32 0), GNoise.zero, 0, 0⟩
def GHand.cs (x : GHand) : List Value := cells x.has ++ (cells x.loc ++ (cells x.ephemeral ++ (cells x.noise ++ (cells x.started ++ (cells x.tried ++ [])))))
instance : Enc GHand := Enc.row GHand.cs (Enc.size Bool + (Enc.size UInt32 + (Enc.size (Vec 32 UInt8) + (Enc.size GNoise + (Enc.size Int + (Enc.size Int + 0)))))) (fun x => by simp only [GHand.cs, List.length_append, cells_length, List.length_nil]) (fun x => one_app (one_cells _) (one_app (one_cells _) (one_app (one_cells _) (one_app (one_cells _) (one_app (one_cells _) (one_app (one_cells _) (one_nil)))))))
theorem GHand.cells_eq (x : GHand) : cells x = GHand.cs x := rfl
def GHand.s_has (x : GHand) (y : Bool) : GHand := { x with has := y }
theorem GHand.l_has : Lens GHand Bool 0 GHand.has GHand.s_has :=
  lens_mid (fun x => []) (fun x => cells x.loc ++ (cells x.ephemeral ++ (cells x.noise ++ (cells x.started ++ (cells x.tried ++ ([])))))) (fun x => by simp only [GHand.cells_eq, GHand.cs, List.append_assoc, List.nil_append]) (fun x => by simp only [List.length_append, cells_length, List.length_nil] <;> rfl)
    (fun x y => by simp only [GHand.s_has, GHand.cells_eq, GHand.cs, List.append_assoc, List.nil_append]) (by decide)
def GHand.s_loc (x : GHand) (y : UInt32) : GHand := { x with loc := y }
theorem GHand.l_loc : Lens GHand UInt32 1 GHand.loc GHand.s_loc :=
  lens_mid (fun x => cells x.has) (fun x => cells x.ephemeral ++ (cells x.noise ++ (cells x.started ++ (cells x.tried ++ ([]))))) (fun x => by simp only [GHand.cells_eq, GHand.cs, List.append_assoc, List.nil_append]) (fun x => by simp only [List.length_append, cells_length, List.length_nil] <;> rfl)
    (fun x y => by simp only [GHand.s_loc, GHand.cells_eq, GHand.cs, List.append_assoc, List.nil_append]) (by decide)
def GHand.s_ephemeral (x : GHand) (y : (Vec 32 UInt8)) : GHand := { x with ephemeral := y }
theorem GHand.l_ephemeral : Lens GHand (Vec 32 UInt8) 2 GHand.ephemeral GHand.s_ephemeral :=
  lens_mid (fun x => cells x.has ++ cells x.loc) (fun x => cells x.noise ++ (cells x.started ++ (cells x.tried ++ ([])))) (fun x => by simp only [GHand.cells_eq, GHand.cs, List.append_assoc, List.nil_append]) (fun x => by simp only [List.length_append, cells_length, List.length_nil] <;> rfl)
    (fun x y => by simp only [GHand.s_ephemeral, GHand.cells_eq, GHand.cs, List.append_assoc, List.nil_append]) (by decide)
def GHand.s_noise (x : GHand) (y : GNoise) : GHand := { x with noise := y }
theorem GHand.l_noise : Lens GHand GNoise 34 GHand.noise GHand.s_noise :=
  lens_mid (fun x => cells x.has ++ cells x.loc ++ cells x.ephemeral) (fun x => cells x.started ++ (cells x.tried ++ ([]))) (fun x => by simp only [GHand.cells_eq, GHand.cs, List.append_assoc, List.nil_append]) (fun x => by simp only [List.length_append, cells_length, List.length_nil] <;> rfl)
    (fun x y => by simp only [GHand.s_noise, GHand.cells_eq, GHand.cs, List.append_assoc, List.nil_append]) (by decide)
def GHand.s_started (x : GHand) (y : Int) : GHand := { x with started := y }
theorem GHand.l_started : Lens GHand Int 98 GHand.started GHand.s_started :=
  lens_mid (fun x => cells x.has ++ cells x.loc ++ cells x.ephemeral ++ cells x.noise) (fun x => cells x.tried ++ ([])) (fun x => by simp only [GHand.cells_eq, GHand.cs, List.append_assoc, List.nil_append]) (fun x => by simp only [List.length_append, cells_length, List.length_nil] <;> rfl)
    (fun x y => by simp only [GHand.s_started, GHand.cells_eq, GHand.cs, List.append_assoc, List.nil_append]) (by decide)
def GHand.s_tried (x : GHand) (y : Int) : GHand := { x with tried := y }
theorem GHand.l_tried : Lens GHand Int 99 GHand.tried GHand.s_tried :=
  lens_mid (fun x => cells x.has ++ cells x.loc ++ cells x.ephemeral ++ cells x.noise ++ cells x.started) (fun x => []) (fun x => by simp only [GHand.cells_eq, GHand.cs, List.append_assoc, List.nil_append]) (fun x => by simp only [List.length_append, cells_length, List.length_nil] <;> rfl)
    (fun x y => by simp only [GHand.s_tried, GHand.cells_eq, GHand.cs, List.append_assoc, List.nil_append]) (by decide)
structure GPlace where
  has : Bool
  session : GSession
deriving DecidableEq
def GPlace.zero : GPlace := ⟨false, GSession.zero⟩
def GPlace.cs (x : GPlace) : List Value := cells x.has ++ (cells x.session ++ [])
instance : Enc GPlace := Enc.row GPlace.cs (Enc.size Bool + (Enc.size GSession + 0)) (fun x => by simp only [GPlace.cs, List.length_append, cells_length, List.length_nil]) (fun x => one_app (one_cells _) (one_app (one_cells _) (one_nil)))
theorem GPlace.cells_eq (x : GPlace) : cells x = GPlace.cs x := rfl
def GPlace.s_has (x : GPlace) (y : Bool) : GPlace := { x with has := y }
@[simp] theorem GPlace.has_s_has (x : GPlace) (y : Bool) : (GPlace.s_has x y).has = y := rfl
@[simp] theorem GPlace.session_s_has (x : GPlace) (y : Bool) : (GPlace.s_has x y).session = x.session := rfl
theorem GPlace.l_has : Lens GPlace Bool 0 GPlace.has GPlace.s_has :=
  lens_mid (fun x => []) (fun x => cells x.session ++ ([])) (fun x => by simp only [GPlace.cells_eq, GPlace.cs, List.append_assoc, List.nil_append]) (fun x => by simp only [List.length_append, cells_length, List.length_nil] <;> rfl)
    (fun x y => by simp only [GPlace.s_has, GPlace.cells_eq, GPlace.cs, List.append_assoc, List.nil_append]) (by decide)
def GPlace.s_session (x : GPlace) (y : GSession) : GPlace := { x with session := y }
@[simp] theorem GPlace.has_s_session (x : GPlace) (y : GSession) : (GPlace.s_session x y).has = x.has := rfl
@[simp] theorem GPlace.session_s_session (x : GPlace) (y : GSession) : (GPlace.s_session x y).session = y := rfl
theorem GPlace.l_session : Lens GPlace GSession 1 GPlace.session GPlace.s_session :=
  lens_mid (fun x => cells x.has) (fun x => []) (fun x => by simp only [GPlace.cells_eq, GPlace.cs, List.append_assoc, List.nil_append]) (fun x => by simp only [List.length_append, cells_length, List.length_nil] <;> rfl)
    (fun x y => by simp only [GPlace.s_session, GPlace.cells_eq, GPlace.cs, List.append_assoc, List.nil_append]) (by decide)
structure GRing where
  previous : GPlace
  current : GPlace
  next : GPlace
deriving DecidableEq
def GRing.zero : GRing := ⟨GPlace.zero, GPlace.zero, GPlace.zero⟩
def GRing.cs (x : GRing) : List Value := cells x.previous ++ (cells x.current ++ (cells x.next ++ []))
instance : Enc GRing := Enc.row GRing.cs (Enc.size GPlace + (Enc.size GPlace + (Enc.size GPlace + 0))) (fun x => by simp only [GRing.cs, List.length_append, cells_length, List.length_nil]) (fun x => one_app (one_cells _) (one_app (one_cells _) (one_app (one_cells _) (one_nil))))
theorem GRing.cells_eq (x : GRing) : cells x = GRing.cs x := rfl
def GRing.s_previous (x : GRing) (y : GPlace) : GRing := { x with previous := y }
@[simp] theorem GRing.previous_s_previous (x : GRing) (y : GPlace) : (GRing.s_previous x y).previous = y := rfl
@[simp] theorem GRing.current_s_previous (x : GRing) (y : GPlace) : (GRing.s_previous x y).current = x.current := rfl
@[simp] theorem GRing.next_s_previous (x : GRing) (y : GPlace) : (GRing.s_previous x y).next = x.next := rfl
theorem GRing.l_previous : Lens GRing GPlace 0 GRing.previous GRing.s_previous :=
  lens_mid (fun x => []) (fun x => cells x.current ++ (cells x.next ++ ([]))) (fun x => by simp only [GRing.cells_eq, GRing.cs, List.append_assoc, List.nil_append]) (fun x => by simp only [List.length_append, cells_length, List.length_nil] <;> rfl)
    (fun x y => by simp only [GRing.s_previous, GRing.cells_eq, GRing.cs, List.append_assoc, List.nil_append]) (by decide)
def GRing.s_current (x : GRing) (y : GPlace) : GRing := { x with current := y }
@[simp] theorem GRing.previous_s_current (x : GRing) (y : GPlace) : (GRing.s_current x y).previous = x.previous := rfl
@[simp] theorem GRing.current_s_current (x : GRing) (y : GPlace) : (GRing.s_current x y).current = y := rfl
@[simp] theorem GRing.next_s_current (x : GRing) (y : GPlace) : (GRing.s_current x y).next = x.next := rfl
theorem GRing.l_current : Lens GRing GPlace 77 GRing.current GRing.s_current :=
  lens_mid (fun x => cells x.previous) (fun x => cells x.next ++ ([])) (fun x => by simp only [GRing.cells_eq, GRing.cs, List.append_assoc, List.nil_append]) (fun x => by simp only [List.length_append, cells_length, List.length_nil] <;> rfl)
    (fun x y => by simp only [GRing.s_current, GRing.cells_eq, GRing.cs, List.append_assoc, List.nil_append]) (by decide)
def GRing.s_next (x : GRing) (y : GPlace) : GRing := { x with next := y }
@[simp] theorem GRing.previous_s_next (x : GRing) (y : GPlace) : (GRing.s_next x y).previous = x.previous := rfl
@[simp] theorem GRing.current_s_next (x : GRing) (y : GPlace) : (GRing.s_next x y).current = x.current := rfl
@[simp] theorem GRing.next_s_next (x : GRing) (y : GPlace) : (GRing.s_next x y).next = y := rfl
theorem GRing.l_next : Lens GRing GPlace 154 GRing.next GRing.s_next :=
  lens_mid (fun x => cells x.previous ++ cells x.current) (fun x => []) (fun x => by simp only [GRing.cells_eq, GRing.cs, List.append_assoc, List.nil_append]) (fun x => by simp only [List.length_append, cells_length, List.length_nil] <;> rfl)
    (fun x y => by simp only [GRing.s_next, GRing.cells_eq, GRing.cs, List.append_assoc, List.nil_append]) (by decide)
structure GPeer where
  pub : (Vec 32 UInt8)
  shared : (Vec 32 UInt8)
  hasEndpoint : Bool
  endpoint : GEndpoint
  keepalive : Int
  greatest : (Vec 12 UInt8)
  hasInit : Bool
  initAt : Int
  hand : GHand
  hasCookie : Bool
  cookie : (Vec 16 UInt8)
  cookieAt : Int
  lastMac : (Vec 16 UInt8)
  ring : GRing
  staged : GSl
def GPeer.zero : GPeer := ⟨(Vector.replicate 32 0), (Vector.replicate 32 0), false, GEndpoint.zero, 0, (Vector.replicate 12 0), false, 0, GHand.zero, false, (Vector.replicate 16 0), 0, (Vector.replicate 16 0), GRing.zero, ⟨none, 0, 0⟩⟩
def GPeer.cs (x : GPeer) : List Value := cells x.pub ++ (cells x.shared ++ (cells x.hasEndpoint ++ (cells x.endpoint ++ (cells x.keepalive ++ (cells x.greatest ++ (cells x.hasInit ++ (cells x.initAt ++ (cells x.hand ++ (cells x.hasCookie ++ (cells x.cookie ++ (cells x.cookieAt ++ (cells x.lastMac ++ (cells x.ring ++ (cells x.staged ++ []))))))))))))))
instance : Enc GPeer := Enc.row GPeer.cs (Enc.size (Vec 32 UInt8) + (Enc.size (Vec 32 UInt8) + (Enc.size Bool + (Enc.size GEndpoint + (Enc.size Int + (Enc.size (Vec 12 UInt8) + (Enc.size Bool + (Enc.size Int + (Enc.size GHand + (Enc.size Bool + (Enc.size (Vec 16 UInt8) + (Enc.size Int + (Enc.size (Vec 16 UInt8) + (Enc.size GRing + (Enc.size GSl + 0))))))))))))))) (fun x => by simp only [GPeer.cs, List.length_append, cells_length, List.length_nil]) (fun x => one_app (one_cells _) (one_app (one_cells _) (one_app (one_cells _) (one_app (one_cells _) (one_app (one_cells _) (one_app (one_cells _) (one_app (one_cells _) (one_app (one_cells _) (one_app (one_cells _) (one_app (one_cells _) (one_app (one_cells _) (one_app (one_cells _) (one_app (one_cells _) (one_app (one_cells _) (one_app (one_cells _) (one_nil))))))))))))))))
theorem GPeer.cells_eq (x : GPeer) : cells x = GPeer.cs x := rfl
def GPeer.s_pub (x : GPeer) (y : (Vec 32 UInt8)) : GPeer := { x with pub := y }
@[simp] theorem GPeer.pub_s_pub (x : GPeer) (y : (Vec 32 UInt8)) : (GPeer.s_pub x y).pub = y := rfl
@[simp] theorem GPeer.shared_s_pub (x : GPeer) (y : (Vec 32 UInt8)) : (GPeer.s_pub x y).shared = x.shared := rfl
@[simp] theorem GPeer.hasEndpoint_s_pub (x : GPeer) (y : (Vec 32 UInt8)) : (GPeer.s_pub x y).hasEndpoint = x.hasEndpoint := rfl
@[simp] theorem GPeer.endpoint_s_pub (x : GPeer) (y : (Vec 32 UInt8)) : (GPeer.s_pub x y).endpoint = x.endpoint := rfl
@[simp] theorem GPeer.keepalive_s_pub (x : GPeer) (y : (Vec 32 UInt8)) : (GPeer.s_pub x y).keepalive = x.keepalive := rfl
@[simp] theorem GPeer.greatest_s_pub (x : GPeer) (y : (Vec 32 UInt8)) : (GPeer.s_pub x y).greatest = x.greatest := rfl
@[simp] theorem GPeer.hasInit_s_pub (x : GPeer) (y : (Vec 32 UInt8)) : (GPeer.s_pub x y).hasInit = x.hasInit := rfl
@[simp] theorem GPeer.initAt_s_pub (x : GPeer) (y : (Vec 32 UInt8)) : (GPeer.s_pub x y).initAt = x.initAt := rfl
@[simp] theorem GPeer.hand_s_pub (x : GPeer) (y : (Vec 32 UInt8)) : (GPeer.s_pub x y).hand = x.hand := rfl
@[simp] theorem GPeer.hasCookie_s_pub (x : GPeer) (y : (Vec 32 UInt8)) : (GPeer.s_pub x y).hasCookie = x.hasCookie := rfl
@[simp] theorem GPeer.cookie_s_pub (x : GPeer) (y : (Vec 32 UInt8)) : (GPeer.s_pub x y).cookie = x.cookie := rfl
@[simp] theorem GPeer.cookieAt_s_pub (x : GPeer) (y : (Vec 32 UInt8)) : (GPeer.s_pub x y).cookieAt = x.cookieAt := rfl
@[simp] theorem GPeer.lastMac_s_pub (x : GPeer) (y : (Vec 32 UInt8)) : (GPeer.s_pub x y).lastMac = x.lastMac := rfl
@[simp] theorem GPeer.ring_s_pub (x : GPeer) (y : (Vec 32 UInt8)) : (GPeer.s_pub x y).ring = x.ring := rfl
@[simp] theorem GPeer.staged_s_pub (x : GPeer) (y : (Vec 32 UInt8)) : (GPeer.s_pub x y).staged = x.staged := rfl
theorem GPeer.l_pub : Lens GPeer (Vec 32 UInt8) 0 GPeer.pub GPeer.s_pub :=
  lens_mid (fun x => []) (fun x => cells x.shared ++ (cells x.hasEndpoint ++ (cells x.endpoint ++ (cells x.keepalive ++ (cells x.greatest ++ (cells x.hasInit ++ (cells x.initAt ++ (cells x.hand ++ (cells x.hasCookie ++ (cells x.cookie ++ (cells x.cookieAt ++ (cells x.lastMac ++ (cells x.ring ++ (cells x.staged ++ ([]))))))))))))))) (fun x => by simp only [GPeer.cells_eq, GPeer.cs, List.append_assoc, List.nil_append]) (fun x => by simp only [List.length_append, cells_length, List.length_nil] <;> rfl)
    (fun x y => by simp only [GPeer.s_pub, GPeer.cells_eq, GPeer.cs, List.append_assoc, List.nil_append]) (by decide)
def GPeer.s_shared (x : GPeer) (y : (Vec 32 UInt8)) : GPeer := { x with shared := y }
theorem GPeer.l_shared : Lens GPeer (Vec 32 UInt8) 32 GPeer.shared GPeer.s_shared :=
  lens_mid (fun x => cells x.pub) (fun x => cells x.hasEndpoint ++ (cells x.endpoint ++ (cells x.keepalive ++ (cells x.greatest ++ (cells x.hasInit ++ (cells x.initAt ++ (cells x.hand ++ (cells x.hasCookie ++ (cells x.cookie ++ (cells x.cookieAt ++ (cells x.lastMac ++ (cells x.ring ++ (cells x.staged ++ ([])))))))))))))) (fun x => by simp only [GPeer.cells_eq, GPeer.cs, List.append_assoc, List.nil_append]) (fun x => by simp only [List.length_append, cells_length, List.length_nil] <;> rfl)
    (fun x y => by simp only [GPeer.s_shared, GPeer.cells_eq, GPeer.cs, List.append_assoc, List.nil_append]) (by decide)
def GPeer.s_hasEndpoint (x : GPeer) (y : Bool) : GPeer := { x with hasEndpoint := y }
@[simp] theorem GPeer.pub_s_hasEndpoint (x : GPeer) (y : Bool) : (GPeer.s_hasEndpoint x y).pub = x.pub := rfl
@[simp] theorem GPeer.shared_s_hasEndpoint (x : GPeer) (y : Bool) : (GPeer.s_hasEndpoint x y).shared = x.shared := rfl
@[simp] theorem GPeer.hasEndpoint_s_hasEndpoint (x : GPeer) (y : Bool) : (GPeer.s_hasEndpoint x y).hasEndpoint = y := rfl
@[simp] theorem GPeer.endpoint_s_hasEndpoint (x : GPeer) (y : Bool) : (GPeer.s_hasEndpoint x y).endpoint = x.endpoint := rfl
@[simp] theorem GPeer.keepalive_s_hasEndpoint (x : GPeer) (y : Bool) : (GPeer.s_hasEndpoint x y).keepalive = x.keepalive := rfl
@[simp] theorem GPeer.greatest_s_hasEndpoint (x : GPeer) (y : Bool) : (GPeer.s_hasEndpoint x y).greatest = x.greatest := rfl
@[simp] theorem GPeer.hasInit_s_hasEndpoint (x : GPeer) (y : Bool) : (GPeer.s_hasEndpoint x y).hasInit = x.hasInit := rfl
@[simp] theorem GPeer.initAt_s_hasEndpoint (x : GPeer) (y : Bool) : (GPeer.s_hasEndpoint x y).initAt = x.initAt := rfl
@[simp] theorem GPeer.hand_s_hasEndpoint (x : GPeer) (y : Bool) : (GPeer.s_hasEndpoint x y).hand = x.hand := rfl
@[simp] theorem GPeer.hasCookie_s_hasEndpoint (x : GPeer) (y : Bool) : (GPeer.s_hasEndpoint x y).hasCookie = x.hasCookie := rfl
@[simp] theorem GPeer.cookie_s_hasEndpoint (x : GPeer) (y : Bool) : (GPeer.s_hasEndpoint x y).cookie = x.cookie := rfl
@[simp] theorem GPeer.cookieAt_s_hasEndpoint (x : GPeer) (y : Bool) : (GPeer.s_hasEndpoint x y).cookieAt = x.cookieAt := rfl
@[simp] theorem GPeer.lastMac_s_hasEndpoint (x : GPeer) (y : Bool) : (GPeer.s_hasEndpoint x y).lastMac = x.lastMac := rfl
@[simp] theorem GPeer.ring_s_hasEndpoint (x : GPeer) (y : Bool) : (GPeer.s_hasEndpoint x y).ring = x.ring := rfl
@[simp] theorem GPeer.staged_s_hasEndpoint (x : GPeer) (y : Bool) : (GPeer.s_hasEndpoint x y).staged = x.staged := rfl
theorem GPeer.l_hasEndpoint : Lens GPeer Bool 64 GPeer.hasEndpoint GPeer.s_hasEndpoint :=
  lens_mid (fun x => cells x.pub ++ cells x.shared) (fun x => cells x.endpoint ++ (cells x.keepalive ++ (cells x.greatest ++ (cells x.hasInit ++ (cells x.initAt ++ (cells x.hand ++ (cells x.hasCookie ++ (cells x.cookie ++ (cells x.cookieAt ++ (cells x.lastMac ++ (cells x.ring ++ (cells x.staged ++ ([]))))))))))))) (fun x => by simp only [GPeer.cells_eq, GPeer.cs, List.append_assoc, List.nil_append]) (fun x => by simp only [List.length_append, cells_length, List.length_nil] <;> rfl)
    (fun x y => by simp only [GPeer.s_hasEndpoint, GPeer.cells_eq, GPeer.cs, List.append_assoc, List.nil_append]) (by decide)
def GPeer.s_endpoint (x : GPeer) (y : GEndpoint) : GPeer := { x with endpoint := y }
@[simp] theorem GPeer.pub_s_endpoint (x : GPeer) (y : GEndpoint) : (GPeer.s_endpoint x y).pub = x.pub := rfl
@[simp] theorem GPeer.shared_s_endpoint (x : GPeer) (y : GEndpoint) : (GPeer.s_endpoint x y).shared = x.shared := rfl
@[simp] theorem GPeer.hasEndpoint_s_endpoint (x : GPeer) (y : GEndpoint) : (GPeer.s_endpoint x y).hasEndpoint = x.hasEndpoint := rfl
@[simp] theorem GPeer.endpoint_s_endpoint (x : GPeer) (y : GEndpoint) : (GPeer.s_endpoint x y).endpoint = y := rfl
@[simp] theorem GPeer.keepalive_s_endpoint (x : GPeer) (y : GEndpoint) : (GPeer.s_endpoint x y).keepalive = x.keepalive := rfl
@[simp] theorem GPeer.greatest_s_endpoint (x : GPeer) (y : GEndpoint) : (GPeer.s_endpoint x y).greatest = x.greatest := rfl
@[simp] theorem GPeer.hasInit_s_endpoint (x : GPeer) (y : GEndpoint) : (GPeer.s_endpoint x y).hasInit = x.hasInit := rfl
@[simp] theorem GPeer.initAt_s_endpoint (x : GPeer) (y : GEndpoint) : (GPeer.s_endpoint x y).initAt = x.initAt := rfl
@[simp] theorem GPeer.hand_s_endpoint (x : GPeer) (y : GEndpoint) : (GPeer.s_endpoint x y).hand = x.hand := rfl
@[simp] theorem GPeer.hasCookie_s_endpoint (x : GPeer) (y : GEndpoint) : (GPeer.s_endpoint x y).hasCookie = x.hasCookie := rfl
@[simp] theorem GPeer.cookie_s_endpoint (x : GPeer) (y : GEndpoint) : (GPeer.s_endpoint x y).cookie = x.cookie := rfl
@[simp] theorem GPeer.cookieAt_s_endpoint (x : GPeer) (y : GEndpoint) : (GPeer.s_endpoint x y).cookieAt = x.cookieAt := rfl
@[simp] theorem GPeer.lastMac_s_endpoint (x : GPeer) (y : GEndpoint) : (GPeer.s_endpoint x y).lastMac = x.lastMac := rfl
@[simp] theorem GPeer.ring_s_endpoint (x : GPeer) (y : GEndpoint) : (GPeer.s_endpoint x y).ring = x.ring := rfl
@[simp] theorem GPeer.staged_s_endpoint (x : GPeer) (y : GEndpoint) : (GPeer.s_endpoint x y).staged = x.staged := rfl
theorem GPeer.l_endpoint : Lens GPeer GEndpoint 65 GPeer.endpoint GPeer.s_endpoint :=
  lens_mid (fun x => cells x.pub ++ cells x.shared ++ cells x.hasEndpoint) (fun x => cells x.keepalive ++ (cells x.greatest ++ (cells x.hasInit ++ (cells x.initAt ++ (cells x.hand ++ (cells x.hasCookie ++ (cells x.cookie ++ (cells x.cookieAt ++ (cells x.lastMac ++ (cells x.ring ++ (cells x.staged ++ ([])))))))))))) (fun x => by simp only [GPeer.cells_eq, GPeer.cs, List.append_assoc, List.nil_append]) (fun x => by simp only [List.length_append, cells_length, List.length_nil] <;> rfl)
    (fun x y => by simp only [GPeer.s_endpoint, GPeer.cells_eq, GPeer.cs, List.append_assoc, List.nil_append]) (by decide)
def GPeer.s_keepalive (x : GPeer) (y : Int) : GPeer := { x with keepalive := y }
@[simp] theorem GPeer.pub_s_keepalive (x : GPeer) (y : Int) : (GPeer.s_keepalive x y).pub = x.pub := rfl
@[simp] theorem GPeer.shared_s_keepalive (x : GPeer) (y : Int) : (GPeer.s_keepalive x y).shared = x.shared := rfl
@[simp] theorem GPeer.hasEndpoint_s_keepalive (x : GPeer) (y : Int) : (GPeer.s_keepalive x y).hasEndpoint = x.hasEndpoint := rfl
@[simp] theorem GPeer.endpoint_s_keepalive (x : GPeer) (y : Int) : (GPeer.s_keepalive x y).endpoint = x.endpoint := rfl
@[simp] theorem GPeer.keepalive_s_keepalive (x : GPeer) (y : Int) : (GPeer.s_keepalive x y).keepalive = y := rfl
@[simp] theorem GPeer.greatest_s_keepalive (x : GPeer) (y : Int) : (GPeer.s_keepalive x y).greatest = x.greatest := rfl
@[simp] theorem GPeer.hasInit_s_keepalive (x : GPeer) (y : Int) : (GPeer.s_keepalive x y).hasInit = x.hasInit := rfl
@[simp] theorem GPeer.initAt_s_keepalive (x : GPeer) (y : Int) : (GPeer.s_keepalive x y).initAt = x.initAt := rfl
@[simp] theorem GPeer.hand_s_keepalive (x : GPeer) (y : Int) : (GPeer.s_keepalive x y).hand = x.hand := rfl
@[simp] theorem GPeer.hasCookie_s_keepalive (x : GPeer) (y : Int) : (GPeer.s_keepalive x y).hasCookie = x.hasCookie := rfl
@[simp] theorem GPeer.cookie_s_keepalive (x : GPeer) (y : Int) : (GPeer.s_keepalive x y).cookie = x.cookie := rfl
@[simp] theorem GPeer.cookieAt_s_keepalive (x : GPeer) (y : Int) : (GPeer.s_keepalive x y).cookieAt = x.cookieAt := rfl
@[simp] theorem GPeer.lastMac_s_keepalive (x : GPeer) (y : Int) : (GPeer.s_keepalive x y).lastMac = x.lastMac := rfl
@[simp] theorem GPeer.ring_s_keepalive (x : GPeer) (y : Int) : (GPeer.s_keepalive x y).ring = x.ring := rfl
@[simp] theorem GPeer.staged_s_keepalive (x : GPeer) (y : Int) : (GPeer.s_keepalive x y).staged = x.staged := rfl
theorem GPeer.l_keepalive : Lens GPeer Int 83 GPeer.keepalive GPeer.s_keepalive :=
  lens_mid (fun x => cells x.pub ++ cells x.shared ++ cells x.hasEndpoint ++ cells x.endpoint) (fun x => cells x.greatest ++ (cells x.hasInit ++ (cells x.initAt ++ (cells x.hand ++ (cells x.hasCookie ++ (cells x.cookie ++ (cells x.cookieAt ++ (cells x.lastMac ++ (cells x.ring ++ (cells x.staged ++ ([]))))))))))) (fun x => by simp only [GPeer.cells_eq, GPeer.cs, List.append_assoc, List.nil_append]) (fun x => by simp only [List.length_append, cells_length, List.length_nil] <;> rfl)
    (fun x y => by simp only [GPeer.s_keepalive, GPeer.cells_eq, GPeer.cs, List.append_assoc, List.nil_append]) (by decide)
def GPeer.s_greatest (x : GPeer) (y : (Vec 12 UInt8)) : GPeer := { x with greatest := y }
theorem GPeer.l_greatest : Lens GPeer (Vec 12 UInt8) 84 GPeer.greatest GPeer.s_greatest :=
  lens_mid (fun x => cells x.pub ++ cells x.shared ++ cells x.hasEndpoint ++ cells x.endpoint ++ cells x.keepalive) (fun x => cells x.hasInit ++ (cells x.initAt ++ (cells x.hand ++ (cells x.hasCookie ++ (cells x.cookie ++ (cells x.cookieAt ++ (cells x.lastMac ++ (cells x.ring ++ (cells x.staged ++ ([])))))))))) (fun x => by simp only [GPeer.cells_eq, GPeer.cs, List.append_assoc, List.nil_append]) (fun x => by simp only [List.length_append, cells_length, List.length_nil] <;> rfl)
    (fun x y => by simp only [GPeer.s_greatest, GPeer.cells_eq, GPeer.cs, List.append_assoc, List.nil_append]) (by decide)
def GPeer.s_hasInit (x : GPeer) (y : Bool) : GPeer := { x with hasInit := y }
theorem GPeer.l_hasInit : Lens GPeer Bool 96 GPeer.hasInit GPeer.s_hasInit :=
  lens_mid (fun x => cells x.pub ++ cells x.shared ++ cells x.hasEndpoint ++ cells x.endpoint ++ cells x.keepalive ++ cells x.greatest) (fun x => cells x.initAt ++ (cells x.hand ++ (cells x.hasCookie ++ (cells x.cookie ++ (cells x.cookieAt ++ (cells x.lastMac ++ (cells x.ring ++ (cells x.staged ++ ([]))))))))) (fun x => by simp only [GPeer.cells_eq, GPeer.cs, List.append_assoc, List.nil_append]) (fun x => by simp only [List.length_append, cells_length, List.length_nil] <;> rfl)
    (fun x y => by simp only [GPeer.s_hasInit, GPeer.cells_eq, GPeer.cs, List.append_assoc, List.nil_append]) (by decide)
def GPeer.s_initAt (x : GPeer) (y : Int) : GPeer := { x with initAt := y }
theorem GPeer.l_initAt : Lens GPeer Int 97 GPeer.initAt GPeer.s_initAt :=
  lens_mid (fun x => cells x.pub ++ cells x.shared ++ cells x.hasEndpoint ++ cells x.endpoint ++ cells x.keepalive ++ cells x.greatest ++ cells x.hasInit) (fun x => cells x.hand ++ (cells x.hasCookie ++ (cells x.cookie ++ (cells x.cookieAt ++ (cells x.lastMac ++ (cells x.ring ++ (cells x.staged ++ ([])))))))) (fun x => by simp only [GPeer.cells_eq, GPeer.cs, List.append_assoc, List.nil_append]) (fun x => by simp only [List.length_append, cells_length, List.length_nil] <;> rfl)
    (fun x y => by simp only [GPeer.s_initAt, GPeer.cells_eq, GPeer.cs, List.append_assoc, List.nil_append]) (by decide)
def GPeer.s_hand (x : GPeer) (y : GHand) : GPeer := { x with hand := y }
@[simp] theorem GPeer.pub_s_hand (x : GPeer) (y : GHand) : (GPeer.s_hand x y).pub = x.pub := rfl
@[simp] theorem GPeer.shared_s_hand (x : GPeer) (y : GHand) : (GPeer.s_hand x y).shared = x.shared := rfl
@[simp] theorem GPeer.hasEndpoint_s_hand (x : GPeer) (y : GHand) : (GPeer.s_hand x y).hasEndpoint = x.hasEndpoint := rfl
@[simp] theorem GPeer.endpoint_s_hand (x : GPeer) (y : GHand) : (GPeer.s_hand x y).endpoint = x.endpoint := rfl
@[simp] theorem GPeer.keepalive_s_hand (x : GPeer) (y : GHand) : (GPeer.s_hand x y).keepalive = x.keepalive := rfl
@[simp] theorem GPeer.greatest_s_hand (x : GPeer) (y : GHand) : (GPeer.s_hand x y).greatest = x.greatest := rfl
@[simp] theorem GPeer.hasInit_s_hand (x : GPeer) (y : GHand) : (GPeer.s_hand x y).hasInit = x.hasInit := rfl
@[simp] theorem GPeer.initAt_s_hand (x : GPeer) (y : GHand) : (GPeer.s_hand x y).initAt = x.initAt := rfl
@[simp] theorem GPeer.hand_s_hand (x : GPeer) (y : GHand) : (GPeer.s_hand x y).hand = y := rfl
@[simp] theorem GPeer.hasCookie_s_hand (x : GPeer) (y : GHand) : (GPeer.s_hand x y).hasCookie = x.hasCookie := rfl
@[simp] theorem GPeer.cookie_s_hand (x : GPeer) (y : GHand) : (GPeer.s_hand x y).cookie = x.cookie := rfl
@[simp] theorem GPeer.cookieAt_s_hand (x : GPeer) (y : GHand) : (GPeer.s_hand x y).cookieAt = x.cookieAt := rfl
@[simp] theorem GPeer.lastMac_s_hand (x : GPeer) (y : GHand) : (GPeer.s_hand x y).lastMac = x.lastMac := rfl
@[simp] theorem GPeer.ring_s_hand (x : GPeer) (y : GHand) : (GPeer.s_hand x y).ring = x.ring := rfl
@[simp] theorem GPeer.staged_s_hand (x : GPeer) (y : GHand) : (GPeer.s_hand x y).staged = x.staged := rfl
theorem GPeer.l_hand : Lens GPeer GHand 98 GPeer.hand GPeer.s_hand :=
  lens_mid (fun x => cells x.pub ++ cells x.shared ++ cells x.hasEndpoint ++ cells x.endpoint ++ cells x.keepalive ++ cells x.greatest ++ cells x.hasInit ++ cells x.initAt) (fun x => cells x.hasCookie ++ (cells x.cookie ++ (cells x.cookieAt ++ (cells x.lastMac ++ (cells x.ring ++ (cells x.staged ++ ([]))))))) (fun x => by simp only [GPeer.cells_eq, GPeer.cs, List.append_assoc, List.nil_append]) (fun x => by simp only [List.length_append, cells_length, List.length_nil] <;> rfl)
    (fun x y => by simp only [GPeer.s_hand, GPeer.cells_eq, GPeer.cs, List.append_assoc, List.nil_append]) (by decide)
def GPeer.s_hasCookie (x : GPeer) (y : Bool) : GPeer := { x with hasCookie := y }
theorem GPeer.l_hasCookie : Lens GPeer Bool 198 GPeer.hasCookie GPeer.s_hasCookie :=
  lens_mid (fun x => cells x.pub ++ cells x.shared ++ cells x.hasEndpoint ++ cells x.endpoint ++ cells x.keepalive ++ cells x.greatest ++ cells x.hasInit ++ cells x.initAt ++ cells x.hand) (fun x => cells x.cookie ++ (cells x.cookieAt ++ (cells x.lastMac ++ (cells x.ring ++ (cells x.staged ++ ([])))))) (fun x => by simp only [GPeer.cells_eq, GPeer.cs, List.append_assoc, List.nil_append]) (fun x => by simp only [List.length_append, cells_length, List.length_nil] <;> rfl)
    (fun x y => by simp only [GPeer.s_hasCookie, GPeer.cells_eq, GPeer.cs, List.append_assoc, List.nil_append]) (by decide)
def GPeer.s_cookie (x : GPeer) (y : (Vec 16 UInt8)) : GPeer := { x with cookie := y }
theorem GPeer.l_cookie : Lens GPeer (Vec 16 UInt8) 199 GPeer.cookie GPeer.s_cookie :=
  lens_mid (fun x => cells x.pub ++ cells x.shared ++ cells x.hasEndpoint ++ cells x.endpoint ++ cells x.keepalive ++ cells x.greatest ++ cells x.hasInit ++ cells x.initAt ++ cells x.hand ++ cells x.hasCookie) (fun x => cells x.cookieAt ++ (cells x.lastMac ++ (cells x.ring ++ (cells x.staged ++ ([]))))) (fun x => by simp only [GPeer.cells_eq, GPeer.cs, List.append_assoc, List.nil_append]) (fun x => by simp only [List.length_append, cells_length, List.length_nil] <;> rfl)
    (fun x y => by simp only [GPeer.s_cookie, GPeer.cells_eq, GPeer.cs, List.append_assoc, List.nil_append]) (by decide)
def GPeer.s_cookieAt (x : GPeer) (y : Int) : GPeer := { x with cookieAt := y }
theorem GPeer.l_cookieAt : Lens GPeer Int 215 GPeer.cookieAt GPeer.s_cookieAt :=
  lens_mid (fun x => cells x.pub ++ cells x.shared ++ cells x.hasEndpoint ++ cells x.endpoint ++ cells x.keepalive ++ cells x.greatest ++ cells x.hasInit ++ cells x.initAt ++ cells x.hand ++ cells x.hasCookie ++ cells x.cookie) (fun x => cells x.lastMac ++ (cells x.ring ++ (cells x.staged ++ ([])))) (fun x => by simp only [GPeer.cells_eq, GPeer.cs, List.append_assoc, List.nil_append]) (fun x => by simp only [List.length_append, cells_length, List.length_nil] <;> rfl)
    (fun x y => by simp only [GPeer.s_cookieAt, GPeer.cells_eq, GPeer.cs, List.append_assoc, List.nil_append]) (by decide)
def GPeer.s_lastMac (x : GPeer) (y : (Vec 16 UInt8)) : GPeer := { x with lastMac := y }
theorem GPeer.l_lastMac : Lens GPeer (Vec 16 UInt8) 216 GPeer.lastMac GPeer.s_lastMac :=
  lens_mid (fun x => cells x.pub ++ cells x.shared ++ cells x.hasEndpoint ++ cells x.endpoint ++ cells x.keepalive ++ cells x.greatest ++ cells x.hasInit ++ cells x.initAt ++ cells x.hand ++ cells x.hasCookie ++ cells x.cookie ++ cells x.cookieAt) (fun x => cells x.ring ++ (cells x.staged ++ ([]))) (fun x => by simp only [GPeer.cells_eq, GPeer.cs, List.append_assoc, List.nil_append]) (fun x => by simp only [List.length_append, cells_length, List.length_nil] <;> rfl)
    (fun x y => by simp only [GPeer.s_lastMac, GPeer.cells_eq, GPeer.cs, List.append_assoc, List.nil_append]) (by decide)
def GPeer.s_ring (x : GPeer) (y : GRing) : GPeer := { x with ring := y }
@[simp] theorem GPeer.pub_s_ring (x : GPeer) (y : GRing) : (GPeer.s_ring x y).pub = x.pub := rfl
@[simp] theorem GPeer.shared_s_ring (x : GPeer) (y : GRing) : (GPeer.s_ring x y).shared = x.shared := rfl
@[simp] theorem GPeer.hasEndpoint_s_ring (x : GPeer) (y : GRing) : (GPeer.s_ring x y).hasEndpoint = x.hasEndpoint := rfl
@[simp] theorem GPeer.endpoint_s_ring (x : GPeer) (y : GRing) : (GPeer.s_ring x y).endpoint = x.endpoint := rfl
@[simp] theorem GPeer.keepalive_s_ring (x : GPeer) (y : GRing) : (GPeer.s_ring x y).keepalive = x.keepalive := rfl
@[simp] theorem GPeer.greatest_s_ring (x : GPeer) (y : GRing) : (GPeer.s_ring x y).greatest = x.greatest := rfl
@[simp] theorem GPeer.hasInit_s_ring (x : GPeer) (y : GRing) : (GPeer.s_ring x y).hasInit = x.hasInit := rfl
@[simp] theorem GPeer.initAt_s_ring (x : GPeer) (y : GRing) : (GPeer.s_ring x y).initAt = x.initAt := rfl
@[simp] theorem GPeer.hand_s_ring (x : GPeer) (y : GRing) : (GPeer.s_ring x y).hand = x.hand := rfl
@[simp] theorem GPeer.hasCookie_s_ring (x : GPeer) (y : GRing) : (GPeer.s_ring x y).hasCookie = x.hasCookie := rfl
@[simp] theorem GPeer.cookie_s_ring (x : GPeer) (y : GRing) : (GPeer.s_ring x y).cookie = x.cookie := rfl
@[simp] theorem GPeer.cookieAt_s_ring (x : GPeer) (y : GRing) : (GPeer.s_ring x y).cookieAt = x.cookieAt := rfl
@[simp] theorem GPeer.lastMac_s_ring (x : GPeer) (y : GRing) : (GPeer.s_ring x y).lastMac = x.lastMac := rfl
@[simp] theorem GPeer.ring_s_ring (x : GPeer) (y : GRing) : (GPeer.s_ring x y).ring = y := rfl
@[simp] theorem GPeer.staged_s_ring (x : GPeer) (y : GRing) : (GPeer.s_ring x y).staged = x.staged := rfl
theorem GPeer.l_ring : Lens GPeer GRing 232 GPeer.ring GPeer.s_ring :=
  lens_mid (fun x => cells x.pub ++ cells x.shared ++ cells x.hasEndpoint ++ cells x.endpoint ++ cells x.keepalive ++ cells x.greatest ++ cells x.hasInit ++ cells x.initAt ++ cells x.hand ++ cells x.hasCookie ++ cells x.cookie ++ cells x.cookieAt ++ cells x.lastMac) (fun x => cells x.staged ++ ([])) (fun x => by simp only [GPeer.cells_eq, GPeer.cs, List.append_assoc, List.nil_append]) (fun x => by simp only [List.length_append, cells_length, List.length_nil] <;> rfl)
    (fun x y => by simp only [GPeer.s_ring, GPeer.cells_eq, GPeer.cs, List.append_assoc, List.nil_append]) (by decide)
def GPeer.s_staged (x : GPeer) (y : GSl) : GPeer := { x with staged := y }
@[simp] theorem GPeer.pub_s_staged (x : GPeer) (y : GSl) : (GPeer.s_staged x y).pub = x.pub := rfl
@[simp] theorem GPeer.shared_s_staged (x : GPeer) (y : GSl) : (GPeer.s_staged x y).shared = x.shared := rfl
@[simp] theorem GPeer.hasEndpoint_s_staged (x : GPeer) (y : GSl) : (GPeer.s_staged x y).hasEndpoint = x.hasEndpoint := rfl
@[simp] theorem GPeer.endpoint_s_staged (x : GPeer) (y : GSl) : (GPeer.s_staged x y).endpoint = x.endpoint := rfl
@[simp] theorem GPeer.keepalive_s_staged (x : GPeer) (y : GSl) : (GPeer.s_staged x y).keepalive = x.keepalive := rfl
@[simp] theorem GPeer.greatest_s_staged (x : GPeer) (y : GSl) : (GPeer.s_staged x y).greatest = x.greatest := rfl
@[simp] theorem GPeer.hasInit_s_staged (x : GPeer) (y : GSl) : (GPeer.s_staged x y).hasInit = x.hasInit := rfl
@[simp] theorem GPeer.initAt_s_staged (x : GPeer) (y : GSl) : (GPeer.s_staged x y).initAt = x.initAt := rfl
@[simp] theorem GPeer.hand_s_staged (x : GPeer) (y : GSl) : (GPeer.s_staged x y).hand = x.hand := rfl
@[simp] theorem GPeer.hasCookie_s_staged (x : GPeer) (y : GSl) : (GPeer.s_staged x y).hasCookie = x.hasCookie := rfl
@[simp] theorem GPeer.cookie_s_staged (x : GPeer) (y : GSl) : (GPeer.s_staged x y).cookie = x.cookie := rfl
@[simp] theorem GPeer.cookieAt_s_staged (x : GPeer) (y : GSl) : (GPeer.s_staged x y).cookieAt = x.cookieAt := rfl
@[simp] theorem GPeer.lastMac_s_staged (x : GPeer) (y : GSl) : (GPeer.s_staged x y).lastMac = x.lastMac := rfl
@[simp] theorem GPeer.ring_s_staged (x : GPeer) (y : GSl) : (GPeer.s_staged x y).ring = x.ring := rfl
@[simp] theorem GPeer.staged_s_staged (x : GPeer) (y : GSl) : (GPeer.s_staged x y).staged = y := rfl
theorem GPeer.l_staged : Lens GPeer GSl 463 GPeer.staged GPeer.s_staged :=
  lens_mid (fun x => cells x.pub ++ cells x.shared ++ cells x.hasEndpoint ++ cells x.endpoint ++ cells x.keepalive ++ cells x.greatest ++ cells x.hasInit ++ cells x.initAt ++ cells x.hand ++ cells x.hasCookie ++ cells x.cookie ++ cells x.cookieAt ++ cells x.lastMac ++ cells x.ring) (fun x => []) (fun x => by simp only [GPeer.cells_eq, GPeer.cs, List.append_assoc, List.nil_append]) (fun x => by simp only [List.length_append, cells_length, List.length_nil] <;> rfl)
    (fun x y => by simp only [GPeer.s_staged, GPeer.cells_eq, GPeer.cs, List.append_assoc, List.nil_append]) (by decide)
structure GSlot where
  index : UInt32
  peer : (Vec 32 UInt8)
  session : Bool
deriving DecidableEq
def GSlot.zero : GSlot := ⟨0, (Vector.replicate 32 0), false⟩
def GSlot.cs (x : GSlot) : List Value := cells x.index ++ (cells x.peer ++ (cells x.session ++ []))
instance : Enc GSlot := Enc.row GSlot.cs (Enc.size UInt32 + (Enc.size (Vec 32 UInt8) + (Enc.size Bool + 0))) (fun x => by simp only [GSlot.cs, List.length_append, cells_length, List.length_nil]) (fun x => one_app (one_cells _) (one_app (one_cells _) (one_app (one_cells _) (one_nil))))
theorem GSlot.cells_eq (x : GSlot) : cells x = GSlot.cs x := rfl
def GSlot.s_index (x : GSlot) (y : UInt32) : GSlot := { x with index := y }
@[simp] theorem GSlot.index_s_index (x : GSlot) (y : UInt32) : (GSlot.s_index x y).index = y := rfl
@[simp] theorem GSlot.peer_s_index (x : GSlot) (y : UInt32) : (GSlot.s_index x y).peer = x.peer := rfl
@[simp] theorem GSlot.session_s_index (x : GSlot) (y : UInt32) : (GSlot.s_index x y).session = x.session := rfl
theorem GSlot.l_index : Lens GSlot UInt32 0 GSlot.index GSlot.s_index :=
  lens_mid (fun x => []) (fun x => cells x.peer ++ (cells x.session ++ ([]))) (fun x => by simp only [GSlot.cells_eq, GSlot.cs, List.append_assoc, List.nil_append]) (fun x => by simp only [List.length_append, cells_length, List.length_nil] <;> rfl)
    (fun x y => by simp only [GSlot.s_index, GSlot.cells_eq, GSlot.cs, List.append_assoc, List.nil_append]) (by decide)
def GSlot.s_peer (x : GSlot) (y : (Vec 32 UInt8)) : GSlot := { x with peer := y }
@[simp] theorem GSlot.index_s_peer (x : GSlot) (y : (Vec 32 UInt8)) : (GSlot.s_peer x y).index = x.index := rfl
@[simp] theorem GSlot.peer_s_peer (x : GSlot) (y : (Vec 32 UInt8)) : (GSlot.s_peer x y).peer = y := rfl
@[simp] theorem GSlot.session_s_peer (x : GSlot) (y : (Vec 32 UInt8)) : (GSlot.s_peer x y).session = x.session := rfl
theorem GSlot.l_peer : Lens GSlot (Vec 32 UInt8) 1 GSlot.peer GSlot.s_peer :=
  lens_mid (fun x => cells x.index) (fun x => cells x.session ++ ([])) (fun x => by simp only [GSlot.cells_eq, GSlot.cs, List.append_assoc, List.nil_append]) (fun x => by simp only [List.length_append, cells_length, List.length_nil] <;> rfl)
    (fun x y => by simp only [GSlot.s_peer, GSlot.cells_eq, GSlot.cs, List.append_assoc, List.nil_append]) (by decide)
def GSlot.s_session (x : GSlot) (y : Bool) : GSlot := { x with session := y }
@[simp] theorem GSlot.index_s_session (x : GSlot) (y : Bool) : (GSlot.s_session x y).index = x.index := rfl
@[simp] theorem GSlot.peer_s_session (x : GSlot) (y : Bool) : (GSlot.s_session x y).peer = x.peer := rfl
@[simp] theorem GSlot.session_s_session (x : GSlot) (y : Bool) : (GSlot.s_session x y).session = y := rfl
theorem GSlot.l_session : Lens GSlot Bool 33 GSlot.session GSlot.s_session :=
  lens_mid (fun x => cells x.index ++ cells x.peer) (fun x => []) (fun x => by simp only [GSlot.cells_eq, GSlot.cs, List.append_assoc, List.nil_append]) (fun x => by simp only [List.length_append, cells_length, List.length_nil] <;> rfl)
    (fun x y => by simp only [GSlot.s_session, GSlot.cells_eq, GSlot.cs, List.append_assoc, List.nil_append]) (by decide)
structure GPrefix where
  addr : GAddr
  bits : Int
deriving DecidableEq
def GPrefix.zero : GPrefix := ⟨GAddr.zero, 0⟩
def GPrefix.cs (x : GPrefix) : List Value := cells x.addr ++ (cells x.bits ++ [])
instance : Enc GPrefix := Enc.row GPrefix.cs (Enc.size GAddr + (Enc.size Int + 0)) (fun x => by simp only [GPrefix.cs, List.length_append, cells_length, List.length_nil]) (fun x => one_app (one_cells _) (one_app (one_cells _) (one_nil)))
theorem GPrefix.cells_eq (x : GPrefix) : cells x = GPrefix.cs x := rfl
def GPrefix.s_addr (x : GPrefix) (y : GAddr) : GPrefix := { x with addr := y }
@[simp] theorem GPrefix.addr_s_addr (x : GPrefix) (y : GAddr) : (GPrefix.s_addr x y).addr = y := rfl
@[simp] theorem GPrefix.bits_s_addr (x : GPrefix) (y : GAddr) : (GPrefix.s_addr x y).bits = x.bits := rfl
theorem GPrefix.l_addr : Lens GPrefix GAddr 0 GPrefix.addr GPrefix.s_addr :=
  lens_mid (fun x => []) (fun x => cells x.bits ++ ([])) (fun x => by simp only [GPrefix.cells_eq, GPrefix.cs, List.append_assoc, List.nil_append]) (fun x => by simp only [List.length_append, cells_length, List.length_nil] <;> rfl)
    (fun x y => by simp only [GPrefix.s_addr, GPrefix.cells_eq, GPrefix.cs, List.append_assoc, List.nil_append]) (by decide)
def GPrefix.s_bits (x : GPrefix) (y : Int) : GPrefix := { x with bits := y }
@[simp] theorem GPrefix.addr_s_bits (x : GPrefix) (y : Int) : (GPrefix.s_bits x y).addr = x.addr := rfl
@[simp] theorem GPrefix.bits_s_bits (x : GPrefix) (y : Int) : (GPrefix.s_bits x y).bits = y := rfl
theorem GPrefix.l_bits : Lens GPrefix Int 17 GPrefix.bits GPrefix.s_bits :=
  lens_mid (fun x => cells x.addr) (fun x => []) (fun x => by simp only [GPrefix.cells_eq, GPrefix.cs, List.append_assoc, List.nil_append]) (fun x => by simp only [List.length_append, cells_length, List.length_nil] <;> rfl)
    (fun x y => by simp only [GPrefix.s_bits, GPrefix.cells_eq, GPrefix.cs, List.append_assoc, List.nil_append]) (by decide)
structure GRoute where
  pfx : GPrefix
  peer : (Vec 32 UInt8)
deriving DecidableEq
def GRoute.zero : GRoute := ⟨GPrefix.zero, (Vector.replicate 32 0)⟩
def GRoute.cs (x : GRoute) : List Value := cells x.pfx ++ (cells x.peer ++ [])
instance : Enc GRoute := Enc.row GRoute.cs (Enc.size GPrefix + (Enc.size (Vec 32 UInt8) + 0)) (fun x => by simp only [GRoute.cs, List.length_append, cells_length, List.length_nil]) (fun x => one_app (one_cells _) (one_app (one_cells _) (one_nil)))
theorem GRoute.cells_eq (x : GRoute) : cells x = GRoute.cs x := rfl
def GRoute.s_pfx (x : GRoute) (y : GPrefix) : GRoute := { x with pfx := y }
@[simp] theorem GRoute.pfx_s_pfx (x : GRoute) (y : GPrefix) : (GRoute.s_pfx x y).pfx = y := rfl
@[simp] theorem GRoute.peer_s_pfx (x : GRoute) (y : GPrefix) : (GRoute.s_pfx x y).peer = x.peer := rfl
theorem GRoute.l_pfx : Lens GRoute GPrefix 0 GRoute.pfx GRoute.s_pfx :=
  lens_mid (fun x => []) (fun x => cells x.peer ++ ([])) (fun x => by simp only [GRoute.cells_eq, GRoute.cs, List.append_assoc, List.nil_append]) (fun x => by simp only [List.length_append, cells_length, List.length_nil] <;> rfl)
    (fun x y => by simp only [GRoute.s_pfx, GRoute.cells_eq, GRoute.cs, List.append_assoc, List.nil_append]) (by decide)
def GRoute.s_peer (x : GRoute) (y : (Vec 32 UInt8)) : GRoute := { x with peer := y }
@[simp] theorem GRoute.pfx_s_peer (x : GRoute) (y : (Vec 32 UInt8)) : (GRoute.s_peer x y).pfx = x.pfx := rfl
@[simp] theorem GRoute.peer_s_peer (x : GRoute) (y : (Vec 32 UInt8)) : (GRoute.s_peer x y).peer = y := rfl
theorem GRoute.l_peer : Lens GRoute (Vec 32 UInt8) 18 GRoute.peer GRoute.s_peer :=
  lens_mid (fun x => cells x.pfx) (fun x => []) (fun x => by simp only [GRoute.cells_eq, GRoute.cs, List.append_assoc, List.nil_append]) (fun x => by simp only [List.length_append, cells_length, List.length_nil] <;> rfl)
    (fun x y => by simp only [GRoute.s_peer, GRoute.cells_eq, GRoute.cs, List.append_assoc, List.nil_append]) (by decide)
structure GTimer where
  at_ : Int
  peer : (Vec 32 UInt8)
  kind : Int
deriving DecidableEq
def GTimer.zero : GTimer := ⟨0, (Vector.replicate 32 0), 0⟩
def GTimer.cs (x : GTimer) : List Value := cells x.at_ ++ (cells x.peer ++ (cells x.kind ++ []))
instance : Enc GTimer := Enc.row GTimer.cs (Enc.size Int + (Enc.size (Vec 32 UInt8) + (Enc.size Int + 0))) (fun x => by simp only [GTimer.cs, List.length_append, cells_length, List.length_nil]) (fun x => one_app (one_cells _) (one_app (one_cells _) (one_app (one_cells _) (one_nil))))
theorem GTimer.cells_eq (x : GTimer) : cells x = GTimer.cs x := rfl
def GTimer.s_at_ (x : GTimer) (y : Int) : GTimer := { x with at_ := y }
@[simp] theorem GTimer.at__s_at_ (x : GTimer) (y : Int) : (GTimer.s_at_ x y).at_ = y := rfl
@[simp] theorem GTimer.peer_s_at_ (x : GTimer) (y : Int) : (GTimer.s_at_ x y).peer = x.peer := rfl
@[simp] theorem GTimer.kind_s_at_ (x : GTimer) (y : Int) : (GTimer.s_at_ x y).kind = x.kind := rfl
theorem GTimer.l_at_ : Lens GTimer Int 0 GTimer.at_ GTimer.s_at_ :=
  lens_mid (fun x => []) (fun x => cells x.peer ++ (cells x.kind ++ ([]))) (fun x => by simp only [GTimer.cells_eq, GTimer.cs, List.append_assoc, List.nil_append]) (fun x => by simp only [List.length_append, cells_length, List.length_nil] <;> rfl)
    (fun x y => by simp only [GTimer.s_at_, GTimer.cells_eq, GTimer.cs, List.append_assoc, List.nil_append]) (by decide)
def GTimer.s_peer (x : GTimer) (y : (Vec 32 UInt8)) : GTimer := { x with peer := y }
@[simp] theorem GTimer.at__s_peer (x : GTimer) (y : (Vec 32 UInt8)) : (GTimer.s_peer x y).at_ = x.at_ := rfl
@[simp] theorem GTimer.peer_s_peer (x : GTimer) (y : (Vec 32 UInt8)) : (GTimer.s_peer x y).peer = y := rfl
@[simp] theorem GTimer.kind_s_peer (x : GTimer) (y : (Vec 32 UInt8)) : (GTimer.s_peer x y).kind = x.kind := rfl
theorem GTimer.l_peer : Lens GTimer (Vec 32 UInt8) 1 GTimer.peer GTimer.s_peer :=
  lens_mid (fun x => cells x.at_) (fun x => cells x.kind ++ ([])) (fun x => by simp only [GTimer.cells_eq, GTimer.cs, List.append_assoc, List.nil_append]) (fun x => by simp only [List.length_append, cells_length, List.length_nil] <;> rfl)
    (fun x y => by simp only [GTimer.s_peer, GTimer.cells_eq, GTimer.cs, List.append_assoc, List.nil_append]) (by decide)
def GTimer.s_kind (x : GTimer) (y : Int) : GTimer := { x with kind := y }
@[simp] theorem GTimer.at__s_kind (x : GTimer) (y : Int) : (GTimer.s_kind x y).at_ = x.at_ := rfl
@[simp] theorem GTimer.peer_s_kind (x : GTimer) (y : Int) : (GTimer.s_kind x y).peer = x.peer := rfl
@[simp] theorem GTimer.kind_s_kind (x : GTimer) (y : Int) : (GTimer.s_kind x y).kind = y := rfl
theorem GTimer.l_kind : Lens GTimer Int 33 GTimer.kind GTimer.s_kind :=
  lens_mid (fun x => cells x.at_ ++ cells x.peer) (fun x => []) (fun x => by simp only [GTimer.cells_eq, GTimer.cs, List.append_assoc, List.nil_append]) (fun x => by simp only [List.length_append, cells_length, List.length_nil] <;> rfl)
    (fun x y => by simp only [GTimer.s_kind, GTimer.cells_eq, GTimer.cs, List.append_assoc, List.nil_append]) (by decide)
structure GCodes where
  l : GSl
  at_ : Int
def GCodes.zero : GCodes := ⟨⟨none, 0, 0⟩, 0⟩
def GCodes.cs (x : GCodes) : List Value := cells x.l ++ (cells x.at_ ++ [])
instance : Enc GCodes := Enc.row GCodes.cs (Enc.size GSl + (Enc.size Int + 0)) (fun x => by simp only [GCodes.cs, List.length_append, cells_length, List.length_nil]) (fun x => one_app (one_cells _) (one_app (one_cells _) (one_nil)))
theorem GCodes.cells_eq (x : GCodes) : cells x = GCodes.cs x := rfl
def GCodes.s_l (x : GCodes) (y : GSl) : GCodes := { x with l := y }
@[simp] theorem GCodes.l_s_l (x : GCodes) (y : GSl) : (GCodes.s_l x y).l = y := rfl
@[simp] theorem GCodes.at__s_l (x : GCodes) (y : GSl) : (GCodes.s_l x y).at_ = x.at_ := rfl
theorem GCodes.l_l : Lens GCodes GSl 0 GCodes.l GCodes.s_l :=
  lens_mid (fun x => []) (fun x => cells x.at_ ++ ([])) (fun x => by simp only [GCodes.cells_eq, GCodes.cs, List.append_assoc, List.nil_append]) (fun x => by simp only [List.length_append, cells_length, List.length_nil] <;> rfl)
    (fun x y => by simp only [GCodes.s_l, GCodes.cells_eq, GCodes.cs, List.append_assoc, List.nil_append]) (by decide)
def GCodes.s_at_ (x : GCodes) (y : Int) : GCodes := { x with at_ := y }
@[simp] theorem GCodes.l_s_at_ (x : GCodes) (y : Int) : (GCodes.s_at_ x y).l = x.l := rfl
@[simp] theorem GCodes.at__s_at_ (x : GCodes) (y : Int) : (GCodes.s_at_ x y).at_ = y := rfl
theorem GCodes.l_at_ : Lens GCodes Int 1 GCodes.at_ GCodes.s_at_ :=
  lens_mid (fun x => cells x.l) (fun x => []) (fun x => by simp only [GCodes.cells_eq, GCodes.cs, List.append_assoc, List.nil_append]) (fun x => by simp only [List.length_append, cells_length, List.length_nil] <;> rfl)
    (fun x y => by simp only [GCodes.s_at_, GCodes.cells_eq, GCodes.cs, List.append_assoc, List.nil_append]) (by decide)
structure GMach where
  daemon : GDaemon
  out : GSl
def GMach.zero : GMach := ⟨GDaemon.zero, ⟨none, 0, 0⟩⟩
def GMach.cs (x : GMach) : List Value := cells x.daemon ++ (cells x.out ++ [])
instance : Enc GMach := Enc.row GMach.cs (Enc.size GDaemon + (Enc.size GSl + 0)) (fun x => by simp only [GMach.cs, List.length_append, cells_length, List.length_nil]) (fun x => one_app (one_cells _) (one_app (one_cells _) (one_nil)))
theorem GMach.cells_eq (x : GMach) : cells x = GMach.cs x := rfl
def GMach.s_daemon (x : GMach) (y : GDaemon) : GMach := { x with daemon := y }
@[simp] theorem GMach.daemon_s_daemon (x : GMach) (y : GDaemon) : (GMach.s_daemon x y).daemon = y := rfl
@[simp] theorem GMach.out_s_daemon (x : GMach) (y : GDaemon) : (GMach.s_daemon x y).out = x.out := rfl
theorem GMach.l_daemon : Lens GMach GDaemon 0 GMach.daemon GMach.s_daemon :=
  lens_mid (fun x => []) (fun x => cells x.out ++ ([])) (fun x => by simp only [GMach.cells_eq, GMach.cs, List.append_assoc, List.nil_append]) (fun x => by simp only [List.length_append, cells_length, List.length_nil] <;> rfl)
    (fun x y => by simp only [GMach.s_daemon, GMach.cells_eq, GMach.cs, List.append_assoc, List.nil_append]) (by decide)
structure GRMach where
  d : GDaemon
  out : GSl
def GRMach.zero : GRMach := ⟨GDaemon.zero, ⟨none, 0, 0⟩⟩
def GRMach.cs (x : GRMach) : List Value := cells x.d ++ (cells x.out ++ [])
instance : Enc GRMach := Enc.row GRMach.cs (Enc.size GDaemon + (Enc.size GSl + 0)) (fun x => by simp only [GRMach.cs, List.length_append, cells_length, List.length_nil]) (fun x => one_app (one_cells _) (one_app (one_cells _) (one_nil)))
theorem GRMach.cells_eq (x : GRMach) : cells x = GRMach.cs x := rfl
def GRMach.s_d (x : GRMach) (y : GDaemon) : GRMach := { x with d := y }
@[simp] theorem GRMach.d_s_d (x : GRMach) (y : GDaemon) : (GRMach.s_d x y).d = y := rfl
@[simp] theorem GRMach.out_s_d (x : GRMach) (y : GDaemon) : (GRMach.s_d x y).out = x.out := rfl
theorem GRMach.l_d : Lens GRMach GDaemon 0 GRMach.d GRMach.s_d :=
  lens_mid (fun x => []) (fun x => cells x.out ++ ([])) (fun x => by simp only [GRMach.cells_eq, GRMach.cs, List.append_assoc, List.nil_append]) (fun x => by simp only [List.length_append, cells_length, List.length_nil] <;> rfl)
    (fun x y => by simp only [GRMach.s_d, GRMach.cells_eq, GRMach.cs, List.append_assoc, List.nil_append]) (by decide)
structure GPeerConfig where
  pub : (Vec 32 UInt8)
  shared : (Vec 32 UInt8)
  hasEndpoint : Bool
  endpoint : GEndpoint
  keepalive : Int
  allowed : GSl
def GPeerConfig.cs (x : GPeerConfig) : List Value := cells x.pub ++ (cells x.shared ++ (cells x.hasEndpoint ++ (cells x.endpoint ++ (cells x.keepalive ++ (cells x.allowed ++ [])))))
instance : Enc GPeerConfig := Enc.row GPeerConfig.cs (Enc.size (Vec 32 UInt8) + (Enc.size (Vec 32 UInt8) + (Enc.size Bool + (Enc.size GEndpoint + (Enc.size Int + (Enc.size GSl + 0)))))) (fun x => by simp only [GPeerConfig.cs, List.length_append, cells_length, List.length_nil]) (fun x => one_app (one_cells _) (one_app (one_cells _) (one_app (one_cells _) (one_app (one_cells _) (one_app (one_cells _) (one_app (one_cells _) (one_nil)))))))
structure GBucket where
  addr : GAddr
  tokens : Int
  at_ : Int
deriving DecidableEq
def GBucket.zero : GBucket := ⟨GAddr.zero, 0, 0⟩
def GBucket.cs (x : GBucket) : List Value := cells x.addr ++ (cells x.tokens ++ (cells x.at_ ++ []))
instance : Enc GBucket := Enc.row GBucket.cs (Enc.size GAddr + (Enc.size Int + (Enc.size Int + 0))) (fun x => by simp only [GBucket.cs, List.length_append, cells_length, List.length_nil]) (fun x => one_app (one_cells _) (one_app (one_cells _) (one_app (one_cells _) (one_nil))))
structure GCall where
  daemon : GDaemon
  words : GSl
  reply : Str
def GCall.zero : GCall := ⟨GDaemon.zero, ⟨none, 0, 0⟩, []⟩
def GCall.cs (x : GCall) : List Value := cells x.daemon ++ (cells x.words ++ (cells x.reply ++ []))
instance : Enc GCall := Enc.row GCall.cs (Enc.size GDaemon + (Enc.size GSl + (Enc.size Str + 0))) (fun x => by simp only [GCall.cs, List.length_append, cells_length, List.length_nil]) (fun x => one_app (one_cells _) (one_app (one_cells _) (one_app (one_cells _) (one_nil))))
theorem GCall.cells_eq (x : GCall) : cells x = GCall.cs x := rfl
def GCall.s_daemon (x : GCall) (y : GDaemon) : GCall := { x with daemon := y }
@[simp] theorem GCall.daemon_s_daemon (x : GCall) (y : GDaemon) : (GCall.s_daemon x y).daemon = y := rfl
@[simp] theorem GCall.words_s_daemon (x : GCall) (y : GDaemon) : (GCall.s_daemon x y).words = x.words := rfl
@[simp] theorem GCall.reply_s_daemon (x : GCall) (y : GDaemon) : (GCall.s_daemon x y).reply = x.reply := rfl
theorem GCall.l_daemon : Lens GCall GDaemon 0 GCall.daemon GCall.s_daemon :=
  lens_mid (fun x => []) (fun x => cells x.words ++ (cells x.reply ++ ([]))) (fun x => by simp only [GCall.cells_eq, GCall.cs, List.append_assoc, List.nil_append]) (fun x => by simp only [List.length_append, cells_length, List.length_nil] <;> rfl)
    (fun x y => by simp only [GCall.s_daemon, GCall.cells_eq, GCall.cs, List.append_assoc, List.nil_append]) (by decide)
def GCall.s_words (x : GCall) (y : GSl) : GCall := { x with words := y }
@[simp] theorem GCall.daemon_s_words (x : GCall) (y : GSl) : (GCall.s_words x y).daemon = x.daemon := rfl
@[simp] theorem GCall.words_s_words (x : GCall) (y : GSl) : (GCall.s_words x y).words = y := rfl
@[simp] theorem GCall.reply_s_words (x : GCall) (y : GSl) : (GCall.s_words x y).reply = x.reply := rfl
theorem GCall.l_words : Lens GCall GSl 148 GCall.words GCall.s_words :=
  lens_mid (fun x => cells x.daemon) (fun x => cells x.reply ++ ([])) (fun x => by simp only [GCall.cells_eq, GCall.cs, List.append_assoc, List.nil_append]) (fun x => by simp only [List.length_append, cells_length, List.length_nil] <;> rfl)
    (fun x y => by simp only [GCall.s_words, GCall.cells_eq, GCall.cs, List.append_assoc, List.nil_append]) (by decide)
def GCall.s_reply (x : GCall) (y : Str) : GCall := { x with reply := y }
theorem GCall.l_reply : Lens GCall Str 149 GCall.reply GCall.s_reply :=
  lens_mid (fun x => cells x.daemon ++ cells x.words) (fun x => []) (fun x => by simp only [GCall.cells_eq, GCall.cs, List.append_assoc, List.nil_append]) (fun x => by simp only [List.length_append, cells_length, List.length_nil] <;> rfl)
    (fun x y => by simp only [GCall.s_reply, GCall.cells_eq, GCall.cs, List.append_assoc, List.nil_append]) (by decide)
structure GCommand where
  words : Int
  peer : Bool
  run : GFun
def GCommand.zero : GCommand := ⟨0, false, .nil⟩
def GCommand.cs (x : GCommand) : List Value := cells x.words ++ (cells x.peer ++ (cells x.run ++ []))
instance : Enc GCommand := Enc.row GCommand.cs (Enc.size Int + (Enc.size Bool + (Enc.size GFun + 0))) (fun x => by simp only [GCommand.cs, List.length_append, cells_length, List.length_nil]) (fun x => one_app (one_cells _) (one_app (one_cells _) (one_app (one_cells _) (one_nil))))
theorem GCommand.cells_eq (x : GCommand) : cells x = GCommand.cs x := rfl
def GCommand.s_words (x : GCommand) (y : Int) : GCommand := { x with words := y }
@[simp] theorem GCommand.words_s_words (x : GCommand) (y : Int) : (GCommand.s_words x y).words = y := rfl
@[simp] theorem GCommand.peer_s_words (x : GCommand) (y : Int) : (GCommand.s_words x y).peer = x.peer := rfl
@[simp] theorem GCommand.run_s_words (x : GCommand) (y : Int) : (GCommand.s_words x y).run = x.run := rfl
theorem GCommand.l_words : Lens GCommand Int 0 GCommand.words GCommand.s_words :=
  lens_mid (fun x => []) (fun x => cells x.peer ++ (cells x.run ++ ([]))) (fun x => by simp only [GCommand.cells_eq, GCommand.cs, List.append_assoc, List.nil_append]) (fun x => by simp only [List.length_append, cells_length, List.length_nil] <;> rfl)
    (fun x y => by simp only [GCommand.s_words, GCommand.cells_eq, GCommand.cs, List.append_assoc, List.nil_append]) (by decide)
def GCommand.s_peer (x : GCommand) (y : Bool) : GCommand := { x with peer := y }
@[simp] theorem GCommand.words_s_peer (x : GCommand) (y : Bool) : (GCommand.s_peer x y).words = x.words := rfl
@[simp] theorem GCommand.peer_s_peer (x : GCommand) (y : Bool) : (GCommand.s_peer x y).peer = y := rfl
@[simp] theorem GCommand.run_s_peer (x : GCommand) (y : Bool) : (GCommand.s_peer x y).run = x.run := rfl
theorem GCommand.l_peer : Lens GCommand Bool 1 GCommand.peer GCommand.s_peer :=
  lens_mid (fun x => cells x.words) (fun x => cells x.run ++ ([])) (fun x => by simp only [GCommand.cells_eq, GCommand.cs, List.append_assoc, List.nil_append]) (fun x => by simp only [List.length_append, cells_length, List.length_nil] <;> rfl)
    (fun x y => by simp only [GCommand.s_peer, GCommand.cells_eq, GCommand.cs, List.append_assoc, List.nil_append]) (by decide)
def GCommand.s_run (x : GCommand) (y : GFun) : GCommand := { x with run := y }
@[simp] theorem GCommand.words_s_run (x : GCommand) (y : GFun) : (GCommand.s_run x y).words = x.words := rfl
@[simp] theorem GCommand.peer_s_run (x : GCommand) (y : GFun) : (GCommand.s_run x y).peer = x.peer := rfl
@[simp] theorem GCommand.run_s_run (x : GCommand) (y : GFun) : (GCommand.s_run x y).run = y := rfl
theorem GCommand.l_run : Lens GCommand GFun 2 GCommand.run GCommand.s_run :=
  lens_mid (fun x => cells x.words ++ cells x.peer) (fun x => []) (fun x => by simp only [GCommand.cells_eq, GCommand.cs, List.append_assoc, List.nil_append]) (fun x => by simp only [List.length_append, cells_length, List.length_nil] <;> rfl)
    (fun x y => by simp only [GCommand.s_run, GCommand.cells_eq, GCommand.cs, List.append_assoc, List.nil_append]) (by decide)
structure GInfo where
  source : GAddr
  dest : GAddr
  length : Int
deriving DecidableEq
def GInfo.cs (x : GInfo) : List Value := cells x.source ++ (cells x.dest ++ (cells x.length ++ []))
instance : Enc GInfo := Enc.row GInfo.cs (Enc.size GAddr + (Enc.size GAddr + (Enc.size Int + 0))) (fun x => by simp only [GInfo.cs, List.length_append, cells_length, List.length_nil]) (fun x => one_app (one_cells _) (one_app (one_cells _) (one_app (one_cells _) (one_nil))))
structure GWTimer where
  timer : GTimer
deriving DecidableEq
def GWTimer.zero : GWTimer := ⟨GTimer.zero⟩
def GWTimer.cs (x : GWTimer) : List Value := cells x.timer ++ []
instance : Enc GWTimer := Enc.row GWTimer.cs (Enc.size GTimer + 0) (fun x => by simp only [GWTimer.cs, List.length_append, cells_length, List.length_nil]) (fun x => one_app (one_cells _) (one_nil))
theorem GWTimer.cells_eq (x : GWTimer) : cells x = GWTimer.cs x := rfl
def GWTimer.s_timer (x : GWTimer) (y : GTimer) : GWTimer := { x with timer := y }
@[simp] theorem GWTimer.timer_s_timer (x : GWTimer) (y : GTimer) : (GWTimer.s_timer x y).timer = y := rfl
theorem GWTimer.l_timer : Lens GWTimer GTimer 0 GWTimer.timer GWTimer.s_timer :=
  lens_mid (fun x => []) (fun x => []) (fun x => by simp only [GWTimer.cells_eq, GWTimer.cs, List.append_assoc, List.nil_append]) (fun x => by simp only [List.length_append, cells_length, List.length_nil] <;> rfl)
    (fun x y => by simp only [GWTimer.s_timer, GWTimer.cells_eq, GWTimer.cs, List.append_assoc, List.nil_append]) (by decide)
structure GRRing where
  ring : GRing
deriving DecidableEq
def GRRing.cs (x : GRRing) : List Value := cells x.ring ++ []
instance : Enc GRRing := Enc.row GRRing.cs (Enc.size GRing + 0) (fun x => by simp only [GRRing.cs, List.length_append, cells_length, List.length_nil]) (fun x => one_app (one_cells _) (one_nil))
def GRRing.s_ring (x : GRRing) (y : GRing) : GRRing := { x with ring := y }
@[simp] theorem GRRing.ring_s_ring (x : GRRing) (y : GRing) : (GRRing.s_ring x y).ring = y := rfl
structure GRule where
  word : Str
  holds : GFun
def GRule.cs (x : GRule) : List Value := cells x.word ++ (cells x.holds ++ [])
instance : Enc GRule := Enc.row GRule.cs (Enc.size Str + (Enc.size GFun + 0)) (fun x => by simp only [GRule.cs, List.length_append, cells_length, List.length_nil]) (fun x => one_app (one_cells _) (one_app (one_cells _) (one_nil)))
end Go.Bur
namespace Go.Bur
open Go Go.RowKit
section
variable {P : Program} {n : Nat} {Q : QF} {f : Fr} {w w' : World} {ops : Array Oper} {rest : List Oper} {ty : TypeId} {pos : String} {aft : Array Edge} {g : Option (Nat × Bool)} {d : Option Nat}
variable {ρ : Operand → Value} {W0 : World} {V : PH} {L : List (Nat × Obj)} {S : World → Prop} {m i : Nat} {t : Plan}
theorem st_set0 {α β : Type} [Enc α] [Enc β] {T T' : TypeId} {x y : Operand} {b o : Nat} {gt : α → β} {st : α → β → α} {u : α} {z : β}
    (hT : TyOk P T β) (hx : ρ x = ptr b o) (hy : ρ y = val z) (hl : Lens α β o gt st) (hs : St W0 V w ((b, blk T' u) :: L)) :
    ∃ w', (execOp ρ ⟨d, .store T x y, ty, pos, aft, g⟩).run P w = .ok .skip w' ∧ St W0 V w' ((b, blk T' (st u z)) :: L) := by
  have hg : w.heap[b]? = some (blk T' u) := hs.mem (by simp)
  refine ⟨_, r_store hT hx hy hg ?_, ?_⟩
  · have := hl.le; simpa [cells_length] using this
  · have := St.setRow (A := []) (c' := ((cells u).take o ++ cells z ++ (cells u).drop (o + Enc.size β)).toArray) hs
    rw [hl.set] at this
    simpa [blk, hl.set] using this
theorem l_store0 {α β : Type} [Enc α] [Enc β] {T T' : TypeId} {x y : Operand} {b o : Nat} {gt : α → β} {st : α → β → α} {u : α} {z : β}
    (hT : TyOk P T β) (hx : ev f x = ptr b o) (hy : ev f y = val z) (hl : Lens α β o gt st) (hs : St W0 V w ((b, blk T' u) :: L))
    (k : ∀ w', St W0 V w' ((b, blk T' (st u z)) :: L) → LW P n ops Q rest f w') : LW P n ops Q (⟨none, .store T x y, ty, pos, aft, none⟩ :: rest) f w := by
  obtain ⟨w', h1, h2⟩ := st_set0 (P := P) (d := none) (ty := ty) (pos := pos) (aft := aft) (g := none) hT hx hy hl hs
  exact lw_skip0 h1 (k _ h2)
theorem ow_store0 {α β : Type} [Enc α] [Enc β] {T T' : TypeId} {x y : Operand} {b o : Nat} {gt : α → β} {st : α → β → α} {u : α} {z : β}
    (hi : ops[i]? = some ⟨none, .store T x y, ty, pos, aft, g⟩) (hw : Wt ops f ⟨none, .store T x y, ty, pos, aft, g⟩ true)
    (hT : TyOk P T β) (hx : ev f x = ptr b o) (hy : ev f y = val z) (hl : Lens α β o gt st) (hs : St W0 V w ((b, blk T' u) :: L))
    (k : ∀ w', St W0 V w' ((b, blk T' (st u z)) :: L) → (m.testBit i = true → S w') ∧ PW P n ops Q S m t f w') : OW P n ops Q S m i t f w := by
  obtain ⟨w', h1, h2⟩ := st_set0 (P := P) (d := none) (ty := ty) (pos := pos) (aft := aft) (g := g) hT hx hy hl hs
  exact ow_skip hi hw h1 (k _ h2).1 (k _ h2).2
theorem st_set1 {α β : Type} [Enc α] [Enc β] {T T' : TypeId} {x y : Operand} {x0 : Nat × Obj} {b o : Nat} {gt : α → β} {st : α → β → α} {u : α} {z : β}
    (hT : TyOk P T β) (hx : ρ x = ptr b o) (hy : ρ y = val z) (hl : Lens α β o gt st) (hs : St W0 V w (x0 :: (b, blk T' u) :: L)) :
    ∃ w', (execOp ρ ⟨d, .store T x y, ty, pos, aft, g⟩).run P w = .ok .skip w' ∧ St W0 V w' (x0 :: (b, blk T' (st u z)) :: L) := by
  have hg : w.heap[b]? = some (blk T' u) := hs.mem (by simp)
  refine ⟨_, r_store hT hx hy hg ?_, ?_⟩
  · have := hl.le; simpa [cells_length] using this
  · have := St.setRow (A := [x0]) (c' := ((cells u).take o ++ cells z ++ (cells u).drop (o + Enc.size β)).toArray) hs
    rw [hl.set] at this
    simpa [blk, hl.set] using this
theorem l_store1 {α β : Type} [Enc α] [Enc β] {T T' : TypeId} {x y : Operand} {x0 : Nat × Obj} {b o : Nat} {gt : α → β} {st : α → β → α} {u : α} {z : β}
    (hT : TyOk P T β) (hx : ev f x = ptr b o) (hy : ev f y = val z) (hl : Lens α β o gt st) (hs : St W0 V w (x0 :: (b, blk T' u) :: L))
    (k : ∀ w', St W0 V w' (x0 :: (b, blk T' (st u z)) :: L) → LW P n ops Q rest f w') : LW P n ops Q (⟨none, .store T x y, ty, pos, aft, none⟩ :: rest) f w := by
  obtain ⟨w', h1, h2⟩ := st_set1 (P := P) (d := none) (ty := ty) (pos := pos) (aft := aft) (g := none) hT hx hy hl hs
  exact lw_skip0 h1 (k _ h2)
theorem ow_store1 {α β : Type} [Enc α] [Enc β] {T T' : TypeId} {x y : Operand} {x0 : Nat × Obj} {b o : Nat} {gt : α → β} {st : α → β → α} {u : α} {z : β}
    (hi : ops[i]? = some ⟨none, .store T x y, ty, pos, aft, g⟩) (hw : Wt ops f ⟨none, .store T x y, ty, pos, aft, g⟩ true)
    (hT : TyOk P T β) (hx : ev f x = ptr b o) (hy : ev f y = val z) (hl : Lens α β o gt st) (hs : St W0 V w (x0 :: (b, blk T' u) :: L))
    (k : ∀ w', St W0 V w' (x0 :: (b, blk T' (st u z)) :: L) → (m.testBit i = true → S w') ∧ PW P n ops Q S m t f w') : OW P n ops Q S m i t f w := by
  obtain ⟨w', h1, h2⟩ := st_set1 (P := P) (d := none) (ty := ty) (pos := pos) (aft := aft) (g := g) hT hx hy hl hs
  exact ow_skip hi hw h1 (k _ h2).1 (k _ h2).2
theorem st_set2 {α β : Type} [Enc α] [Enc β] {T T' : TypeId} {x y : Operand} {x0 x1 : Nat × Obj} {b o : Nat} {gt : α → β} {st : α → β → α} {u : α} {z : β}
    (hT : TyOk P T β) (hx : ρ x = ptr b o) (hy : ρ y = val z) (hl : Lens α β o gt st) (hs : St W0 V w (x0 :: x1 :: (b, blk T' u) :: L)) :
    ∃ w', (execOp ρ ⟨d, .store T x y, ty, pos, aft, g⟩).run P w = .ok .skip w' ∧ St W0 V w' (x0 :: x1 :: (b, blk T' (st u z)) :: L) := by
  have hg : w.heap[b]? = some (blk T' u) := hs.mem (by simp)
  refine ⟨_, r_store hT hx hy hg ?_, ?_⟩
  · have := hl.le; simpa [cells_length] using this
  · have := St.setRow (A := [x0, x1]) (c' := ((cells u).take o ++ cells z ++ (cells u).drop (o + Enc.size β)).toArray) hs
    rw [hl.set] at this
    simpa [blk, hl.set] using this
theorem l_store2 {α β : Type} [Enc α] [Enc β] {T T' : TypeId} {x y : Operand} {x0 x1 : Nat × Obj} {b o : Nat} {gt : α → β} {st : α → β → α} {u : α} {z : β}
    (hT : TyOk P T β) (hx : ev f x = ptr b o) (hy : ev f y = val z) (hl : Lens α β o gt st) (hs : St W0 V w (x0 :: x1 :: (b, blk T' u) :: L))
    (k : ∀ w', St W0 V w' (x0 :: x1 :: (b, blk T' (st u z)) :: L) → LW P n ops Q rest f w') : LW P n ops Q (⟨none, .store T x y, ty, pos, aft, none⟩ :: rest) f w := by
  obtain ⟨w', h1, h2⟩ := st_set2 (P := P) (d := none) (ty := ty) (pos := pos) (aft := aft) (g := none) hT hx hy hl hs
  exact lw_skip0 h1 (k _ h2)
theorem ow_store2 {α β : Type} [Enc α] [Enc β] {T T' : TypeId} {x y : Operand} {x0 x1 : Nat × Obj} {b o : Nat} {gt : α → β} {st : α → β → α} {u : α} {z : β}
    (hi : ops[i]? = some ⟨none, .store T x y, ty, pos, aft, g⟩) (hw : Wt ops f ⟨none, .store T x y, ty, pos, aft, g⟩ true)
    (hT : TyOk P T β) (hx : ev f x = ptr b o) (hy : ev f y = val z) (hl : Lens α β o gt st) (hs : St W0 V w (x0 :: x1 :: (b, blk T' u) :: L))
    (k : ∀ w', St W0 V w' (x0 :: x1 :: (b, blk T' (st u z)) :: L) → (m.testBit i = true → S w') ∧ PW P n ops Q S m t f w') : OW P n ops Q S m i t f w := by
  obtain ⟨w', h1, h2⟩ := st_set2 (P := P) (d := none) (ty := ty) (pos := pos) (aft := aft) (g := g) hT hx hy hl hs
  exact ow_skip hi hw h1 (k _ h2).1 (k _ h2).2
theorem st_set3 {α β : Type} [Enc α] [Enc β] {T T' : TypeId} {x y : Operand} {x0 x1 x2 : Nat × Obj} {b o : Nat} {gt : α → β} {st : α → β → α} {u : α} {z : β}
    (hT : TyOk P T β) (hx : ρ x = ptr b o) (hy : ρ y = val z) (hl : Lens α β o gt st) (hs : St W0 V w (x0 :: x1 :: x2 :: (b, blk T' u) :: L)) :
    ∃ w', (execOp ρ ⟨d, .store T x y, ty, pos, aft, g⟩).run P w = .ok .skip w' ∧ St W0 V w' (x0 :: x1 :: x2 :: (b, blk T' (st u z)) :: L) := by
  have hg : w.heap[b]? = some (blk T' u) := hs.mem (by simp)
  refine ⟨_, r_store hT hx hy hg ?_, ?_⟩
  · have := hl.le; simpa [cells_length] using this
  · have := St.setRow (A := [x0, x1, x2]) (c' := ((cells u).take o ++ cells z ++ (cells u).drop (o + Enc.size β)).toArray) hs
    rw [hl.set] at this
    simpa [blk, hl.set] using this
theorem l_store3 {α β : Type} [Enc α] [Enc β] {T T' : TypeId} {x y : Operand} {x0 x1 x2 : Nat × Obj} {b o : Nat} {gt : α → β} {st : α → β → α} {u : α} {z : β}
    (hT : TyOk P T β) (hx : ev f x = ptr b o) (hy : ev f y = val z) (hl : Lens α β o gt st) (hs : St W0 V w (x0 :: x1 :: x2 :: (b, blk T' u) :: L))
    (k : ∀ w', St W0 V w' (x0 :: x1 :: x2 :: (b, blk T' (st u z)) :: L) → LW P n ops Q rest f w') : LW P n ops Q (⟨none, .store T x y, ty, pos, aft, none⟩ :: rest) f w := by
  obtain ⟨w', h1, h2⟩ := st_set3 (P := P) (d := none) (ty := ty) (pos := pos) (aft := aft) (g := none) hT hx hy hl hs
  exact lw_skip0 h1 (k _ h2)
theorem ow_store3 {α β : Type} [Enc α] [Enc β] {T T' : TypeId} {x y : Operand} {x0 x1 x2 : Nat × Obj} {b o : Nat} {gt : α → β} {st : α → β → α} {u : α} {z : β}
    (hi : ops[i]? = some ⟨none, .store T x y, ty, pos, aft, g⟩) (hw : Wt ops f ⟨none, .store T x y, ty, pos, aft, g⟩ true)
    (hT : TyOk P T β) (hx : ev f x = ptr b o) (hy : ev f y = val z) (hl : Lens α β o gt st) (hs : St W0 V w (x0 :: x1 :: x2 :: (b, blk T' u) :: L))
    (k : ∀ w', St W0 V w' (x0 :: x1 :: x2 :: (b, blk T' (st u z)) :: L) → (m.testBit i = true → S w') ∧ PW P n ops Q S m t f w') : OW P n ops Q S m i t f w := by
  obtain ⟨w', h1, h2⟩ := st_set3 (P := P) (d := none) (ty := ty) (pos := pos) (aft := aft) (g := g) hT hx hy hl hs
  exact ow_skip hi hw h1 (k _ h2).1 (k _ h2).2
theorem ow_alloc {α : Type} [Enc α] {T : TypeId} {d : Nat} {z : α} (hi : ops[i]? = some ⟨some d, .alloc T, ty, pos, aft, g⟩) (hw : Wt ops f ⟨some d, .alloc T, ty, pos, aft, g⟩ true) (hz : ZeroOk P T z) (hs : St W0 V w L) (hd : d < n)
    (k : ∀ b w', St W0 V w' ((b, blk T z) :: L) → (m.testBit i = true → S w') ∧ PW P n ops Q S m t (upd f d (ptr b 0)) w') : OW P n ops Q S m i t f w :=
  ow_val hi hw (r_alloc hz) hd (k _ _ (hs.alloc _)).1 (k _ _ (hs.alloc _)).2
theorem l_buildSlice1 {α : Type} [Enc α] {t E : TypeId} {bytes : Nat} {x : Operand} {d : Nat} {y z : α} (hE : ElemOk P t E α bytes) (hz : ZeroOk P E z) (hx : ev f x = val y) (hsm : Enc.size α ≤ 16777216) (hs : St W0 V w L) (hd : d < n)
    (k : ∀ b w', St W0 V w' ((b, blk E y) :: L) → LW P n ops Q rest (upd f d (.slice (some ⟨b, 0, none⟩) 1 1)) w') : LW P n ops Q (⟨some d, .buildSlice t 1 #[(0, x)], ty, pos, aft, none⟩ :: rest) f w :=
  l_run (r_buildSlice1 hE.sl hE.ty hz hx ⟨hE.pos, hsm⟩) hd (k _ _ (hs.alloc _))
theorem r_append {t : TypeId} {x y : Operand} {vx vy v : Value} (hx : ρ x = vx) (hy : ρ y = vy) (h : (Builtin.append_ #[t, t] ty #[vx, vy]).run P w = .ok v w') :
    Runs P ρ ⟨d, .call ⟨.builtin .append, #[x, y], #[t, t]⟩, ty, pos, aft, g⟩ w v w' := by
  simp only [Runs, execOp, resolve, invoke, builtin, Sem.run_bind, Sem.run_pure, Result.andThen_ok, List.map_toArray, List.map_cons, List.map_nil, hx, hy]
  simp [h]
theorem Src1.blk1 {α : Type} [Enc α] {T : TypeId} {b : Nat} {z : α} (h : w.heap[b]? = some (blk T z)) : Src1 w T (some ⟨b, 0, none⟩) [z] :=
  .inr ⟨b, 0, (Go.Bur.cells z).toArray, (0, 0), rfl, h, by simpa [flat] using AtL.arr [z] []⟩
theorem Own.drop1 {α : Type} [Enc α] {T : TypeId} {v : Value} {xs : List α} {x : Nat × Obj} (h : Own W0 V w (x :: L) T v xs) : Own W0 V w L T v xs := by
  cases h with
  | nil hs => exact Own.nil hs.drop1
  | blk b cap _ sp hc hle hs =>
    refine Own.blk b cap _ sp hc hle (hs.subset (fun p hp => ?_) ?_)
    · rcases List.mem_cons.1 hp with hp | hp
      · exact hp ▸ List.mem_cons_self ..
      · exact List.mem_cons_of_mem _ (List.mem_cons_of_mem _ hp)
    · have := hs.nodup
      simp only [List.map_cons, List.nodup_cons, List.mem_cons, not_or] at *
      exact ⟨this.1.2, this.2.2⟩
theorem Own.mem {α : Type} [Enc α] {T : TypeId} {v : Value} {xs : List α} {b : Nat} {o : Obj} (h : Own W0 V w L T v xs) (hm : (b, o) ∈ L) : w.heap[b]? = some o := by
  cases h with
  | nil hs => exact hs.mem hm
  | blk b' cap _ sp hc hle hs => exact hs.mem (List.mem_cons_of_mem _ hm)
theorem l_append1 {α : Type} [Enc α] {t T : TypeId} {bytes : Nat} {x y : Operand} {d : Nat} {v : Value} {xs : List α} {z : α} {b : Nat} (hE : ElemOk P t T α bytes) (hx : ev f x = v) (hy : ev f y = .slice (some ⟨b, 0, none⟩) 1 1)
    (ho : Own W0 V w ((b, blk T z) :: L) T v xs) (hlen : (xs.length + 1) * bytes ≤ 140737488355328) (hmax : xs.length + 1 ≤ 1099511627776) (hd : d < n)
    (k : ∀ v' w', Own W0 V w' L T v' (xs ++ [z]) → LW P n ops Q rest (upd f d v') w') : LW P n ops Q (⟨some d, .call ⟨.builtin .append, #[x, y], #[t, t]⟩, ty, pos, aft, none⟩ :: rest) f w := by
  obtain ⟨v', w', h1, h2⟩ := run_append_own' (ty := ty) hE ho (Src1.blk1 (ho.mem (List.mem_cons_self ..))) (k := 1) (c := 1) rfl hlen hmax
  exact l_run (r_append hx hy h1) hd (k v' w' h2.drop1)
theorem Own.st {α : Type} [Enc α] {T : TypeId} {v : Value} {xs : List α} (h : Own W0 V w L T v xs) : St W0 V w L := by
  cases h with
  | nil hs => exact hs
  | blk b cap _ sp hc hle hs => exact hs.drop1
theorem Own.freeze {α : Type} [Enc α] {T : TypeId} {v : Value} {xs : List α} (h : Own W0 V w L T v xs) :
    ∃ V' a cap, V ≤ V' ∧ St W0 V' w L ∧ v = .slice a xs.length cap ∧ Sl V' T a cap xs := by
  cases h with
  | nil hs => exact ⟨V, none, 0, PH.refl V, hs, rfl, .inl rfl⟩
  | blk b cap _ sp hc hle hs =>
    obtain ⟨h1, h2⟩ := hs.freeze
    exact ⟨_, _, cap, h2, h1, rfl, .inr ⟨b, 0, _, rfl, PH.add_self .., by simpa [arr] using AtL.arr xs sp, hle⟩⟩
def OwnA {α : Type} [Enc α] (T : TypeId) (v : Value) (xs : List α) (A : List (Nat × Obj)) : Prop :=
  (v = .slice none 0 0 ∧ xs = [] ∧ A = []) ∨ ∃ b cap sp, v = .slice (some ⟨b, 0, none⟩) xs.length cap ∧ sp.length + xs.length * Enc.size α = cap * Enc.size α ∧ xs.length ≤ cap ∧ A = [(b, arr T xs sp)]
theorem Own.open' {α : Type} [Enc α] {T : TypeId} {v : Value} {xs : List α} (h : Own W0 V w L T v xs) : ∃ A, St W0 V w (A ++ L) ∧ OwnA T v xs A := by
  cases h with
  | nil hs => exact ⟨[], hs, .inl ⟨rfl, rfl, rfl⟩⟩
  | blk b cap _ sp hc hle hs => exact ⟨_, hs, .inr ⟨b, cap, sp, rfl, hc, hle, rfl⟩⟩
theorem OwnA.close {α : Type} [Enc α] {T : TypeId} {v : Value} {xs : List α} {A X : List (Nat × Obj)} (hA : OwnA T v xs A) (hs : St W0 V w (X ++ (A ++ L))) : Own W0 V w (X ++ L) T v xs := by
  rcases hA with ⟨rfl, rfl, rfl⟩ | ⟨b, cap, sp, rfl, hc, hle, rfl⟩
  · exact Own.nil hs
  · exact Own.blk b cap _ sp hc hle (hs.perm List.perm_middle)
theorem OwnA.close0 {α : Type} [Enc α] {T : TypeId} {v : Value} {xs : List α} {A : List (Nat × Obj)} (hA : OwnA T v xs A) (hs : St W0 V w (A ++ L)) : Own W0 V w L T v xs := hA.close (X := []) hs
theorem OwnA.close1 {α : Type} [Enc α] {T : TypeId} {v : Value} {xs : List α} {A : List (Nat × Obj)} {x : Nat × Obj} (hA : OwnA T v xs A) (hs : St W0 V w (x :: (A ++ L))) : Own W0 V w (x :: L) T v xs := hA.close (X := [x]) hs
theorem OwnA.close2 {α : Type} [Enc α] {T : TypeId} {v : Value} {xs : List α} {A : List (Nat × Obj)} {x y : Nat × Obj} (hA : OwnA T v xs A) (hs : St W0 V w (x :: y :: (A ++ L))) : Own W0 V w (x :: y :: L) T v xs := hA.close (X := [x, y]) hs
theorem OwnA.close3 {α : Type} [Enc α] {T : TypeId} {v : Value} {xs : List α} {A : List (Nat × Obj)} {x y z : Nat × Obj} (hA : OwnA T v xs A) (hs : St W0 V w (x :: y :: z :: (A ++ L))) : Own W0 V w (x :: y :: z :: L) T v xs := hA.close (X := [x, y, z]) hs
theorem OwnA.len {α : Type} [Enc α] {T : TypeId} {v : Value} {xs : List α} {A : List (Nat × Obj)} (hA : OwnA T v xs A) : ∃ a cap, v = .slice a xs.length cap := by
  rcases hA with ⟨rfl, rfl, rfl⟩ | ⟨b, cap, sp, rfl, hc, hle, rfl⟩
  · exact ⟨_, _, rfl⟩
  · exact ⟨_, _, rfl⟩
structure EqOk (P : Program) (T : TypeId) (α : Type) [Enc α] [DecidableEq α] : Prop where
  eq : ∀ (x y : α) (k : Nat) (w : World), k ≥ 100 → (Op.equalIn k T (val x) (val y)).run P w = .ok (decide (x = y)) w
  guard : P.eqGuardType P.depth T = false
  row : Enc.agg α = true
theorem p_eqlS {α : Type} [Enc α] [DecidableEq α] {T t' : TypeId} {x y : Operand} {a b : α} (hE : EqOk P T α) (hx : ρ x = val a) (hy : ρ y = val b) :
    Pur P ρ ⟨d, .binOp .eql T x y t', ty, pos, aft, g⟩ (.bool (decide (a = b))) := p_bin hx hy (fun w => by
      rw [Enc.hagg a, Enc.hagg b, hE.row]; exact run_eqGuard_agg w _ _ _ _ _ _ hE.guard) (fun w => by
      have := hE.eq a b 10000 w (by omega)
      rw [Enc.hagg a, Enc.hagg b, hE.row] at this ⊢
      simp only [if_true] at this ⊢
      rw [run_eql_struct, this]; rfl)
theorem p_neqS {α : Type} [Enc α] [DecidableEq α] {T t' : TypeId} {x y : Operand} {a b : α} (hE : EqOk P T α) (hx : ρ x = val a) (hy : ρ y = val b) :
    Pur P ρ ⟨d, .binOp .neq T x y t', ty, pos, aft, g⟩ (.bool (!decide (a = b))) := p_bin hx hy (fun w => by
      rw [Enc.hagg a, Enc.hagg b, hE.row]; exact run_eqGuard_agg w _ _ _ _ _ _ hE.guard) (fun w => by
      have := hE.eq a b 10000 w (by omega)
      rw [Enc.hagg a, Enc.hagg b, hE.row] at this ⊢
      simp only [if_true] at this ⊢
      rw [run_neq_struct, this]; rfl)
end
end Go.Bur
namespace Go.Bur
open Go Go.RowKit
section
variable {P : Program} {n : Nat} {Q : QF} {f : Fr} {w w' : World} {ops : Array Oper} {ty : TypeId} {pos : String} {aft : Array Edge} {g : Option (Nat × Bool)} {d : Option Nat}
variable {ρ : Operand → Value} {W0 : World} {V V' : PH} {L K : List (Nat × Obj)} {S : World → Prop} {m i : Nat} {t : Plan}
theorem Hold.nil (hs : St W0 V' w L) (hV : V ≤ V') : Hold V [] w := hs.hold hV (fun _ h => by cases h)
theorem Hold.cons (hs : St W0 V' w L) {b : Nat} {o : Obj} (hm : (b, o) ∈ L) (h : Hold V K w) : Hold V ((b, o) :: K) w :=
  ⟨h.1, fun p hp => by
    rcases List.mem_cons.1 hp with rfl | hp
    · exact hs.mem hm
    · exact h.2 p hp⟩
theorem cw_planH {id : Nat} (t : Plan) (m : Nat) (hm : P.follows .mixedOrders = true)
    (hok : (Region.noSelect ops && t.ok .any ops (Array.replicate ops.size false) && Nat.ble t.size ops.size) = true)
    (hQ : ∀ c f w, ¬ Q (.panic c) f w) (hs : St W0 V w L) (_ : S w) (h : ∀ w', St W0 V w' L → PW P n ops Q S m t f w') : CW P n (.region id ops true) Q f w :=
  cw_plan t m S hm hok hQ (h _ hs.drew)
theorem p_eqlSlNil {T t' : TypeId} {E : TypeId} {x : Operand} {a : Option Addr} {l c : Nat} (hT : P.underlying T = some (.slice E)) (hρ : ρ (.const (.slice none 0 0)) = .slice none 0 0) (hx : ρ x = .slice a l c) :
    Pur P ρ ⟨d, .binOp .eql T x (.const (.slice none 0 0)) t', ty, pos, aft, g⟩ (.bool a.isNone) := p_bin hx hρ guard_slice (fun w => by
      have : (Op.equal T (.slice a l c) (.slice none 0 0)).run P w = .ok a.isNone w := by
        unfold Op.equal Op.maxDepth
        obtain ⟨k, hk⟩ : ∃ k, 10000 = k + 1 := ⟨9999, rfl⟩
        rw [hk]
        cases a <;> simp [Op.equalIn, Sem.run_bind, run_underlying hT w]
      simp [binOp, Sem.run_bind, this])
theorem p_neqPtrNil {T t' : TypeId} {E : TypeId} {x : Operand} {a : Option Addr} (hT : P.underlying T = some (.pointer E)) (hρ : ρ (.const (.pointer none)) = .pointer none) (hx : ρ x = .pointer a) :
    Pur P ρ ⟨d, .binOp .neq T x (.const (.pointer none)) t', ty, pos, aft, g⟩ (.bool (!a.isNone)) := p_bin hx hρ guard_ptr (fun w => by
      have : (Op.equal T (.pointer a) (.pointer none)).run P w = .ok a.isNone w := by
        unfold Op.equal Op.maxDepth
        obtain ⟨k, hk⟩ : ∃ k, 10000 = k + 1 := ⟨9999, rfl⟩
        rw [hk]
        cases a <;> simp [Op.equalIn, Sem.run_bind, run_underlying hT w]
      simp [binOp, Sem.run_bind, this])
theorem p_moveC {v : Value} : Pur P (ev f) ⟨d, .move (.const v), ty, pos, aft, g⟩ v := p_move rfl
theorem p_moveI {x : Operand} {k : IntKind} {a : Int} (hx : ρ x = .int k a) : Pur P ρ ⟨d, .move x, ty, pos, aft, g⟩ (.int k a) := p_move hx
theorem p_moveB {x : Operand} {b : Bool} (hx : ρ x = .bool b) : Pur P ρ ⟨d, .move x, ty, pos, aft, g⟩ (.bool b) := p_move hx
theorem p_moveS {x : Operand} {s : ByteArray} (hx : ρ x = .string s) : Pur P ρ ⟨d, .move x, ty, pos, aft, g⟩ (.string s) := p_move hx
theorem p_moveP {x : Operand} {a : Option Addr} (hx : ρ x = .pointer a) : Pur P ρ ⟨d, .move x, ty, pos, aft, g⟩ (.pointer a) := p_move hx
theorem p_moveL {x : Operand} {a : Option Addr} {l c : Nat} (hx : ρ x = .slice a l c) : Pur P ρ ⟨d, .move x, ty, pos, aft, g⟩ (.slice a l c) := p_move hx
theorem p_moveT {x : Operand} {vs : Array Value} (hx : ρ x = .tuple vs) : Pur P ρ ⟨d, .move x, ty, pos, aft, g⟩ (.tuple vs) := p_move hx
theorem p_assignC {v : Value} : Pur P (ev f) ⟨d, .assign (.const v), ty, pos, aft, g⟩ v := p_assign rfl
theorem p_assignI {x : Operand} {k : IntKind} {a : Int} (hx : ρ x = .int k a) : Pur P ρ ⟨d, .assign x, ty, pos, aft, g⟩ (.int k a) := p_assign hx
theorem p_assignB {x : Operand} {b : Bool} (hx : ρ x = .bool b) : Pur P ρ ⟨d, .assign x, ty, pos, aft, g⟩ (.bool b) := p_assign hx
theorem p_assignS {x : Operand} {s : ByteArray} (hx : ρ x = .string s) : Pur P ρ ⟨d, .assign x, ty, pos, aft, g⟩ (.string s) := p_assign hx
theorem p_assignP {x : Operand} {a : Option Addr} (hx : ρ x = .pointer a) : Pur P ρ ⟨d, .assign x, ty, pos, aft, g⟩ (.pointer a) := p_assign hx
theorem p_assignL {x : Operand} {a : Option Addr} {l c : Nat} (hx : ρ x = .slice a l c) : Pur P ρ ⟨d, .assign x, ty, pos, aft, g⟩ (.slice a l c) := p_assign hx
theorem Own.len {α : Type} [Enc α] {T : TypeId} {v : Value} {xs : List α} (h : Own W0 V w L T v xs) : ∃ a cap, v = .slice a xs.length cap := by
  cases h with
  | nil hs => exact ⟨_, _, rfl⟩
  | blk b cap _ sp hc hle hs => exact ⟨_, _, rfl⟩
theorem rv_tmpI {t : Tmp} {k : IntKind} {a : Int} (h : f t = .int k a) : RV P f w (.tmp t) (.int k a) := h
theorem rv_tmpB {t : Tmp} {b : Bool} (h : f t = .bool b) : RV P f w (.tmp t) (.bool b) := h
theorem rv_tmpS {t : Tmp} {s : ByteArray} (h : f t = .string s) : RV P f w (.tmp t) (.string s) := h
theorem rv_tmpP {t : Tmp} {a : Option Addr} (h : f t = .pointer a) : RV P f w (.tmp t) (.pointer a) := h
theorem rv_tmpL {t : Tmp} {a : Option Addr} {l c : Nat} (h : f t = .slice a l c) : RV P f w (.tmp t) (.slice a l c) := h
theorem rv_tmpM {t : Tmp} {r : Option Nat} (h : f t = .map r) : RV P f w (.tmp t) (.map r) := h
end
end Go.Bur
namespace Go.Bur
open Go Go.RowKit
section
variable {P : Program}
def EqT (P : Program) (T : TypeId) (α : Type) [Enc α] [DecidableEq α] (d : Nat) : Prop :=
  ∀ (x y : α) (k : Nat) (w : World), d ≤ k → (Op.equalIn k T (val x) (val y)).run P w = .ok (decide (x = y)) w
theorem eqT_int {T : TypeId} {k : IntKind} (h : P.underlying T = some (.int k)) (hk : k = .i64) : EqT P T Int 1 := fun x y k w hk => by
  obtain ⟨k, rfl⟩ : ∃ j, k = j + 1 := ⟨k - 1, by omega⟩
  show (Op.equalIn (k + 1) T (.int .i64 x) (.int .i64 y)).run P w = _
  rw [run_equalIn_int w k T .i64 _ x y h]; rfl
theorem eqT_u8 {T : TypeId} {k : IntKind} (h : P.underlying T = some (.int k)) : EqT P T UInt8 1 := fun x y k w hk => by
  obtain ⟨k, rfl⟩ : ∃ j, k = j + 1 := ⟨k - 1, by omega⟩
  show (Op.equalIn (k + 1) T (.int .u8 (x.toNat : Int)) (.int .u8 (y.toNat : Int))).run P w = _
  rw [run_equalIn_int w k T .u8 _ _ _ h]
  congr 1
  rw [Bool.eq_iff_iff, beq_iff_eq, decide_eq_true_eq]
  exact ⟨fun h => UInt8.toNat_inj.1 (Int.ofNat.inj h), fun h => by rw [h]⟩
theorem eqT_u32 {T : TypeId} {k : IntKind} (h : P.underlying T = some (.int k)) : EqT P T UInt32 1 := fun x y k w hk => by
  obtain ⟨k, rfl⟩ : ∃ j, k = j + 1 := ⟨k - 1, by omega⟩
  show (Op.equalIn (k + 1) T (.int .u32 (x.toNat : Int)) (.int .u32 (y.toNat : Int))).run P w = _
  rw [run_equalIn_int w k T .u32 _ _ _ h]
  congr 1
  rw [Bool.eq_iff_iff, beq_iff_eq, decide_eq_true_eq]
  exact ⟨fun h => UInt32.toNat_inj.1 (Int.ofNat.inj h), fun h => by rw [h]⟩
theorem eqT_u64 {T : TypeId} {k : IntKind} (h : P.underlying T = some (.int k)) : EqT P T UInt64 1 := fun x y k w hk => by
  obtain ⟨k, rfl⟩ : ∃ j, k = j + 1 := ⟨k - 1, by omega⟩
  show (Op.equalIn (k + 1) T (.int .u64 (x.toNat : Int)) (.int .u64 (y.toNat : Int))).run P w = _
  rw [run_equalIn_int w k T .u64 _ _ _ h]
  congr 1
  rw [Bool.eq_iff_iff, beq_iff_eq, decide_eq_true_eq]
  exact ⟨fun h => UInt64.toNat_inj.1 (Int.ofNat.inj h), fun h => by rw [h]⟩
theorem eqT_bool {T : TypeId} (h : P.underlying T = some .bool) : EqT P T Bool 1 := fun x y k w hk => by
  obtain ⟨k, rfl⟩ : ∃ j, k = j + 1 := ⟨k - 1, by omega⟩
  show (Op.equalIn (k + 1) T (.bool x) (.bool y)).run P w = _
  rw [run_equalIn_bool' w k T _ _ h]
  congr 1
theorem run_part {α : Type} [Enc α] {T : TypeId} {cs : Array Value} {off : Nat} {x : α} (hT : TyOk P T α) (ha : At cs.toList off x) (w : World) : (part T cs off).run P w = .ok (val x) w := by
  unfold part
  rw [Sem.run_bind, hT.run_isAgg w]
  simp only [Result.andThen_ok]
  cases hg : Enc.agg α with
  | true =>
    simp only [if_true]
    rw [Sem.run_bind, hT.run_sizeOf w]
    simp only [Result.andThen_ok, Sem.run_pure]
    rw [Enc.hagg x, hg]
    simp only [if_true]
    congr 2
    apply Array.ext'
    rw [Array.toList_extract]
    unfold At at ha
    simp only [cells] at ha
    rw [← ha, List.extract_eq_take_drop]
    congr 1
    omega
  | false =>
    simp only [Bool.false_eq_true, if_false]
    have h1 := Enc.hone x hg
    have h0 := ha.get 0 (val x) (by simp [cells, h1])
    rw [Array.getElem?_toList, Nat.add_zero] at h0
    rw [h0]
    simp
theorem eqF_nil {k : Nat} {xs ys : Array Value} (w : World) : (Op.eqFields k xs ys []).run P w = .ok true w := by simp [Op.eqFields]
theorem eqF_cons {α : Type} [Enc α] [DecidableEq α] {k d : Nat} {xs ys : Array Value} {fl : Field} {rest : List Field} {a c : α} {b : Bool} {w : World} (hn : fl.name ≠ "_") (hT : TyOk P fl.type α) (he : EqT P fl.type α d) (hk : d ≤ k)
    (hx : At xs.toList fl.offset a) (hy : At ys.toList fl.offset c) (hr : (Op.eqFields k xs ys rest).run P w = .ok b w) : (Op.eqFields k xs ys (fl :: rest)).run P w = .ok (decide (a = c) && b) w := by
  simp only [Op.eqFields, if_pos hn, Sem.run_bind, run_part hT hx, run_part hT hy, Result.andThen_ok, he a c k w hk]
  by_cases h : a = c <;> simp [h, hr]
theorem eqT_vec {α : Type} [Enc α] [DecidableEq α] {T E : TypeId} {n d : Nat} (hu : P.underlying T = some (.array n E)) (hE : TyOk P E α) (he : EqT P E α d) : EqT P T (Vec n α) (d + 1) := fun x y k w hk => by
  obtain ⟨k, rfl⟩ : ∃ j, k = j + 1 := ⟨k - 1, by omega⟩
  show (Op.equalIn (k + 1) T (.agg (flat x.toList).toArray) (.agg (flat y.toList).toArray)).run P w = _
  simp only [Op.equalIn, Sem.run_bind, run_underlying hu w, Result.andThen_ok, hE.run_sizeOf w]
  have key : ∀ (l : List Nat), (∀ i ∈ l, i < n) → ∀ w,
      (forIn l ((none, ()) : Option Bool × PUnit) (fun i _ => do
        let a ← part E (flat x.toList).toArray (i * Enc.size α)
        let b ← part E (flat y.toList).toArray (i * Enc.size α)
        let r ← Op.equalIn k E a b
        if (!r) = true then pure (ForInStep.done (some false, ())) else pure (ForInStep.yield (none, ())) : Nat → Option Bool × PUnit → Sem (ForInStep (Option Bool × PUnit)))).run P w
      = .ok (if ∀ i ∈ l, x.toList[i]? = y.toList[i]? then (none, ()) else (some false, ())) w := by
    intro l
    induction l with
    | nil => intro _ w; simp
    | cons i l ih =>
      intro hl w
      have hi := hl i (by simp)
      have hx := At.elem x.toList i (by simpa using hi)
      have hy := At.elem y.toList i (by simpa using hi)
      rw [List.forIn_cons, Sem.run_bind, Sem.run_bind, run_part hE (by simpa using hx)]
      simp only [Result.andThen_ok]
      rw [Sem.run_bind, run_part hE (by simpa using hy)]
      simp only [Result.andThen_ok]
      rw [Sem.run_bind, he _ _ k w (by omega)]
      simp only [Result.andThen_ok]
      by_cases h : x[i] = y[i]
      · rw [decide_eq_true h]
        simp only [Bool.not_true, Bool.false_eq_true, if_false, Sem.run_pure, Result.andThen_ok]
        rw [ih (fun j hj => hl j (by simp [hj]))]
        congr 1
        have e : (x.toList[i]? = y.toList[i]?) := by
          rw [List.getElem?_eq_getElem (by simpa using hi), List.getElem?_eq_getElem (by simpa using hi), Vector.getElem_toList, Vector.getElem_toList, h]
        by_cases hq : ∀ j ∈ l, x.toList[j]? = y.toList[j]?
        · rw [if_pos hq, if_pos (by intro j hj; rcases List.mem_cons.1 hj with rfl | hj; exact e; exact hq j hj)]
        · rw [if_neg hq, if_neg (fun h2 => hq (fun j hj => h2 j (List.mem_cons_of_mem _ hj)))]
      · rw [decide_eq_false h]
        simp only [Bool.not_false, if_true, Sem.run_pure, Result.andThen_ok]
        rw [if_neg]
        intro hc
        have := hc i (by simp)
        rw [List.getElem?_eq_getElem (by simpa using hi), List.getElem?_eq_getElem (by simpa using hi), Vector.getElem_toList, Vector.getElem_toList] at this
        exact h (Option.some.inj this)
  have hr := key (List.range' 0 n) (by intro i hi; simp [List.mem_range'] at hi; omega) w
  have e : (forIn [:n] ((none, ()) : Option Bool × PUnit) (fun i _ => do
        let a ← part E (flat x.toList).toArray (i * Enc.size α)
        let b ← part E (flat y.toList).toArray (i * Enc.size α)
        let r ← Op.equalIn k E a b
        if (!r) = true then pure (ForInStep.done (some false, ())) else pure (ForInStep.yield (none, ())) : Nat → Option Bool × PUnit → Sem (ForInStep (Option Bool × PUnit)))) =
      forIn (List.range' 0 n) ((none, ()) : Option Bool × PUnit) (fun i _ => do
        let a ← part E (flat x.toList).toArray (i * Enc.size α)
        let b ← part E (flat y.toList).toArray (i * Enc.size α)
        let r ← Op.equalIn k E a b
        if (!r) = true then pure (ForInStep.done (some false, ())) else pure (ForInStep.yield (none, ())) : Nat → Option Bool × PUnit → Sem (ForInStep (Option Bool × PUnit))) := by
    simp
  rw [e, hr]
  simp only [Result.andThen_ok]
  by_cases h : x = y
  · subst h; simp
  · rw [if_neg]
    · simp [h]
    · intro hc
      apply h
      apply Vector.toList_inj.1
      apply List.ext_getElem?
      intro i
      by_cases hi : i < n
      · exact hc i (by simp [List.mem_range']; omega)
      · rw [List.getElem?_eq_none (by simp; omega), List.getElem?_eq_none (by simp; omega)]
end
end Go.Bur
namespace Go.Bur
open Go Go.RowKit
section
variable {P : Program}
theorem at_lens {α β : Type} [Enc α] [Enc β] {k : Nat} {g : α → β} {s : α → β → α} (l : Lens α β k g s) (x : α) : At (cells x) k (g x) := by
  have := At.lens l (At.whole x)
  rwa [Nat.zero_add] at this
theorem eqT_struct_run {t : TypeId} {fs : Array Field} (h : P.underlying t = some (.struct fs)) (hp : P.stoodInHeld t = false) (xs ys : Array Value) (k : Nat) (w : World) :
    (Op.equalIn (k + 1) t (.agg xs) (.agg ys)).run P w = (Op.eqFields k xs ys fs.toList).run P w := by
  have hf : P.fieldsOf t = fs := by simp [Program.fieldsOf, h]
  rw [run_equalIn_struct w k t xs ys (by rw [hf]; exact h) hp, hf]
theorem EqT.ok {T : TypeId} {α : Type} [Enc α] [DecidableEq α] {d : Nat} (h : EqT P T α d) (hd : d ≤ 100) (hg : P.eqGuardType P.depth T = false) (hr : Enc.agg α = true) : EqOk P T α :=
  ⟨fun x y k w hk => h x y k w (by omega), hg, hr⟩
end
end Go.Bur
namespace Go.Bur
open Go Go.RowKit
section
variable {P : Program} {n : Nat} {Q : QF} {f : Fr} {w w' : World} {ops : Array Oper} {ty : TypeId} {pos : String} {aft : Array Edge} {g : Option (Nat × Bool)} {d : Option Nat}
variable {ρ : Operand → Value}
theorem wrap_u8 (a : Int) : IntKind.u8.wrap a = ((UInt8.ofInt a).toNat : Int) := by
  rw [IntKind.wrap_u8]
  have : (UInt8.ofInt a).toNat = (a % 256).toNat := by
    unfold UInt8.ofInt
    rw [UInt8.toNat_ofNat']
    omega
  rw [this]
  omega
theorem ofInt_u8 (a : UInt8) : BitVec.ofInt 8 (a.toNat : Int) = a.toBitVec := by
  apply BitVec.eq_of_toNat_eq
  rw [BitVec.toNat_ofInt]
  have := a.toNat_lt
  have e : a.toBitVec.toNat = a.toNat := rfl
  omega
theorem p_sub_u8 {t t' : TypeId} {x y : Operand} {a b : UInt8} (hx : ρ x = val a) (hy : ρ y = val b) : Pur P ρ ⟨d, .binOp .sub t x y t', ty, pos, aft, g⟩ (val (a - b)) := by
  have := p_sub (P := P) (d := d) (ty := ty) (pos := pos) (aft := aft) (g := g) (t := t) (t' := t') hx hy
  rw [IntKind.wrap_u8] at this
  have e : ((a.toNat : Int) - (b.toNat : Int)) % 256 = (((a - b).toNat : Nat) : Int) := by have := a.toNat_lt; have := b.toNat_lt; rw [UInt8.toNat_sub]; omega
  rw [e] at this; exact this
theorem p_and_u8 {t t' : TypeId} {x y : Operand} {a b : UInt8} (hx : ρ x = val a) (hy : ρ y = val b) : Pur P ρ ⟨d, .binOp .and t x y t', ty, pos, aft, g⟩ (val (a &&& b)) :=
  p_bin hx hy guard_int fun w => by
    show (binOp .and t (.int .u8 (a.toNat : Int)) (.int .u8 (b.toNat : Int))).run P w = .ok (.int .u8 ((a &&& b).toNat : Int)) w
    show (pure (.int .u8 (IntKind.u8.wrap ((BitVec.ofInt 8 (a.toNat : Int) &&& BitVec.ofInt 8 (b.toNat : Int)).toNat : Int))) : Sem Value).run P w = _
    rw [ofInt_u8, ofInt_u8, IntKind.wrap_u8]
    have e : (a.toBitVec &&& b.toBitVec).toNat = (a &&& b).toNat := rfl
    have hl := (a &&& b).toNat_lt
    rw [e, show (((a &&& b).toNat : Int) % 256) = ((a &&& b).toNat : Int) by omega]
    rfl
theorem p_or_u8 {t t' : TypeId} {x y : Operand} {a b : UInt8} (hx : ρ x = val a) (hy : ρ y = val b) : Pur P ρ ⟨d, .binOp .or t x y t', ty, pos, aft, g⟩ (val (a ||| b)) :=
  p_bin hx hy guard_int fun w => by
    show (binOp .or t (.int .u8 (a.toNat : Int)) (.int .u8 (b.toNat : Int))).run P w = .ok (.int .u8 ((a ||| b).toNat : Int)) w
    show (pure (.int .u8 (IntKind.u8.wrap ((BitVec.ofInt 8 (a.toNat : Int) ||| BitVec.ofInt 8 (b.toNat : Int)).toNat : Int))) : Sem Value).run P w = _
    rw [ofInt_u8, ofInt_u8, IntKind.wrap_u8]
    have e : (a.toBitVec ||| b.toBitVec).toNat = (a ||| b).toNat := rfl
    have hl := (a ||| b).toNat_lt
    rw [e, show (((a ||| b).toNat : Int) % 256) = ((a ||| b).toNat : Int) by omega]
    rfl
theorem p_shr_u8 {t t' : TypeId} {x y : Operand} {a : UInt8} {yk : IntKind} {s : Nat} (hx : ρ x = val a) (hy : ρ y = .int yk (s : Int)) (hs : s < 8) : Pur P ρ ⟨d, .binOp .shr t x y t', ty, pos, aft, g⟩ (val (a >>> (UInt8.ofNat s))) :=
  p_bin hx hy guard_int fun w => by
    show (binOp .shr t (.int .u8 (a.toNat : Int)) (.int yk (s : Int))).run P w = .ok (.int .u8 ((a >>> (UInt8.ofNat s)).toNat : Int)) w
    have h0 : ¬ ((s : Int) < 0) := by omega
    have hm : min s 8 = s := by omega
    have e : (a.toNat : Int).fdiv (2 ^ s) = ((a >>> (UInt8.ofNat s)).toNat : Int) := by
      rw [UInt8.toNat_shiftRight, Nat.shiftRight_eq_div_pow]
      have : (UInt8.ofNat s).toNat % 8 = s := by rw [UInt8.toNat_ofNat']; omega
      rw [this, Int.fdiv_eq_ediv_of_nonneg _ (by exact Int.le_of_lt (Int.pow_pos (by decide)))]
      push_cast
      rfl
    simp only [binOp, Op.shift, h0, if_false, IntKind.bits, Int.toNat_natCast, hm, e]
    rfl
theorem p_eql_u8 {t t' : TypeId} {x y : Operand} {a b : UInt8} (hx : ρ x = val a) (hy : ρ y = val b) : Pur P ρ ⟨d, .binOp .eql t x y t', ty, pos, aft, g⟩ (.bool (decide (a = b))) := by
  have := p_eql (P := P) (d := d) (ty := ty) (pos := pos) (aft := aft) (g := g) (t := t) (t' := t') hx hy
  have e : ((a.toNat : Int) == (b.toNat : Int)) = decide (a = b) := by rw [Bool.eq_iff_iff, beq_iff_eq, decide_eq_true_eq]; exact ⟨fun h => UInt8.toNat_inj.1 (Int.ofNat.inj h), fun h => by rw [h]⟩
  rw [e] at this; exact this
theorem p_neq_u8 {t t' : TypeId} {x y : Operand} {a b : UInt8} (hx : ρ x = val a) (hy : ρ y = val b) : Pur P ρ ⟨d, .binOp .neq t x y t', ty, pos, aft, g⟩ (.bool (decide (a ≠ b))) := by
  have := p_neq (P := P) (d := d) (ty := ty) (pos := pos) (aft := aft) (g := g) (t := t) (t' := t') hx hy
  have e : ((a.toNat : Int) != (b.toNat : Int)) = decide (a ≠ b) := by rw [Bool.eq_iff_iff, bne_iff_ne, decide_eq_true_eq]; exact ⟨fun h h2 => h (by rw [h2]), fun h h2 => h (UInt8.toNat_inj.1 (Int.ofNat.inj h2))⟩
  rw [e] at this; exact this
theorem p_lss_u8 {t t' : TypeId} {x y : Operand} {a b : UInt8} (hx : ρ x = val a) (hy : ρ y = val b) : Pur P ρ ⟨d, .binOp .lss t x y t', ty, pos, aft, g⟩ (.bool (decide (a < b))) := by
  have := p_lss (P := P) (d := d) (ty := ty) (pos := pos) (aft := aft) (g := g) (t := t) (t' := t') hx hy
  have e : (decide ((a.toNat : Int) < (b.toNat : Int))) = decide (a < b) := by rw [Bool.eq_iff_iff, decide_eq_true_eq, decide_eq_true_eq]; rw [UInt8.lt_iff_toNat_lt]; omega
  rw [e] at this; exact this
theorem p_gtr_u8 {t t' : TypeId} {x y : Operand} {a b : UInt8} (hx : ρ x = val a) (hy : ρ y = val b) : Pur P ρ ⟨d, .binOp .gtr t x y t', ty, pos, aft, g⟩ (.bool (decide (a > b))) := by
  have := p_gtr (P := P) (d := d) (ty := ty) (pos := pos) (aft := aft) (g := g) (t := t) (t' := t') hx hy
  have e : (decide ((a.toNat : Int) > (b.toNat : Int))) = decide (a > b) := by rw [Bool.eq_iff_iff, decide_eq_true_eq, decide_eq_true_eq]; show _ ↔ b < a; rw [UInt8.lt_iff_toNat_lt]; omega
  rw [e] at this; exact this
theorem wrap_u32 (a : Int) : IntKind.u32.wrap a = ((UInt32.ofInt a).toNat : Int) := by
  rw [IntKind.wrap_u32]
  have : (UInt32.ofInt a).toNat = (a % 4294967296).toNat := by
    unfold UInt32.ofInt
    rw [UInt32.toNat_ofNat']
    omega
  rw [this]
  omega
theorem p_add_u32 {t t' : TypeId} {x y : Operand} {a b : UInt32} (hx : ρ x = val a) (hy : ρ y = val b) : Pur P ρ ⟨d, .binOp .add t x y t', ty, pos, aft, g⟩ (val (a + b)) := by
  have := p_add (P := P) (d := d) (ty := ty) (pos := pos) (aft := aft) (g := g) (t := t) (t' := t') hx hy
  rw [IntKind.wrap_u32] at this
  have e : ((a.toNat : Int) + (b.toNat : Int)) % 4294967296 = (((a + b).toNat : Nat) : Int) := by rw [UInt32.toNat_add]; omega
  rw [e] at this; exact this
theorem p_eql_u32 {t t' : TypeId} {x y : Operand} {a b : UInt32} (hx : ρ x = val a) (hy : ρ y = val b) : Pur P ρ ⟨d, .binOp .eql t x y t', ty, pos, aft, g⟩ (.bool (decide (a = b))) := by
  have := p_eql (P := P) (d := d) (ty := ty) (pos := pos) (aft := aft) (g := g) (t := t) (t' := t') hx hy
  have e : ((a.toNat : Int) == (b.toNat : Int)) = decide (a = b) := by rw [Bool.eq_iff_iff, beq_iff_eq, decide_eq_true_eq]; exact ⟨fun h => UInt32.toNat_inj.1 (Int.ofNat.inj h), fun h => by rw [h]⟩
  rw [e] at this; exact this
theorem p_neq_u32 {t t' : TypeId} {x y : Operand} {a b : UInt32} (hx : ρ x = val a) (hy : ρ y = val b) : Pur P ρ ⟨d, .binOp .neq t x y t', ty, pos, aft, g⟩ (.bool (decide (a ≠ b))) := by
  have := p_neq (P := P) (d := d) (ty := ty) (pos := pos) (aft := aft) (g := g) (t := t) (t' := t') hx hy
  have e : ((a.toNat : Int) != (b.toNat : Int)) = decide (a ≠ b) := by rw [Bool.eq_iff_iff, bne_iff_ne, decide_eq_true_eq]; exact ⟨fun h h2 => h (by rw [h2]), fun h h2 => h (UInt32.toNat_inj.1 (Int.ofNat.inj h2))⟩
  rw [e] at this; exact this
theorem p_lss_u32 {t t' : TypeId} {x y : Operand} {a b : UInt32} (hx : ρ x = val a) (hy : ρ y = val b) : Pur P ρ ⟨d, .binOp .lss t x y t', ty, pos, aft, g⟩ (.bool (decide (a < b))) := by
  have := p_lss (P := P) (d := d) (ty := ty) (pos := pos) (aft := aft) (g := g) (t := t) (t' := t') hx hy
  have e : (decide ((a.toNat : Int) < (b.toNat : Int))) = decide (a < b) := by rw [Bool.eq_iff_iff, decide_eq_true_eq, decide_eq_true_eq]; rw [UInt32.lt_iff_toNat_lt]; omega
  rw [e] at this; exact this
theorem p_leq_u32 {t t' : TypeId} {x y : Operand} {a b : UInt32} (hx : ρ x = val a) (hy : ρ y = val b) : Pur P ρ ⟨d, .binOp .leq t x y t', ty, pos, aft, g⟩ (.bool (decide (a ≤ b))) := by
  have := p_leq (P := P) (d := d) (ty := ty) (pos := pos) (aft := aft) (g := g) (t := t) (t' := t') hx hy
  have e : (decide ((a.toNat : Int) ≤ (b.toNat : Int))) = decide (a ≤ b) := by rw [Bool.eq_iff_iff, decide_eq_true_eq, decide_eq_true_eq]; rw [UInt32.le_iff_toNat_le]; omega
  rw [e] at this; exact this
theorem wrap_u64 (a : Int) : IntKind.u64.wrap a = ((UInt64.ofInt a).toNat : Int) := by
  rw [IntKind.wrap_u64]
  have : (UInt64.ofInt a).toNat = (a % 18446744073709551616).toNat := by
    unfold UInt64.ofInt
    rw [UInt64.toNat_ofNat']
    omega
  rw [this]
  omega
theorem ofInt_u64 (a : UInt64) : BitVec.ofInt 64 (a.toNat : Int) = a.toBitVec := by
  apply BitVec.eq_of_toNat_eq
  rw [BitVec.toNat_ofInt]
  have := a.toNat_lt
  have e : a.toBitVec.toNat = a.toNat := rfl
  omega
theorem p_add_u64 {t t' : TypeId} {x y : Operand} {a b : UInt64} (hx : ρ x = val a) (hy : ρ y = val b) : Pur P ρ ⟨d, .binOp .add t x y t', ty, pos, aft, g⟩ (val (a + b)) := by
  have := p_add (P := P) (d := d) (ty := ty) (pos := pos) (aft := aft) (g := g) (t := t) (t' := t') hx hy
  rw [IntKind.wrap_u64] at this
  have e : ((a.toNat : Int) + (b.toNat : Int)) % 18446744073709551616 = (((a + b).toNat : Nat) : Int) := by rw [UInt64.toNat_add]; omega
  rw [e] at this; exact this
theorem p_sub_u64 {t t' : TypeId} {x y : Operand} {a b : UInt64} (hx : ρ x = val a) (hy : ρ y = val b) : Pur P ρ ⟨d, .binOp .sub t x y t', ty, pos, aft, g⟩ (val (a - b)) := by
  have := p_sub (P := P) (d := d) (ty := ty) (pos := pos) (aft := aft) (g := g) (t := t) (t' := t') hx hy
  rw [IntKind.wrap_u64] at this
  have e : ((a.toNat : Int) - (b.toNat : Int)) % 18446744073709551616 = (((a - b).toNat : Nat) : Int) := by have := a.toNat_lt; have := b.toNat_lt; rw [UInt64.toNat_sub]; omega
  rw [e] at this; exact this
theorem p_quo_u64 {t t' : TypeId} {x y : Operand} {a b : UInt64} (hx : ρ x = val a) (hy : ρ y = val b) (hb : b ≠ 0) : Pur P ρ ⟨d, .binOp .quo t x y t', ty, pos, aft, g⟩ (val (a / b)) := by
  have hb' : (b.toNat : Int) ≠ 0 := fun h => hb (UInt64.toNat_inj.1 (by simpa using h))
  have := p_quo (P := P) (d := d) (ty := ty) (pos := pos) (aft := aft) (g := g) (t := t) (t' := t') hx hy hb'
  rw [IntKind.wrap_u64] at this
  have e : ((a.toNat : Int).tdiv (b.toNat : Int)) % 18446744073709551616 = (((a / b).toNat : Nat) : Int) := by
    rw [UInt64.toNat_div, Int.tdiv_eq_ediv_of_nonneg (by omega)]
    have h3 : ((a.toNat : Int) / (b.toNat : Int)) = ((a.toNat / b.toNat : Nat) : Int) := by simp
    rw [h3]
    have h1 := a.toNat_lt
    have h2 : a.toNat / b.toNat ≤ a.toNat := Nat.div_le_self _ _
    generalize a.toNat / b.toNat = q at *
    omega
  rw [e] at this; exact this
theorem p_rem_u64 {t t' : TypeId} {x y : Operand} {a b : UInt64} (hx : ρ x = val a) (hy : ρ y = val b) (hb : b ≠ 0) : Pur P ρ ⟨d, .binOp .rem t x y t', ty, pos, aft, g⟩ (val (a % b)) := by
  have hb' : (b.toNat : Int) ≠ 0 := fun h => hb (UInt64.toNat_inj.1 (by simpa using h))
  have := p_rem (P := P) (d := d) (ty := ty) (pos := pos) (aft := aft) (g := g) (t := t) (t' := t') hx hy hb'
  have e : ((a.toNat : Int).tmod (b.toNat : Int)) = (((a % b).toNat : Nat) : Int) := by
    rw [UInt64.toNat_mod, Int.tmod_eq_emod_of_nonneg (by omega), ← Int.natCast_emod]
  rw [e] at this; exact this
theorem p_and_u64 {t t' : TypeId} {x y : Operand} {a b : UInt64} (hx : ρ x = val a) (hy : ρ y = val b) : Pur P ρ ⟨d, .binOp .and t x y t', ty, pos, aft, g⟩ (val (a &&& b)) :=
  p_bin hx hy guard_int fun w => by
    show (binOp .and t (.int .u64 (a.toNat : Int)) (.int .u64 (b.toNat : Int))).run P w = .ok (.int .u64 ((a &&& b).toNat : Int)) w
    show (pure (.int .u64 (IntKind.u64.wrap ((BitVec.ofInt 64 (a.toNat : Int) &&& BitVec.ofInt 64 (b.toNat : Int)).toNat : Int))) : Sem Value).run P w = _
    rw [ofInt_u64, ofInt_u64, IntKind.wrap_u64]
    have e : (a.toBitVec &&& b.toBitVec).toNat = (a &&& b).toNat := rfl
    have hl := (a &&& b).toNat_lt
    rw [e, show (((a &&& b).toNat : Int) % 18446744073709551616) = ((a &&& b).toNat : Int) by omega]
    rfl
theorem p_or_u64 {t t' : TypeId} {x y : Operand} {a b : UInt64} (hx : ρ x = val a) (hy : ρ y = val b) : Pur P ρ ⟨d, .binOp .or t x y t', ty, pos, aft, g⟩ (val (a ||| b)) :=
  p_bin hx hy guard_int fun w => by
    show (binOp .or t (.int .u64 (a.toNat : Int)) (.int .u64 (b.toNat : Int))).run P w = .ok (.int .u64 ((a ||| b).toNat : Int)) w
    show (pure (.int .u64 (IntKind.u64.wrap ((BitVec.ofInt 64 (a.toNat : Int) ||| BitVec.ofInt 64 (b.toNat : Int)).toNat : Int))) : Sem Value).run P w = _
    rw [ofInt_u64, ofInt_u64, IntKind.wrap_u64]
    have e : (a.toBitVec ||| b.toBitVec).toNat = (a ||| b).toNat := rfl
    have hl := (a ||| b).toNat_lt
    rw [e, show (((a ||| b).toNat : Int) % 18446744073709551616) = ((a ||| b).toNat : Int) by omega]
    rfl
theorem p_shl_u64 {t t' : TypeId} {x y : Operand} {a : UInt64} {yk : IntKind} {s : Nat} (hx : ρ x = val a) (hy : ρ y = .int yk (s : Int)) (hs : s < 64) : Pur P ρ ⟨d, .binOp .shl t x y t', ty, pos, aft, g⟩ (val (a <<< (UInt64.ofNat s))) :=
  p_bin hx hy guard_int fun w => by
    show (binOp .shl t (.int .u64 (a.toNat : Int)) (.int yk (s : Int))).run P w = .ok (.int .u64 ((a <<< (UInt64.ofNat s)).toNat : Int)) w
    have h0 : ¬ ((s : Int) < 0) := by omega
    have hm : min s 64 = s := by omega
    have e : ((a.toNat : Int) * 2 ^ s) % 18446744073709551616 = ((a <<< (UInt64.ofNat s)).toNat : Int) := by
      rw [UInt64.toNat_shiftLeft, Nat.shiftLeft_eq]
      have : (UInt64.ofNat s).toNat % 64 = s := by rw [UInt64.toNat_ofNat']; omega
      rw [this]
      rw [Int.natCast_emod, Int.natCast_mul, Int.natCast_pow]
      rfl
    simp only [binOp, Op.shift, h0, if_false, IntKind.bits, Int.toNat_natCast, hm, IntKind.wrap_u64, e]
    rfl
theorem p_shr_u64 {t t' : TypeId} {x y : Operand} {a : UInt64} {yk : IntKind} {s : Nat} (hx : ρ x = val a) (hy : ρ y = .int yk (s : Int)) (hs : s < 64) : Pur P ρ ⟨d, .binOp .shr t x y t', ty, pos, aft, g⟩ (val (a >>> (UInt64.ofNat s))) :=
  p_bin hx hy guard_int fun w => by
    show (binOp .shr t (.int .u64 (a.toNat : Int)) (.int yk (s : Int))).run P w = .ok (.int .u64 ((a >>> (UInt64.ofNat s)).toNat : Int)) w
    have h0 : ¬ ((s : Int) < 0) := by omega
    have hm : min s 64 = s := by omega
    have e : (a.toNat : Int).fdiv (2 ^ s) = ((a >>> (UInt64.ofNat s)).toNat : Int) := by
      rw [UInt64.toNat_shiftRight, Nat.shiftRight_eq_div_pow]
      have : (UInt64.ofNat s).toNat % 64 = s := by rw [UInt64.toNat_ofNat']; omega
      rw [this, Int.fdiv_eq_ediv_of_nonneg _ (by exact Int.le_of_lt (Int.pow_pos (by decide)))]
      push_cast
      rfl
    simp only [binOp, Op.shift, h0, if_false, IntKind.bits, Int.toNat_natCast, hm, e]
    rfl
theorem p_eql_u64 {t t' : TypeId} {x y : Operand} {a b : UInt64} (hx : ρ x = val a) (hy : ρ y = val b) : Pur P ρ ⟨d, .binOp .eql t x y t', ty, pos, aft, g⟩ (.bool (decide (a = b))) := by
  have := p_eql (P := P) (d := d) (ty := ty) (pos := pos) (aft := aft) (g := g) (t := t) (t' := t') hx hy
  have e : ((a.toNat : Int) == (b.toNat : Int)) = decide (a = b) := by rw [Bool.eq_iff_iff, beq_iff_eq, decide_eq_true_eq]; exact ⟨fun h => UInt64.toNat_inj.1 (Int.ofNat.inj h), fun h => by rw [h]⟩
  rw [e] at this; exact this
theorem p_lss_u64 {t t' : TypeId} {x y : Operand} {a b : UInt64} (hx : ρ x = val a) (hy : ρ y = val b) : Pur P ρ ⟨d, .binOp .lss t x y t', ty, pos, aft, g⟩ (.bool (decide (a < b))) := by
  have := p_lss (P := P) (d := d) (ty := ty) (pos := pos) (aft := aft) (g := g) (t := t) (t' := t') hx hy
  have e : (decide ((a.toNat : Int) < (b.toNat : Int))) = decide (a < b) := by rw [Bool.eq_iff_iff, decide_eq_true_eq, decide_eq_true_eq]; rw [UInt64.lt_iff_toNat_lt]; omega
  rw [e] at this; exact this
theorem p_leq_u64 {t t' : TypeId} {x y : Operand} {a b : UInt64} (hx : ρ x = val a) (hy : ρ y = val b) : Pur P ρ ⟨d, .binOp .leq t x y t', ty, pos, aft, g⟩ (.bool (decide (a ≤ b))) := by
  have := p_leq (P := P) (d := d) (ty := ty) (pos := pos) (aft := aft) (g := g) (t := t) (t' := t') hx hy
  have e : (decide ((a.toNat : Int) ≤ (b.toNat : Int))) = decide (a ≤ b) := by rw [Bool.eq_iff_iff, decide_eq_true_eq, decide_eq_true_eq]; rw [UInt64.le_iff_toNat_le]; omega
  rw [e] at this; exact this
theorem p_gtr_u64 {t t' : TypeId} {x y : Operand} {a b : UInt64} (hx : ρ x = val a) (hy : ρ y = val b) : Pur P ρ ⟨d, .binOp .gtr t x y t', ty, pos, aft, g⟩ (.bool (decide (a > b))) := by
  have := p_gtr (P := P) (d := d) (ty := ty) (pos := pos) (aft := aft) (g := g) (t := t) (t' := t') hx hy
  have e : (decide ((a.toNat : Int) > (b.toNat : Int))) = decide (a > b) := by rw [Bool.eq_iff_iff, decide_eq_true_eq, decide_eq_true_eq]; show _ ↔ b < a; rw [UInt64.lt_iff_toNat_lt]; omega
  rw [e] at this; exact this
theorem p_conv {s t : TypeId} {x : Operand} {k k' kk : IntKind} {a : Int} (hs : P.underlying s = some (.int kk)) (ht : P.underlying t = some (.int k')) (hx : ρ x = .int k a) :
    Pur P ρ ⟨d, .convert s t x, ty, pos, aft, g⟩ (.int k' (k'.wrap a)) := fun w => by
  simp only [Runs, execOp, hx]
  refine run_v ?_
  simp [convert, Sem.run_bind, run_underlying hs w, run_underlying ht w, Conv.intToInt]
theorem p_conv_i {s t : TypeId} {x : Operand} {k kk : IntKind} {a : Int} (hs : P.underlying s = some (.int kk)) (ht : P.underlying t = some (.int .i64)) (hx : ρ x = .int k a) (h : -9223372036854775808 ≤ a ∧ a ≤ 9223372036854775807) :
    Pur P ρ ⟨d, .convert s t x, ty, pos, aft, g⟩ (vi a) := by have := p_conv (P := P) (d := d) (ty := ty) (pos := pos) (aft := aft) (g := g) hs ht hx; rwa [wrap64_in h.1 h.2] at this
theorem p_conv_u8 {s t : TypeId} {x : Operand} {k kk : IntKind} {a : Int} (hs : P.underlying s = some (.int kk)) (ht : P.underlying t = some (.int .u8)) (hx : ρ x = .int k a) :
    Pur P ρ ⟨d, .convert s t x, ty, pos, aft, g⟩ (val (UInt8.ofInt a)) := by have := p_conv (P := P) (d := d) (ty := ty) (pos := pos) (aft := aft) (g := g) hs ht hx; rwa [wrap_u8] at this
theorem p_conv_u8_i {s t : TypeId} {x : Operand} {kk : IntKind} {a : UInt8} (hs : P.underlying s = some (.int kk)) (ht : P.underlying t = some (.int .i64)) (hx : ρ x = val a) :
    Pur P ρ ⟨d, .convert s t x, ty, pos, aft, g⟩ (vi a.toNat) := p_conv_i hs ht hx (by have := a.toNat_lt; omega)
theorem p_conv_u32 {s t : TypeId} {x : Operand} {k kk : IntKind} {a : Int} (hs : P.underlying s = some (.int kk)) (ht : P.underlying t = some (.int .u32)) (hx : ρ x = .int k a) :
    Pur P ρ ⟨d, .convert s t x, ty, pos, aft, g⟩ (val (UInt32.ofInt a)) := by have := p_conv (P := P) (d := d) (ty := ty) (pos := pos) (aft := aft) (g := g) hs ht hx; rwa [wrap_u32] at this
theorem p_conv_u64 {s t : TypeId} {x : Operand} {k kk : IntKind} {a : Int} (hs : P.underlying s = some (.int kk)) (ht : P.underlying t = some (.int .u64)) (hx : ρ x = .int k a) :
    Pur P ρ ⟨d, .convert s t x, ty, pos, aft, g⟩ (val (UInt64.ofInt a)) := by have := p_conv (P := P) (d := d) (ty := ty) (pos := pos) (aft := aft) (g := g) hs ht hx; rwa [wrap_u64] at this
end
end Go.Bur
namespace Go.Bur
open Go Go.RowKit
section
variable {P : Program} {n : Nat} {Q : QF} {f : Fr} {w w' : World} {ops : Array Oper} {rest : List Oper} {ty : TypeId} {pos : String} {aft : Array Edge} {g : Option (Nat × Bool)} {d : Option Nat}
variable {ρ : Operand → Value} {W0 : World} {V : PH} {L : List (Nat × Obj)} {S : World → Prop} {m i : Nat} {t : Plan}
def plc (P : Program) (T : TypeId) (k : Nat) : Option (Nat × Nat) :=
  match P.underlying T with
  | some (.struct fs) => (fs[k]?).bind fun f : Field => (P.info? f.type).map fun i => (f.offset, i.size)
  | _ => none
theorem fill_splice {cs : List Value} {o : Nat} {l : List Value} (h : o + l.length ≤ cs.length) :
    (l.toArray.zipIdx.foldl (fun (cs : Array Value) (x : Value × Nat) => cs.setIfInBounds (o + x.2) x.1) cs.toArray) = (cs.take o ++ l ++ cs.drop (o + l.length)).toArray := by
  have key : ∀ (l : List Value) (j : Nat) (acc : List Value), o + j + l.length ≤ acc.length →
      ((l.zipIdx j).foldl (fun (cs : Array Value) (x : Value × Nat) => cs.setIfInBounds (o + x.2) x.1) acc.toArray) = (acc.take (o + j) ++ l ++ acc.drop (o + j + l.length)).toArray := by
    intro l
    induction l with
    | nil => intro j acc _; simp
    | cons v l ih =>
      intro j acc hj
      simp only [List.length_cons] at hj
      rw [List.zipIdx_cons, List.foldl_cons]
      have e : acc.toArray.setIfInBounds (o + j) v = (acc.set (o + j) v).toArray := by simp
      rw [e, ih (j + 1) _ (by simp; omega)]
      congr 1
      rw [show o + (j + 1) = (o + j) + 1 by omega, List.take_succ_eq_append_getElem (by simp; omega), List.take_set_of_le (Nat.le_refl _), List.getElem_set_self, List.drop_set_of_lt (by omega)]
      simp [Nat.add_assoc, Nat.add_comm 1]
  have := key l 0 cs (by simpa using h)
  rw [← Array.foldl_toList, Array.toList_zipIdx]
  simpa using this
inductive Filled (P : Program) (T : TypeId) {α : Type} [Enc α] : α → List (Nat × Value) → α → Prop
  | nil (a : α) : Filled P T a [] a
  | cons {β : Type} [Enc β] {k off : Nat} {gt : α → β} {st : α → β → α} {a x : α} {y : β} {rest : List (Nat × Value)} (hp : plc P T k = some (off, Enc.size β)) (hl : Lens α β off gt st)
      (hr : Filled P T (st a y) rest x) : Filled P T a ((k, val y) :: rest) x
theorem Filled.run {T : TypeId} {α : Type} [Enc α] {a x : α} {parts : List (Nat × Value)} (h : Filled P T a parts x) :
    Instr.fill (plc P T) (cells a).toArray parts = some (cells x).toArray := by
  induction h with
  | nil a => rfl
  | @cons β _ k off gt st a x y rest hp hl _ ih =>
    simp only [Instr.fill, hp]
    have h1 : (val y).cells.size = Enc.size β := Enc.hsize y
    have hle : ¬ (off + Enc.size β > (cells a).toArray.size) := by have := hl.le; simp [cells_length]; omega
    simp only [h1, ne_eq, not_true_eq_false, decide_false, Bool.false_or, hle, Bool.false_eq_true, if_false]
    have e : (val y).cells = (cells y).toArray := by simp [cells]
    rw [e]
    have := fill_splice (cs := cells a) (o := off) (l := cells y) (by have := hl.le; simp [cells_length]; omega)
    rw [this, cells_length, hl.set]
    exact ih
theorem run_places {T : TypeId} {fs : Array Field} (hu : P.underlying T = some (.struct fs)) (hs : (fs.all fun f : Field => (P.info? f.type).isSome) = true) (w : World) :
    ∃ A : Array (Nat × Nat), (fs.mapM (m := Sem) (β := Nat × Nat) fun f : Field => do pure (f.offset, ← sizeOf f.type)).run P w = .ok A w ∧ ∀ k : Nat, A[k]? = plc P T k := by
  have key : ∀ l : List Field, (∀ f ∈ l, (P.info? f.type).isSome = true) →
      ∃ A : List (Nat × Nat), (l.mapM (m := Sem) (β := Nat × Nat) fun f : Field => do pure (f.offset, ← sizeOf f.type)).run P w = .ok A w ∧ ∀ k : Nat, A[k]? = (l[k]?).bind fun f : Field => (P.info? f.type).map fun i => (f.offset, i.size) := by
    intro l
    induction l with
    | nil => intro _; exact ⟨[], by simp, fun k => by simp⟩
    | cons f l ih =>
      intro h
      obtain ⟨A, hA, hk⟩ := ih fun f hf => h f (List.mem_cons_of_mem _ hf)
      obtain ⟨i, hi⟩ := Option.isSome_iff_exists.1 (h f (by simp))
      refine ⟨(f.offset, i.size) :: A, ?_, fun k => ?_⟩
      · rw [List.mapM_cons, Sem.run_bind]
        have : (do pure (f.offset, ← sizeOf f.type) : Sem (Nat × Nat)).run P w = .ok (f.offset, i.size) w := by simp [Sem.run_bind, sizeOf, typeInfo, hi]
        rw [this]
        simp only [Result.andThen_ok]
        rw [Sem.run_bind, hA]
        simp
      · cases k with
        | zero => simp [hi]
        | succ k => simpa using hk k
  obtain ⟨A, hA, hk⟩ := key fs.toList (fun f hf => Array.all_eq_true_iff_forall_mem.1 hs f (by simpa using hf))
  refine ⟨A.toArray, ?_, fun k => ?_⟩
  · have e : fs = fs.toList.toArray := by simp
    rw [e, List.mapM_toArray]
    rw [show (List.toArray <$> (fs.toList.mapM fun f : Field => (do pure (f.offset, ← sizeOf f.type) : Sem (Nat × Nat))) : Sem (Array (Nat × Nat))) = (do let l ← fs.toList.mapM (fun f : Field => (do pure (f.offset, ← sizeOf f.type) : Sem (Nat × Nat))); pure l.toArray) from by rw [map_eq_pure_bind]]
    rw [Sem.run_bind, hA]
    simp
  · unfold plc
    rw [hu]
    simpa using hk k
theorem p_build {T : TypeId} {α : Type} [Enc α] {fs : Array Field} {parts : Array (Nat × Operand)} {ps : List (Nat × Value)} {z x : α} (hu : P.underlying T = some (.struct fs)) (hs : (fs.all fun f : Field => (P.info? f.type).isSome) = true)
    (hz : ZeroOk P T z) (hr : Enc.agg α = true) (hp : (parts.map fun (i, x) => (i, ρ x)) = ps.toArray) (hf : Filled P T z ps x) : Pur P ρ ⟨d, .build T parts, ty, pos, aft, g⟩ (val x) := fun w => by
  simp only [Runs, execOp]
  refine run_v ?_
  obtain ⟨A, hA, hk⟩ := run_places hu hs w
  have hff : Instr.fill (A[·]?) (cells z).toArray ps = some (cells x).toArray := by
    have : (fun k => A[k]?) = plc P T := funext hk
    rw [this]; exact hf.run
  simp only [Instr.build, Sem.run_bind, hz w, Result.andThen_ok, run_underlying hu w, hA, hp]
  have e : (val z).cells = (cells z).toArray := by simp [cells]
  simp only [e, hff, Sem.run_pure]
  congr 1
  rw [Enc.hagg x, hr]; simp [cells]
theorem p_min {x y : Operand} {T T' tt : TypeId} {k : IntKind} {a b : Int} (hx : ρ x = .int k a) (hy : ρ y = .int k b) :
    Pur P ρ ⟨d, .call ⟨.builtin .min, #[x, y], #[T, T']⟩, tt, pos, aft, g⟩ (.int k (min a b)) := fun w => by
  simp only [Runs, execOp, resolve, invoke, builtin, Sem.run_bind, Sem.run_pure, Result.andThen_ok, List.map_toArray, List.map_cons, List.map_nil, hx, hy]
  have : (if b < a then b else a) = min a b := by omega
  simp [Builtin.min_, Builtin.min2, this]
theorem p_max {x y : Operand} {T T' tt : TypeId} {k : IntKind} {a b : Int} (hx : ρ x = .int k a) (hy : ρ y = .int k b) :
    Pur P ρ ⟨d, .call ⟨.builtin .max, #[x, y], #[T, T']⟩, tt, pos, aft, g⟩ (.int k (max a b)) := fun w => by
  simp only [Runs, execOp, resolve, invoke, builtin, Sem.run_bind, Sem.run_pure, Result.andThen_ok, List.map_toArray, List.map_cons, List.map_nil, hx, hy]
  have : (if b > a then b else a) = max a b := by omega
  simp [Builtin.max_, Builtin.max2, this]
theorem min_u64 (a b : UInt64) : min (a.toNat : Int) (b.toNat : Int) = ((min a b).toNat : Int) := by
  by_cases h : a ≤ b
  · rw [show min a b = a from if_pos h]
    have := UInt64.le_iff_toNat_le.1 h
    omega
  · rw [show min a b = b from if_neg h]
    have : ¬ a.toNat ≤ b.toNat := fun h2 => h (UInt64.le_iff_toNat_le.2 h2)
    omega
theorem p_min_u64 {x y : Operand} {T T' tt : TypeId} {a b : UInt64} (hx : ρ x = val a) (hy : ρ y = val b) :
    Pur P ρ ⟨d, .call ⟨.builtin .min, #[x, y], #[T, T']⟩, tt, pos, aft, g⟩ (val (min a b)) := by
  have := p_min (P := P) (d := d) (tt := tt) (pos := pos) (aft := aft) (g := g) (T := T) (T' := T') hx hy
  rw [min_u64] at this; exact this
theorem p_shl64 {t t' : TypeId} {x y : Operand} {yk : IntKind} {a : Int} {s : Nat} (hx : ρ x = vi a) (hy : ρ y = .int yk (s : Int)) (hs : s < 64) (h : -9223372036854775808 ≤ a * 2 ^ s ∧ a * 2 ^ s ≤ 9223372036854775807) :
    Pur P ρ ⟨d, .binOp .shl t x y t', ty, pos, aft, g⟩ (vi (a * 2 ^ s)) :=
  p_bin hx hy guard_int fun w => by
    have h0 : ¬ ((s : Int) < 0) := by omega
    have hm : min s 64 = s := by omega
    show (Op.shift .shl .i64 a yk (s : Int)).run P w = _
    simp only [Op.shift, h0, if_false, IntKind.bits, Int.toNat_natCast, hm, wrap64_in h.1 h.2]
    rfl
theorem p_shr64 {t t' : TypeId} {x y : Operand} {yk : IntKind} {a : Int} {s : Nat} (hx : ρ x = vi a) (hy : ρ y = .int yk (s : Int)) (hs : s < 64) :
    Pur P ρ ⟨d, .binOp .shr t x y t', ty, pos, aft, g⟩ (vi (a / 2 ^ s)) :=
  p_bin hx hy guard_int fun w => by
    have h0 : ¬ ((s : Int) < 0) := by omega
    have hm : min s 64 = s := by omega
    show (Op.shift .shr .i64 a yk (s : Int)).run P w = _
    simp only [Op.shift, h0, if_false, IntKind.bits, Int.toNat_natCast, hm]
    rw [Int.fdiv_eq_ediv_of_nonneg _ (by exact Int.le_of_lt (Int.pow_pos (by decide)))]
    rfl
theorem bits64_nat (a b : Nat) (ha : a < 4611686018427387904) (hb : b < 4611686018427387904) :
    IntKind.i64.wrap ((BitVec.ofInt 64 (a : Int) ||| BitVec.ofInt 64 (b : Int)).toNat : Int) = ((a ||| b : Nat) : Int) ∧ IntKind.i64.wrap ((BitVec.ofInt 64 (a : Int) &&& BitVec.ofInt 64 (b : Int)).toNat : Int) = ((a &&& b : Nat) : Int) := by
  have e : ∀ c : Nat, c < 4611686018427387904 → (BitVec.ofInt 64 (c : Int)).toNat = c := fun c hc => by rw [BitVec.toNat_ofInt]; omega
  have h1 : a ||| b < 2 ^ 62 := Nat.or_lt_two_pow ha hb
  have h2 : a &&& b < 2 ^ 62 := Nat.and_lt_two_pow a hb
  constructor
  · rw [BitVec.toNat_or, e a ha, e b hb]
    exact wrap64_in (by omega) (by omega)
  · rw [BitVec.toNat_and, e a ha, e b hb]
    exact wrap64_in (by omega) (by omega)
theorem p_or64 {t t' : TypeId} {x y : Operand} {a b : Nat} (hx : ρ x = vi a) (hy : ρ y = vi b) (ha : a < 4611686018427387904) (hb : b < 4611686018427387904) :
    Pur P ρ ⟨d, .binOp .or t x y t', ty, pos, aft, g⟩ (vi ((a ||| b : Nat) : Int)) :=
  p_bin hx hy guard_int fun w => by
    show (pure (.int .i64 (IntKind.i64.wrap ((BitVec.ofInt 64 (a : Int) ||| BitVec.ofInt 64 (b : Int)).toNat : Int))) : Sem Value).run P w = _
    rw [(bits64_nat a b ha hb).1]; rfl
theorem p_and64 {t t' : TypeId} {x y : Operand} {a b : Nat} (hx : ρ x = vi a) (hy : ρ y = vi b) (ha : a < 4611686018427387904) (hb : b < 4611686018427387904) :
    Pur P ρ ⟨d, .binOp .and t x y t', ty, pos, aft, g⟩ (vi ((a &&& b : Nat) : Int)) :=
  p_bin hx hy guard_int fun w => by
    show (pure (.int .i64 (IntKind.i64.wrap ((BitVec.ofInt 64 (a : Int) &&& BitVec.ofInt 64 (b : Int)).toNat : Int))) : Sem Value).run P w = _
    rw [(bits64_nat a b ha hb).2]; rfl
theorem flat_replicate_get {α : Type} [Enc α] (z : α) (k j : Nat) (h : j < k * Enc.size α) : (flat (List.replicate k z))[j]? = (cells z)[j % Enc.size α]? := by
  induction k generalizing j with
  | zero => simp at h
  | succ k ih =>
    rw [List.replicate_succ, flat_cons]
    rw [Nat.add_mul, Nat.one_mul] at h
    by_cases hj : j < Enc.size α
    · rw [List.getElem?_append_left (by rw [cells_length]; exact hj), Nat.mod_eq_of_lt hj]
    · rw [List.getElem?_append_right (by rw [cells_length]; omega), cells_length, ih _ (by omega), Nat.mod_eq_sub_mod (a := j) (b := Enc.size α) (by omega)]
end
end Go.Bur
namespace Go.Bur
open Go Go.RowKit
section
variable {P : Program} {n : Nat} {Q : QF} {f : Fr} {w w' : World} {ops : Array Oper} {rest : List Oper} {ty : TypeId} {pos : String} {aft : Array Edge} {g : Option (Nat × Bool)} {d : Option Nat}
variable {ρ : Operand → Value} {W0 : World} {V : PH} {L : List (Nat × Obj)} {S : World → Prop} {m i : Nat} {t : Plan}
theorem p_addStr {t t' : TypeId} {x y : Operand} {a b : Str} (hx : ρ x = vs a) (hy : ρ y = vs b) (h : a.length + b.length ≤ 9223372036854775807) :
    Pur P ρ ⟨d, .binOp .add t x y t', ty, pos, aft, g⟩ (vs (a ++ b)) := p_bin hx hy guard_str fun w => by
  have h1 : ¬ (((a.length + b.length : Nat) : Int) > IntKind.i64.max) := by
    have : IntKind.i64.max = 9223372036854775807 := by decide
    omega
  have hs : ∀ a : Str, (ByteArray.mk a.toArray).size = a.length := fun a => by simp [ByteArray.size]
  show (Op.stringOp .add _ _).run P w = _
  unfold Op.stringOp
  simp only [hs, h1, if_false, Sem.run_pure]
  congr 2
theorem bytes_toList (a : Str) : (ByteArray.mk a.toArray).toList = a := by
  simp
theorem p_eqlStr {t t' : TypeId} {x y : Operand} {a b : Str} (hx : ρ x = vs a) (hy : ρ y = vs b) :
    Pur P ρ ⟨d, .binOp .eql t x y t', ty, pos, aft, g⟩ (.bool (decide (a = b))) := p_bin hx hy guard_str fun w => by
  show (Op.stringOp .eql _ _).run P w = _
  unfold Op.stringOp
  simp only [bytes_toList, Sem.run_pure]
  by_cases h : a = b <;> simp [h]
theorem p_neqStr {t t' : TypeId} {x y : Operand} {a b : Str} (hx : ρ x = vs a) (hy : ρ y = vs b) :
    Pur P ρ ⟨d, .binOp .neq t x y t', ty, pos, aft, g⟩ (.bool (decide (a ≠ b))) := p_bin hx hy guard_str fun w => by
  show (Op.stringOp .neq _ _).run P w = _
  unfold Op.stringOp
  simp only [bytes_toList, Sem.run_pure]
  by_cases h : a = b <;> simp [h]
theorem p_lssStr {t t' : TypeId} {x y : Operand} {a b : Str} (hx : ρ x = vs a) (hy : ρ y = vs b) :
    Pur P ρ ⟨d, .binOp .lss t x y t', ty, pos, aft, g⟩ (.bool (Op.bytesLess a b)) := p_bin hx hy guard_str fun w => by
  show (Op.stringOp .lss _ _).run P w = _
  unfold Op.stringOp
  simp only [bytes_toList, Sem.run_pure]
theorem p_geqStr {t t' : TypeId} {x y : Operand} {a b : Str} (hx : ρ x = vs a) (hy : ρ y = vs b) :
    Pur P ρ ⟨d, .binOp .geq t x y t', ty, pos, aft, g⟩ (.bool (!Op.bytesLess a b)) := p_bin hx hy guard_str fun w => by
  show (Op.stringOp .geq _ _).run P w = _
  unfold Op.stringOp
  simp only [bytes_toList, Sem.run_pure]
theorem p_indexStr {t : TypeId} {x y : Operand} {k : IntKind} {a : Str} {j : Int} (ht : P.underlying t = some .string) (hx : ρ x = vs a) (hy : ρ y = .int k j) (h : 0 ≤ j ∧ j < a.length) :
    Pur P ρ ⟨d, .index t x y, ty, pos, aft, g⟩ (v8 (a[j.toNat]'(by omega))) := fun w => by
  simp only [Runs, execOp, hx, hy]
  refine run_v ?_
  have hj : j.toNat < a.length := by omega
  have hg : (ByteArray.mk a.toArray)[j.toNat]? = some a[j.toNat] := by
    have hs : j.toNat < (ByteArray.mk a.toArray).size := by simpa [ByteArray.size] using hj
    rw [getElem?_pos (ByteArray.mk a.toArray) j.toNat hs]; rfl
  simp [Instr.index, asIntOf, Sem.run_bind, run_underlying ht w, h.1, hg]
theorem p_neqB {t t' : TypeId} {x y : Operand} {a b : Bool} (hT : P.underlying t = some .bool) (hx : ρ x = .bool a) (hy : ρ y = .bool b) :
    Pur P ρ ⟨d, .binOp .neq t x y t', ty, pos, aft, g⟩ (.bool (a != b)) := p_bin hx hy guard_bool fun w => by
  have : (Op.equal t (.bool a) (.bool b)).run P w = .ok (a == b) w := by
    unfold Op.equal Op.maxDepth
    obtain ⟨k, hk⟩ : ∃ k, 10000 = k + 1 := ⟨9999, rfl⟩
    rw [hk]
    simp [Op.equalIn, Sem.run_bind, run_underlying hT w]
  simp [binOp, Sem.run_bind, this]; cases a <;> cases b <;> rfl
theorem made_flat {α : Type} [Enc α] (z : α) (k : Nat) : madeCells (val z).cells (k * Enc.size α) = (flat (List.replicate k z)).toArray := by
  apply Array.ext'
  apply List.ext_getElem?
  intro j
  simp only [madeCells, List.toList_toArray, Array.toList_map, Array.toList_range, List.getElem?_map]
  by_cases hj : j < k * Enc.size α
  · rw [List.getElem?_range hj, flat_replicate_get z k j hj]
    have hs : (val z).cells.size = Enc.size α := Enc.hsize z
    have hp : 0 < Enc.size α := by
      rcases Nat.eq_zero_or_pos (Enc.size α) with h | h
      · rw [h] at hj; simp at hj
      · exact h
    have hm : j % Enc.size α < (val z).cells.size := by rw [hs]; exact Nat.mod_lt _ hp
    have hm' : j % Enc.size α < (cells z).length := by rw [cells_length]; exact Nat.mod_lt _ hp
    simp only [Option.map_some, hs]
    rw [getElem!_pos (val z).cells _ hm, List.getElem?_eq_getElem hm']
    simp [cells]
  · rw [List.getElem?_eq_none (l := List.range _) (by simp; omega), List.getElem?_eq_none (l := flat _) (by rw [flat_length]; simp; omega)]; rfl
theorem l_makeSlice {α : Type} [Enc α] {t E bytes d : Nat} {x y : Operand} {z : α} {k : Int} (hE : ElemOk P t E α bytes) (hz : ∃ i, P.info? E = some i ∧ i.zero = some (val z) ∧ i.bytes = bytes) (hx : ev f x = vi k) (hy : ev f y = vi k) (h0 : 0 ≤ k)
    (hb : bytes * k.toNat ≤ 140737488355328) (hk : k ≤ 9223372036854775807) (hs : St W0 V w L) (hd : d < n)
    (h : ∀ b w', St W0 V w' ((b, arr E (List.replicate k.toNat z) []) :: L) → LW P n ops Q rest (upd f d (.slice (some ⟨b, 0, none⟩) k.toNat k.toNat)) w') :
    LW P n ops Q (⟨some d, .makeSlice t x y, ty, pos, aft, none⟩ :: rest) f w := by
  obtain ⟨i, hi, hzz, hby⟩ := hz
  have hsz : i.size = Enc.size α := by have := hE.ty.size; simpa [hi] using this
  have hb' : (bytes : Int) * k ≤ 281474976710656 := by
    have e : (k.toNat : Int) = k := by omega
    rw [← e, ← Int.natCast_mul]; omega
  have hr := run_make (P := P) w t E i (val z) hE.sl hi hzz .i64 .i64 k k h0 (Int.le_refl _) (by rw [hby]; exact hb') hk
  rw [hsz, made_flat] at hr
  refine l_run (w' := w.alloc (arr E (List.replicate k.toNat z) [])) (v := .slice (some ⟨w.heap.size, 0, none⟩) k.toNat k.toNat) ?_ hd (h _ _ (hs.alloc _))
  simp only [Runs, execOp, hx, hy]
  refine run_v ?_
  rw [hr]; simp [arr]
def slA (a : Option Addr) (m l size : Nat) : Option Addr := if m = l then a else a.map (·.add (l * size))
theorem Sl.slice {α : Type} [Enc α] {T : TypeId} {a : Option Addr} {cap l h m : Nat} {xs : List α} (hs : Sl V T a cap xs) (hl : l ≤ h) (hh : h ≤ xs.length) (hm : m ≤ cap) (hm' : h ≤ m) :
    Sl V T (slA a m l (Enc.size α)) (m - l) ((xs.take h).drop l) := by
  rcases hs with rfl | ⟨b, o, c, rfl, h2, h3, h4⟩
  · left; simp
  · by_cases hml : m = l
    · left
      have : h = l := by omega
      subst this
      simp
    · right
      refine ⟨b, o + l * Enc.size α, c, ?_, h2, (h3.take h hh).drop l (by simp; omega), by simp; omega⟩
      simp [slA, hml, addr_add]
theorem run_bound {x : Value} {k : IntKind} {j : Int} {y : Nat} {code : BoundsCode} (hx : x = .int k j) (h : 0 ≤ j ∧ j ≤ y) (w : World) : (Instr.sliceBound x y code).run P w = .ok j.toNat w := by
  subst hx
  simp [Instr.sliceBound, asIntOf, Sem.run_bind, h]
theorem run_bounds {s : Bool} {len cap : Nat} {lo hi mx : Option Value} {l h m : Int} (hm : mx = none ∧ m = cap ∨ ∃ k, mx = some (.int k m) ∧ hi.isSome) (hh : hi = none ∧ h = len ∨ ∃ k, hi = some (.int k h)) (hl : lo = none ∧ l = 0 ∨ ∃ k, lo = some (.int k l))
    (h0 : 0 ≤ l ∧ l ≤ h ∧ (hi = none ∨ h ≤ m) ∧ m ≤ cap) (w : World) : (Instr.sliceBounds s len cap lo hi mx).run P w = .ok (l.toNat, h.toNat, m.toNat) w := by
  rcases hm with ⟨rfl, rfl⟩ | ⟨k1, rfl, hs⟩ <;> rcases hh with ⟨rfl, rfl⟩ | ⟨k2, rfl⟩ <;> rcases hl with ⟨rfl, rfl⟩ | ⟨k3, rfl⟩ <;> try (simp at hs; done)
  all_goals simp only [reduceCtorEq, false_or, true_or, true_and] at h0
  all_goals simp only [Instr.sliceBounds, Sem.run_bind, Sem.run_pure, Result.andThen_ok, Option.isSome_none, Option.isSome_some, Int.toNat_natCast, Int.toNat_zero, Bool.false_eq_true, if_false, if_true]
  all_goals first | rfl | skip
  all_goals repeat (first | rw [run_bound rfl (by omega)] | (simp only [Result.andThen_ok, Sem.run_pure, Sem.run_bind]; done) | simp only [Result.andThen_ok, Sem.run_pure, Sem.run_bind])
inductive Bd (ρ : Operand → Value) : Option Operand → Int → Int → Prop
  | no (j : Int) : Bd ρ none j j
  | at_ {x : Operand} {k : IntKind} {i : Int} (j : Int) (hx : ρ x = .int k i) : Bd ρ (some x) j i
theorem Bd.val {o : Option Operand} {j i : Int} (h : Bd ρ o j i) : o.map ρ = none ∧ i = j ∨ ∃ k, o.map ρ = some (.int k i) := by
  cases h with
  | no => exact .inl ⟨rfl, rfl⟩
  | at_ j hx => exact .inr ⟨_, congrArg some hx⟩
theorem p_slice {t E s : TypeId} {x : Operand} {lo hi mx : Option Operand} {a : Option Addr} {len cap : Nat} {l h m : Int} (ht : P.underlying t = some (.slice E)) (hE : (P.info? E).map (·.size) = some s) (hx : ρ x = .slice a len cap)
    (hl : Bd ρ lo 0 l) (hh : Bd ρ hi len h) (hm : Bd ρ mx cap m) (hsome : mx = none ∨ hi.isSome = true) (h0 : 0 ≤ l ∧ l ≤ h ∧ h ≤ m ∧ m ≤ cap) :
    Pur P ρ ⟨d, .slice t x lo hi mx, ty, pos, aft, g⟩ (.slice (slA a m.toNat l.toNat s) (h.toNat - l.toNat) (m.toNat - l.toNat)) := fun w => by
  simp only [Runs, execOp, hx]
  refine run_v ?_
  have hs : (sizeOf E).run P w = .ok s w := by
    cases hq : P.info? E with
    | none => simp [hq] at hE
    | some i => simp [hq] at hE; simp [sizeOf, typeInfo, hq, hE]
  have hb : (Instr.sliceBounds true len cap (lo.map ρ) (hi.map ρ) (mx.map ρ)).run P w = .ok (l.toNat, h.toNat, m.toNat) w := by
    refine run_bounds ?_ hh.val hl.val ⟨h0.1, h0.2.1, .inr h0.2.2.1, h0.2.2.2⟩ w
    rcases hm.val with h1 | ⟨k, h1⟩
    · exact .inl h1
    · refine .inr ⟨k, h1, ?_⟩
      rcases hsome with h2 | h2
      · subst h2; cases h1
      · simpa using h2
  simp only [Instr.sliceAt, Sem.run_bind, run_underlying ht w, Result.andThen_ok, Instr.slice, hb, hs, Sem.run_pure, slA]
theorem p_sliceStr {t : TypeId} {x : Operand} {lo hi : Option Operand} {a : Str} {l h : Int} (ht : P.underlying t = some .string) (hx : ρ x = vs a)
    (hl : Bd ρ lo 0 l) (hh : Bd ρ hi a.length h) (h0 : 0 ≤ l ∧ l ≤ h ∧ h ≤ a.length) :
    Pur P ρ ⟨d, .slice t x lo hi none, ty, pos, aft, g⟩ (vs ((a.take h.toNat).drop l.toNat)) := fun w => by
  simp only [Runs, execOp, hx]
  refine run_v ?_
  have hsz : (ByteArray.mk a.toArray).size = a.length := by simp [ByteArray.size]
  have hb : (Instr.sliceBounds false a.length a.length (lo.map ρ) (hi.map ρ) none).run P w = .ok (l.toNat, h.toNat, ((a.length : Nat) : Int).toNat) w :=
    run_bounds (.inl ⟨rfl, rfl⟩) hh.val hl.val ⟨h0.1, h0.2.1, .inr h0.2.2, Int.le_refl _⟩ w
  simp only [Instr.sliceAt, Sem.run_bind, run_underlying ht w, Result.andThen_ok, Instr.slice, Option.map_none, Option.isSome_none, Bool.false_eq_true, if_false, hsz, hb, Sem.run_pure]
  congr 2
  apply ByteArray.ext
  simp [ByteArray.data_extract, List.extract_eq_take_drop, List.drop_take]
theorem p_sliceArr {t E s nn : TypeId} {x : Operand} {lo hi : Option Operand} {b o : Nat} {l h : Int} (ht : P.underlying t = some (.array nn E)) (hE : (P.info? E).map (·.size) = some s) (hx : ρ x = ptr b o)
    (hl : Bd ρ lo 0 l) (hh : Bd ρ hi nn h) (h0 : 0 ≤ l ∧ l ≤ h ∧ h ≤ nn) :
    Pur P ρ ⟨d, .slice t x lo hi none, ty, pos, aft, g⟩ (.slice (some ⟨b, if nn = l.toNat then o else o + l.toNat * s, none⟩) (h.toNat - l.toNat) (nn - l.toNat)) := fun w => by
  simp only [Runs, execOp, hx]
  refine run_v ?_
  have hs : (sizeOf E).run P w = .ok s w := by
    cases hq : P.info? E with
    | none => simp [hq] at hE
    | some i => simp [hq] at hE; simp [sizeOf, typeInfo, hq, hE]
  have hb : (Instr.sliceBounds false nn nn (lo.map ρ) (hi.map ρ) none).run P w = .ok (l.toNat, h.toNat, ((nn : Nat) : Int).toNat) w :=
    run_bounds (.inl ⟨rfl, rfl⟩) hh.val hl.val ⟨h0.1, h0.2.1, .inr h0.2.2, Int.le_refl _⟩ w
  simp only [Instr.sliceAt, Sem.run_bind, run_underlying ht w, Result.andThen_ok, Option.map_none, hb, hs, Sem.run_pure, Instr.sureAddr, Int.toNat_natCast, addr_add]
  congr 3
  split <;> rfl
theorem flat_u8 (l : List UInt8) : flat l = l.map fun b => .int .u8 (b.toNat : Int) := by
  induction l with
  | nil => rfl
  | cons b l ih => rw [flat_cons, ih]; rfl
theorem r_bytesStr {sr dt E T : TypeId} {x : Operand} {a : Option Addr} {k c : Nat} {l : List UInt8} (hs : P.underlying sr = some (.slice E)) (he : P.underlying E = some (.int .u8)) (hd : P.underlying dt = some .string)
    (hx : ρ x = .slice a k c) (hsrc : Src1 w T a l) (hk : k = l.length) : Runs P ρ ⟨d, .convert sr dt x, ty, pos, aft, g⟩ w (vs l) w := by
  subst hk
  simp only [Runs, execOp, hx]
  refine run_v ?_
  cases a with
  | none =>
    rcases hsrc with rfl | ⟨b, o, cc, fr, ha, _, _⟩
    · rw [run_convert_bytes_string w sr dt E _ _ c hs he hd]
      simp [Conv.bytesToString]; rfl
    · cases ha
  | some a' =>
    have hc := hsrc.cells a' rfl
    rw [run_convert_bytes_string w sr dt E _ _ c hs he hd]
    have hl := run_loadCells_list (P := P) w a' ((l.map (fun b => (b.toNat : Int))).map (Value.int .u8)) (fun j v hj => hc j v (by rw [flat_u8]; simpa using hj))
    simp only [List.length_map] at hl
    rw [run_bytesToString w a' l.length c _ hl, foldl_push_byteCells]
    have he0 : ByteArray.empty.data = #[] := rfl
    rw [he0]; simp
theorem Src1.vec {α β : Type} [Enc α] [Enc β] {k off : Nat} {gt : α → Vec k β} {st : α → Vec k β → α} {b : Nat} {T T' : TypeId} {y : α} (hl : Lens α (Vec k β) off gt st) (h : w.heap[b]? = some (blk T' y)) : Src1 w T' (some ⟨b, off, none⟩) (gt y).toList := by
  refine .inr ⟨b, off, _, _, rfl, h, ?_⟩
  have := hl.get y
  unfold AtL
  rw [← cells_vec]
  have hsz : (gt y).toList.length * Enc.size β = Enc.size (Vec k β) := by simp [Enc.size]
  rw [hsz]; exact this
end
end Go.Bur
