/- What all walks of this seat share: texts as lists of bytes, worlds that only grow, hypotheses that the walk must not use as rules. No program's function stands here. -/
import Derived.Test.YtdoaemagednclaaDoorProg
import Derived.WalkKit
import Derived.Below
import Derived.OwnWalk
import Derived.KernelRfl
import Derived.RowKit
import Derived.RowKit3
import Derived.Laws.BytesArg
import Derived.Laws.OwnMore
import Derived.Laws.MakeOwn
import Derived.Deep.OwnRows
import Derived.Deep.Draws
import Derived.Deep.LoopGhost
import Derived.Deep.QuietTactic
import Derived.BigQuiet
import Derived.Lib.ConvBytes
import Derived.Lib.Hide
import Derived.WalkSmall
import Derived.WalkSpells
import Derived.Lib.ItoaNum
import Derived.Lib.LaidTab
import Derived.Lib.AppendIntMem
namespace Go.Proofs.YtdoaemagednclaaDoor
set_option linter.unusedVariables false
set_option linter.unusedSimpArgs false
open Go.RowKit

theorem blwN {B : Nat} {a w : World} (h : Below B a w) (n : Nat) : Below B a (w.drewN n) := h.trans ⟨rfl, rfl, rfl, Nat.le_refl _, fun _ _ => rfl⟩
theorem cell_new {w : World} {a : Addr} {v : Value} (h : w.cell? a = some v) (o : Obj) : (w.alloc o).cell? a = some v :=
  (((Below.refl w.heap.size w).alloc (Nat.le_refl _) o).cell (World.block_lt_of_cell? w a h)).trans h
/-- A text out of its bytes. -/
def bs (l : List UInt8) : ByteArray := ⟨l.toArray⟩
/-- A text's bytes. -/
def ub (s : ByteArray) : List UInt8 := s.data.toList
theorem bs_ub (s : ByteArray) : bs (ub s) = s := by simp [bs, ub]
theorem ub_bs (l : List UInt8) : ub (bs l) = l := by simp [bs, ub]
theorem bs_append (a b : List UInt8) : bs a ++ bs b = bs (a ++ b) := by
  apply ByteArray.ext
  rw [ByteArray.data_append]
  show a.toArray ++ b.toArray = (a ++ b).toArray
  rw [List.append_toArray]
theorem bs_size (l : List UInt8) : (bs l).size = l.length := by
  show l.toArray.size = l.length
  rw [List.size_toArray]
theorem ub_length (s : ByteArray) : (ub s).length = s.size := by
  show s.data.toList.length = s.data.size
  rw [Array.length_toList]
theorem app_bs (s : ByteArray) (b : List UInt8) : s ++ bs b = bs (ub s ++ b) := by rw [← bs_append, bs_ub]
theorem bs_app (s : ByteArray) (b : List UInt8) : bs b ++ s = bs (b ++ ub s) := by rw [← bs_append, bs_ub]
theorem lit_bs (l : List UInt8) : (⟨l.toArray⟩ : ByteArray) = bs l := rfl
theorem bs_inj {a b : List UInt8} (h : bs a = bs b) : a = b := by
  have := congrArg ub h
  rwa [ub_bs, ub_bs] at this
theorem toList_inj {a b : ByteArray} : a.toList = b.toList ↔ a = b :=
  ⟨fun h => by rw [ByteArray.toList_eq, ByteArray.toList_eq] at h; exact ByteArray.ext (Array.toList_inj.mp h), fun h => by rw [h]⟩
theorem ret_str {a b : ByteArray} (h : a = b) : Ending.returned (.string a) = .returned (.string b) := by rw [h]
theorem ret_int {k : IntKind} {a b : Int} (h : a = b) : Ending.returned (.int k a) = .returned (.int k b) := by rw [h]
theorem ret_bool {a b : Bool} (h : a = b) : Ending.returned (.bool a) = .returned (.bool b) := by rw [h]
theorem strOfNums_bs (xs : List Int) : strOfNums xs = bs (xs.map fun n => UInt8.ofNat n.toNat) := rfl
/-- 'string([]byte{x})'. -/
theorem conv_one {P : Program} (src e dst : TypeId) (hs : P.underlying src = some (.slice e)) (he : P.underlying e = some (.int .u8)) (hd : P.underlying dst = some .string) (w : World) (x : Int) (c : Nat) :
    (convert src dst (.slice (some ⟨w.heap.size, 0, none⟩) 1 c)).run P (w.alloc (.cells #[.int .u8 x] e)) = .ok (.string (bs [UInt8.ofNat x.toNat])) (w.alloc (.cells #[.int .u8 x] e)) :=
  run_convert_bytes_arg (w.alloc (.cells #[.int .u8 x] e)) src e hs he w.heap.size 0 1 c [x] rfl (fun i hi => by
    obtain rfl : i = 0 := by omega
    simp) dst hd
end Go.Proofs.YtdoaemagednclaaDoor
