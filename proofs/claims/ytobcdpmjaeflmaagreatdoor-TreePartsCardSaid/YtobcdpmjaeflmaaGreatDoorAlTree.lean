/- The trees' data: texts as lists of bytes, nodes, and how they read. -/
import Derived.Test.YtobcdpmjaeflmaaGreatDoorAlLoop
import Derived.Lib.Strings
set_option linter.unusedVariables false
set_option linter.unusedSimpArgs false
namespace Go.Al
abbrev Bytes := List UInt8
def ba (l : Bytes) : ByteArray := ⟨l.toArray⟩
def bu (b : UInt8) : Int := (b.toNat : Int)

theorem toList_ba (l : Bytes) : (ba l).toList = l := by
  rw [ByteArray.toList_eq]; rfl
theorem ba_toList (s : ByteArray) : ba s.data.toList = s := rfl
theorem size_ba (l : Bytes) : (ba l).size = l.length := rfl
theorem bytesEq_ba (a b : Bytes) : bytesEq (ba a) (ba b) = (a == b) := by simp only [bytesEq, toList_ba]
theorem bytesEq_lit (a : Bytes) (b : Array UInt8) : bytesEq (ba a) ⟨b⟩ = (a == b.toList) := by
  have : (⟨b⟩ : ByteArray) = ba b.toList := rfl
  rw [this, bytesEq_ba]
theorem bytesEq_lit' (a : Bytes) (b : Array UInt8) : bytesEq ⟨b⟩ (ba a) = (b.toList == a) := by
  have : (⟨b⟩ : ByteArray) = ba b.toList := rfl
  rw [this, bytesEq_ba]
theorem append_ba (a b : Bytes) : ba a ++ ba b = ba (a ++ b) := by
  apply WideShapes.bytes_inj
  simp [ba]
theorem append_lit (a : Bytes) (b : Array UInt8) : ba a ++ ⟨b⟩ = ba (a ++ b.toList) := append_ba a b.toList
theorem lit_append (a : Bytes) (b : Array UInt8) : ⟨b⟩ ++ ba a = ba (b.toList ++ a) := append_ba b.toList a
theorem extract_ba (l : Bytes) (a b : Nat) : (ba l).extract a b = ba ((l.drop a).take (b - a)) := by
  apply WideShapes.bytes_inj
  simp [ba, ByteArray.data_extract, List.extract_eq_take_drop]
theorem byteAt_ba (l : Bytes) (i : Nat) : byteAt (ba l) i = (l.getD i 0).toNat := rfl
attribute [simp] size_ba bytesEq_ba bytesEq_lit bytesEq_lit' append_ba append_lit lit_append extract_ba byteAt_ba

/-- A node of a tree. -/
structure Node where
  kind : Int
  name : Bytes
  num : Int
  kids : List Int
  frm : Int
  to : Int
deriving DecidableEq
def dI (n : Int) : D := .con (.int .i64 n)
def dB (b : Bool) : D := .con (.bool b)
def dS (s : Bytes) : D := .con (.string (ba s))
def dU8 (n : Int) : D := .con (.int .u8 n)
def I (n : Int) : AV := .d (dI n)
def B (b : Bool) : AV := .d (dB b)
def S (s : Bytes) : AV := .d (dS s)
def U8 (n : Int) : AV := .d (dU8 n)
def rI (n : Int) : List D := [dI n]
def rS (s : Bytes) : List D := [dS s]
def dInts (l : List Int) : D := .sl (l.map rI)
def dStrs (l : List Bytes) : D := .sl (l.map rS)
def rNode (x : Node) : List D := [dI x.kind, dS x.name, dI x.num, dInts x.kids, dI x.frm, dI x.to]
def aNode (x : Node) : AV := .agg [.d (dI x.kind), .d (dS x.name), .d (dI x.num), .d (dInts x.kids), .d (dI x.frm), .d (dI x.to)]
def dNodes (l : List Node) : D := .sl (l.map rNode)
def aTree (l : List Node) : AV := .agg [.d (dNodes l)]
end Go.Al
