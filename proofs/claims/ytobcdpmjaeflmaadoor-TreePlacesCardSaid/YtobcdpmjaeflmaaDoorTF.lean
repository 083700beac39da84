/- The facts on the types of the seat YtobcdpmjaeflmaaDoor: sizes, fields, elements. Printed by wip/Al/facts.py. -/
import Derived.Test.YtobcdpmjaeflmaaDoorProg
import Derived.Test.YtobcdpmjaeflmaaDoorAlRun
import Derived.KernelRfl
set_option linter.unusedVariables false
set_option linter.unusedSimpArgs false
namespace Go.Proofs.Tryd
open Go Go.Al
theorem sz0 : szOf prog 0 = some 1 := by kernel_rfl
theorem agg0 : aggOf prog 0 = false := by kernel_rfl
theorem zero0 : zeroOf prog 0 = some (Go.Value.tuple #[]) := by kernel_rfl
theorem info0 : infoOf prog 0 = some (1, 0, Go.Value.tuple #[]) := by kernel_rfl
theorem sz1 : szOf prog 1 = some 1 := by kernel_rfl
theorem agg1 : aggOf prog 1 = false := by kernel_rfl
theorem sz2 : szOf prog 2 = some 1 := by kernel_rfl
theorem agg2 : aggOf prog 2 = false := by kernel_rfl
theorem zero2 : zeroOf prog 2 = some (Go.Value.int Go.IntKind.i64 0) := by kernel_rfl
theorem info2 : infoOf prog 2 = some (1, 8, Go.Value.int Go.IntKind.i64 0) := by kernel_rfl
theorem ik2 : intKindOf prog 2 = some .i64 := by kernel_rfl
theorem sz3 : szOf prog 3 = some 1 := by kernel_rfl
theorem agg3 : aggOf prog 3 = false := by kernel_rfl
theorem zero3 : zeroOf prog 3 = some (Go.Value.int Go.IntKind.i64 0) := by kernel_rfl
theorem info3 : infoOf prog 3 = some (1, 8, Go.Value.int Go.IntKind.i64 0) := by kernel_rfl
theorem ik3 : intKindOf prog 3 = some .i64 := by kernel_rfl
theorem sz4 : szOf prog 4 = some 1 := by kernel_rfl
theorem agg4 : aggOf prog 4 = false := by kernel_rfl
theorem zero4 : zeroOf prog 4 = some (Go.Value.bool false) := by kernel_rfl
theorem info4 : infoOf prog 4 = some (1, 1, Go.Value.bool false) := by kernel_rfl
theorem sz5 : szOf prog 5 = some 1 := by kernel_rfl
theorem agg5 : aggOf prog 5 = false := by kernel_rfl
theorem zero5 : zeroOf prog 5 = some (Go.Value.int Go.IntKind.u8 0) := by kernel_rfl
theorem info5 : infoOf prog 5 = some (1, 1, Go.Value.int Go.IntKind.u8 0) := by kernel_rfl
theorem ik5 : intKindOf prog 5 = some .u8 := by kernel_rfl
theorem sz6 : szOf prog 6 = some 1 := by kernel_rfl
theorem agg6 : aggOf prog 6 = false := by kernel_rfl
theorem zero6 : zeroOf prog 6 = some (Go.Value.int Go.IntKind.u8 0) := by kernel_rfl
theorem info6 : infoOf prog 6 = some (1, 1, Go.Value.int Go.IntKind.u8 0) := by kernel_rfl
theorem ik6 : intKindOf prog 6 = some .u8 := by kernel_rfl
theorem sz7 : szOf prog 7 = some 4 := by kernel_rfl
theorem agg7 : aggOf prog 7 = true := by kernel_rfl
theorem fld7_0 : fldOf prog 7 0 = some 0 := by kernel_rfl
theorem fld7_1 : fldOf prog 7 1 = some 1 := by kernel_rfl
theorem fld7_2 : fldOf prog 7 2 = some 2 := by kernel_rfl
theorem fld7_3 : fldOf prog 7 3 = some 3 := by kernel_rfl
theorem zero7 : zeroOf prog 7 = some (Go.Value.agg #[Go.Value.int Go.IntKind.i64 0, Go.Value.int Go.IntKind.i64 0, Go.Value.bool false, Go.Value.int Go.IntKind.u8 0]) := by kernel_rfl
theorem info7 : infoOf prog 7 = some (4, 24, Go.Value.agg #[Go.Value.int Go.IntKind.i64 0, Go.Value.int Go.IntKind.i64 0, Go.Value.bool false, Go.Value.int Go.IntKind.u8 0]) := by kernel_rfl
theorem sz8 : szOf prog 8 = some 4 := by kernel_rfl
theorem agg8 : aggOf prog 8 = true := by kernel_rfl
theorem fld8_0 : fldOf prog 8 0 = some 0 := by kernel_rfl
theorem fld8_1 : fldOf prog 8 1 = some 1 := by kernel_rfl
theorem fld8_2 : fldOf prog 8 2 = some 2 := by kernel_rfl
theorem fld8_3 : fldOf prog 8 3 = some 3 := by kernel_rfl
theorem zero8 : zeroOf prog 8 = some (Go.Value.agg #[Go.Value.int Go.IntKind.i64 0, Go.Value.int Go.IntKind.i64 0, Go.Value.bool false, Go.Value.int Go.IntKind.u8 0]) := by kernel_rfl
theorem info8 : infoOf prog 8 = some (4, 24, Go.Value.agg #[Go.Value.int Go.IntKind.i64 0, Go.Value.int Go.IntKind.i64 0, Go.Value.bool false, Go.Value.int Go.IntKind.u8 0]) := by kernel_rfl
theorem sz9 : szOf prog 9 = some 1 := by kernel_rfl
theorem agg9 : aggOf prog 9 = false := by kernel_rfl
theorem zero9 : zeroOf prog 9 = some (Go.Value.string { data := #[] }) := by kernel_rfl
theorem info9 : infoOf prog 9 = some (1, 16, Go.Value.string { data := #[] }) := by kernel_rfl
theorem sz10 : szOf prog 10 = some 1 := by kernel_rfl
theorem agg10 : aggOf prog 10 = false := by kernel_rfl
theorem zero10 : zeroOf prog 10 = some (Go.Value.string { data := #[] }) := by kernel_rfl
theorem info10 : infoOf prog 10 = some (1, 16, Go.Value.string { data := #[] }) := by kernel_rfl
theorem sz11 : szOf prog 11 = some 1 := by kernel_rfl
theorem agg11 : aggOf prog 11 = false := by kernel_rfl
theorem zero11 : zeroOf prog 11 = some (Go.Value.string { data := #[] }) := by kernel_rfl
theorem info11 : infoOf prog 11 = some (1, 16, Go.Value.string { data := #[] }) := by kernel_rfl
theorem sz12 : szOf prog 12 = some 1 := by kernel_rfl
theorem agg12 : aggOf prog 12 = false := by kernel_rfl
theorem zero12 : zeroOf prog 12 = some (Go.Value.int Go.IntKind.u64 0) := by kernel_rfl
theorem info12 : infoOf prog 12 = some (1, 8, Go.Value.int Go.IntKind.u64 0) := by kernel_rfl
theorem ik12 : intKindOf prog 12 = some .u64 := by kernel_rfl
theorem sz13 : szOf prog 13 = some 2 := by kernel_rfl
theorem agg13 : aggOf prog 13 = true := by kernel_rfl
theorem fld13_0 : fldOf prog 13 0 = some 0 := by kernel_rfl
theorem fld13_1 : fldOf prog 13 1 = some 1 := by kernel_rfl
theorem zero13 : zeroOf prog 13 = some (Go.Value.agg #[Go.Value.string { data := #[] }, Go.Value.int Go.IntKind.u64 0]) := by kernel_rfl
theorem info13 : infoOf prog 13 = some (2, 24, Go.Value.agg #[Go.Value.string { data := #[] }, Go.Value.int Go.IntKind.u64 0]) := by kernel_rfl
theorem sz14 : szOf prog 14 = some 2 := by kernel_rfl
theorem agg14 : aggOf prog 14 = true := by kernel_rfl
theorem fld14_0 : fldOf prog 14 0 = some 0 := by kernel_rfl
theorem fld14_1 : fldOf prog 14 1 = some 1 := by kernel_rfl
theorem zero14 : zeroOf prog 14 = some (Go.Value.agg #[Go.Value.string { data := #[] }, Go.Value.int Go.IntKind.u64 0]) := by kernel_rfl
theorem info14 : infoOf prog 14 = some (2, 24, Go.Value.agg #[Go.Value.string { data := #[] }, Go.Value.int Go.IntKind.u64 0]) := by kernel_rfl
theorem sz15 : szOf prog 15 = some 1 := by kernel_rfl
theorem agg15 : aggOf prog 15 = false := by kernel_rfl
theorem zero15 : zeroOf prog 15 = some (Go.Value.pointer none) := by kernel_rfl
theorem info15 : infoOf prog 15 = some (1, 8, Go.Value.pointer none) := by kernel_rfl
theorem sz16 : szOf prog 16 = some 1 := by kernel_rfl
theorem agg16 : aggOf prog 16 = false := by kernel_rfl
theorem zero16 : zeroOf prog 16 = some (Go.Value.pointer none) := by kernel_rfl
theorem info16 : infoOf prog 16 = some (1, 8, Go.Value.pointer none) := by kernel_rfl
theorem sz17 : szOf prog 17 = some 1 := by kernel_rfl
theorem agg17 : aggOf prog 17 = false := by kernel_rfl
theorem zero17 : zeroOf prog 17 = some (Go.Value.pointer none) := by kernel_rfl
theorem info17 : infoOf prog 17 = some (1, 8, Go.Value.pointer none) := by kernel_rfl
theorem sz18 : szOf prog 18 = some 1 := by kernel_rfl
theorem agg18 : aggOf prog 18 = true := by kernel_rfl
theorem fld18_0 : fldOf prog 18 0 = some 0 := by kernel_rfl
theorem zero18 : zeroOf prog 18 = some (Go.Value.agg #[Go.Value.pointer none]) := by kernel_rfl
theorem info18 : infoOf prog 18 = some (1, 8, Go.Value.agg #[Go.Value.pointer none]) := by kernel_rfl
theorem sz19 : szOf prog 19 = some 1 := by kernel_rfl
theorem agg19 : aggOf prog 19 = true := by kernel_rfl
theorem fld19_0 : fldOf prog 19 0 = some 0 := by kernel_rfl
theorem zero19 : zeroOf prog 19 = some (Go.Value.agg #[Go.Value.pointer none]) := by kernel_rfl
theorem info19 : infoOf prog 19 = some (1, 8, Go.Value.agg #[Go.Value.pointer none]) := by kernel_rfl
theorem sz20 : szOf prog 20 = some 1 := by kernel_rfl
theorem agg20 : aggOf prog 20 = false := by kernel_rfl
theorem sz21 : szOf prog 21 = some 1 := by kernel_rfl
theorem agg21 : aggOf prog 21 = false := by kernel_rfl
theorem zero21 : zeroOf prog 21 = some (Go.Value.int Go.IntKind.i32 0) := by kernel_rfl
theorem info21 : infoOf prog 21 = some (1, 4, Go.Value.int Go.IntKind.i32 0) := by kernel_rfl
theorem ik21 : intKindOf prog 21 = some .i32 := by kernel_rfl
theorem sz22 : szOf prog 22 = some 1 := by kernel_rfl
theorem agg22 : aggOf prog 22 = false := by kernel_rfl
theorem elem22 : Al.elemOf prog 22 = some 30 := by kernel_rfl
theorem zero22 : zeroOf prog 22 = some (Go.Value.slice none 0 0) := by kernel_rfl
theorem info22 : infoOf prog 22 = some (1, 24, Go.Value.slice none 0 0) := by kernel_rfl
theorem sz23 : szOf prog 23 = some 1 := by kernel_rfl
theorem agg23 : aggOf prog 23 = true := by kernel_rfl
theorem fld23_0 : fldOf prog 23 0 = some 0 := by kernel_rfl
theorem zero23 : zeroOf prog 23 = some (Go.Value.agg #[Go.Value.slice none 0 0]) := by kernel_rfl
theorem info23 : infoOf prog 23 = some (1, 24, Go.Value.agg #[Go.Value.slice none 0 0]) := by kernel_rfl
theorem sz24 : szOf prog 24 = some 1 := by kernel_rfl
theorem agg24 : aggOf prog 24 = true := by kernel_rfl
theorem fld24_0 : fldOf prog 24 0 = some 0 := by kernel_rfl
theorem zero24 : zeroOf prog 24 = some (Go.Value.agg #[Go.Value.slice none 0 0]) := by kernel_rfl
theorem info24 : infoOf prog 24 = some (1, 24, Go.Value.agg #[Go.Value.slice none 0 0]) := by kernel_rfl
theorem sz25 : szOf prog 25 = some 1 := by kernel_rfl
theorem agg25 : aggOf prog 25 = false := by kernel_rfl
theorem sz26 : szOf prog 26 = some 1 := by kernel_rfl
theorem agg26 : aggOf prog 26 = false := by kernel_rfl
theorem sz27 : szOf prog 27 = some 1 := by kernel_rfl
theorem agg27 : aggOf prog 27 = false := by kernel_rfl
theorem sz28 : szOf prog 28 = some 1 := by kernel_rfl
theorem agg28 : aggOf prog 28 = false := by kernel_rfl
theorem elem28 : Al.elemOf prog 28 = some 3 := by kernel_rfl
theorem zero28 : zeroOf prog 28 = some (Go.Value.slice none 0 0) := by kernel_rfl
theorem info28 : infoOf prog 28 = some (1, 24, Go.Value.slice none 0 0) := by kernel_rfl
theorem sz29 : szOf prog 29 = some 6 := by kernel_rfl
theorem agg29 : aggOf prog 29 = true := by kernel_rfl
theorem fld29_0 : fldOf prog 29 0 = some 0 := by kernel_rfl
theorem fld29_1 : fldOf prog 29 1 = some 1 := by kernel_rfl
theorem fld29_2 : fldOf prog 29 2 = some 2 := by kernel_rfl
theorem fld29_3 : fldOf prog 29 3 = some 3 := by kernel_rfl
theorem fld29_4 : fldOf prog 29 4 = some 4 := by kernel_rfl
theorem fld29_5 : fldOf prog 29 5 = some 5 := by kernel_rfl
theorem zero29 : zeroOf prog 29 = some (Go.Value.agg #[Go.Value.int Go.IntKind.i64 0, Go.Value.string { data := #[] }, Go.Value.int Go.IntKind.i64 0, Go.Value.slice none 0 0, Go.Value.int Go.IntKind.i64 0, Go.Value.int Go.IntKind.i64 0]) := by kernel_rfl
theorem info29 : infoOf prog 29 = some (6, 72, Go.Value.agg #[Go.Value.int Go.IntKind.i64 0, Go.Value.string { data := #[] }, Go.Value.int Go.IntKind.i64 0, Go.Value.slice none 0 0, Go.Value.int Go.IntKind.i64 0, Go.Value.int Go.IntKind.i64 0]) := by kernel_rfl
theorem sz30 : szOf prog 30 = some 6 := by kernel_rfl
theorem agg30 : aggOf prog 30 = true := by kernel_rfl
theorem fld30_0 : fldOf prog 30 0 = some 0 := by kernel_rfl
theorem fld30_1 : fldOf prog 30 1 = some 1 := by kernel_rfl
theorem fld30_2 : fldOf prog 30 2 = some 2 := by kernel_rfl
theorem fld30_3 : fldOf prog 30 3 = some 3 := by kernel_rfl
theorem fld30_4 : fldOf prog 30 4 = some 4 := by kernel_rfl
theorem fld30_5 : fldOf prog 30 5 = some 5 := by kernel_rfl
theorem zero30 : zeroOf prog 30 = some (Go.Value.agg #[Go.Value.int Go.IntKind.i64 0, Go.Value.string { data := #[] }, Go.Value.int Go.IntKind.i64 0, Go.Value.slice none 0 0, Go.Value.int Go.IntKind.i64 0, Go.Value.int Go.IntKind.i64 0]) := by kernel_rfl
theorem info30 : infoOf prog 30 = some (6, 72, Go.Value.agg #[Go.Value.int Go.IntKind.i64 0, Go.Value.string { data := #[] }, Go.Value.int Go.IntKind.i64 0, Go.Value.slice none 0 0, Go.Value.int Go.IntKind.i64 0, Go.Value.int Go.IntKind.i64 0]) := by kernel_rfl
theorem sz31 : szOf prog 31 = some 1 := by kernel_rfl
theorem agg31 : aggOf prog 31 = false := by kernel_rfl
theorem zero31 : zeroOf prog 31 = some (Go.Value.int Go.IntKind.i64 0) := by kernel_rfl
theorem info31 : infoOf prog 31 = some (1, 8, Go.Value.int Go.IntKind.i64 0) := by kernel_rfl
theorem ik31 : intKindOf prog 31 = some .i64 := by kernel_rfl
theorem sz32 : szOf prog 32 = some 1 := by kernel_rfl
theorem agg32 : aggOf prog 32 = false := by kernel_rfl
theorem zero32 : zeroOf prog 32 = some (Go.Value.tuple #[Go.Value.string { data := #[] }, Go.Value.int Go.IntKind.i64 0]) := by kernel_rfl
theorem info32 : infoOf prog 32 = some (1, 0, Go.Value.tuple #[Go.Value.string { data := #[] }, Go.Value.int Go.IntKind.i64 0]) := by kernel_rfl
theorem sz33 : szOf prog 33 = some 1 := by kernel_rfl
theorem agg33 : aggOf prog 33 = false := by kernel_rfl
theorem sz34 : szOf prog 34 = some 1 := by kernel_rfl
theorem agg34 : aggOf prog 34 = false := by kernel_rfl
theorem sz35 : szOf prog 35 = some 1 := by kernel_rfl
theorem agg35 : aggOf prog 35 = false := by kernel_rfl
theorem zero35 : zeroOf prog 35 = some (Go.Value.tuple #[Go.Value.slice none 0 0, Go.Value.int Go.IntKind.i64 0]) := by kernel_rfl
theorem info35 : infoOf prog 35 = some (1, 0, Go.Value.tuple #[Go.Value.slice none 0 0, Go.Value.int Go.IntKind.i64 0]) := by kernel_rfl
theorem sz36 : szOf prog 36 = some 1 := by kernel_rfl
theorem agg36 : aggOf prog 36 = false := by kernel_rfl
theorem sz37 : szOf prog 37 = some 1 := by kernel_rfl
theorem agg37 : aggOf prog 37 = false := by kernel_rfl
theorem zero37 : zeroOf prog 37 = some (Go.Value.tuple #[Go.Value.agg #[Go.Value.slice none 0 0], Go.Value.int Go.IntKind.i64 0]) := by kernel_rfl
theorem info37 : infoOf prog 37 = some (1, 0, Go.Value.tuple #[Go.Value.agg #[Go.Value.slice none 0 0], Go.Value.int Go.IntKind.i64 0]) := by kernel_rfl
theorem sz38 : szOf prog 38 = some 1 := by kernel_rfl
theorem agg38 : aggOf prog 38 = false := by kernel_rfl
theorem sz39 : szOf prog 39 = some 1 := by kernel_rfl
theorem agg39 : aggOf prog 39 = false := by kernel_rfl
theorem sz40 : szOf prog 40 = some 1 := by kernel_rfl
theorem agg40 : aggOf prog 40 = false := by kernel_rfl
theorem sz41 : szOf prog 41 = some 1 := by kernel_rfl
theorem agg41 : aggOf prog 41 = false := by kernel_rfl
theorem sz42 : szOf prog 42 = some 1 := by kernel_rfl
theorem agg42 : aggOf prog 42 = false := by kernel_rfl
theorem zero42 : zeroOf prog 42 = some (Go.Value.tuple #[Go.Value.int Go.IntKind.i64 0, Go.Value.int Go.IntKind.i64 0]) := by kernel_rfl
theorem info42 : infoOf prog 42 = some (1, 0, Go.Value.tuple #[Go.Value.int Go.IntKind.i64 0, Go.Value.int Go.IntKind.i64 0]) := by kernel_rfl
theorem sz43 : szOf prog 43 = some 1 := by kernel_rfl
theorem agg43 : aggOf prog 43 = false := by kernel_rfl
theorem sz44 : szOf prog 44 = some 1 := by kernel_rfl
theorem agg44 : aggOf prog 44 = false := by kernel_rfl
theorem sz45 : szOf prog 45 = some 1 := by kernel_rfl
theorem agg45 : aggOf prog 45 = false := by kernel_rfl
theorem sz46 : szOf prog 46 = some 1 := by kernel_rfl
theorem agg46 : aggOf prog 46 = false := by kernel_rfl
theorem zero46 : zeroOf prog 46 = some (Go.Value.pointer none) := by kernel_rfl
theorem info46 : infoOf prog 46 = some (1, 8, Go.Value.pointer none) := by kernel_rfl
theorem sz47 : szOf prog 47 = some 1 := by kernel_rfl
theorem agg47 : aggOf prog 47 = false := by kernel_rfl
theorem elem47 : Al.elemOf prog 47 = some 9 := by kernel_rfl
theorem zero47 : zeroOf prog 47 = some (Go.Value.slice none 0 0) := by kernel_rfl
theorem info47 : infoOf prog 47 = some (1, 24, Go.Value.slice none 0 0) := by kernel_rfl
theorem sz48 : szOf prog 48 = some 2 := by kernel_rfl
theorem agg48 : aggOf prog 48 = true := by kernel_rfl
theorem fld48_0 : fldOf prog 48 0 = some 0 := by kernel_rfl
theorem fld48_1 : fldOf prog 48 1 = some 1 := by kernel_rfl
theorem zero48 : zeroOf prog 48 = some (Go.Value.agg #[Go.Value.slice none 0 0, Go.Value.slice none 0 0]) := by kernel_rfl
theorem info48 : infoOf prog 48 = some (2, 48, Go.Value.agg #[Go.Value.slice none 0 0, Go.Value.slice none 0 0]) := by kernel_rfl
theorem sz49 : szOf prog 49 = some 2 := by kernel_rfl
theorem agg49 : aggOf prog 49 = true := by kernel_rfl
theorem fld49_0 : fldOf prog 49 0 = some 0 := by kernel_rfl
theorem fld49_1 : fldOf prog 49 1 = some 1 := by kernel_rfl
theorem zero49 : zeroOf prog 49 = some (Go.Value.agg #[Go.Value.slice none 0 0, Go.Value.slice none 0 0]) := by kernel_rfl
theorem info49 : infoOf prog 49 = some (2, 48, Go.Value.agg #[Go.Value.slice none 0 0, Go.Value.slice none 0 0]) := by kernel_rfl
theorem sz50 : szOf prog 50 = some 1 := by kernel_rfl
theorem agg50 : aggOf prog 50 = false := by kernel_rfl
theorem sz51 : szOf prog 51 = some 1 := by kernel_rfl
theorem agg51 : aggOf prog 51 = false := by kernel_rfl
theorem sz52 : szOf prog 52 = some 1 := by kernel_rfl
theorem agg52 : aggOf prog 52 = false := by kernel_rfl
theorem zero52 : zeroOf prog 52 = some (Go.Value.tuple #[Go.Value.slice none 0 0, Go.Value.bool false]) := by kernel_rfl
theorem info52 : infoOf prog 52 = some (1, 0, Go.Value.tuple #[Go.Value.slice none 0 0, Go.Value.bool false]) := by kernel_rfl
theorem sz53 : szOf prog 53 = some 1 := by kernel_rfl
theorem agg53 : aggOf prog 53 = false := by kernel_rfl
theorem sz54 : szOf prog 54 = some 1 := by kernel_rfl
theorem agg54 : aggOf prog 54 = false := by kernel_rfl
theorem elem54 : Al.elemOf prog 54 = some 4 := by kernel_rfl
theorem zero54 : zeroOf prog 54 = some (Go.Value.slice none 0 0) := by kernel_rfl
theorem info54 : infoOf prog 54 = some (1, 24, Go.Value.slice none 0 0) := by kernel_rfl
theorem sz55 : szOf prog 55 = some 1 := by kernel_rfl
theorem agg55 : aggOf prog 55 = false := by kernel_rfl
theorem sz56 : szOf prog 56 = some 1 := by kernel_rfl
theorem agg56 : aggOf prog 56 = false := by kernel_rfl
theorem sz57 : szOf prog 57 = some 1 := by kernel_rfl
theorem agg57 : aggOf prog 57 = false := by kernel_rfl
theorem sz58 : szOf prog 58 = some 1 := by kernel_rfl
theorem agg58 : aggOf prog 58 = false := by kernel_rfl
theorem sz59 : szOf prog 59 = some 1 := by kernel_rfl
theorem agg59 : aggOf prog 59 = false := by kernel_rfl
theorem sz60 : szOf prog 60 = some 1 := by kernel_rfl
theorem agg60 : aggOf prog 60 = false := by kernel_rfl
theorem zero60 : zeroOf prog 60 = some (Go.Value.pointer none) := by kernel_rfl
theorem info60 : infoOf prog 60 = some (1, 8, Go.Value.pointer none) := by kernel_rfl
theorem sz61 : szOf prog 61 = some 1 := by kernel_rfl
theorem agg61 : aggOf prog 61 = false := by kernel_rfl
theorem elem61 : Al.elemOf prog 61 = some 5 := by kernel_rfl
theorem zero61 : zeroOf prog 61 = some (Go.Value.slice none 0 0) := by kernel_rfl
theorem info61 : infoOf prog 61 = some (1, 24, Go.Value.slice none 0 0) := by kernel_rfl
theorem sz62 : szOf prog 62 = some 2 := by kernel_rfl
theorem agg62 : aggOf prog 62 = true := by kernel_rfl
theorem fld62_0 : fldOf prog 62 0 = some 0 := by kernel_rfl
theorem fld62_1 : fldOf prog 62 1 = some 1 := by kernel_rfl
theorem zero62 : zeroOf prog 62 = some (Go.Value.agg #[Go.Value.pointer none, Go.Value.slice none 0 0]) := by kernel_rfl
theorem info62 : infoOf prog 62 = some (2, 32, Go.Value.agg #[Go.Value.pointer none, Go.Value.slice none 0 0]) := by kernel_rfl
theorem sz63 : szOf prog 63 = some 2 := by kernel_rfl
theorem agg63 : aggOf prog 63 = true := by kernel_rfl
theorem fld63_0 : fldOf prog 63 0 = some 0 := by kernel_rfl
theorem fld63_1 : fldOf prog 63 1 = some 1 := by kernel_rfl
theorem zero63 : zeroOf prog 63 = some (Go.Value.agg #[Go.Value.pointer none, Go.Value.slice none 0 0]) := by kernel_rfl
theorem info63 : infoOf prog 63 = some (2, 32, Go.Value.agg #[Go.Value.pointer none, Go.Value.slice none 0 0]) := by kernel_rfl
theorem sz64 : szOf prog 64 = some 1 := by kernel_rfl
theorem agg64 : aggOf prog 64 = false := by kernel_rfl
theorem sz65 : szOf prog 65 = some 1 := by kernel_rfl
theorem agg65 : aggOf prog 65 = false := by kernel_rfl
theorem sz66 : szOf prog 66 = some 1 := by kernel_rfl
theorem agg66 : aggOf prog 66 = false := by kernel_rfl
theorem zero66 : zeroOf prog 66 = some (Go.Value.tuple #[Go.Value.int Go.IntKind.i64 0, Go.Value.nilIface]) := by kernel_rfl
theorem info66 : infoOf prog 66 = some (1, 0, Go.Value.tuple #[Go.Value.int Go.IntKind.i64 0, Go.Value.nilIface]) := by kernel_rfl
theorem sz67 : szOf prog 67 = some 1 := by kernel_rfl
theorem agg67 : aggOf prog 67 = false := by kernel_rfl
theorem sz68 : szOf prog 68 = some 1 := by kernel_rfl
theorem agg68 : aggOf prog 68 = false := by kernel_rfl
theorem sz69 : szOf prog 69 = some 1 := by kernel_rfl
theorem agg69 : aggOf prog 69 = false := by kernel_rfl
theorem sz70 : szOf prog 70 = some 1 := by kernel_rfl
theorem agg70 : aggOf prog 70 = false := by kernel_rfl
theorem sz71 : szOf prog 71 = some 1 := by kernel_rfl
theorem agg71 : aggOf prog 71 = false := by kernel_rfl
theorem sz72 : szOf prog 72 = some 1 := by kernel_rfl
theorem agg72 : aggOf prog 72 = false := by kernel_rfl
theorem sz73 : szOf prog 73 = some 1 := by kernel_rfl
theorem agg73 : aggOf prog 73 = false := by kernel_rfl
theorem sz74 : szOf prog 74 = some 1 := by kernel_rfl
theorem agg74 : aggOf prog 74 = false := by kernel_rfl
theorem zero74 : zeroOf prog 74 = some (Go.Value.map none) := by kernel_rfl
theorem info74 : infoOf prog 74 = some (1, 8, Go.Value.map none) := by kernel_rfl
theorem sz75 : szOf prog 75 = some 1 := by kernel_rfl
theorem agg75 : aggOf prog 75 = false := by kernel_rfl
theorem sz76 : szOf prog 76 = some 1 := by kernel_rfl
theorem agg76 : aggOf prog 76 = false := by kernel_rfl
theorem sz77 : szOf prog 77 = some 1 := by kernel_rfl
theorem agg77 : aggOf prog 77 = false := by kernel_rfl
theorem sz78 : szOf prog 78 = some 1 := by kernel_rfl
theorem agg78 : aggOf prog 78 = false := by kernel_rfl
theorem sz79 : szOf prog 79 = some 1 := by kernel_rfl
theorem agg79 : aggOf prog 79 = false := by kernel_rfl
theorem sz80 : szOf prog 80 = some 1 := by kernel_rfl
theorem agg80 : aggOf prog 80 = false := by kernel_rfl
theorem sz81 : szOf prog 81 = some 1 := by kernel_rfl
theorem agg81 : aggOf prog 81 = false := by kernel_rfl
theorem zero81 : zeroOf prog 81 = some (Go.Value.pointer none) := by kernel_rfl
theorem info81 : infoOf prog 81 = some (1, 8, Go.Value.pointer none) := by kernel_rfl
theorem sz82 : szOf prog 82 = some 1 := by kernel_rfl
theorem agg82 : aggOf prog 82 = false := by kernel_rfl
theorem sz83 : szOf prog 83 = some 1 := by kernel_rfl
theorem agg83 : aggOf prog 83 = false := by kernel_rfl
theorem sz84 : szOf prog 84 = some 1 := by kernel_rfl
theorem agg84 : aggOf prog 84 = false := by kernel_rfl
theorem zero84 : zeroOf prog 84 = some (Go.Value.tuple #[Go.Value.string { data := #[] }, Go.Value.string { data := #[] }, Go.Value.bool false]) := by kernel_rfl
theorem info84 : infoOf prog 84 = some (1, 0, Go.Value.tuple #[Go.Value.string { data := #[] }, Go.Value.string { data := #[] }, Go.Value.bool false]) := by kernel_rfl
theorem sz85 : szOf prog 85 = some 1 := by kernel_rfl
theorem agg85 : aggOf prog 85 = false := by kernel_rfl
theorem sz86 : szOf prog 86 = some 1 := by kernel_rfl
theorem agg86 : aggOf prog 86 = false := by kernel_rfl
theorem sz87 : szOf prog 87 = some 1 := by kernel_rfl
theorem agg87 : aggOf prog 87 = false := by kernel_rfl
theorem sz88 : szOf prog 88 = some 1 := by kernel_rfl
theorem agg88 : aggOf prog 88 = false := by kernel_rfl
theorem sz89 : szOf prog 89 = some 1 := by kernel_rfl
theorem agg89 : aggOf prog 89 = false := by kernel_rfl
theorem sz90 : szOf prog 90 = some 1 := by kernel_rfl
theorem agg90 : aggOf prog 90 = false := by kernel_rfl
theorem zero90 : zeroOf prog 90 = some (Go.Value.pointer none) := by kernel_rfl
theorem info90 : infoOf prog 90 = some (1, 8, Go.Value.pointer none) := by kernel_rfl
theorem sz91 : szOf prog 91 = some 1 := by kernel_rfl
theorem agg91 : aggOf prog 91 = false := by kernel_rfl
theorem sz92 : szOf prog 92 = some 1 := by kernel_rfl
theorem agg92 : aggOf prog 92 = false := by kernel_rfl
theorem sz93 : szOf prog 93 = some 1 := by kernel_rfl
theorem agg93 : aggOf prog 93 = false := by kernel_rfl
theorem sz94 : szOf prog 94 = some 1 := by kernel_rfl
theorem agg94 : aggOf prog 94 = false := by kernel_rfl
theorem sz95 : szOf prog 95 = some 1 := by kernel_rfl
theorem agg95 : aggOf prog 95 = false := by kernel_rfl
theorem sz96 : szOf prog 96 = some 24 := by kernel_rfl
theorem agg96 : aggOf prog 96 = true := by kernel_rfl
theorem sz97 : szOf prog 97 = some 1 := by kernel_rfl
theorem agg97 : aggOf prog 97 = false := by kernel_rfl
theorem zero97 : zeroOf prog 97 = some (Go.Value.int Go.IntKind.u64 0) := by kernel_rfl
theorem info97 : infoOf prog 97 = some (1, 8, Go.Value.int Go.IntKind.u64 0) := by kernel_rfl
theorem ik97 : intKindOf prog 97 = some .u64 := by kernel_rfl
theorem sz98 : szOf prog 98 = some 1 := by kernel_rfl
theorem agg98 : aggOf prog 98 = false := by kernel_rfl
theorem sz99 : szOf prog 99 = some 1 := by kernel_rfl
theorem agg99 : aggOf prog 99 = false := by kernel_rfl
theorem sz100 : szOf prog 100 = some 1 := by kernel_rfl
theorem agg100 : aggOf prog 100 = false := by kernel_rfl
theorem zero100 : zeroOf prog 100 = some (Go.Value.tuple #[Go.Value.slice none 0 0, Go.Value.string { data := #[] }]) := by kernel_rfl
theorem info100 : infoOf prog 100 = some (1, 0, Go.Value.tuple #[Go.Value.slice none 0 0, Go.Value.string { data := #[] }]) := by kernel_rfl
theorem sz101 : szOf prog 101 = some 1 := by kernel_rfl
theorem agg101 : aggOf prog 101 = false := by kernel_rfl
theorem sz102 : szOf prog 102 = some 1 := by kernel_rfl
theorem agg102 : aggOf prog 102 = false := by kernel_rfl
theorem sz103 : szOf prog 103 = some 1 := by kernel_rfl
theorem agg103 : aggOf prog 103 = false := by kernel_rfl
theorem sz104 : szOf prog 104 = some 1 := by kernel_rfl
theorem agg104 : aggOf prog 104 = false := by kernel_rfl
theorem sz105 : szOf prog 105 = some 1 := by kernel_rfl
theorem agg105 : aggOf prog 105 = false := by kernel_rfl
theorem sz106 : szOf prog 106 = some 1 := by kernel_rfl
theorem agg106 : aggOf prog 106 = false := by kernel_rfl
theorem sz107 : szOf prog 107 = some 20 := by kernel_rfl
theorem agg107 : aggOf prog 107 = true := by kernel_rfl
theorem sz108 : szOf prog 108 = some 1 := by kernel_rfl
theorem agg108 : aggOf prog 108 = false := by kernel_rfl
theorem zero108 : zeroOf prog 108 = some (Go.Value.int Go.IntKind.u32 0) := by kernel_rfl
theorem info108 : infoOf prog 108 = some (1, 4, Go.Value.int Go.IntKind.u32 0) := by kernel_rfl
theorem ik108 : intKindOf prog 108 = some .u32 := by kernel_rfl
theorem sz109 : szOf prog 109 = some 65 := by kernel_rfl
theorem agg109 : aggOf prog 109 = true := by kernel_rfl
theorem sz110 : szOf prog 110 = some 1 := by kernel_rfl
theorem agg110 : aggOf prog 110 = false := by kernel_rfl
theorem zero110 : zeroOf prog 110 = some (Go.Value.int Go.IntKind.u64 0) := by kernel_rfl
theorem info110 : infoOf prog 110 = some (1, 8, Go.Value.int Go.IntKind.u64 0) := by kernel_rfl
theorem ik110 : intKindOf prog 110 = some .u64 := by kernel_rfl
theorem sz111 : szOf prog 111 = some 1 := by kernel_rfl
theorem agg111 : aggOf prog 111 = false := by kernel_rfl
theorem sz112 : szOf prog 112 = some 1 := by kernel_rfl
theorem agg112 : aggOf prog 112 = false := by kernel_rfl
theorem sz113 : szOf prog 113 = some 1 := by kernel_rfl
theorem agg113 : aggOf prog 113 = false := by kernel_rfl
theorem zero113 : zeroOf prog 113 = some (Go.Value.tuple #[Go.Value.int Go.IntKind.u32 0, Go.Value.int Go.IntKind.u32 0]) := by kernel_rfl
theorem info113 : infoOf prog 113 = some (1, 0, Go.Value.tuple #[Go.Value.int Go.IntKind.u32 0, Go.Value.int Go.IntKind.u32 0]) := by kernel_rfl
theorem sz114 : szOf prog 114 = some 1 := by kernel_rfl
theorem agg114 : aggOf prog 114 = false := by kernel_rfl
theorem sz115 : szOf prog 115 = some 32 := by kernel_rfl
theorem agg115 : aggOf prog 115 = true := by kernel_rfl
theorem sz116 : szOf prog 116 = some 64 := by kernel_rfl
theorem agg116 : aggOf prog 116 = true := by kernel_rfl
theorem sz117 : szOf prog 117 = some 4 := by kernel_rfl
theorem agg117 : aggOf prog 117 = true := by kernel_rfl
theorem fld117_0 : fldOf prog 117 0 = some 0 := by kernel_rfl
theorem fld117_1 : fldOf prog 117 1 = some 1 := by kernel_rfl
theorem fld117_2 : fldOf prog 117 2 = some 2 := by kernel_rfl
theorem fld117_3 : fldOf prog 117 3 = some 3 := by kernel_rfl
theorem zero117 : zeroOf prog 117 = some (Go.Value.agg #[Go.Value.pointer none, Go.Value.pointer none, Go.Value.pointer none, Go.Value.string { data := #[] }]) := by kernel_rfl
theorem info117 : infoOf prog 117 = some (4, 40, Go.Value.agg #[Go.Value.pointer none, Go.Value.pointer none, Go.Value.pointer none, Go.Value.string { data := #[] }]) := by kernel_rfl
theorem sz118 : szOf prog 118 = some 4 := by kernel_rfl
theorem agg118 : aggOf prog 118 = true := by kernel_rfl
theorem fld118_0 : fldOf prog 118 0 = some 0 := by kernel_rfl
theorem fld118_1 : fldOf prog 118 1 = some 1 := by kernel_rfl
theorem fld118_2 : fldOf prog 118 2 = some 2 := by kernel_rfl
theorem fld118_3 : fldOf prog 118 3 = some 3 := by kernel_rfl
theorem zero118 : zeroOf prog 118 = some (Go.Value.agg #[Go.Value.pointer none, Go.Value.pointer none, Go.Value.pointer none, Go.Value.string { data := #[] }]) := by kernel_rfl
theorem info118 : infoOf prog 118 = some (4, 40, Go.Value.agg #[Go.Value.pointer none, Go.Value.pointer none, Go.Value.pointer none, Go.Value.string { data := #[] }]) := by kernel_rfl
theorem sz119 : szOf prog 119 = some 0 := by kernel_rfl
theorem agg119 : aggOf prog 119 = true := by kernel_rfl
theorem zero119 : zeroOf prog 119 = some (Go.Value.agg #[]) := by kernel_rfl
theorem info119 : infoOf prog 119 = some (0, 0, Go.Value.agg #[]) := by kernel_rfl
theorem sz120 : szOf prog 120 = some 0 := by kernel_rfl
theorem agg120 : aggOf prog 120 = true := by kernel_rfl
theorem zero120 : zeroOf prog 120 = some (Go.Value.agg #[]) := by kernel_rfl
theorem info120 : infoOf prog 120 = some (0, 0, Go.Value.agg #[]) := by kernel_rfl
theorem sz121 : szOf prog 121 = some 0 := by kernel_rfl
theorem agg121 : aggOf prog 121 = true := by kernel_rfl
theorem zero121 : zeroOf prog 121 = some (Go.Value.agg #[]) := by kernel_rfl
theorem info121 : infoOf prog 121 = some (0, 0, Go.Value.agg #[]) := by kernel_rfl
theorem sz122 : szOf prog 122 = some 1 := by kernel_rfl
theorem agg122 : aggOf prog 122 = false := by kernel_rfl
theorem sz123 : szOf prog 123 = some 1 := by kernel_rfl
theorem agg123 : aggOf prog 123 = false := by kernel_rfl
theorem zero123 : zeroOf prog 123 = some (Go.Value.int Go.IntKind.u8 0) := by kernel_rfl
theorem info123 : infoOf prog 123 = some (1, 1, Go.Value.int Go.IntKind.u8 0) := by kernel_rfl
theorem ik123 : intKindOf prog 123 = some .u8 := by kernel_rfl
theorem sz124 : szOf prog 124 = some 1 := by kernel_rfl
theorem agg124 : aggOf prog 124 = false := by kernel_rfl
theorem zero124 : zeroOf prog 124 = some (Go.Value.int Go.IntKind.u8 0) := by kernel_rfl
theorem info124 : infoOf prog 124 = some (1, 1, Go.Value.int Go.IntKind.u8 0) := by kernel_rfl
theorem ik124 : intKindOf prog 124 = some .u8 := by kernel_rfl
theorem sz125 : szOf prog 125 = some 1 := by kernel_rfl
theorem agg125 : aggOf prog 125 = false := by kernel_rfl
theorem sz126 : szOf prog 126 = some 1 := by kernel_rfl
theorem agg126 : aggOf prog 126 = false := by kernel_rfl
theorem zero126 : zeroOf prog 126 = some (Go.Value.int Go.IntKind.i32 0) := by kernel_rfl
theorem info126 : infoOf prog 126 = some (1, 4, Go.Value.int Go.IntKind.i32 0) := by kernel_rfl
theorem ik126 : intKindOf prog 126 = some .i32 := by kernel_rfl
theorem sz127 : szOf prog 127 = some 1 := by kernel_rfl
theorem agg127 : aggOf prog 127 = false := by kernel_rfl
theorem zero127 : zeroOf prog 127 = some (Go.Value.int Go.IntKind.i32 0) := by kernel_rfl
theorem info127 : infoOf prog 127 = some (1, 4, Go.Value.int Go.IntKind.i32 0) := by kernel_rfl
theorem ik127 : intKindOf prog 127 = some .i32 := by kernel_rfl
theorem sz128 : szOf prog 128 = some 11 := by kernel_rfl
theorem agg128 : aggOf prog 128 = true := by kernel_rfl
theorem fld128_0 : fldOf prog 128 0 = some 0 := by kernel_rfl
theorem fld128_1 : fldOf prog 128 1 = some 1 := by kernel_rfl
theorem fld128_2 : fldOf prog 128 2 = some 2 := by kernel_rfl
theorem fld128_3 : fldOf prog 128 3 = some 3 := by kernel_rfl
theorem fld128_4 : fldOf prog 128 4 = some 4 := by kernel_rfl
theorem fld128_5 : fldOf prog 128 5 = some 5 := by kernel_rfl
theorem fld128_6 : fldOf prog 128 6 = some 6 := by kernel_rfl
theorem fld128_7 : fldOf prog 128 7 = some 7 := by kernel_rfl
theorem fld128_8 : fldOf prog 128 8 = some 8 := by kernel_rfl
theorem fld128_9 : fldOf prog 128 9 = some 9 := by kernel_rfl
theorem fld128_10 : fldOf prog 128 10 = some 10 := by kernel_rfl
theorem zero128 : zeroOf prog 128 = some (Go.Value.agg #[Go.Value.int Go.IntKind.u64 0, Go.Value.int Go.IntKind.u64 0, Go.Value.int Go.IntKind.u32 0, Go.Value.int Go.IntKind.u8 0, Go.Value.int Go.IntKind.u8 0, Go.Value.int Go.IntKind.u8 0, Go.Value.int Go.IntKind.u8 0, Go.Value.nilFunc, Go.Value.pointer none, Go.Value.int Go.IntKind.i32 0, Go.Value.int Go.IntKind.i32 0]) := by kernel_rfl
theorem info128 : infoOf prog 128 = some (11, 48, Go.Value.agg #[Go.Value.int Go.IntKind.u64 0, Go.Value.int Go.IntKind.u64 0, Go.Value.int Go.IntKind.u32 0, Go.Value.int Go.IntKind.u8 0, Go.Value.int Go.IntKind.u8 0, Go.Value.int Go.IntKind.u8 0, Go.Value.int Go.IntKind.u8 0, Go.Value.nilFunc, Go.Value.pointer none, Go.Value.int Go.IntKind.i32 0, Go.Value.int Go.IntKind.i32 0]) := by kernel_rfl
theorem sz129 : szOf prog 129 = some 11 := by kernel_rfl
theorem agg129 : aggOf prog 129 = true := by kernel_rfl
theorem fld129_0 : fldOf prog 129 0 = some 0 := by kernel_rfl
theorem fld129_1 : fldOf prog 129 1 = some 1 := by kernel_rfl
theorem fld129_2 : fldOf prog 129 2 = some 2 := by kernel_rfl
theorem fld129_3 : fldOf prog 129 3 = some 3 := by kernel_rfl
theorem fld129_4 : fldOf prog 129 4 = some 4 := by kernel_rfl
theorem fld129_5 : fldOf prog 129 5 = some 5 := by kernel_rfl
theorem fld129_6 : fldOf prog 129 6 = some 6 := by kernel_rfl
theorem fld129_7 : fldOf prog 129 7 = some 7 := by kernel_rfl
theorem fld129_8 : fldOf prog 129 8 = some 8 := by kernel_rfl
theorem fld129_9 : fldOf prog 129 9 = some 9 := by kernel_rfl
theorem fld129_10 : fldOf prog 129 10 = some 10 := by kernel_rfl
theorem zero129 : zeroOf prog 129 = some (Go.Value.agg #[Go.Value.int Go.IntKind.u64 0, Go.Value.int Go.IntKind.u64 0, Go.Value.int Go.IntKind.u32 0, Go.Value.int Go.IntKind.u8 0, Go.Value.int Go.IntKind.u8 0, Go.Value.int Go.IntKind.u8 0, Go.Value.int Go.IntKind.u8 0, Go.Value.nilFunc, Go.Value.pointer none, Go.Value.int Go.IntKind.i32 0, Go.Value.int Go.IntKind.i32 0]) := by kernel_rfl
theorem info129 : infoOf prog 129 = some (11, 48, Go.Value.agg #[Go.Value.int Go.IntKind.u64 0, Go.Value.int Go.IntKind.u64 0, Go.Value.int Go.IntKind.u32 0, Go.Value.int Go.IntKind.u8 0, Go.Value.int Go.IntKind.u8 0, Go.Value.int Go.IntKind.u8 0, Go.Value.int Go.IntKind.u8 0, Go.Value.nilFunc, Go.Value.pointer none, Go.Value.int Go.IntKind.i32 0, Go.Value.int Go.IntKind.i32 0]) := by kernel_rfl
theorem ti0 : TiOk prog 0 ⟨1, 0, false, .other, some (Go.Value.tuple #[])⟩ := ⟨sz0, by kernel_rfl, agg0, trivial, fun z h => by cases h; exact ⟨zero0, info0⟩⟩
theorem ti1 : TiOk prog 1 ⟨1, 8, false, .other, none⟩ := ⟨sz1, by kernel_rfl, agg1, trivial, fun z h => by cases h⟩
theorem ti2 : TiOk prog 2 ⟨1, 8, false, .int .i64, some (Go.Value.int Go.IntKind.i64 0)⟩ := ⟨sz2, by kernel_rfl, agg2, underlying2, fun z h => by cases h; exact ⟨zero2, info2⟩⟩
theorem ti3 : TiOk prog 3 ⟨1, 8, false, .int .i64, some (Go.Value.int Go.IntKind.i64 0)⟩ := ⟨sz3, by kernel_rfl, agg3, underlying3, fun z h => by cases h; exact ⟨zero3, info3⟩⟩
theorem ti4 : TiOk prog 4 ⟨1, 1, false, .bool, some (Go.Value.bool false)⟩ := ⟨sz4, by kernel_rfl, agg4, underlying4, fun z h => by cases h; exact ⟨zero4, info4⟩⟩
theorem ti5 : TiOk prog 5 ⟨1, 1, false, .int .u8, some (Go.Value.int Go.IntKind.u8 0)⟩ := ⟨sz5, by kernel_rfl, agg5, underlying5, fun z h => by cases h; exact ⟨zero5, info5⟩⟩
theorem ti6 : TiOk prog 6 ⟨1, 1, false, .int .u8, some (Go.Value.int Go.IntKind.u8 0)⟩ := ⟨sz6, by kernel_rfl, agg6, underlying6, fun z h => by cases h; exact ⟨zero6, info6⟩⟩
theorem ti7 : TiOk prog 7 ⟨4, 24, true, .struct [(0, 1), (1, 1), (2, 1), (3, 1)], some (Go.Value.agg #[Go.Value.int Go.IntKind.i64 0, Go.Value.int Go.IntKind.i64 0, Go.Value.bool false, Go.Value.int Go.IntKind.u8 0])⟩ := ⟨sz7, by kernel_rfl, agg7, ⟨_, underlying7, by kernel_rfl⟩, fun z h => by cases h; exact ⟨zero7, info7⟩⟩
theorem ti8 : TiOk prog 8 ⟨4, 24, true, .struct [(0, 1), (1, 1), (2, 1), (3, 1)], some (Go.Value.agg #[Go.Value.int Go.IntKind.i64 0, Go.Value.int Go.IntKind.i64 0, Go.Value.bool false, Go.Value.int Go.IntKind.u8 0])⟩ := ⟨sz8, by kernel_rfl, agg8, ⟨_, underlying8, by kernel_rfl⟩, fun z h => by cases h; exact ⟨zero8, info8⟩⟩
theorem ti9 : TiOk prog 9 ⟨1, 16, false, .str, some (Go.Value.string { data := #[] })⟩ := ⟨sz9, by kernel_rfl, agg9, underlying9, fun z h => by cases h; exact ⟨zero9, info9⟩⟩
theorem ti10 : TiOk prog 10 ⟨1, 16, false, .str, some (Go.Value.string { data := #[] })⟩ := ⟨sz10, by kernel_rfl, agg10, underlying10, fun z h => by cases h; exact ⟨zero10, info10⟩⟩
theorem ti11 : TiOk prog 11 ⟨1, 16, false, .str, some (Go.Value.string { data := #[] })⟩ := ⟨sz11, by kernel_rfl, agg11, underlying11, fun z h => by cases h; exact ⟨zero11, info11⟩⟩
theorem ti12 : TiOk prog 12 ⟨1, 8, false, .int .u64, some (Go.Value.int Go.IntKind.u64 0)⟩ := ⟨sz12, by kernel_rfl, agg12, underlying12, fun z h => by cases h; exact ⟨zero12, info12⟩⟩
theorem ti13 : TiOk prog 13 ⟨2, 24, true, .struct [(0, 1), (1, 1)], some (Go.Value.agg #[Go.Value.string { data := #[] }, Go.Value.int Go.IntKind.u64 0])⟩ := ⟨sz13, by kernel_rfl, agg13, ⟨_, underlying13, by kernel_rfl⟩, fun z h => by cases h; exact ⟨zero13, info13⟩⟩
theorem ti14 : TiOk prog 14 ⟨2, 24, true, .struct [(0, 1), (1, 1)], some (Go.Value.agg #[Go.Value.string { data := #[] }, Go.Value.int Go.IntKind.u64 0])⟩ := ⟨sz14, by kernel_rfl, agg14, ⟨_, underlying14, by kernel_rfl⟩, fun z h => by cases h; exact ⟨zero14, info14⟩⟩
theorem ti15 : TiOk prog 15 ⟨1, 8, false, .ptr, some (Go.Value.pointer none)⟩ := ⟨sz15, by kernel_rfl, agg15, (show isPtrT prog 15 = true by kernel_rfl), fun z h => by cases h; exact ⟨zero15, info15⟩⟩
theorem ti16 : TiOk prog 16 ⟨1, 8, false, .ptr, some (Go.Value.pointer none)⟩ := ⟨sz16, by kernel_rfl, agg16, (show isPtrT prog 16 = true by kernel_rfl), fun z h => by cases h; exact ⟨zero16, info16⟩⟩
theorem ti17 : TiOk prog 17 ⟨1, 8, false, .ptr, some (Go.Value.pointer none)⟩ := ⟨sz17, by kernel_rfl, agg17, (show isPtrT prog 17 = true by kernel_rfl), fun z h => by cases h; exact ⟨zero17, info17⟩⟩
theorem ti18 : TiOk prog 18 ⟨1, 8, true, .struct [(0, 1)], some (Go.Value.agg #[Go.Value.pointer none])⟩ := ⟨sz18, by kernel_rfl, agg18, ⟨_, underlying18, by kernel_rfl⟩, fun z h => by cases h; exact ⟨zero18, info18⟩⟩
theorem ti19 : TiOk prog 19 ⟨1, 8, true, .struct [(0, 1)], some (Go.Value.agg #[Go.Value.pointer none])⟩ := ⟨sz19, by kernel_rfl, agg19, ⟨_, underlying19, by kernel_rfl⟩, fun z h => by cases h; exact ⟨zero19, info19⟩⟩
theorem ti20 : TiOk prog 20 ⟨1, 16, false, .other, none⟩ := ⟨sz20, by kernel_rfl, agg20, trivial, fun z h => by cases h⟩
theorem ti21 : TiOk prog 21 ⟨1, 4, false, .int .i32, some (Go.Value.int Go.IntKind.i32 0)⟩ := ⟨sz21, by kernel_rfl, agg21, underlying21, fun z h => by cases h; exact ⟨zero21, info21⟩⟩
theorem ti22 : TiOk prog 22 ⟨1, 24, false, .slice 30, some (Go.Value.slice none 0 0)⟩ := ⟨sz22, by kernel_rfl, agg22, underlying22, fun z h => by cases h; exact ⟨zero22, info22⟩⟩
theorem ti23 : TiOk prog 23 ⟨1, 24, true, .struct [(0, 1)], some (Go.Value.agg #[Go.Value.slice none 0 0])⟩ := ⟨sz23, by kernel_rfl, agg23, ⟨_, underlying23, by kernel_rfl⟩, fun z h => by cases h; exact ⟨zero23, info23⟩⟩
theorem ti24 : TiOk prog 24 ⟨1, 24, true, .struct [(0, 1)], some (Go.Value.agg #[Go.Value.slice none 0 0])⟩ := ⟨sz24, by kernel_rfl, agg24, ⟨_, underlying24, by kernel_rfl⟩, fun z h => by cases h; exact ⟨zero24, info24⟩⟩
theorem ti25 : TiOk prog 25 ⟨1, 8, false, .other, none⟩ := ⟨sz25, by kernel_rfl, agg25, trivial, fun z h => by cases h⟩
theorem ti26 : TiOk prog 26 ⟨1, 8, false, .other, none⟩ := ⟨sz26, by kernel_rfl, agg26, trivial, fun z h => by cases h⟩
theorem ti27 : TiOk prog 27 ⟨1, 8, false, .other, none⟩ := ⟨sz27, by kernel_rfl, agg27, trivial, fun z h => by cases h⟩
theorem ti28 : TiOk prog 28 ⟨1, 24, false, .slice 3, some (Go.Value.slice none 0 0)⟩ := ⟨sz28, by kernel_rfl, agg28, underlying28, fun z h => by cases h; exact ⟨zero28, info28⟩⟩
theorem ti29 : TiOk prog 29 ⟨6, 72, true, .struct [(0, 1), (1, 1), (2, 1), (3, 1), (4, 1), (5, 1)], some (Go.Value.agg #[Go.Value.int Go.IntKind.i64 0, Go.Value.string { data := #[] }, Go.Value.int Go.IntKind.i64 0, Go.Value.slice none 0 0, Go.Value.int Go.IntKind.i64 0, Go.Value.int Go.IntKind.i64 0])⟩ := ⟨sz29, by kernel_rfl, agg29, ⟨_, underlying29, by kernel_rfl⟩, fun z h => by cases h; exact ⟨zero29, info29⟩⟩
theorem ti30 : TiOk prog 30 ⟨6, 72, true, .struct [(0, 1), (1, 1), (2, 1), (3, 1), (4, 1), (5, 1)], some (Go.Value.agg #[Go.Value.int Go.IntKind.i64 0, Go.Value.string { data := #[] }, Go.Value.int Go.IntKind.i64 0, Go.Value.slice none 0 0, Go.Value.int Go.IntKind.i64 0, Go.Value.int Go.IntKind.i64 0])⟩ := ⟨sz30, by kernel_rfl, agg30, ⟨_, underlying30, by kernel_rfl⟩, fun z h => by cases h; exact ⟨zero30, info30⟩⟩
theorem ti31 : TiOk prog 31 ⟨1, 8, false, .int .i64, some (Go.Value.int Go.IntKind.i64 0)⟩ := ⟨sz31, by kernel_rfl, agg31, underlying31, fun z h => by cases h; exact ⟨zero31, info31⟩⟩
theorem ti32 : TiOk prog 32 ⟨1, 0, false, .other, some (Go.Value.tuple #[Go.Value.string { data := #[] }, Go.Value.int Go.IntKind.i64 0])⟩ := ⟨sz32, by kernel_rfl, agg32, trivial, fun z h => by cases h; exact ⟨zero32, info32⟩⟩
theorem ti33 : TiOk prog 33 ⟨1, 8, false, .other, none⟩ := ⟨sz33, by kernel_rfl, agg33, trivial, fun z h => by cases h⟩
theorem ti34 : TiOk prog 34 ⟨1, 8, false, .other, none⟩ := ⟨sz34, by kernel_rfl, agg34, trivial, fun z h => by cases h⟩
theorem ti35 : TiOk prog 35 ⟨1, 0, false, .other, some (Go.Value.tuple #[Go.Value.slice none 0 0, Go.Value.int Go.IntKind.i64 0])⟩ := ⟨sz35, by kernel_rfl, agg35, trivial, fun z h => by cases h; exact ⟨zero35, info35⟩⟩
theorem ti36 : TiOk prog 36 ⟨1, 8, false, .other, none⟩ := ⟨sz36, by kernel_rfl, agg36, trivial, fun z h => by cases h⟩
theorem ti37 : TiOk prog 37 ⟨1, 0, false, .other, some (Go.Value.tuple #[Go.Value.agg #[Go.Value.slice none 0 0], Go.Value.int Go.IntKind.i64 0])⟩ := ⟨sz37, by kernel_rfl, agg37, trivial, fun z h => by cases h; exact ⟨zero37, info37⟩⟩
theorem ti38 : TiOk prog 38 ⟨1, 8, false, .other, none⟩ := ⟨sz38, by kernel_rfl, agg38, trivial, fun z h => by cases h⟩
theorem ti39 : TiOk prog 39 ⟨1, 8, false, .other, none⟩ := ⟨sz39, by kernel_rfl, agg39, trivial, fun z h => by cases h⟩
theorem ti40 : TiOk prog 40 ⟨1, 8, false, .other, none⟩ := ⟨sz40, by kernel_rfl, agg40, trivial, fun z h => by cases h⟩
theorem ti41 : TiOk prog 41 ⟨1, 8, false, .other, none⟩ := ⟨sz41, by kernel_rfl, agg41, trivial, fun z h => by cases h⟩
theorem ti42 : TiOk prog 42 ⟨1, 0, false, .other, some (Go.Value.tuple #[Go.Value.int Go.IntKind.i64 0, Go.Value.int Go.IntKind.i64 0])⟩ := ⟨sz42, by kernel_rfl, agg42, trivial, fun z h => by cases h; exact ⟨zero42, info42⟩⟩
theorem ti43 : TiOk prog 43 ⟨1, 8, false, .other, none⟩ := ⟨sz43, by kernel_rfl, agg43, trivial, fun z h => by cases h⟩
theorem ti44 : TiOk prog 44 ⟨1, 8, false, .other, none⟩ := ⟨sz44, by kernel_rfl, agg44, trivial, fun z h => by cases h⟩
theorem ti45 : TiOk prog 45 ⟨1, 8, false, .other, none⟩ := ⟨sz45, by kernel_rfl, agg45, trivial, fun z h => by cases h⟩
theorem ti46 : TiOk prog 46 ⟨1, 8, false, .ptr, some (Go.Value.pointer none)⟩ := ⟨sz46, by kernel_rfl, agg46, (show isPtrT prog 46 = true by kernel_rfl), fun z h => by cases h; exact ⟨zero46, info46⟩⟩
theorem ti47 : TiOk prog 47 ⟨1, 24, false, .slice 9, some (Go.Value.slice none 0 0)⟩ := ⟨sz47, by kernel_rfl, agg47, underlying47, fun z h => by cases h; exact ⟨zero47, info47⟩⟩
theorem ti48 : TiOk prog 48 ⟨2, 48, true, .struct [(0, 1), (1, 1)], some (Go.Value.agg #[Go.Value.slice none 0 0, Go.Value.slice none 0 0])⟩ := ⟨sz48, by kernel_rfl, agg48, ⟨_, underlying48, by kernel_rfl⟩, fun z h => by cases h; exact ⟨zero48, info48⟩⟩
theorem ti49 : TiOk prog 49 ⟨2, 48, true, .struct [(0, 1), (1, 1)], some (Go.Value.agg #[Go.Value.slice none 0 0, Go.Value.slice none 0 0])⟩ := ⟨sz49, by kernel_rfl, agg49, ⟨_, underlying49, by kernel_rfl⟩, fun z h => by cases h; exact ⟨zero49, info49⟩⟩
theorem ti50 : TiOk prog 50 ⟨1, 8, false, .other, none⟩ := ⟨sz50, by kernel_rfl, agg50, trivial, fun z h => by cases h⟩
theorem ti51 : TiOk prog 51 ⟨1, 8, false, .other, none⟩ := ⟨sz51, by kernel_rfl, agg51, trivial, fun z h => by cases h⟩
theorem ti52 : TiOk prog 52 ⟨1, 0, false, .other, some (Go.Value.tuple #[Go.Value.slice none 0 0, Go.Value.bool false])⟩ := ⟨sz52, by kernel_rfl, agg52, trivial, fun z h => by cases h; exact ⟨zero52, info52⟩⟩
theorem ti53 : TiOk prog 53 ⟨1, 8, false, .other, none⟩ := ⟨sz53, by kernel_rfl, agg53, trivial, fun z h => by cases h⟩
theorem ti54 : TiOk prog 54 ⟨1, 24, false, .slice 4, some (Go.Value.slice none 0 0)⟩ := ⟨sz54, by kernel_rfl, agg54, underlying54, fun z h => by cases h; exact ⟨zero54, info54⟩⟩
theorem ti55 : TiOk prog 55 ⟨1, 8, false, .other, none⟩ := ⟨sz55, by kernel_rfl, agg55, trivial, fun z h => by cases h⟩
theorem ti56 : TiOk prog 56 ⟨1, 8, false, .other, none⟩ := ⟨sz56, by kernel_rfl, agg56, trivial, fun z h => by cases h⟩
theorem ti57 : TiOk prog 57 ⟨1, 8, false, .other, none⟩ := ⟨sz57, by kernel_rfl, agg57, trivial, fun z h => by cases h⟩
theorem ti58 : TiOk prog 58 ⟨1, 8, false, .other, none⟩ := ⟨sz58, by kernel_rfl, agg58, trivial, fun z h => by cases h⟩
theorem ti59 : TiOk prog 59 ⟨1, 8, false, .other, none⟩ := ⟨sz59, by kernel_rfl, agg59, trivial, fun z h => by cases h⟩
theorem ti60 : TiOk prog 60 ⟨1, 8, false, .ptr, some (Go.Value.pointer none)⟩ := ⟨sz60, by kernel_rfl, agg60, (show isPtrT prog 60 = true by kernel_rfl), fun z h => by cases h; exact ⟨zero60, info60⟩⟩
theorem ti61 : TiOk prog 61 ⟨1, 24, false, .slice 5, some (Go.Value.slice none 0 0)⟩ := ⟨sz61, by kernel_rfl, agg61, underlying61, fun z h => by cases h; exact ⟨zero61, info61⟩⟩
theorem ti62 : TiOk prog 62 ⟨2, 32, true, .struct [(0, 1), (1, 1)], some (Go.Value.agg #[Go.Value.pointer none, Go.Value.slice none 0 0])⟩ := ⟨sz62, by kernel_rfl, agg62, ⟨_, underlying62, by kernel_rfl⟩, fun z h => by cases h; exact ⟨zero62, info62⟩⟩
theorem ti63 : TiOk prog 63 ⟨2, 32, true, .struct [(0, 1), (1, 1)], some (Go.Value.agg #[Go.Value.pointer none, Go.Value.slice none 0 0])⟩ := ⟨sz63, by kernel_rfl, agg63, ⟨_, underlying63, by kernel_rfl⟩, fun z h => by cases h; exact ⟨zero63, info63⟩⟩
theorem ti64 : TiOk prog 64 ⟨1, 16, false, .other, none⟩ := ⟨sz64, by kernel_rfl, agg64, trivial, fun z h => by cases h⟩
theorem ti65 : TiOk prog 65 ⟨1, 16, false, .other, none⟩ := ⟨sz65, by kernel_rfl, agg65, trivial, fun z h => by cases h⟩
theorem ti66 : TiOk prog 66 ⟨1, 0, false, .other, some (Go.Value.tuple #[Go.Value.int Go.IntKind.i64 0, Go.Value.nilIface])⟩ := ⟨sz66, by kernel_rfl, agg66, trivial, fun z h => by cases h; exact ⟨zero66, info66⟩⟩
theorem ti67 : TiOk prog 67 ⟨1, 8, false, .other, none⟩ := ⟨sz67, by kernel_rfl, agg67, trivial, fun z h => by cases h⟩
theorem ti68 : TiOk prog 68 ⟨1, 8, false, .other, none⟩ := ⟨sz68, by kernel_rfl, agg68, trivial, fun z h => by cases h⟩
theorem ti69 : TiOk prog 69 ⟨1, 8, false, .other, none⟩ := ⟨sz69, by kernel_rfl, agg69, trivial, fun z h => by cases h⟩
theorem ti70 : TiOk prog 70 ⟨1, 8, false, .other, none⟩ := ⟨sz70, by kernel_rfl, agg70, trivial, fun z h => by cases h⟩
theorem ti71 : TiOk prog 71 ⟨1, 8, false, .other, none⟩ := ⟨sz71, by kernel_rfl, agg71, trivial, fun z h => by cases h⟩
theorem ti72 : TiOk prog 72 ⟨1, 8, false, .other, none⟩ := ⟨sz72, by kernel_rfl, agg72, trivial, fun z h => by cases h⟩
theorem ti73 : TiOk prog 73 ⟨1, 8, false, .other, none⟩ := ⟨sz73, by kernel_rfl, agg73, trivial, fun z h => by cases h⟩
theorem ti74 : TiOk prog 74 ⟨1, 8, false, .map .bool 9, some (Go.Value.map none)⟩ := ⟨sz74, by kernel_rfl, agg74, ⟨4, underlying74, underlying4⟩, fun z h => by cases h; exact ⟨zero74, info74⟩⟩
theorem ti75 : TiOk prog 75 ⟨1, 8, false, .other, none⟩ := ⟨sz75, by kernel_rfl, agg75, trivial, fun z h => by cases h⟩
theorem ti76 : TiOk prog 76 ⟨1, 8, false, .other, none⟩ := ⟨sz76, by kernel_rfl, agg76, trivial, fun z h => by cases h⟩
theorem ti77 : TiOk prog 77 ⟨1, 8, false, .other, none⟩ := ⟨sz77, by kernel_rfl, agg77, trivial, fun z h => by cases h⟩
theorem ti78 : TiOk prog 78 ⟨1, 8, false, .other, none⟩ := ⟨sz78, by kernel_rfl, agg78, trivial, fun z h => by cases h⟩
theorem ti79 : TiOk prog 79 ⟨1, 8, false, .other, none⟩ := ⟨sz79, by kernel_rfl, agg79, trivial, fun z h => by cases h⟩
theorem ti80 : TiOk prog 80 ⟨1, 8, false, .other, none⟩ := ⟨sz80, by kernel_rfl, agg80, trivial, fun z h => by cases h⟩
theorem ti81 : TiOk prog 81 ⟨1, 8, false, .ptr, some (Go.Value.pointer none)⟩ := ⟨sz81, by kernel_rfl, agg81, (show isPtrT prog 81 = true by kernel_rfl), fun z h => by cases h; exact ⟨zero81, info81⟩⟩
theorem ti82 : TiOk prog 82 ⟨1, 8, false, .other, none⟩ := ⟨sz82, by kernel_rfl, agg82, trivial, fun z h => by cases h⟩
theorem ti83 : TiOk prog 83 ⟨1, 8, false, .other, none⟩ := ⟨sz83, by kernel_rfl, agg83, trivial, fun z h => by cases h⟩
theorem ti84 : TiOk prog 84 ⟨1, 0, false, .other, some (Go.Value.tuple #[Go.Value.string { data := #[] }, Go.Value.string { data := #[] }, Go.Value.bool false])⟩ := ⟨sz84, by kernel_rfl, agg84, trivial, fun z h => by cases h; exact ⟨zero84, info84⟩⟩
theorem ti85 : TiOk prog 85 ⟨1, 8, false, .other, none⟩ := ⟨sz85, by kernel_rfl, agg85, trivial, fun z h => by cases h⟩
theorem ti86 : TiOk prog 86 ⟨1, 8, false, .other, none⟩ := ⟨sz86, by kernel_rfl, agg86, trivial, fun z h => by cases h⟩
theorem ti87 : TiOk prog 87 ⟨1, 8, false, .other, none⟩ := ⟨sz87, by kernel_rfl, agg87, trivial, fun z h => by cases h⟩
theorem ti88 : TiOk prog 88 ⟨1, 8, false, .other, none⟩ := ⟨sz88, by kernel_rfl, agg88, trivial, fun z h => by cases h⟩
theorem ti89 : TiOk prog 89 ⟨1, 8, false, .other, none⟩ := ⟨sz89, by kernel_rfl, agg89, trivial, fun z h => by cases h⟩
theorem ti90 : TiOk prog 90 ⟨1, 8, false, .other, some (Go.Value.pointer none)⟩ := ⟨sz90, by kernel_rfl, agg90, trivial, fun z h => by cases h; exact ⟨zero90, info90⟩⟩
theorem ti91 : TiOk prog 91 ⟨1, 8, false, .other, none⟩ := ⟨sz91, by kernel_rfl, agg91, trivial, fun z h => by cases h⟩
theorem ti92 : TiOk prog 92 ⟨1, 8, false, .other, none⟩ := ⟨sz92, by kernel_rfl, agg92, trivial, fun z h => by cases h⟩
theorem ti93 : TiOk prog 93 ⟨1, 8, false, .other, none⟩ := ⟨sz93, by kernel_rfl, agg93, trivial, fun z h => by cases h⟩
theorem ti94 : TiOk prog 94 ⟨1, 8, false, .other, none⟩ := ⟨sz94, by kernel_rfl, agg94, trivial, fun z h => by cases h⟩
theorem ti95 : TiOk prog 95 ⟨1, 8, false, .other, none⟩ := ⟨sz95, by kernel_rfl, agg95, trivial, fun z h => by cases h⟩
theorem ti96 : TiOk prog 96 ⟨24, 24, true, .other, none⟩ := ⟨sz96, by kernel_rfl, agg96, trivial, fun z h => by cases h⟩
theorem ti97 : TiOk prog 97 ⟨1, 8, false, .int .u64, some (Go.Value.int Go.IntKind.u64 0)⟩ := ⟨sz97, by kernel_rfl, agg97, underlying97, fun z h => by cases h; exact ⟨zero97, info97⟩⟩
theorem ti98 : TiOk prog 98 ⟨1, 8, false, .other, none⟩ := ⟨sz98, by kernel_rfl, agg98, trivial, fun z h => by cases h⟩
theorem ti99 : TiOk prog 99 ⟨1, 8, false, .other, none⟩ := ⟨sz99, by kernel_rfl, agg99, trivial, fun z h => by cases h⟩
theorem ti100 : TiOk prog 100 ⟨1, 0, false, .other, some (Go.Value.tuple #[Go.Value.slice none 0 0, Go.Value.string { data := #[] }])⟩ := ⟨sz100, by kernel_rfl, agg100, trivial, fun z h => by cases h; exact ⟨zero100, info100⟩⟩
theorem ti101 : TiOk prog 101 ⟨1, 8, false, .other, none⟩ := ⟨sz101, by kernel_rfl, agg101, trivial, fun z h => by cases h⟩
theorem ti102 : TiOk prog 102 ⟨1, 8, false, .other, none⟩ := ⟨sz102, by kernel_rfl, agg102, trivial, fun z h => by cases h⟩
theorem ti103 : TiOk prog 103 ⟨1, 8, false, .other, none⟩ := ⟨sz103, by kernel_rfl, agg103, trivial, fun z h => by cases h⟩
theorem ti104 : TiOk prog 104 ⟨1, 8, false, .other, none⟩ := ⟨sz104, by kernel_rfl, agg104, trivial, fun z h => by cases h⟩
theorem ti105 : TiOk prog 105 ⟨1, 8, false, .other, none⟩ := ⟨sz105, by kernel_rfl, agg105, trivial, fun z h => by cases h⟩
theorem ti106 : TiOk prog 106 ⟨1, 8, false, .other, none⟩ := ⟨sz106, by kernel_rfl, agg106, trivial, fun z h => by cases h⟩
theorem ti107 : TiOk prog 107 ⟨20, 160, true, .other, none⟩ := ⟨sz107, by kernel_rfl, agg107, trivial, fun z h => by cases h⟩
theorem ti108 : TiOk prog 108 ⟨1, 4, false, .int .u32, some (Go.Value.int Go.IntKind.u32 0)⟩ := ⟨sz108, by kernel_rfl, agg108, underlying108, fun z h => by cases h; exact ⟨zero108, info108⟩⟩
theorem ti109 : TiOk prog 109 ⟨65, 65, true, .other, none⟩ := ⟨sz109, by kernel_rfl, agg109, trivial, fun z h => by cases h⟩
theorem ti110 : TiOk prog 110 ⟨1, 8, false, .int .u64, some (Go.Value.int Go.IntKind.u64 0)⟩ := ⟨sz110, by kernel_rfl, agg110, underlying110, fun z h => by cases h; exact ⟨zero110, info110⟩⟩
theorem ti111 : TiOk prog 111 ⟨1, 8, false, .other, none⟩ := ⟨sz111, by kernel_rfl, agg111, trivial, fun z h => by cases h⟩
theorem ti112 : TiOk prog 112 ⟨1, 8, false, .other, none⟩ := ⟨sz112, by kernel_rfl, agg112, trivial, fun z h => by cases h⟩
theorem ti113 : TiOk prog 113 ⟨1, 0, false, .other, some (Go.Value.tuple #[Go.Value.int Go.IntKind.u32 0, Go.Value.int Go.IntKind.u32 0])⟩ := ⟨sz113, by kernel_rfl, agg113, trivial, fun z h => by cases h; exact ⟨zero113, info113⟩⟩
theorem ti114 : TiOk prog 114 ⟨1, 8, false, .other, none⟩ := ⟨sz114, by kernel_rfl, agg114, trivial, fun z h => by cases h⟩
theorem ti115 : TiOk prog 115 ⟨32, 32, true, .other, none⟩ := ⟨sz115, by kernel_rfl, agg115, trivial, fun z h => by cases h⟩
theorem ti116 : TiOk prog 116 ⟨64, 64, true, .other, none⟩ := ⟨sz116, by kernel_rfl, agg116, trivial, fun z h => by cases h⟩
theorem ti117 : TiOk prog 117 ⟨4, 40, true, .struct [(0, 1), (1, 1), (2, 1), (3, 1)], some (Go.Value.agg #[Go.Value.pointer none, Go.Value.pointer none, Go.Value.pointer none, Go.Value.string { data := #[] }])⟩ := ⟨sz117, by kernel_rfl, agg117, ⟨_, underlying117, by kernel_rfl⟩, fun z h => by cases h; exact ⟨zero117, info117⟩⟩
theorem ti118 : TiOk prog 118 ⟨4, 40, true, .struct [(0, 1), (1, 1), (2, 1), (3, 1)], some (Go.Value.agg #[Go.Value.pointer none, Go.Value.pointer none, Go.Value.pointer none, Go.Value.string { data := #[] }])⟩ := ⟨sz118, by kernel_rfl, agg118, ⟨_, underlying118, by kernel_rfl⟩, fun z h => by cases h; exact ⟨zero118, info118⟩⟩
theorem ti119 : TiOk prog 119 ⟨0, 0, true, .other, some (Go.Value.agg #[])⟩ := ⟨sz119, by kernel_rfl, agg119, trivial, fun z h => by cases h; exact ⟨zero119, info119⟩⟩
theorem ti120 : TiOk prog 120 ⟨0, 0, true, .struct [(0, 0)], some (Go.Value.agg #[])⟩ := ⟨sz120, by kernel_rfl, agg120, ⟨_, underlying120, by kernel_rfl⟩, fun z h => by cases h; exact ⟨zero120, info120⟩⟩
theorem ti121 : TiOk prog 121 ⟨0, 0, true, .struct [(0, 0)], some (Go.Value.agg #[])⟩ := ⟨sz121, by kernel_rfl, agg121, ⟨_, underlying121, by kernel_rfl⟩, fun z h => by cases h; exact ⟨zero121, info121⟩⟩
theorem ti122 : TiOk prog 122 ⟨1, 8, false, .other, none⟩ := ⟨sz122, by kernel_rfl, agg122, trivial, fun z h => by cases h⟩
theorem ti123 : TiOk prog 123 ⟨1, 1, false, .int .u8, some (Go.Value.int Go.IntKind.u8 0)⟩ := ⟨sz123, by kernel_rfl, agg123, underlying123, fun z h => by cases h; exact ⟨zero123, info123⟩⟩
theorem ti124 : TiOk prog 124 ⟨1, 1, false, .int .u8, some (Go.Value.int Go.IntKind.u8 0)⟩ := ⟨sz124, by kernel_rfl, agg124, underlying124, fun z h => by cases h; exact ⟨zero124, info124⟩⟩
theorem ti125 : TiOk prog 125 ⟨1, 8, false, .other, none⟩ := ⟨sz125, by kernel_rfl, agg125, trivial, fun z h => by cases h⟩
theorem ti126 : TiOk prog 126 ⟨1, 4, false, .int .i32, some (Go.Value.int Go.IntKind.i32 0)⟩ := ⟨sz126, by kernel_rfl, agg126, underlying126, fun z h => by cases h; exact ⟨zero126, info126⟩⟩
theorem ti127 : TiOk prog 127 ⟨1, 4, false, .int .i32, some (Go.Value.int Go.IntKind.i32 0)⟩ := ⟨sz127, by kernel_rfl, agg127, underlying127, fun z h => by cases h; exact ⟨zero127, info127⟩⟩
theorem ti128 : TiOk prog 128 ⟨11, 48, true, .struct [(0, 1), (1, 1), (2, 1), (3, 1), (4, 1), (5, 1), (6, 1), (7, 1), (8, 1), (9, 1), (10, 1)], some (Go.Value.agg #[Go.Value.int Go.IntKind.u64 0, Go.Value.int Go.IntKind.u64 0, Go.Value.int Go.IntKind.u32 0, Go.Value.int Go.IntKind.u8 0, Go.Value.int Go.IntKind.u8 0, Go.Value.int Go.IntKind.u8 0, Go.Value.int Go.IntKind.u8 0, Go.Value.nilFunc, Go.Value.pointer none, Go.Value.int Go.IntKind.i32 0, Go.Value.int Go.IntKind.i32 0])⟩ := ⟨sz128, by kernel_rfl, agg128, ⟨_, underlying128, by kernel_rfl⟩, fun z h => by cases h; exact ⟨zero128, info128⟩⟩
theorem ti129 : TiOk prog 129 ⟨11, 48, true, .struct [(0, 1), (1, 1), (2, 1), (3, 1), (4, 1), (5, 1), (6, 1), (7, 1), (8, 1), (9, 1), (10, 1)], some (Go.Value.agg #[Go.Value.int Go.IntKind.u64 0, Go.Value.int Go.IntKind.u64 0, Go.Value.int Go.IntKind.u32 0, Go.Value.int Go.IntKind.u8 0, Go.Value.int Go.IntKind.u8 0, Go.Value.int Go.IntKind.u8 0, Go.Value.int Go.IntKind.u8 0, Go.Value.nilFunc, Go.Value.pointer none, Go.Value.int Go.IntKind.i32 0, Go.Value.int Go.IntKind.i32 0])⟩ := ⟨sz129, by kernel_rfl, agg129, ⟨_, underlying129, by kernel_rfl⟩, fun z h => by cases h; exact ⟨zero129, info129⟩⟩
def ttab : List TI := [⟨1, 0, false, .other, some (Go.Value.tuple #[])⟩,
  ⟨1, 8, false, .other, none⟩,
  ⟨1, 8, false, .int .i64, some (Go.Value.int Go.IntKind.i64 0)⟩,
  ⟨1, 8, false, .int .i64, some (Go.Value.int Go.IntKind.i64 0)⟩,
  ⟨1, 1, false, .bool, some (Go.Value.bool false)⟩,
  ⟨1, 1, false, .int .u8, some (Go.Value.int Go.IntKind.u8 0)⟩,
  ⟨1, 1, false, .int .u8, some (Go.Value.int Go.IntKind.u8 0)⟩,
  ⟨4, 24, true, .struct [(0, 1), (1, 1), (2, 1), (3, 1)], some (Go.Value.agg #[Go.Value.int Go.IntKind.i64 0, Go.Value.int Go.IntKind.i64 0, Go.Value.bool false, Go.Value.int Go.IntKind.u8 0])⟩,
  ⟨4, 24, true, .struct [(0, 1), (1, 1), (2, 1), (3, 1)], some (Go.Value.agg #[Go.Value.int Go.IntKind.i64 0, Go.Value.int Go.IntKind.i64 0, Go.Value.bool false, Go.Value.int Go.IntKind.u8 0])⟩,
  ⟨1, 16, false, .str, some (Go.Value.string { data := #[] })⟩,
  ⟨1, 16, false, .str, some (Go.Value.string { data := #[] })⟩,
  ⟨1, 16, false, .str, some (Go.Value.string { data := #[] })⟩,
  ⟨1, 8, false, .int .u64, some (Go.Value.int Go.IntKind.u64 0)⟩,
  ⟨2, 24, true, .struct [(0, 1), (1, 1)], some (Go.Value.agg #[Go.Value.string { data := #[] }, Go.Value.int Go.IntKind.u64 0])⟩,
  ⟨2, 24, true, .struct [(0, 1), (1, 1)], some (Go.Value.agg #[Go.Value.string { data := #[] }, Go.Value.int Go.IntKind.u64 0])⟩,
  ⟨1, 8, false, .ptr, some (Go.Value.pointer none)⟩,
  ⟨1, 8, false, .ptr, some (Go.Value.pointer none)⟩,
  ⟨1, 8, false, .ptr, some (Go.Value.pointer none)⟩,
  ⟨1, 8, true, .struct [(0, 1)], some (Go.Value.agg #[Go.Value.pointer none])⟩,
  ⟨1, 8, true, .struct [(0, 1)], some (Go.Value.agg #[Go.Value.pointer none])⟩,
  ⟨1, 16, false, .other, none⟩,
  ⟨1, 4, false, .int .i32, some (Go.Value.int Go.IntKind.i32 0)⟩,
  ⟨1, 24, false, .slice 30, some (Go.Value.slice none 0 0)⟩,
  ⟨1, 24, true, .struct [(0, 1)], some (Go.Value.agg #[Go.Value.slice none 0 0])⟩,
  ⟨1, 24, true, .struct [(0, 1)], some (Go.Value.agg #[Go.Value.slice none 0 0])⟩,
  ⟨1, 8, false, .other, none⟩,
  ⟨1, 8, false, .other, none⟩,
  ⟨1, 8, false, .other, none⟩,
  ⟨1, 24, false, .slice 3, some (Go.Value.slice none 0 0)⟩,
  ⟨6, 72, true, .struct [(0, 1), (1, 1), (2, 1), (3, 1), (4, 1), (5, 1)], some (Go.Value.agg #[Go.Value.int Go.IntKind.i64 0, Go.Value.string { data := #[] }, Go.Value.int Go.IntKind.i64 0, Go.Value.slice none 0 0, Go.Value.int Go.IntKind.i64 0, Go.Value.int Go.IntKind.i64 0])⟩,
  ⟨6, 72, true, .struct [(0, 1), (1, 1), (2, 1), (3, 1), (4, 1), (5, 1)], some (Go.Value.agg #[Go.Value.int Go.IntKind.i64 0, Go.Value.string { data := #[] }, Go.Value.int Go.IntKind.i64 0, Go.Value.slice none 0 0, Go.Value.int Go.IntKind.i64 0, Go.Value.int Go.IntKind.i64 0])⟩,
  ⟨1, 8, false, .int .i64, some (Go.Value.int Go.IntKind.i64 0)⟩,
  ⟨1, 0, false, .other, some (Go.Value.tuple #[Go.Value.string { data := #[] }, Go.Value.int Go.IntKind.i64 0])⟩,
  ⟨1, 8, false, .other, none⟩,
  ⟨1, 8, false, .other, none⟩,
  ⟨1, 0, false, .other, some (Go.Value.tuple #[Go.Value.slice none 0 0, Go.Value.int Go.IntKind.i64 0])⟩,
  ⟨1, 8, false, .other, none⟩,
  ⟨1, 0, false, .other, some (Go.Value.tuple #[Go.Value.agg #[Go.Value.slice none 0 0], Go.Value.int Go.IntKind.i64 0])⟩,
  ⟨1, 8, false, .other, none⟩,
  ⟨1, 8, false, .other, none⟩,
  ⟨1, 8, false, .other, none⟩,
  ⟨1, 8, false, .other, none⟩,
  ⟨1, 0, false, .other, some (Go.Value.tuple #[Go.Value.int Go.IntKind.i64 0, Go.Value.int Go.IntKind.i64 0])⟩,
  ⟨1, 8, false, .other, none⟩,
  ⟨1, 8, false, .other, none⟩,
  ⟨1, 8, false, .other, none⟩,
  ⟨1, 8, false, .ptr, some (Go.Value.pointer none)⟩,
  ⟨1, 24, false, .slice 9, some (Go.Value.slice none 0 0)⟩,
  ⟨2, 48, true, .struct [(0, 1), (1, 1)], some (Go.Value.agg #[Go.Value.slice none 0 0, Go.Value.slice none 0 0])⟩,
  ⟨2, 48, true, .struct [(0, 1), (1, 1)], some (Go.Value.agg #[Go.Value.slice none 0 0, Go.Value.slice none 0 0])⟩,
  ⟨1, 8, false, .other, none⟩,
  ⟨1, 8, false, .other, none⟩,
  ⟨1, 0, false, .other, some (Go.Value.tuple #[Go.Value.slice none 0 0, Go.Value.bool false])⟩,
  ⟨1, 8, false, .other, none⟩,
  ⟨1, 24, false, .slice 4, some (Go.Value.slice none 0 0)⟩,
  ⟨1, 8, false, .other, none⟩,
  ⟨1, 8, false, .other, none⟩,
  ⟨1, 8, false, .other, none⟩,
  ⟨1, 8, false, .other, none⟩,
  ⟨1, 8, false, .other, none⟩,
  ⟨1, 8, false, .ptr, some (Go.Value.pointer none)⟩,
  ⟨1, 24, false, .slice 5, some (Go.Value.slice none 0 0)⟩,
  ⟨2, 32, true, .struct [(0, 1), (1, 1)], some (Go.Value.agg #[Go.Value.pointer none, Go.Value.slice none 0 0])⟩,
  ⟨2, 32, true, .struct [(0, 1), (1, 1)], some (Go.Value.agg #[Go.Value.pointer none, Go.Value.slice none 0 0])⟩,
  ⟨1, 16, false, .other, none⟩,
  ⟨1, 16, false, .other, none⟩,
  ⟨1, 0, false, .other, some (Go.Value.tuple #[Go.Value.int Go.IntKind.i64 0, Go.Value.nilIface])⟩,
  ⟨1, 8, false, .other, none⟩,
  ⟨1, 8, false, .other, none⟩,
  ⟨1, 8, false, .other, none⟩,
  ⟨1, 8, false, .other, none⟩,
  ⟨1, 8, false, .other, none⟩,
  ⟨1, 8, false, .other, none⟩,
  ⟨1, 8, false, .other, none⟩,
  ⟨1, 8, false, .map .bool 9, some (Go.Value.map none)⟩,
  ⟨1, 8, false, .other, none⟩,
  ⟨1, 8, false, .other, none⟩,
  ⟨1, 8, false, .other, none⟩,
  ⟨1, 8, false, .other, none⟩,
  ⟨1, 8, false, .other, none⟩,
  ⟨1, 8, false, .other, none⟩,
  ⟨1, 8, false, .ptr, some (Go.Value.pointer none)⟩,
  ⟨1, 8, false, .other, none⟩,
  ⟨1, 8, false, .other, none⟩,
  ⟨1, 0, false, .other, some (Go.Value.tuple #[Go.Value.string { data := #[] }, Go.Value.string { data := #[] }, Go.Value.bool false])⟩,
  ⟨1, 8, false, .other, none⟩,
  ⟨1, 8, false, .other, none⟩,
  ⟨1, 8, false, .other, none⟩,
  ⟨1, 8, false, .other, none⟩,
  ⟨1, 8, false, .other, none⟩,
  ⟨1, 8, false, .other, some (Go.Value.pointer none)⟩,
  ⟨1, 8, false, .other, none⟩,
  ⟨1, 8, false, .other, none⟩,
  ⟨1, 8, false, .other, none⟩,
  ⟨1, 8, false, .other, none⟩,
  ⟨1, 8, false, .other, none⟩,
  ⟨24, 24, true, .other, none⟩,
  ⟨1, 8, false, .int .u64, some (Go.Value.int Go.IntKind.u64 0)⟩,
  ⟨1, 8, false, .other, none⟩,
  ⟨1, 8, false, .other, none⟩,
  ⟨1, 0, false, .other, some (Go.Value.tuple #[Go.Value.slice none 0 0, Go.Value.string { data := #[] }])⟩,
  ⟨1, 8, false, .other, none⟩,
  ⟨1, 8, false, .other, none⟩,
  ⟨1, 8, false, .other, none⟩,
  ⟨1, 8, false, .other, none⟩,
  ⟨1, 8, false, .other, none⟩,
  ⟨1, 8, false, .other, none⟩,
  ⟨20, 160, true, .other, none⟩,
  ⟨1, 4, false, .int .u32, some (Go.Value.int Go.IntKind.u32 0)⟩,
  ⟨65, 65, true, .other, none⟩,
  ⟨1, 8, false, .int .u64, some (Go.Value.int Go.IntKind.u64 0)⟩,
  ⟨1, 8, false, .other, none⟩,
  ⟨1, 8, false, .other, none⟩,
  ⟨1, 0, false, .other, some (Go.Value.tuple #[Go.Value.int Go.IntKind.u32 0, Go.Value.int Go.IntKind.u32 0])⟩,
  ⟨1, 8, false, .other, none⟩,
  ⟨32, 32, true, .other, none⟩,
  ⟨64, 64, true, .other, none⟩,
  ⟨4, 40, true, .struct [(0, 1), (1, 1), (2, 1), (3, 1)], some (Go.Value.agg #[Go.Value.pointer none, Go.Value.pointer none, Go.Value.pointer none, Go.Value.string { data := #[] }])⟩,
  ⟨4, 40, true, .struct [(0, 1), (1, 1), (2, 1), (3, 1)], some (Go.Value.agg #[Go.Value.pointer none, Go.Value.pointer none, Go.Value.pointer none, Go.Value.string { data := #[] }])⟩,
  ⟨0, 0, true, .other, some (Go.Value.agg #[])⟩,
  ⟨0, 0, true, .struct [(0, 0)], some (Go.Value.agg #[])⟩,
  ⟨0, 0, true, .struct [(0, 0)], some (Go.Value.agg #[])⟩,
  ⟨1, 8, false, .other, none⟩,
  ⟨1, 1, false, .int .u8, some (Go.Value.int Go.IntKind.u8 0)⟩,
  ⟨1, 1, false, .int .u8, some (Go.Value.int Go.IntKind.u8 0)⟩,
  ⟨1, 8, false, .other, none⟩,
  ⟨1, 4, false, .int .i32, some (Go.Value.int Go.IntKind.i32 0)⟩,
  ⟨1, 4, false, .int .i32, some (Go.Value.int Go.IntKind.i32 0)⟩,
  ⟨11, 48, true, .struct [(0, 1), (1, 1), (2, 1), (3, 1), (4, 1), (5, 1), (6, 1), (7, 1), (8, 1), (9, 1), (10, 1)], some (Go.Value.agg #[Go.Value.int Go.IntKind.u64 0, Go.Value.int Go.IntKind.u64 0, Go.Value.int Go.IntKind.u32 0, Go.Value.int Go.IntKind.u8 0, Go.Value.int Go.IntKind.u8 0, Go.Value.int Go.IntKind.u8 0, Go.Value.int Go.IntKind.u8 0, Go.Value.nilFunc, Go.Value.pointer none, Go.Value.int Go.IntKind.i32 0, Go.Value.int Go.IntKind.i32 0])⟩,
  ⟨11, 48, true, .struct [(0, 1), (1, 1), (2, 1), (3, 1), (4, 1), (5, 1), (6, 1), (7, 1), (8, 1), (9, 1), (10, 1)], some (Go.Value.agg #[Go.Value.int Go.IntKind.u64 0, Go.Value.int Go.IntKind.u64 0, Go.Value.int Go.IntKind.u32 0, Go.Value.int Go.IntKind.u8 0, Go.Value.int Go.IntKind.u8 0, Go.Value.int Go.IntKind.u8 0, Go.Value.int Go.IntKind.u8 0, Go.Value.nilFunc, Go.Value.pointer none, Go.Value.int Go.IntKind.i32 0, Go.Value.int Go.IntKind.i32 0])⟩]
theorem ttab_ok : TabOk prog ttab := .of ⟨ti0, ti1, ti2, ti3, ti4, ti5, ti6, ti7, ti8, ti9, ti10, ti11, ti12, ti13, ti14, ti15, ti16, ti17, ti18, ti19, ti20, ti21, ti22, ti23, ti24, ti25, ti26, ti27, ti28, ti29, ti30, ti31, ti32, ti33, ti34, ti35, ti36, ti37, ti38, ti39, ti40, ti41, ti42, ti43, ti44, ti45, ti46, ti47, ti48, ti49, ti50, ti51, ti52, ti53, ti54, ti55, ti56, ti57, ti58, ti59, ti60, ti61, ti62, ti63, ti64, ti65, ti66, ti67, ti68, ti69, ti70, ti71, ti72, ti73, ti74, ti75, ti76, ti77, ti78, ti79, ti80, ti81, ti82, ti83, ti84, ti85, ti86, ti87, ti88, ti89, ti90, ti91, ti92, ti93, ti94, ti95, ti96, ti97, ti98, ti99, ti100, ti101, ti102, ti103, ti104, ti105, ti106, ti107, ti108, ti109, ti110, ti111, ti112, ti113, ti114, ti115, ti116, ti117, ti118, ti119, ti120, ti121, ti122, ti123, ti124, ti125, ti126, ti127, ti128, ti129, trivial⟩
theorem follows_ : prog.follows .mixedOrders = true := by kernel_rfl
end Go.Proofs.Tryd
