/- The facts on the types of the seat YtobcdpmjaeflmaaGreatDoor: sizes, fields, elements. Printed by wip/Al/facts.py. -/
import Derived.Test.YtobcdpmjaeflmaaGreatDoorProg
import Derived.Test.YtobcdpmjaeflmaaGreatDoorAlRun
import Derived.KernelRfl
set_option linter.unusedVariables false
set_option linter.unusedSimpArgs false
namespace Go.Proofs.Tryz
open Go Go.Al
theorem sz0 : szOf prog 0 = some 1 := by kernel_rfl
theorem agg0 : aggOf prog 0 = false := by kernel_rfl
theorem zero0 : zeroOf prog 0 = some (Go.Value.tuple #[]) := by kernel_rfl
theorem info0 : infoOf prog 0 = some (1, 0, Go.Value.tuple #[]) := by kernel_rfl
theorem sz1 : szOf prog 1 = some 1 := by kernel_rfl
theorem agg1 : aggOf prog 1 = false := by kernel_rfl
theorem sz2 : szOf prog 2 = some 1 := by kernel_rfl
theorem agg2 : aggOf prog 2 = false := by kernel_rfl
theorem zero2 : zeroOf prog 2 = some (Go.Value.int Go.IntKind.i64 0) := by kernel_rfl
theorem info2 : infoOf prog 2 = some (1, 8, Go.Value.int Go.IntKind.i64 0) := by kernel_rfl
theorem ik2 : intKindOf prog 2 = some .i64 := by kernel_rfl
theorem sz3 : szOf prog 3 = some 1 := by kernel_rfl
theorem agg3 : aggOf prog 3 = false := by kernel_rfl
theorem zero3 : zeroOf prog 3 = some (Go.Value.int Go.IntKind.i64 0) := by kernel_rfl
theorem info3 : infoOf prog 3 = some (1, 8, Go.Value.int Go.IntKind.i64 0) := by kernel_rfl
theorem ik3 : intKindOf prog 3 = some .i64 := by kernel_rfl
theorem sz4 : szOf prog 4 = some 1 := by kernel_rfl
theorem agg4 : aggOf prog 4 = false := by kernel_rfl
theorem zero4 : zeroOf prog 4 = some (Go.Value.bool false) := by kernel_rfl
theorem info4 : infoOf prog 4 = some (1, 1, Go.Value.bool false) := by kernel_rfl
theorem sz5 : szOf prog 5 = some 1 := by kernel_rfl
theorem agg5 : aggOf prog 5 = false := by kernel_rfl
theorem zero5 : zeroOf prog 5 = some (Go.Value.int Go.IntKind.u8 0) := by kernel_rfl
theorem info5 : infoOf prog 5 = some (1, 1, Go.Value.int Go.IntKind.u8 0) := by kernel_rfl
theorem ik5 : intKindOf prog 5 = some .u8 := by kernel_rfl
theorem sz6 : szOf prog 6 = some 1 := by kernel_rfl
theorem agg6 : aggOf prog 6 = false := by kernel_rfl
theorem zero6 : zeroOf prog 6 = some (Go.Value.int Go.IntKind.u8 0) := by kernel_rfl
theorem info6 : infoOf prog 6 = some (1, 1, Go.Value.int Go.IntKind.u8 0) := by kernel_rfl
theorem ik6 : intKindOf prog 6 = some .u8 := by kernel_rfl
theorem sz7 : szOf prog 7 = some 4 := by kernel_rfl
theorem agg7 : aggOf prog 7 = true := by kernel_rfl
theorem fld7_0 : fldOf prog 7 0 = some 0 := by kernel_rfl
theorem fld7_1 : fldOf prog 7 1 = some 1 := by kernel_rfl
theorem fld7_2 : fldOf prog 7 2 = some 2 := by kernel_rfl
theorem fld7_3 : fldOf prog 7 3 = some 3 := by kernel_rfl
theorem zero7 : zeroOf prog 7 = some (Go.Value.agg #[Go.Value.int Go.IntKind.i64 0, Go.Value.int Go.IntKind.i64 0, Go.Value.bool false, Go.Value.int Go.IntKind.u8 0]) := by kernel_rfl
theorem info7 : infoOf prog 7 = some (4, 24, Go.Value.agg #[Go.Value.int Go.IntKind.i64 0, Go.Value.int Go.IntKind.i64 0, Go.Value.bool false, Go.Value.int Go.IntKind.u8 0]) := by kernel_rfl
theorem sz8 : szOf prog 8 = some 4 := by kernel_rfl
theorem agg8 : aggOf prog 8 = true := by kernel_rfl
theorem fld8_0 : fldOf prog 8 0 = some 0 := by kernel_rfl
theorem fld8_1 : fldOf prog 8 1 = some 1 := by kernel_rfl
theorem fld8_2 : fldOf prog 8 2 = some 2 := by kernel_rfl
theorem fld8_3 : fldOf prog 8 3 = some 3 := by kernel_rfl
theorem zero8 : zeroOf prog 8 = some (Go.Value.agg #[Go.Value.int Go.IntKind.i64 0, Go.Value.int Go.IntKind.i64 0, Go.Value.bool false, Go.Value.int Go.IntKind.u8 0]) := by kernel_rfl
theorem info8 : infoOf prog 8 = some (4, 24, Go.Value.agg #[Go.Value.int Go.IntKind.i64 0, Go.Value.int Go.IntKind.i64 0, Go.Value.bool false, Go.Value.int Go.IntKind.u8 0]) := by kernel_rfl
theorem sz9 : szOf prog 9 = some 1 := by kernel_rfl
theorem agg9 : aggOf prog 9 = false := by kernel_rfl
theorem zero9 : zeroOf prog 9 = some (Go.Value.string { data := #[] }) := by kernel_rfl
theorem info9 : infoOf prog 9 = some (1, 16, Go.Value.string { data := #[] }) := by kernel_rfl
theorem sz10 : szOf prog 10 = some 1 := by kernel_rfl
theorem agg10 : aggOf prog 10 = false := by kernel_rfl
theorem zero10 : zeroOf prog 10 = some (Go.Value.string { data := #[] }) := by kernel_rfl
theorem info10 : infoOf prog 10 = some (1, 16, Go.Value.string { data := #[] }) := by kernel_rfl
theorem sz11 : szOf prog 11 = some 1 := by kernel_rfl
theorem agg11 : aggOf prog 11 = false := by kernel_rfl
theorem zero11 : zeroOf prog 11 = some (Go.Value.string { data := #[] }) := by kernel_rfl
theorem info11 : infoOf prog 11 = some (1, 16, Go.Value.string { data := #[] }) := by kernel_rfl
theorem sz12 : szOf prog 12 = some 1 := by kernel_rfl
theorem agg12 : aggOf prog 12 = false := by kernel_rfl
theorem zero12 : zeroOf prog 12 = some (Go.Value.int Go.IntKind.u64 0) := by kernel_rfl
theorem info12 : infoOf prog 12 = some (1, 8, Go.Value.int Go.IntKind.u64 0) := by kernel_rfl
theorem ik12 : intKindOf prog 12 = some .u64 := by kernel_rfl
theorem sz13 : szOf prog 13 = some 2 := by kernel_rfl
theorem agg13 : aggOf prog 13 = true := by kernel_rfl
theorem fld13_0 : fldOf prog 13 0 = some 0 := by kernel_rfl
theorem fld13_1 : fldOf prog 13 1 = some 1 := by kernel_rfl
theorem zero13 : zeroOf prog 13 = some (Go.Value.agg #[Go.Value.string { data := #[] }, Go.Value.int Go.IntKind.u64 0]) := by kernel_rfl
theorem info13 : infoOf prog 13 = some (2, 24, Go.Value.agg #[Go.Value.string { data := #[] }, Go.Value.int Go.IntKind.u64 0]) := by kernel_rfl
theorem sz14 : szOf prog 14 = some 2 := by kernel_rfl
theorem agg14 : aggOf prog 14 = true := by kernel_rfl
theorem fld14_0 : fldOf prog 14 0 = some 0 := by kernel_rfl
theorem fld14_1 : fldOf prog 14 1 = some 1 := by kernel_rfl
theorem zero14 : zeroOf prog 14 = some (Go.Value.agg #[Go.Value.string { data := #[] }, Go.Value.int Go.IntKind.u64 0]) := by kernel_rfl
theorem info14 : infoOf prog 14 = some (2, 24, Go.Value.agg #[Go.Value.string { data := #[] }, Go.Value.int Go.IntKind.u64 0]) := by kernel_rfl
theorem sz15 : szOf prog 15 = some 1 := by kernel_rfl
theorem agg15 : aggOf prog 15 = false := by kernel_rfl
theorem zero15 : zeroOf prog 15 = some (Go.Value.pointer none) := by kernel_rfl
theorem info15 : infoOf prog 15 = some (1, 8, Go.Value.pointer none) := by kernel_rfl
theorem sz16 : szOf prog 16 = some 1 := by kernel_rfl
theorem agg16 : aggOf prog 16 = false := by kernel_rfl
theorem zero16 : zeroOf prog 16 = some (Go.Value.pointer none) := by kernel_rfl
theorem info16 : infoOf prog 16 = some (1, 8, Go.Value.pointer none) := by kernel_rfl
theorem sz17 : szOf prog 17 = some 1 := by kernel_rfl
theorem agg17 : aggOf prog 17 = false := by kernel_rfl
theorem zero17 : zeroOf prog 17 = some (Go.Value.pointer none) := by kernel_rfl
theorem info17 : infoOf prog 17 = some (1, 8, Go.Value.pointer none) := by kernel_rfl
theorem sz18 : szOf prog 18 = some 1 := by kernel_rfl
theorem agg18 : aggOf prog 18 = true := by kernel_rfl
theorem fld18_0 : fldOf prog 18 0 = some 0 := by kernel_rfl
theorem zero18 : zeroOf prog 18 = some (Go.Value.agg #[Go.Value.pointer none]) := by kernel_rfl
theorem info18 : infoOf prog 18 = some (1, 8, Go.Value.agg #[Go.Value.pointer none]) := by kernel_rfl
theorem sz19 : szOf prog 19 = some 1 := by kernel_rfl
theorem agg19 : aggOf prog 19 = true := by kernel_rfl
theorem fld19_0 : fldOf prog 19 0 = some 0 := by kernel_rfl
theorem zero19 : zeroOf prog 19 = some (Go.Value.agg #[Go.Value.pointer none]) := by kernel_rfl
theorem info19 : infoOf prog 19 = some (1, 8, Go.Value.agg #[Go.Value.pointer none]) := by kernel_rfl
theorem sz20 : szOf prog 20 = some 1 := by kernel_rfl
theorem agg20 : aggOf prog 20 = false := by kernel_rfl
theorem sz21 : szOf prog 21 = some 1 := by kernel_rfl
theorem agg21 : aggOf prog 21 = false := by kernel_rfl
theorem zero21 : zeroOf prog 21 = some (Go.Value.int Go.IntKind.i32 0) := by kernel_rfl
theorem info21 : infoOf prog 21 = some (1, 4, Go.Value.int Go.IntKind.i32 0) := by kernel_rfl
theorem ik21 : intKindOf prog 21 = some .i32 := by kernel_rfl
theorem sz22 : szOf prog 22 = some 1 := by kernel_rfl
theorem agg22 : aggOf prog 22 = false := by kernel_rfl
theorem elem22 : Al.elemOf prog 22 = some 54 := by kernel_rfl
theorem zero22 : zeroOf prog 22 = some (Go.Value.slice none 0 0) := by kernel_rfl
theorem info22 : infoOf prog 22 = some (1, 24, Go.Value.slice none 0 0) := by kernel_rfl
theorem sz23 : szOf prog 23 = some 1 := by kernel_rfl
theorem agg23 : aggOf prog 23 = true := by kernel_rfl
theorem fld23_0 : fldOf prog 23 0 = some 0 := by kernel_rfl
theorem zero23 : zeroOf prog 23 = some (Go.Value.agg #[Go.Value.slice none 0 0]) := by kernel_rfl
theorem info23 : infoOf prog 23 = some (1, 24, Go.Value.agg #[Go.Value.slice none 0 0]) := by kernel_rfl
theorem sz24 : szOf prog 24 = some 1 := by kernel_rfl
theorem agg24 : aggOf prog 24 = true := by kernel_rfl
theorem fld24_0 : fldOf prog 24 0 = some 0 := by kernel_rfl
theorem zero24 : zeroOf prog 24 = some (Go.Value.agg #[Go.Value.slice none 0 0]) := by kernel_rfl
theorem info24 : infoOf prog 24 = some (1, 24, Go.Value.agg #[Go.Value.slice none 0 0]) := by kernel_rfl
theorem sz25 : szOf prog 25 = some 1 := by kernel_rfl
theorem agg25 : aggOf prog 25 = false := by kernel_rfl
theorem sz26 : szOf prog 26 = some 1 := by kernel_rfl
theorem agg26 : aggOf prog 26 = false := by kernel_rfl
theorem sz27 : szOf prog 27 = some 1 := by kernel_rfl
theorem agg27 : aggOf prog 27 = false := by kernel_rfl
theorem zero27 : zeroOf prog 27 = some (Go.Value.int Go.IntKind.i64 0) := by kernel_rfl
theorem info27 : infoOf prog 27 = some (1, 8, Go.Value.int Go.IntKind.i64 0) := by kernel_rfl
theorem ik27 : intKindOf prog 27 = some .i64 := by kernel_rfl
theorem sz28 : szOf prog 28 = some 1 := by kernel_rfl
theorem agg28 : aggOf prog 28 = false := by kernel_rfl
theorem zero28 : zeroOf prog 28 = some (Go.Value.tuple #[Go.Value.string { data := #[] }, Go.Value.int Go.IntKind.i64 0]) := by kernel_rfl
theorem info28 : infoOf prog 28 = some (1, 0, Go.Value.tuple #[Go.Value.string { data := #[] }, Go.Value.int Go.IntKind.i64 0]) := by kernel_rfl
theorem sz29 : szOf prog 29 = some 1 := by kernel_rfl
theorem agg29 : aggOf prog 29 = false := by kernel_rfl
theorem sz30 : szOf prog 30 = some 1 := by kernel_rfl
theorem agg30 : aggOf prog 30 = false := by kernel_rfl
theorem zero30 : zeroOf prog 30 = some (Go.Value.tuple #[Go.Value.string { data := #[] }, Go.Value.int Go.IntKind.i64 0]) := by kernel_rfl
theorem info30 : infoOf prog 30 = some (1, 0, Go.Value.tuple #[Go.Value.string { data := #[] }, Go.Value.int Go.IntKind.i64 0]) := by kernel_rfl
theorem sz31 : szOf prog 31 = some 1 := by kernel_rfl
theorem agg31 : aggOf prog 31 = false := by kernel_rfl
theorem sz32 : szOf prog 32 = some 1 := by kernel_rfl
theorem agg32 : aggOf prog 32 = false := by kernel_rfl
theorem sz33 : szOf prog 33 = some 1 := by kernel_rfl
theorem agg33 : aggOf prog 33 = false := by kernel_rfl
theorem sz34 : szOf prog 34 = some 1 := by kernel_rfl
theorem agg34 : aggOf prog 34 = false := by kernel_rfl
theorem elem34 : Al.elemOf prog 34 = some 3 := by kernel_rfl
theorem zero34 : zeroOf prog 34 = some (Go.Value.slice none 0 0) := by kernel_rfl
theorem info34 : infoOf prog 34 = some (1, 24, Go.Value.slice none 0 0) := by kernel_rfl
theorem sz35 : szOf prog 35 = some 1 := by kernel_rfl
theorem agg35 : aggOf prog 35 = false := by kernel_rfl
theorem zero35 : zeroOf prog 35 = some (Go.Value.tuple #[Go.Value.slice none 0 0, Go.Value.int Go.IntKind.i64 0]) := by kernel_rfl
theorem info35 : infoOf prog 35 = some (1, 0, Go.Value.tuple #[Go.Value.slice none 0 0, Go.Value.int Go.IntKind.i64 0]) := by kernel_rfl
theorem sz36 : szOf prog 36 = some 1 := by kernel_rfl
theorem agg36 : aggOf prog 36 = false := by kernel_rfl
theorem sz37 : szOf prog 37 = some 1 := by kernel_rfl
theorem agg37 : aggOf prog 37 = false := by kernel_rfl
theorem zero37 : zeroOf prog 37 = some (Go.Value.tuple #[Go.Value.slice none 0 0, Go.Value.int Go.IntKind.i64 0]) := by kernel_rfl
theorem info37 : infoOf prog 37 = some (1, 0, Go.Value.tuple #[Go.Value.slice none 0 0, Go.Value.int Go.IntKind.i64 0]) := by kernel_rfl
theorem sz38 : szOf prog 38 = some 1 := by kernel_rfl
theorem agg38 : aggOf prog 38 = false := by kernel_rfl
theorem sz39 : szOf prog 39 = some 1 := by kernel_rfl
theorem agg39 : aggOf prog 39 = false := by kernel_rfl
theorem zero39 : zeroOf prog 39 = some (Go.Value.tuple #[Go.Value.int Go.IntKind.i64 0, Go.Value.int Go.IntKind.i64 0]) := by kernel_rfl
theorem info39 : infoOf prog 39 = some (1, 0, Go.Value.tuple #[Go.Value.int Go.IntKind.i64 0, Go.Value.int Go.IntKind.i64 0]) := by kernel_rfl
theorem sz40 : szOf prog 40 = some 1 := by kernel_rfl
theorem agg40 : aggOf prog 40 = false := by kernel_rfl
theorem sz41 : szOf prog 41 = some 1 := by kernel_rfl
theorem agg41 : aggOf prog 41 = false := by kernel_rfl
theorem zero41 : zeroOf prog 41 = some (Go.Value.tuple #[Go.Value.int Go.IntKind.i64 0, Go.Value.int Go.IntKind.i64 0]) := by kernel_rfl
theorem info41 : infoOf prog 41 = some (1, 0, Go.Value.tuple #[Go.Value.int Go.IntKind.i64 0, Go.Value.int Go.IntKind.i64 0]) := by kernel_rfl
theorem sz42 : szOf prog 42 = some 1 := by kernel_rfl
theorem agg42 : aggOf prog 42 = false := by kernel_rfl
theorem sz43 : szOf prog 43 = some 1 := by kernel_rfl
theorem agg43 : aggOf prog 43 = false := by kernel_rfl
theorem sz44 : szOf prog 44 = some 1 := by kernel_rfl
theorem agg44 : aggOf prog 44 = false := by kernel_rfl
theorem zero44 : zeroOf prog 44 = some (Go.Value.tuple #[Go.Value.agg #[Go.Value.slice none 0 0], Go.Value.int Go.IntKind.i64 0]) := by kernel_rfl
theorem info44 : infoOf prog 44 = some (1, 0, Go.Value.tuple #[Go.Value.agg #[Go.Value.slice none 0 0], Go.Value.int Go.IntKind.i64 0]) := by kernel_rfl
theorem sz45 : szOf prog 45 = some 1 := by kernel_rfl
theorem agg45 : aggOf prog 45 = false := by kernel_rfl
theorem sz46 : szOf prog 46 = some 1 := by kernel_rfl
theorem agg46 : aggOf prog 46 = false := by kernel_rfl
theorem zero46 : zeroOf prog 46 = some (Go.Value.tuple #[Go.Value.agg #[Go.Value.slice none 0 0], Go.Value.int Go.IntKind.i64 0]) := by kernel_rfl
theorem info46 : infoOf prog 46 = some (1, 0, Go.Value.tuple #[Go.Value.agg #[Go.Value.slice none 0 0], Go.Value.int Go.IntKind.i64 0]) := by kernel_rfl
theorem sz47 : szOf prog 47 = some 1 := by kernel_rfl
theorem agg47 : aggOf prog 47 = false := by kernel_rfl
theorem sz48 : szOf prog 48 = some 1 := by kernel_rfl
theorem agg48 : aggOf prog 48 = false := by kernel_rfl
theorem sz49 : szOf prog 49 = some 1 := by kernel_rfl
theorem agg49 : aggOf prog 49 = false := by kernel_rfl
theorem sz50 : szOf prog 50 = some 1 := by kernel_rfl
theorem agg50 : aggOf prog 50 = false := by kernel_rfl
theorem sz51 : szOf prog 51 = some 1 := by kernel_rfl
theorem agg51 : aggOf prog 51 = false := by kernel_rfl
theorem sz52 : szOf prog 52 = some 1 := by kernel_rfl
theorem agg52 : aggOf prog 52 = false := by kernel_rfl
theorem sz53 : szOf prog 53 = some 6 := by kernel_rfl
theorem agg53 : aggOf prog 53 = true := by kernel_rfl
theorem fld53_0 : fldOf prog 53 0 = some 0 := by kernel_rfl
theorem fld53_1 : fldOf prog 53 1 = some 1 := by kernel_rfl
theorem fld53_2 : fldOf prog 53 2 = some 2 := by kernel_rfl
theorem fld53_3 : fldOf prog 53 3 = some 3 := by kernel_rfl
theorem fld53_4 : fldOf prog 53 4 = some 4 := by kernel_rfl
theorem fld53_5 : fldOf prog 53 5 = some 5 := by kernel_rfl
theorem zero53 : zeroOf prog 53 = some (Go.Value.agg #[Go.Value.int Go.IntKind.i64 0, Go.Value.string { data := #[] }, Go.Value.int Go.IntKind.i64 0, Go.Value.slice none 0 0, Go.Value.int Go.IntKind.i64 0, Go.Value.int Go.IntKind.i64 0]) := by kernel_rfl
theorem info53 : infoOf prog 53 = some (6, 72, Go.Value.agg #[Go.Value.int Go.IntKind.i64 0, Go.Value.string { data := #[] }, Go.Value.int Go.IntKind.i64 0, Go.Value.slice none 0 0, Go.Value.int Go.IntKind.i64 0, Go.Value.int Go.IntKind.i64 0]) := by kernel_rfl
theorem sz54 : szOf prog 54 = some 6 := by kernel_rfl
theorem agg54 : aggOf prog 54 = true := by kernel_rfl
theorem fld54_0 : fldOf prog 54 0 = some 0 := by kernel_rfl
theorem fld54_1 : fldOf prog 54 1 = some 1 := by kernel_rfl
theorem fld54_2 : fldOf prog 54 2 = some 2 := by kernel_rfl
theorem fld54_3 : fldOf prog 54 3 = some 3 := by kernel_rfl
theorem fld54_4 : fldOf prog 54 4 = some 4 := by kernel_rfl
theorem fld54_5 : fldOf prog 54 5 = some 5 := by kernel_rfl
theorem zero54 : zeroOf prog 54 = some (Go.Value.agg #[Go.Value.int Go.IntKind.i64 0, Go.Value.string { data := #[] }, Go.Value.int Go.IntKind.i64 0, Go.Value.slice none 0 0, Go.Value.int Go.IntKind.i64 0, Go.Value.int Go.IntKind.i64 0]) := by kernel_rfl
theorem info54 : infoOf prog 54 = some (6, 72, Go.Value.agg #[Go.Value.int Go.IntKind.i64 0, Go.Value.string { data := #[] }, Go.Value.int Go.IntKind.i64 0, Go.Value.slice none 0 0, Go.Value.int Go.IntKind.i64 0, Go.Value.int Go.IntKind.i64 0]) := by kernel_rfl
theorem sz55 : szOf prog 55 = some 1 := by kernel_rfl
theorem agg55 : aggOf prog 55 = false := by kernel_rfl
theorem zero55 : zeroOf prog 55 = some (Go.Value.pointer none) := by kernel_rfl
theorem info55 : infoOf prog 55 = some (1, 8, Go.Value.pointer none) := by kernel_rfl
theorem sz56 : szOf prog 56 = some 1 := by kernel_rfl
theorem agg56 : aggOf prog 56 = false := by kernel_rfl
theorem elem56 : Al.elemOf prog 56 = some 9 := by kernel_rfl
theorem zero56 : zeroOf prog 56 = some (Go.Value.slice none 0 0) := by kernel_rfl
theorem info56 : infoOf prog 56 = some (1, 24, Go.Value.slice none 0 0) := by kernel_rfl
theorem sz57 : szOf prog 57 = some 2 := by kernel_rfl
theorem agg57 : aggOf prog 57 = true := by kernel_rfl
theorem fld57_0 : fldOf prog 57 0 = some 0 := by kernel_rfl
theorem fld57_1 : fldOf prog 57 1 = some 1 := by kernel_rfl
theorem zero57 : zeroOf prog 57 = some (Go.Value.agg #[Go.Value.slice none 0 0, Go.Value.slice none 0 0]) := by kernel_rfl
theorem info57 : infoOf prog 57 = some (2, 48, Go.Value.agg #[Go.Value.slice none 0 0, Go.Value.slice none 0 0]) := by kernel_rfl
theorem sz58 : szOf prog 58 = some 2 := by kernel_rfl
theorem agg58 : aggOf prog 58 = true := by kernel_rfl
theorem fld58_0 : fldOf prog 58 0 = some 0 := by kernel_rfl
theorem fld58_1 : fldOf prog 58 1 = some 1 := by kernel_rfl
theorem zero58 : zeroOf prog 58 = some (Go.Value.agg #[Go.Value.slice none 0 0, Go.Value.slice none 0 0]) := by kernel_rfl
theorem info58 : infoOf prog 58 = some (2, 48, Go.Value.agg #[Go.Value.slice none 0 0, Go.Value.slice none 0 0]) := by kernel_rfl
theorem sz59 : szOf prog 59 = some 1 := by kernel_rfl
theorem agg59 : aggOf prog 59 = false := by kernel_rfl
theorem sz60 : szOf prog 60 = some 1 := by kernel_rfl
theorem agg60 : aggOf prog 60 = false := by kernel_rfl
theorem sz61 : szOf prog 61 = some 1 := by kernel_rfl
theorem agg61 : aggOf prog 61 = false := by kernel_rfl
theorem zero61 : zeroOf prog 61 = some (Go.Value.pointer none) := by kernel_rfl
theorem info61 : infoOf prog 61 = some (1, 8, Go.Value.pointer none) := by kernel_rfl
theorem sz62 : szOf prog 62 = some 2 := by kernel_rfl
theorem agg62 : aggOf prog 62 = true := by kernel_rfl
theorem fld62_0 : fldOf prog 62 0 = some 0 := by kernel_rfl
theorem fld62_1 : fldOf prog 62 1 = some 1 := by kernel_rfl
theorem zero62 : zeroOf prog 62 = some (Go.Value.agg #[Go.Value.slice none 0 0, Go.Value.string { data := #[] }]) := by kernel_rfl
theorem info62 : infoOf prog 62 = some (2, 40, Go.Value.agg #[Go.Value.slice none 0 0, Go.Value.string { data := #[] }]) := by kernel_rfl
theorem sz63 : szOf prog 63 = some 2 := by kernel_rfl
theorem agg63 : aggOf prog 63 = true := by kernel_rfl
theorem fld63_0 : fldOf prog 63 0 = some 0 := by kernel_rfl
theorem fld63_1 : fldOf prog 63 1 = some 1 := by kernel_rfl
theorem zero63 : zeroOf prog 63 = some (Go.Value.agg #[Go.Value.slice none 0 0, Go.Value.string { data := #[] }]) := by kernel_rfl
theorem info63 : infoOf prog 63 = some (2, 40, Go.Value.agg #[Go.Value.slice none 0 0, Go.Value.string { data := #[] }]) := by kernel_rfl
theorem sz64 : szOf prog 64 = some 1 := by kernel_rfl
theorem agg64 : aggOf prog 64 = false := by kernel_rfl
theorem zero64 : zeroOf prog 64 = some (Go.Value.tuple #[Go.Value.slice none 0 0, Go.Value.bool false]) := by kernel_rfl
theorem info64 : infoOf prog 64 = some (1, 0, Go.Value.tuple #[Go.Value.slice none 0 0, Go.Value.bool false]) := by kernel_rfl
theorem sz65 : szOf prog 65 = some 1 := by kernel_rfl
theorem agg65 : aggOf prog 65 = false := by kernel_rfl
theorem sz66 : szOf prog 66 = some 1 := by kernel_rfl
theorem agg66 : aggOf prog 66 = false := by kernel_rfl
theorem sz67 : szOf prog 67 = some 1 := by kernel_rfl
theorem agg67 : aggOf prog 67 = false := by kernel_rfl
theorem sz68 : szOf prog 68 = some 1 := by kernel_rfl
theorem agg68 : aggOf prog 68 = false := by kernel_rfl
theorem sz69 : szOf prog 69 = some 1 := by kernel_rfl
theorem agg69 : aggOf prog 69 = false := by kernel_rfl
theorem elem69 : Al.elemOf prog 69 = some 4 := by kernel_rfl
theorem zero69 : zeroOf prog 69 = some (Go.Value.slice none 0 0) := by kernel_rfl
theorem info69 : infoOf prog 69 = some (1, 24, Go.Value.slice none 0 0) := by kernel_rfl
theorem sz70 : szOf prog 70 = some 1 := by kernel_rfl
theorem agg70 : aggOf prog 70 = false := by kernel_rfl
theorem sz71 : szOf prog 71 = some 1 := by kernel_rfl
theorem agg71 : aggOf prog 71 = false := by kernel_rfl
theorem sz72 : szOf prog 72 = some 1 := by kernel_rfl
theorem agg72 : aggOf prog 72 = false := by kernel_rfl
theorem sz73 : szOf prog 73 = some 1 := by kernel_rfl
theorem agg73 : aggOf prog 73 = false := by kernel_rfl
theorem sz74 : szOf prog 74 = some 1 := by kernel_rfl
theorem agg74 : aggOf prog 74 = false := by kernel_rfl
theorem zero74 : zeroOf prog 74 = some (Go.Value.pointer none) := by kernel_rfl
theorem info74 : infoOf prog 74 = some (1, 8, Go.Value.pointer none) := by kernel_rfl
theorem sz75 : szOf prog 75 = some 1 := by kernel_rfl
theorem agg75 : aggOf prog 75 = false := by kernel_rfl
theorem elem75 : Al.elemOf prog 75 = some 5 := by kernel_rfl
theorem zero75 : zeroOf prog 75 = some (Go.Value.slice none 0 0) := by kernel_rfl
theorem info75 : infoOf prog 75 = some (1, 24, Go.Value.slice none 0 0) := by kernel_rfl
theorem sz76 : szOf prog 76 = some 2 := by kernel_rfl
theorem agg76 : aggOf prog 76 = true := by kernel_rfl
theorem fld76_0 : fldOf prog 76 0 = some 0 := by kernel_rfl
theorem fld76_1 : fldOf prog 76 1 = some 1 := by kernel_rfl
theorem zero76 : zeroOf prog 76 = some (Go.Value.agg #[Go.Value.pointer none, Go.Value.slice none 0 0]) := by kernel_rfl
theorem info76 : infoOf prog 76 = some (2, 32, Go.Value.agg #[Go.Value.pointer none, Go.Value.slice none 0 0]) := by kernel_rfl
theorem sz77 : szOf prog 77 = some 2 := by kernel_rfl
theorem agg77 : aggOf prog 77 = true := by kernel_rfl
theorem fld77_0 : fldOf prog 77 0 = some 0 := by kernel_rfl
theorem fld77_1 : fldOf prog 77 1 = some 1 := by kernel_rfl
theorem zero77 : zeroOf prog 77 = some (Go.Value.agg #[Go.Value.pointer none, Go.Value.slice none 0 0]) := by kernel_rfl
theorem info77 : infoOf prog 77 = some (2, 32, Go.Value.agg #[Go.Value.pointer none, Go.Value.slice none 0 0]) := by kernel_rfl
theorem sz78 : szOf prog 78 = some 1 := by kernel_rfl
theorem agg78 : aggOf prog 78 = false := by kernel_rfl
theorem sz79 : szOf prog 79 = some 1 := by kernel_rfl
theorem agg79 : aggOf prog 79 = false := by kernel_rfl
theorem sz80 : szOf prog 80 = some 1 := by kernel_rfl
theorem agg80 : aggOf prog 80 = false := by kernel_rfl
theorem zero80 : zeroOf prog 80 = some (Go.Value.tuple #[Go.Value.int Go.IntKind.i64 0, Go.Value.nilIface]) := by kernel_rfl
theorem info80 : infoOf prog 80 = some (1, 0, Go.Value.tuple #[Go.Value.int Go.IntKind.i64 0, Go.Value.nilIface]) := by kernel_rfl
theorem sz81 : szOf prog 81 = some 1 := by kernel_rfl
theorem agg81 : aggOf prog 81 = false := by kernel_rfl
theorem sz82 : szOf prog 82 = some 1 := by kernel_rfl
theorem agg82 : aggOf prog 82 = false := by kernel_rfl
theorem sz83 : szOf prog 83 = some 1 := by kernel_rfl
theorem agg83 : aggOf prog 83 = false := by kernel_rfl
theorem sz84 : szOf prog 84 = some 1 := by kernel_rfl
theorem agg84 : aggOf prog 84 = false := by kernel_rfl
theorem sz85 : szOf prog 85 = some 1 := by kernel_rfl
theorem agg85 : aggOf prog 85 = false := by kernel_rfl
theorem sz86 : szOf prog 86 = some 1 := by kernel_rfl
theorem agg86 : aggOf prog 86 = false := by kernel_rfl
theorem sz87 : szOf prog 87 = some 1 := by kernel_rfl
theorem agg87 : aggOf prog 87 = false := by kernel_rfl
theorem sz88 : szOf prog 88 = some 1 := by kernel_rfl
theorem agg88 : aggOf prog 88 = false := by kernel_rfl
theorem sz89 : szOf prog 89 = some 1 := by kernel_rfl
theorem agg89 : aggOf prog 89 = false := by kernel_rfl
theorem sz90 : szOf prog 90 = some 1 := by kernel_rfl
theorem agg90 : aggOf prog 90 = false := by kernel_rfl
theorem sz91 : szOf prog 91 = some 1 := by kernel_rfl
theorem agg91 : aggOf prog 91 = false := by kernel_rfl
theorem zero91 : zeroOf prog 91 = some (Go.Value.map none) := by kernel_rfl
theorem info91 : infoOf prog 91 = some (1, 8, Go.Value.map none) := by kernel_rfl
theorem sz92 : szOf prog 92 = some 1 := by kernel_rfl
theorem agg92 : aggOf prog 92 = false := by kernel_rfl
theorem sz93 : szOf prog 93 = some 1 := by kernel_rfl
theorem agg93 : aggOf prog 93 = false := by kernel_rfl
theorem sz94 : szOf prog 94 = some 1 := by kernel_rfl
theorem agg94 : aggOf prog 94 = false := by kernel_rfl
theorem sz95 : szOf prog 95 = some 1 := by kernel_rfl
theorem agg95 : aggOf prog 95 = false := by kernel_rfl
theorem sz96 : szOf prog 96 = some 1 := by kernel_rfl
theorem agg96 : aggOf prog 96 = false := by kernel_rfl
theorem zero96 : zeroOf prog 96 = some (Go.Value.pointer none) := by kernel_rfl
theorem info96 : infoOf prog 96 = some (1, 8, Go.Value.pointer none) := by kernel_rfl
theorem sz97 : szOf prog 97 = some 1 := by kernel_rfl
theorem agg97 : aggOf prog 97 = false := by kernel_rfl
theorem sz98 : szOf prog 98 = some 1 := by kernel_rfl
theorem agg98 : aggOf prog 98 = false := by kernel_rfl
theorem sz99 : szOf prog 99 = some 1 := by kernel_rfl
theorem agg99 : aggOf prog 99 = false := by kernel_rfl
theorem sz100 : szOf prog 100 = some 1 := by kernel_rfl
theorem agg100 : aggOf prog 100 = false := by kernel_rfl
theorem zero100 : zeroOf prog 100 = some (Go.Value.tuple #[Go.Value.string { data := #[] }, Go.Value.string { data := #[] }, Go.Value.bool false]) := by kernel_rfl
theorem info100 : infoOf prog 100 = some (1, 0, Go.Value.tuple #[Go.Value.string { data := #[] }, Go.Value.string { data := #[] }, Go.Value.bool false]) := by kernel_rfl
theorem sz101 : szOf prog 101 = some 1 := by kernel_rfl
theorem agg101 : aggOf prog 101 = false := by kernel_rfl
theorem sz102 : szOf prog 102 = some 1 := by kernel_rfl
theorem agg102 : aggOf prog 102 = false := by kernel_rfl
theorem sz103 : szOf prog 103 = some 1 := by kernel_rfl
theorem agg103 : aggOf prog 103 = false := by kernel_rfl
theorem sz104 : szOf prog 104 = some 1 := by kernel_rfl
theorem agg104 : aggOf prog 104 = false := by kernel_rfl
theorem sz105 : szOf prog 105 = some 1 := by kernel_rfl
theorem agg105 : aggOf prog 105 = false := by kernel_rfl
theorem sz106 : szOf prog 106 = some 1 := by kernel_rfl
theorem agg106 : aggOf prog 106 = false := by kernel_rfl
theorem sz107 : szOf prog 107 = some 1 := by kernel_rfl
theorem agg107 : aggOf prog 107 = false := by kernel_rfl
theorem zero107 : zeroOf prog 107 = some (Go.Value.pointer none) := by kernel_rfl
theorem info107 : infoOf prog 107 = some (1, 8, Go.Value.pointer none) := by kernel_rfl
theorem sz108 : szOf prog 108 = some 1 := by kernel_rfl
theorem agg108 : aggOf prog 108 = false := by kernel_rfl
theorem sz109 : szOf prog 109 = some 1 := by kernel_rfl
theorem agg109 : aggOf prog 109 = false := by kernel_rfl
theorem sz110 : szOf prog 110 = some 1 := by kernel_rfl
theorem agg110 : aggOf prog 110 = false := by kernel_rfl
theorem sz111 : szOf prog 111 = some 1 := by kernel_rfl
theorem agg111 : aggOf prog 111 = false := by kernel_rfl
theorem sz112 : szOf prog 112 = some 1 := by kernel_rfl
theorem agg112 : aggOf prog 112 = false := by kernel_rfl
theorem sz113 : szOf prog 113 = some 1 := by kernel_rfl
theorem agg113 : aggOf prog 113 = false := by kernel_rfl
theorem sz114 : szOf prog 114 = some 1 := by kernel_rfl
theorem agg114 : aggOf prog 114 = false := by kernel_rfl
theorem sz115 : szOf prog 115 = some 1 := by kernel_rfl
theorem agg115 : aggOf prog 115 = false := by kernel_rfl
theorem sz116 : szOf prog 116 = some 24 := by kernel_rfl
theorem agg116 : aggOf prog 116 = true := by kernel_rfl
theorem sz117 : szOf prog 117 = some 1 := by kernel_rfl
theorem agg117 : aggOf prog 117 = false := by kernel_rfl
theorem zero117 : zeroOf prog 117 = some (Go.Value.int Go.IntKind.u64 0) := by kernel_rfl
theorem info117 : infoOf prog 117 = some (1, 8, Go.Value.int Go.IntKind.u64 0) := by kernel_rfl
theorem ik117 : intKindOf prog 117 = some .u64 := by kernel_rfl
theorem sz118 : szOf prog 118 = some 1 := by kernel_rfl
theorem agg118 : aggOf prog 118 = false := by kernel_rfl
theorem sz119 : szOf prog 119 = some 1 := by kernel_rfl
theorem agg119 : aggOf prog 119 = false := by kernel_rfl
theorem sz120 : szOf prog 120 = some 1 := by kernel_rfl
theorem agg120 : aggOf prog 120 = false := by kernel_rfl
theorem zero120 : zeroOf prog 120 = some (Go.Value.tuple #[Go.Value.slice none 0 0, Go.Value.string { data := #[] }]) := by kernel_rfl
theorem info120 : infoOf prog 120 = some (1, 0, Go.Value.tuple #[Go.Value.slice none 0 0, Go.Value.string { data := #[] }]) := by kernel_rfl
theorem sz121 : szOf prog 121 = some 1 := by kernel_rfl
theorem agg121 : aggOf prog 121 = false := by kernel_rfl
theorem sz122 : szOf prog 122 = some 1 := by kernel_rfl
theorem agg122 : aggOf prog 122 = false := by kernel_rfl
theorem sz123 : szOf prog 123 = some 1 := by kernel_rfl
theorem agg123 : aggOf prog 123 = false := by kernel_rfl
theorem sz124 : szOf prog 124 = some 1 := by kernel_rfl
theorem agg124 : aggOf prog 124 = false := by kernel_rfl
theorem sz125 : szOf prog 125 = some 1 := by kernel_rfl
theorem agg125 : aggOf prog 125 = false := by kernel_rfl
theorem sz126 : szOf prog 126 = some 1 := by kernel_rfl
theorem agg126 : aggOf prog 126 = false := by kernel_rfl
theorem sz127 : szOf prog 127 = some 20 := by kernel_rfl
theorem agg127 : aggOf prog 127 = true := by kernel_rfl
theorem sz128 : szOf prog 128 = some 1 := by kernel_rfl
theorem agg128 : aggOf prog 128 = false := by kernel_rfl
theorem zero128 : zeroOf prog 128 = some (Go.Value.int Go.IntKind.u32 0) := by kernel_rfl
theorem info128 : infoOf prog 128 = some (1, 4, Go.Value.int Go.IntKind.u32 0) := by kernel_rfl
theorem ik128 : intKindOf prog 128 = some .u32 := by kernel_rfl
theorem sz129 : szOf prog 129 = some 65 := by kernel_rfl
theorem agg129 : aggOf prog 129 = true := by kernel_rfl
theorem sz130 : szOf prog 130 = some 1 := by kernel_rfl
theorem agg130 : aggOf prog 130 = false := by kernel_rfl
theorem zero130 : zeroOf prog 130 = some (Go.Value.int Go.IntKind.u64 0) := by kernel_rfl
theorem info130 : infoOf prog 130 = some (1, 8, Go.Value.int Go.IntKind.u64 0) := by kernel_rfl
theorem ik130 : intKindOf prog 130 = some .u64 := by kernel_rfl
theorem sz131 : szOf prog 131 = some 1 := by kernel_rfl
theorem agg131 : aggOf prog 131 = false := by kernel_rfl
theorem sz132 : szOf prog 132 = some 1 := by kernel_rfl
theorem agg132 : aggOf prog 132 = false := by kernel_rfl
theorem sz133 : szOf prog 133 = some 1 := by kernel_rfl
theorem agg133 : aggOf prog 133 = false := by kernel_rfl
theorem zero133 : zeroOf prog 133 = some (Go.Value.tuple #[Go.Value.int Go.IntKind.u32 0, Go.Value.int Go.IntKind.u32 0]) := by kernel_rfl
theorem info133 : infoOf prog 133 = some (1, 0, Go.Value.tuple #[Go.Value.int Go.IntKind.u32 0, Go.Value.int Go.IntKind.u32 0]) := by kernel_rfl
theorem sz134 : szOf prog 134 = some 1 := by kernel_rfl
theorem agg134 : aggOf prog 134 = false := by kernel_rfl
theorem sz135 : szOf prog 135 = some 32 := by kernel_rfl
theorem agg135 : aggOf prog 135 = true := by kernel_rfl
theorem sz136 : szOf prog 136 = some 64 := by kernel_rfl
theorem agg136 : aggOf prog 136 = true := by kernel_rfl
theorem sz137 : szOf prog 137 = some 4 := by kernel_rfl
theorem agg137 : aggOf prog 137 = true := by kernel_rfl
theorem fld137_0 : fldOf prog 137 0 = some 0 := by kernel_rfl
theorem fld137_1 : fldOf prog 137 1 = some 1 := by kernel_rfl
theorem fld137_2 : fldOf prog 137 2 = some 2 := by kernel_rfl
theorem fld137_3 : fldOf prog 137 3 = some 3 := by kernel_rfl
theorem zero137 : zeroOf prog 137 = some (Go.Value.agg #[Go.Value.pointer none, Go.Value.pointer none, Go.Value.pointer none, Go.Value.string { data := #[] }]) := by kernel_rfl
theorem info137 : infoOf prog 137 = some (4, 40, Go.Value.agg #[Go.Value.pointer none, Go.Value.pointer none, Go.Value.pointer none, Go.Value.string { data := #[] }]) := by kernel_rfl
theorem sz138 : szOf prog 138 = some 4 := by kernel_rfl
theorem agg138 : aggOf prog 138 = true := by kernel_rfl
theorem fld138_0 : fldOf prog 138 0 = some 0 := by kernel_rfl
theorem fld138_1 : fldOf prog 138 1 = some 1 := by kernel_rfl
theorem fld138_2 : fldOf prog 138 2 = some 2 := by kernel_rfl
theorem fld138_3 : fldOf prog 138 3 = some 3 := by kernel_rfl
theorem zero138 : zeroOf prog 138 = some (Go.Value.agg #[Go.Value.pointer none, Go.Value.pointer none, Go.Value.pointer none, Go.Value.string { data := #[] }]) := by kernel_rfl
theorem info138 : infoOf prog 138 = some (4, 40, Go.Value.agg #[Go.Value.pointer none, Go.Value.pointer none, Go.Value.pointer none, Go.Value.string { data := #[] }]) := by kernel_rfl
theorem sz139 : szOf prog 139 = some 0 := by kernel_rfl
theorem agg139 : aggOf prog 139 = true := by kernel_rfl
theorem zero139 : zeroOf prog 139 = some (Go.Value.agg #[]) := by kernel_rfl
theorem info139 : infoOf prog 139 = some (0, 0, Go.Value.agg #[]) := by kernel_rfl
theorem sz140 : szOf prog 140 = some 0 := by kernel_rfl
theorem agg140 : aggOf prog 140 = true := by kernel_rfl
theorem zero140 : zeroOf prog 140 = some (Go.Value.agg #[]) := by kernel_rfl
theorem info140 : infoOf prog 140 = some (0, 0, Go.Value.agg #[]) := by kernel_rfl
theorem sz141 : szOf prog 141 = some 0 := by kernel_rfl
theorem agg141 : aggOf prog 141 = true := by kernel_rfl
theorem zero141 : zeroOf prog 141 = some (Go.Value.agg #[]) := by kernel_rfl
theorem info141 : infoOf prog 141 = some (0, 0, Go.Value.agg #[]) := by kernel_rfl
theorem sz142 : szOf prog 142 = some 1 := by kernel_rfl
theorem agg142 : aggOf prog 142 = false := by kernel_rfl
theorem sz143 : szOf prog 143 = some 1 := by kernel_rfl
theorem agg143 : aggOf prog 143 = false := by kernel_rfl
theorem zero143 : zeroOf prog 143 = some (Go.Value.int Go.IntKind.u8 0) := by kernel_rfl
theorem info143 : infoOf prog 143 = some (1, 1, Go.Value.int Go.IntKind.u8 0) := by kernel_rfl
theorem ik143 : intKindOf prog 143 = some .u8 := by kernel_rfl
theorem sz144 : szOf prog 144 = some 1 := by kernel_rfl
theorem agg144 : aggOf prog 144 = false := by kernel_rfl
theorem zero144 : zeroOf prog 144 = some (Go.Value.int Go.IntKind.u8 0) := by kernel_rfl
theorem info144 : infoOf prog 144 = some (1, 1, Go.Value.int Go.IntKind.u8 0) := by kernel_rfl
theorem ik144 : intKindOf prog 144 = some .u8 := by kernel_rfl
theorem sz145 : szOf prog 145 = some 1 := by kernel_rfl
theorem agg145 : aggOf prog 145 = false := by kernel_rfl
theorem sz146 : szOf prog 146 = some 1 := by kernel_rfl
theorem agg146 : aggOf prog 146 = false := by kernel_rfl
theorem zero146 : zeroOf prog 146 = some (Go.Value.int Go.IntKind.i32 0) := by kernel_rfl
theorem info146 : infoOf prog 146 = some (1, 4, Go.Value.int Go.IntKind.i32 0) := by kernel_rfl
theorem ik146 : intKindOf prog 146 = some .i32 := by kernel_rfl
theorem sz147 : szOf prog 147 = some 1 := by kernel_rfl
theorem agg147 : aggOf prog 147 = false := by kernel_rfl
theorem zero147 : zeroOf prog 147 = some (Go.Value.int Go.IntKind.i32 0) := by kernel_rfl
theorem info147 : infoOf prog 147 = some (1, 4, Go.Value.int Go.IntKind.i32 0) := by kernel_rfl
theorem ik147 : intKindOf prog 147 = some .i32 := by kernel_rfl
theorem sz148 : szOf prog 148 = some 11 := by kernel_rfl
theorem agg148 : aggOf prog 148 = true := by kernel_rfl
theorem fld148_0 : fldOf prog 148 0 = some 0 := by kernel_rfl
theorem fld148_1 : fldOf prog 148 1 = some 1 := by kernel_rfl
theorem fld148_2 : fldOf prog 148 2 = some 2 := by kernel_rfl
theorem fld148_3 : fldOf prog 148 3 = some 3 := by kernel_rfl
theorem fld148_4 : fldOf prog 148 4 = some 4 := by kernel_rfl
theorem fld148_5 : fldOf prog 148 5 = some 5 := by kernel_rfl
theorem fld148_6 : fldOf prog 148 6 = some 6 := by kernel_rfl
theorem fld148_7 : fldOf prog 148 7 = some 7 := by kernel_rfl
theorem fld148_8 : fldOf prog 148 8 = some 8 := by kernel_rfl
theorem fld148_9 : fldOf prog 148 9 = some 9 := by kernel_rfl
theorem fld148_10 : fldOf prog 148 10 = some 10 := by kernel_rfl
theorem zero148 : zeroOf prog 148 = some (Go.Value.agg #[Go.Value.int Go.IntKind.u64 0, Go.Value.int Go.IntKind.u64 0, Go.Value.int Go.IntKind.u32 0, Go.Value.int Go.IntKind.u8 0, Go.Value.int Go.IntKind.u8 0, Go.Value.int Go.IntKind.u8 0, Go.Value.int Go.IntKind.u8 0, Go.Value.nilFunc, Go.Value.pointer none, Go.Value.int Go.IntKind.i32 0, Go.Value.int Go.IntKind.i32 0]) := by kernel_rfl
theorem info148 : infoOf prog 148 = some (11, 48, Go.Value.agg #[Go.Value.int Go.IntKind.u64 0, Go.Value.int Go.IntKind.u64 0, Go.Value.int Go.IntKind.u32 0, Go.Value.int Go.IntKind.u8 0, Go.Value.int Go.IntKind.u8 0, Go.Value.int Go.IntKind.u8 0, Go.Value.int Go.IntKind.u8 0, Go.Value.nilFunc, Go.Value.pointer none, Go.Value.int Go.IntKind.i32 0, Go.Value.int Go.IntKind.i32 0]) := by kernel_rfl
theorem sz149 : szOf prog 149 = some 11 := by kernel_rfl
theorem agg149 : aggOf prog 149 = true := by kernel_rfl
theorem fld149_0 : fldOf prog 149 0 = some 0 := by kernel_rfl
theorem fld149_1 : fldOf prog 149 1 = some 1 := by kernel_rfl
theorem fld149_2 : fldOf prog 149 2 = some 2 := by kernel_rfl
theorem fld149_3 : fldOf prog 149 3 = some 3 := by kernel_rfl
theorem fld149_4 : fldOf prog 149 4 = some 4 := by kernel_rfl
theorem fld149_5 : fldOf prog 149 5 = some 5 := by kernel_rfl
theorem fld149_6 : fldOf prog 149 6 = some 6 := by kernel_rfl
theorem fld149_7 : fldOf prog 149 7 = some 7 := by kernel_rfl
theorem fld149_8 : fldOf prog 149 8 = some 8 := by kernel_rfl
theorem fld149_9 : fldOf prog 149 9 = some 9 := by kernel_rfl
theorem fld149_10 : fldOf prog 149 10 = some 10 := by kernel_rfl
theorem zero149 : zeroOf prog 149 = some (Go.Value.agg #[Go.Value.int Go.IntKind.u64 0, Go.Value.int Go.IntKind.u64 0, Go.Value.int Go.IntKind.u32 0, Go.Value.int Go.IntKind.u8 0, Go.Value.int Go.IntKind.u8 0, Go.Value.int Go.IntKind.u8 0, Go.Value.int Go.IntKind.u8 0, Go.Value.nilFunc, Go.Value.pointer none, Go.Value.int Go.IntKind.i32 0, Go.Value.int Go.IntKind.i32 0]) := by kernel_rfl
theorem info149 : infoOf prog 149 = some (11, 48, Go.Value.agg #[Go.Value.int Go.IntKind.u64 0, Go.Value.int Go.IntKind.u64 0, Go.Value.int Go.IntKind.u32 0, Go.Value.int Go.IntKind.u8 0, Go.Value.int Go.IntKind.u8 0, Go.Value.int Go.IntKind.u8 0, Go.Value.int Go.IntKind.u8 0, Go.Value.nilFunc, Go.Value.pointer none, Go.Value.int Go.IntKind.i32 0, Go.Value.int Go.IntKind.i32 0]) := by kernel_rfl
theorem ti0 : TiOk prog 0 ⟨1, 0, false, .other, some (Go.Value.tuple #[])⟩ := ⟨sz0, by kernel_rfl, agg0, trivial, fun z h => by cases h; exact ⟨zero0, info0⟩⟩
theorem ti1 : TiOk prog 1 ⟨1, 8, false, .other, none⟩ := ⟨sz1, by kernel_rfl, agg1, trivial, fun z h => by cases h⟩
theorem ti2 : TiOk prog 2 ⟨1, 8, false, .int .i64, some (Go.Value.int Go.IntKind.i64 0)⟩ := ⟨sz2, by kernel_rfl, agg2, underlying2, fun z h => by cases h; exact ⟨zero2, info2⟩⟩
theorem ti3 : TiOk prog 3 ⟨1, 8, false, .int .i64, some (Go.Value.int Go.IntKind.i64 0)⟩ := ⟨sz3, by kernel_rfl, agg3, underlying3, fun z h => by cases h; exact ⟨zero3, info3⟩⟩
theorem ti4 : TiOk prog 4 ⟨1, 1, false, .bool, some (Go.Value.bool false)⟩ := ⟨sz4, by kernel_rfl, agg4, underlying4, fun z h => by cases h; exact ⟨zero4, info4⟩⟩
theorem ti5 : TiOk prog 5 ⟨1, 1, false, .int .u8, some (Go.Value.int Go.IntKind.u8 0)⟩ := ⟨sz5, by kernel_rfl, agg5, underlying5, fun z h => by cases h; exact ⟨zero5, info5⟩⟩
theorem ti6 : TiOk prog 6 ⟨1, 1, false, .int .u8, some (Go.Value.int Go.IntKind.u8 0)⟩ := ⟨sz6, by kernel_rfl, agg6, underlying6, fun z h => by cases h; exact ⟨zero6, info6⟩⟩
theorem ti7 : TiOk prog 7 ⟨4, 24, true, .struct [(0, 1), (1, 1), (2, 1), (3, 1)], some (Go.Value.agg #[Go.Value.int Go.IntKind.i64 0, Go.Value.int Go.IntKind.i64 0, Go.Value.bool false, Go.Value.int Go.IntKind.u8 0])⟩ := ⟨sz7, by kernel_rfl, agg7, ⟨_, underlying7, by kernel_rfl⟩, fun z h => by cases h; exact ⟨zero7, info7⟩⟩
theorem ti8 : TiOk prog 8 ⟨4, 24, true, .struct [(0, 1), (1, 1), (2, 1), (3, 1)], some (Go.Value.agg #[Go.Value.int Go.IntKind.i64 0, Go.Value.int Go.IntKind.i64 0, Go.Value.bool false, Go.Value.int Go.IntKind.u8 0])⟩ := ⟨sz8, by kernel_rfl, agg8, ⟨_, underlying8, by kernel_rfl⟩, fun z h => by cases h; exact ⟨zero8, info8⟩⟩
theorem ti9 : TiOk prog 9 ⟨1, 16, false, .str, some (Go.Value.string { data := #[] })⟩ := ⟨sz9, by kernel_rfl, agg9, underlying9, fun z h => by cases h; exact ⟨zero9, info9⟩⟩
theorem ti10 : TiOk prog 10 ⟨1, 16, false, .str, some (Go.Value.string { data := #[] })⟩ := ⟨sz10, by kernel_rfl, agg10, underlying10, fun z h => by cases h; exact ⟨zero10, info10⟩⟩
theorem ti11 : TiOk prog 11 ⟨1, 16, false, .str, some (Go.Value.string { data := #[] })⟩ := ⟨sz11, by kernel_rfl, agg11, underlying11, fun z h => by cases h; exact ⟨zero11, info11⟩⟩
theorem ti12 : TiOk prog 12 ⟨1, 8, false, .int .u64, some (Go.Value.int Go.IntKind.u64 0)⟩ := ⟨sz12, by kernel_rfl, agg12, underlying12, fun z h => by cases h; exact ⟨zero12, info12⟩⟩
theorem ti13 : TiOk prog 13 ⟨2, 24, true, .struct [(0, 1), (1, 1)], some (Go.Value.agg #[Go.Value.string { data := #[] }, Go.Value.int Go.IntKind.u64 0])⟩ := ⟨sz13, by kernel_rfl, agg13, ⟨_, underlying13, by kernel_rfl⟩, fun z h => by cases h; exact ⟨zero13, info13⟩⟩
theorem ti14 : TiOk prog 14 ⟨2, 24, true, .struct [(0, 1), (1, 1)], some (Go.Value.agg #[Go.Value.string { data := #[] }, Go.Value.int Go.IntKind.u64 0])⟩ := ⟨sz14, by kernel_rfl, agg14, ⟨_, underlying14, by kernel_rfl⟩, fun z h => by cases h; exact ⟨zero14, info14⟩⟩
theorem ti15 : TiOk prog 15 ⟨1, 8, false, .ptr, some (Go.Value.pointer none)⟩ := ⟨sz15, by kernel_rfl, agg15, (show isPtrT prog 15 = true by kernel_rfl), fun z h => by cases h; exact ⟨zero15, info15⟩⟩
theorem ti16 : TiOk prog 16 ⟨1, 8, false, .ptr, some (Go.Value.pointer none)⟩ := ⟨sz16, by kernel_rfl, agg16, (show isPtrT prog 16 = true by kernel_rfl), fun z h => by cases h; exact ⟨zero16, info16⟩⟩
theorem ti17 : TiOk prog 17 ⟨1, 8, false, .ptr, some (Go.Value.pointer none)⟩ := ⟨sz17, by kernel_rfl, agg17, (show isPtrT prog 17 = true by kernel_rfl), fun z h => by cases h; exact ⟨zero17, info17⟩⟩
theorem ti18 : TiOk prog 18 ⟨1, 8, true, .struct [(0, 1)], some (Go.Value.agg #[Go.Value.pointer none])⟩ := ⟨sz18, by kernel_rfl, agg18, ⟨_, underlying18, by kernel_rfl⟩, fun z h => by cases h; exact ⟨zero18, info18⟩⟩
theorem ti19 : TiOk prog 19 ⟨1, 8, true, .struct [(0, 1)], some (Go.Value.agg #[Go.Value.pointer none])⟩ := ⟨sz19, by kernel_rfl, agg19, ⟨_, underlying19, by kernel_rfl⟩, fun z h => by cases h; exact ⟨zero19, info19⟩⟩
theorem ti20 : TiOk prog 20 ⟨1, 16, false, .other, none⟩ := ⟨sz20, by kernel_rfl, agg20, trivial, fun z h => by cases h⟩
theorem ti21 : TiOk prog 21 ⟨1, 4, false, .int .i32, some (Go.Value.int Go.IntKind.i32 0)⟩ := ⟨sz21, by kernel_rfl, agg21, underlying21, fun z h => by cases h; exact ⟨zero21, info21⟩⟩
theorem ti22 : TiOk prog 22 ⟨1, 24, false, .slice 54, some (Go.Value.slice none 0 0)⟩ := ⟨sz22, by kernel_rfl, agg22, underlying22, fun z h => by cases h; exact ⟨zero22, info22⟩⟩
theorem ti23 : TiOk prog 23 ⟨1, 24, true, .struct [(0, 1)], some (Go.Value.agg #[Go.Value.slice none 0 0])⟩ := ⟨sz23, by kernel_rfl, agg23, ⟨_, underlying23, by kernel_rfl⟩, fun z h => by cases h; exact ⟨zero23, info23⟩⟩
theorem ti24 : TiOk prog 24 ⟨1, 24, true, .struct [(0, 1)], some (Go.Value.agg #[Go.Value.slice none 0 0])⟩ := ⟨sz24, by kernel_rfl, agg24, ⟨_, underlying24, by kernel_rfl⟩, fun z h => by cases h; exact ⟨zero24, info24⟩⟩
theorem ti25 : TiOk prog 25 ⟨1, 8, false, .other, none⟩ := ⟨sz25, by kernel_rfl, agg25, trivial, fun z h => by cases h⟩
theorem ti26 : TiOk prog 26 ⟨1, 8, false, .other, none⟩ := ⟨sz26, by kernel_rfl, agg26, trivial, fun z h => by cases h⟩
theorem ti27 : TiOk prog 27 ⟨1, 8, false, .int .i64, some (Go.Value.int Go.IntKind.i64 0)⟩ := ⟨sz27, by kernel_rfl, agg27, underlying27, fun z h => by cases h; exact ⟨zero27, info27⟩⟩
theorem ti28 : TiOk prog 28 ⟨1, 0, false, .other, some (Go.Value.tuple #[Go.Value.string { data := #[] }, Go.Value.int Go.IntKind.i64 0])⟩ := ⟨sz28, by kernel_rfl, agg28, trivial, fun z h => by cases h; exact ⟨zero28, info28⟩⟩
theorem ti29 : TiOk prog 29 ⟨1, 8, false, .other, none⟩ := ⟨sz29, by kernel_rfl, agg29, trivial, fun z h => by cases h⟩
theorem ti30 : TiOk prog 30 ⟨1, 0, false, .other, some (Go.Value.tuple #[Go.Value.string { data := #[] }, Go.Value.int Go.IntKind.i64 0])⟩ := ⟨sz30, by kernel_rfl, agg30, trivial, fun z h => by cases h; exact ⟨zero30, info30⟩⟩
theorem ti31 : TiOk prog 31 ⟨1, 8, false, .other, none⟩ := ⟨sz31, by kernel_rfl, agg31, trivial, fun z h => by cases h⟩
theorem ti32 : TiOk prog 32 ⟨1, 8, false, .other, none⟩ := ⟨sz32, by kernel_rfl, agg32, trivial, fun z h => by cases h⟩
theorem ti33 : TiOk prog 33 ⟨1, 8, false, .other, none⟩ := ⟨sz33, by kernel_rfl, agg33, trivial, fun z h => by cases h⟩
theorem ti34 : TiOk prog 34 ⟨1, 24, false, .slice 3, some (Go.Value.slice none 0 0)⟩ := ⟨sz34, by kernel_rfl, agg34, underlying34, fun z h => by cases h; exact ⟨zero34, info34⟩⟩
theorem ti35 : TiOk prog 35 ⟨1, 0, false, .other, some (Go.Value.tuple #[Go.Value.slice none 0 0, Go.Value.int Go.IntKind.i64 0])⟩ := ⟨sz35, by kernel_rfl, agg35, trivial, fun z h => by cases h; exact ⟨zero35, info35⟩⟩
theorem ti36 : TiOk prog 36 ⟨1, 8, false, .other, none⟩ := ⟨sz36, by kernel_rfl, agg36, trivial, fun z h => by cases h⟩
theorem ti37 : TiOk prog 37 ⟨1, 0, false, .other, some (Go.Value.tuple #[Go.Value.slice none 0 0, Go.Value.int Go.IntKind.i64 0])⟩ := ⟨sz37, by kernel_rfl, agg37, trivial, fun z h => by cases h; exact ⟨zero37, info37⟩⟩
theorem ti38 : TiOk prog 38 ⟨1, 8, false, .other, none⟩ := ⟨sz38, by kernel_rfl, agg38, trivial, fun z h => by cases h⟩
theorem ti39 : TiOk prog 39 ⟨1, 0, false, .other, some (Go.Value.tuple #[Go.Value.int Go.IntKind.i64 0, Go.Value.int Go.IntKind.i64 0])⟩ := ⟨sz39, by kernel_rfl, agg39, trivial, fun z h => by cases h; exact ⟨zero39, info39⟩⟩
theorem ti40 : TiOk prog 40 ⟨1, 8, false, .other, none⟩ := ⟨sz40, by kernel_rfl, agg40, trivial, fun z h => by cases h⟩
theorem ti41 : TiOk prog 41 ⟨1, 0, false, .other, some (Go.Value.tuple #[Go.Value.int Go.IntKind.i64 0, Go.Value.int Go.IntKind.i64 0])⟩ := ⟨sz41, by kernel_rfl, agg41, trivial, fun z h => by cases h; exact ⟨zero41, info41⟩⟩
theorem ti42 : TiOk prog 42 ⟨1, 8, false, .other, none⟩ := ⟨sz42, by kernel_rfl, agg42, trivial, fun z h => by cases h⟩
theorem ti43 : TiOk prog 43 ⟨1, 8, false, .other, none⟩ := ⟨sz43, by kernel_rfl, agg43, trivial, fun z h => by cases h⟩
theorem ti44 : TiOk prog 44 ⟨1, 0, false, .other, some (Go.Value.tuple #[Go.Value.agg #[Go.Value.slice none 0 0], Go.Value.int Go.IntKind.i64 0])⟩ := ⟨sz44, by kernel_rfl, agg44, trivial, fun z h => by cases h; exact ⟨zero44, info44⟩⟩
theorem ti45 : TiOk prog 45 ⟨1, 8, false, .other, none⟩ := ⟨sz45, by kernel_rfl, agg45, trivial, fun z h => by cases h⟩
theorem ti46 : TiOk prog 46 ⟨1, 0, false, .other, some (Go.Value.tuple #[Go.Value.agg #[Go.Value.slice none 0 0], Go.Value.int Go.IntKind.i64 0])⟩ := ⟨sz46, by kernel_rfl, agg46, trivial, fun z h => by cases h; exact ⟨zero46, info46⟩⟩
theorem ti47 : TiOk prog 47 ⟨1, 8, false, .other, none⟩ := ⟨sz47, by kernel_rfl, agg47, trivial, fun z h => by cases h⟩
theorem ti48 : TiOk prog 48 ⟨1, 8, false, .other, none⟩ := ⟨sz48, by kernel_rfl, agg48, trivial, fun z h => by cases h⟩
theorem ti49 : TiOk prog 49 ⟨1, 8, false, .other, none⟩ := ⟨sz49, by kernel_rfl, agg49, trivial, fun z h => by cases h⟩
theorem ti50 : TiOk prog 50 ⟨1, 8, false, .other, none⟩ := ⟨sz50, by kernel_rfl, agg50, trivial, fun z h => by cases h⟩
theorem ti51 : TiOk prog 51 ⟨1, 8, false, .other, none⟩ := ⟨sz51, by kernel_rfl, agg51, trivial, fun z h => by cases h⟩
theorem ti52 : TiOk prog 52 ⟨1, 8, false, .other, none⟩ := ⟨sz52, by kernel_rfl, agg52, trivial, fun z h => by cases h⟩
theorem ti53 : TiOk prog 53 ⟨6, 72, true, .struct [(0, 1), (1, 1), (2, 1), (3, 1), (4, 1), (5, 1)], some (Go.Value.agg #[Go.Value.int Go.IntKind.i64 0, Go.Value.string { data := #[] }, Go.Value.int Go.IntKind.i64 0, Go.Value.slice none 0 0, Go.Value.int Go.IntKind.i64 0, Go.Value.int Go.IntKind.i64 0])⟩ := ⟨sz53, by kernel_rfl, agg53, ⟨_, underlying53, by kernel_rfl⟩, fun z h => by cases h; exact ⟨zero53, info53⟩⟩
theorem ti54 : TiOk prog 54 ⟨6, 72, true, .struct [(0, 1), (1, 1), (2, 1), (3, 1), (4, 1), (5, 1)], some (Go.Value.agg #[Go.Value.int Go.IntKind.i64 0, Go.Value.string { data := #[] }, Go.Value.int Go.IntKind.i64 0, Go.Value.slice none 0 0, Go.Value.int Go.IntKind.i64 0, Go.Value.int Go.IntKind.i64 0])⟩ := ⟨sz54, by kernel_rfl, agg54, ⟨_, underlying54, by kernel_rfl⟩, fun z h => by cases h; exact ⟨zero54, info54⟩⟩
theorem ti55 : TiOk prog 55 ⟨1, 8, false, .ptr, some (Go.Value.pointer none)⟩ := ⟨sz55, by kernel_rfl, agg55, (show isPtrT prog 55 = true by kernel_rfl), fun z h => by cases h; exact ⟨zero55, info55⟩⟩
theorem ti56 : TiOk prog 56 ⟨1, 24, false, .slice 9, some (Go.Value.slice none 0 0)⟩ := ⟨sz56, by kernel_rfl, agg56, underlying56, fun z h => by cases h; exact ⟨zero56, info56⟩⟩
theorem ti57 : TiOk prog 57 ⟨2, 48, true, .struct [(0, 1), (1, 1)], some (Go.Value.agg #[Go.Value.slice none 0 0, Go.Value.slice none 0 0])⟩ := ⟨sz57, by kernel_rfl, agg57, ⟨_, underlying57, by kernel_rfl⟩, fun z h => by cases h; exact ⟨zero57, info57⟩⟩
theorem ti58 : TiOk prog 58 ⟨2, 48, true, .struct [(0, 1), (1, 1)], some (Go.Value.agg #[Go.Value.slice none 0 0, Go.Value.slice none 0 0])⟩ := ⟨sz58, by kernel_rfl, agg58, ⟨_, underlying58, by kernel_rfl⟩, fun z h => by cases h; exact ⟨zero58, info58⟩⟩
theorem ti59 : TiOk prog 59 ⟨1, 8, false, .other, none⟩ := ⟨sz59, by kernel_rfl, agg59, trivial, fun z h => by cases h⟩
theorem ti60 : TiOk prog 60 ⟨1, 8, false, .other, none⟩ := ⟨sz60, by kernel_rfl, agg60, trivial, fun z h => by cases h⟩
theorem ti61 : TiOk prog 61 ⟨1, 8, false, .ptr, some (Go.Value.pointer none)⟩ := ⟨sz61, by kernel_rfl, agg61, (show isPtrT prog 61 = true by kernel_rfl), fun z h => by cases h; exact ⟨zero61, info61⟩⟩
theorem ti62 : TiOk prog 62 ⟨2, 40, true, .struct [(0, 1), (1, 1)], some (Go.Value.agg #[Go.Value.slice none 0 0, Go.Value.string { data := #[] }])⟩ := ⟨sz62, by kernel_rfl, agg62, ⟨_, underlying62, by kernel_rfl⟩, fun z h => by cases h; exact ⟨zero62, info62⟩⟩
theorem ti63 : TiOk prog 63 ⟨2, 40, true, .struct [(0, 1), (1, 1)], some (Go.Value.agg #[Go.Value.slice none 0 0, Go.Value.string { data := #[] }])⟩ := ⟨sz63, by kernel_rfl, agg63, ⟨_, underlying63, by kernel_rfl⟩, fun z h => by cases h; exact ⟨zero63, info63⟩⟩
theorem ti64 : TiOk prog 64 ⟨1, 0, false, .other, some (Go.Value.tuple #[Go.Value.slice none 0 0, Go.Value.bool false])⟩ := ⟨sz64, by kernel_rfl, agg64, trivial, fun z h => by cases h; exact ⟨zero64, info64⟩⟩
theorem ti65 : TiOk prog 65 ⟨1, 8, false, .other, none⟩ := ⟨sz65, by kernel_rfl, agg65, trivial, fun z h => by cases h⟩
theorem ti66 : TiOk prog 66 ⟨1, 8, false, .other, none⟩ := ⟨sz66, by kernel_rfl, agg66, trivial, fun z h => by cases h⟩
theorem ti67 : TiOk prog 67 ⟨1, 8, false, .other, none⟩ := ⟨sz67, by kernel_rfl, agg67, trivial, fun z h => by cases h⟩
theorem ti68 : TiOk prog 68 ⟨1, 8, false, .other, none⟩ := ⟨sz68, by kernel_rfl, agg68, trivial, fun z h => by cases h⟩
theorem ti69 : TiOk prog 69 ⟨1, 24, false, .slice 4, some (Go.Value.slice none 0 0)⟩ := ⟨sz69, by kernel_rfl, agg69, underlying69, fun z h => by cases h; exact ⟨zero69, info69⟩⟩
theorem ti70 : TiOk prog 70 ⟨1, 8, false, .other, none⟩ := ⟨sz70, by kernel_rfl, agg70, trivial, fun z h => by cases h⟩
theorem ti71 : TiOk prog 71 ⟨1, 8, false, .other, none⟩ := ⟨sz71, by kernel_rfl, agg71, trivial, fun z h => by cases h⟩
theorem ti72 : TiOk prog 72 ⟨1, 8, false, .other, none⟩ := ⟨sz72, by kernel_rfl, agg72, trivial, fun z h => by cases h⟩
theorem ti73 : TiOk prog 73 ⟨1, 8, false, .other, none⟩ := ⟨sz73, by kernel_rfl, agg73, trivial, fun z h => by cases h⟩
theorem ti74 : TiOk prog 74 ⟨1, 8, false, .ptr, some (Go.Value.pointer none)⟩ := ⟨sz74, by kernel_rfl, agg74, (show isPtrT prog 74 = true by kernel_rfl), fun z h => by cases h; exact ⟨zero74, info74⟩⟩
theorem ti75 : TiOk prog 75 ⟨1, 24, false, .slice 5, some (Go.Value.slice none 0 0)⟩ := ⟨sz75, by kernel_rfl, agg75, underlying75, fun z h => by cases h; exact ⟨zero75, info75⟩⟩
theorem ti76 : TiOk prog 76 ⟨2, 32, true, .struct [(0, 1), (1, 1)], some (Go.Value.agg #[Go.Value.pointer none, Go.Value.slice none 0 0])⟩ := ⟨sz76, by kernel_rfl, agg76, ⟨_, underlying76, by kernel_rfl⟩, fun z h => by cases h; exact ⟨zero76, info76⟩⟩
theorem ti77 : TiOk prog 77 ⟨2, 32, true, .struct [(0, 1), (1, 1)], some (Go.Value.agg #[Go.Value.pointer none, Go.Value.slice none 0 0])⟩ := ⟨sz77, by kernel_rfl, agg77, ⟨_, underlying77, by kernel_rfl⟩, fun z h => by cases h; exact ⟨zero77, info77⟩⟩
theorem ti78 : TiOk prog 78 ⟨1, 16, false, .other, none⟩ := ⟨sz78, by kernel_rfl, agg78, trivial, fun z h => by cases h⟩
theorem ti79 : TiOk prog 79 ⟨1, 16, false, .other, none⟩ := ⟨sz79, by kernel_rfl, agg79, trivial, fun z h => by cases h⟩
theorem ti80 : TiOk prog 80 ⟨1, 0, false, .other, some (Go.Value.tuple #[Go.Value.int Go.IntKind.i64 0, Go.Value.nilIface])⟩ := ⟨sz80, by kernel_rfl, agg80, trivial, fun z h => by cases h; exact ⟨zero80, info80⟩⟩
theorem ti81 : TiOk prog 81 ⟨1, 8, false, .other, none⟩ := ⟨sz81, by kernel_rfl, agg81, trivial, fun z h => by cases h⟩
theorem ti82 : TiOk prog 82 ⟨1, 8, false, .other, none⟩ := ⟨sz82, by kernel_rfl, agg82, trivial, fun z h => by cases h⟩
theorem ti83 : TiOk prog 83 ⟨1, 8, false, .other, none⟩ := ⟨sz83, by kernel_rfl, agg83, trivial, fun z h => by cases h⟩
theorem ti84 : TiOk prog 84 ⟨1, 8, false, .other, none⟩ := ⟨sz84, by kernel_rfl, agg84, trivial, fun z h => by cases h⟩
theorem ti85 : TiOk prog 85 ⟨1, 8, false, .other, none⟩ := ⟨sz85, by kernel_rfl, agg85, trivial, fun z h => by cases h⟩
theorem ti86 : TiOk prog 86 ⟨1, 8, false, .other, none⟩ := ⟨sz86, by kernel_rfl, agg86, trivial, fun z h => by cases h⟩
theorem ti87 : TiOk prog 87 ⟨1, 8, false, .other, none⟩ := ⟨sz87, by kernel_rfl, agg87, trivial, fun z h => by cases h⟩
theorem ti88 : TiOk prog 88 ⟨1, 8, false, .other, none⟩ := ⟨sz88, by kernel_rfl, agg88, trivial, fun z h => by cases h⟩
theorem ti89 : TiOk prog 89 ⟨1, 8, false, .other, none⟩ := ⟨sz89, by kernel_rfl, agg89, trivial, fun z h => by cases h⟩
theorem ti90 : TiOk prog 90 ⟨1, 8, false, .other, none⟩ := ⟨sz90, by kernel_rfl, agg90, trivial, fun z h => by cases h⟩
theorem ti91 : TiOk prog 91 ⟨1, 8, false, .map .bool 9, some (Go.Value.map none)⟩ := ⟨sz91, by kernel_rfl, agg91, ⟨4, underlying91, underlying4⟩, fun z h => by cases h; exact ⟨zero91, info91⟩⟩
theorem ti92 : TiOk prog 92 ⟨1, 8, false, .other, none⟩ := ⟨sz92, by kernel_rfl, agg92, trivial, fun z h => by cases h⟩
theorem ti93 : TiOk prog 93 ⟨1, 8, false, .other, none⟩ := ⟨sz93, by kernel_rfl, agg93, trivial, fun z h => by cases h⟩
theorem ti94 : TiOk prog 94 ⟨1, 8, false, .other, none⟩ := ⟨sz94, by kernel_rfl, agg94, trivial, fun z h => by cases h⟩
theorem ti95 : TiOk prog 95 ⟨1, 8, false, .other, none⟩ := ⟨sz95, by kernel_rfl, agg95, trivial, fun z h => by cases h⟩
theorem ti96 : TiOk prog 96 ⟨1, 8, false, .ptr, some (Go.Value.pointer none)⟩ := ⟨sz96, by kernel_rfl, agg96, (show isPtrT prog 96 = true by kernel_rfl), fun z h => by cases h; exact ⟨zero96, info96⟩⟩
theorem ti97 : TiOk prog 97 ⟨1, 8, false, .other, none⟩ := ⟨sz97, by kernel_rfl, agg97, trivial, fun z h => by cases h⟩
theorem ti98 : TiOk prog 98 ⟨1, 8, false, .other, none⟩ := ⟨sz98, by kernel_rfl, agg98, trivial, fun z h => by cases h⟩
theorem ti99 : TiOk prog 99 ⟨1, 8, false, .other, none⟩ := ⟨sz99, by kernel_rfl, agg99, trivial, fun z h => by cases h⟩
theorem ti100 : TiOk prog 100 ⟨1, 0, false, .other, some (Go.Value.tuple #[Go.Value.string { data := #[] }, Go.Value.string { data := #[] }, Go.Value.bool false])⟩ := ⟨sz100, by kernel_rfl, agg100, trivial, fun z h => by cases h; exact ⟨zero100, info100⟩⟩
theorem ti101 : TiOk prog 101 ⟨1, 8, false, .other, none⟩ := ⟨sz101, by kernel_rfl, agg101, trivial, fun z h => by cases h⟩
theorem ti102 : TiOk prog 102 ⟨1, 8, false, .other, none⟩ := ⟨sz102, by kernel_rfl, agg102, trivial, fun z h => by cases h⟩
theorem ti103 : TiOk prog 103 ⟨1, 8, false, .other, none⟩ := ⟨sz103, by kernel_rfl, agg103, trivial, fun z h => by cases h⟩
theorem ti104 : TiOk prog 104 ⟨1, 8, false, .other, none⟩ := ⟨sz104, by kernel_rfl, agg104, trivial, fun z h => by cases h⟩
theorem ti105 : TiOk prog 105 ⟨1, 8, false, .other, none⟩ := ⟨sz105, by kernel_rfl, agg105, trivial, fun z h => by cases h⟩
theorem ti106 : TiOk prog 106 ⟨1, 8, false, .other, none⟩ := ⟨sz106, by kernel_rfl, agg106, trivial, fun z h => by cases h⟩
theorem ti107 : TiOk prog 107 ⟨1, 8, false, .other, some (Go.Value.pointer none)⟩ := ⟨sz107, by kernel_rfl, agg107, trivial, fun z h => by cases h; exact ⟨zero107, info107⟩⟩
theorem ti108 : TiOk prog 108 ⟨1, 8, false, .other, none⟩ := ⟨sz108, by kernel_rfl, agg108, trivial, fun z h => by cases h⟩
theorem ti109 : TiOk prog 109 ⟨1, 8, false, .other, none⟩ := ⟨sz109, by kernel_rfl, agg109, trivial, fun z h => by cases h⟩
theorem ti110 : TiOk prog 110 ⟨1, 8, false, .other, none⟩ := ⟨sz110, by kernel_rfl, agg110, trivial, fun z h => by cases h⟩
theorem ti111 : TiOk prog 111 ⟨1, 8, false, .other, none⟩ := ⟨sz111, by kernel_rfl, agg111, trivial, fun z h => by cases h⟩
theorem ti112 : TiOk prog 112 ⟨1, 8, false, .other, none⟩ := ⟨sz112, by kernel_rfl, agg112, trivial, fun z h => by cases h⟩
theorem ti113 : TiOk prog 113 ⟨1, 8, false, .other, none⟩ := ⟨sz113, by kernel_rfl, agg113, trivial, fun z h => by cases h⟩
theorem ti114 : TiOk prog 114 ⟨1, 8, false, .other, none⟩ := ⟨sz114, by kernel_rfl, agg114, trivial, fun z h => by cases h⟩
theorem ti115 : TiOk prog 115 ⟨1, 8, false, .other, none⟩ := ⟨sz115, by kernel_rfl, agg115, trivial, fun z h => by cases h⟩
theorem ti116 : TiOk prog 116 ⟨24, 24, true, .other, none⟩ := ⟨sz116, by kernel_rfl, agg116, trivial, fun z h => by cases h⟩
theorem ti117 : TiOk prog 117 ⟨1, 8, false, .int .u64, some (Go.Value.int Go.IntKind.u64 0)⟩ := ⟨sz117, by kernel_rfl, agg117, underlying117, fun z h => by cases h; exact ⟨zero117, info117⟩⟩
theorem ti118 : TiOk prog 118 ⟨1, 8, false, .other, none⟩ := ⟨sz118, by kernel_rfl, agg118, trivial, fun z h => by cases h⟩
theorem ti119 : TiOk prog 119 ⟨1, 8, false, .other, none⟩ := ⟨sz119, by kernel_rfl, agg119, trivial, fun z h => by cases h⟩
theorem ti120 : TiOk prog 120 ⟨1, 0, false, .other, some (Go.Value.tuple #[Go.Value.slice none 0 0, Go.Value.string { data := #[] }])⟩ := ⟨sz120, by kernel_rfl, agg120, trivial, fun z h => by cases h; exact ⟨zero120, info120⟩⟩
theorem ti121 : TiOk prog 121 ⟨1, 8, false, .other, none⟩ := ⟨sz121, by kernel_rfl, agg121, trivial, fun z h => by cases h⟩
theorem ti122 : TiOk prog 122 ⟨1, 8, false, .other, none⟩ := ⟨sz122, by kernel_rfl, agg122, trivial, fun z h => by cases h⟩
theorem ti123 : TiOk prog 123 ⟨1, 8, false, .other, none⟩ := ⟨sz123, by kernel_rfl, agg123, trivial, fun z h => by cases h⟩
theorem ti124 : TiOk prog 124 ⟨1, 8, false, .other, none⟩ := ⟨sz124, by kernel_rfl, agg124, trivial, fun z h => by cases h⟩
theorem ti125 : TiOk prog 125 ⟨1, 8, false, .other, none⟩ := ⟨sz125, by kernel_rfl, agg125, trivial, fun z h => by cases h⟩
theorem ti126 : TiOk prog 126 ⟨1, 8, false, .other, none⟩ := ⟨sz126, by kernel_rfl, agg126, trivial, fun z h => by cases h⟩
theorem ti127 : TiOk prog 127 ⟨20, 160, true, .other, none⟩ := ⟨sz127, by kernel_rfl, agg127, trivial, fun z h => by cases h⟩
theorem ti128 : TiOk prog 128 ⟨1, 4, false, .int .u32, some (Go.Value.int Go.IntKind.u32 0)⟩ := ⟨sz128, by kernel_rfl, agg128, underlying128, fun z h => by cases h; exact ⟨zero128, info128⟩⟩
theorem ti129 : TiOk prog 129 ⟨65, 65, true, .other, none⟩ := ⟨sz129, by kernel_rfl, agg129, trivial, fun z h => by cases h⟩
theorem ti130 : TiOk prog 130 ⟨1, 8, false, .int .u64, some (Go.Value.int Go.IntKind.u64 0)⟩ := ⟨sz130, by kernel_rfl, agg130, underlying130, fun z h => by cases h; exact ⟨zero130, info130⟩⟩
theorem ti131 : TiOk prog 131 ⟨1, 8, false, .other, none⟩ := ⟨sz131, by kernel_rfl, agg131, trivial, fun z h => by cases h⟩
theorem ti132 : TiOk prog 132 ⟨1, 8, false, .other, none⟩ := ⟨sz132, by kernel_rfl, agg132, trivial, fun z h => by cases h⟩
theorem ti133 : TiOk prog 133 ⟨1, 0, false, .other, some (Go.Value.tuple #[Go.Value.int Go.IntKind.u32 0, Go.Value.int Go.IntKind.u32 0])⟩ := ⟨sz133, by kernel_rfl, agg133, trivial, fun z h => by cases h; exact ⟨zero133, info133⟩⟩
theorem ti134 : TiOk prog 134 ⟨1, 8, false, .other, none⟩ := ⟨sz134, by kernel_rfl, agg134, trivial, fun z h => by cases h⟩
theorem ti135 : TiOk prog 135 ⟨32, 32, true, .other, none⟩ := ⟨sz135, by kernel_rfl, agg135, trivial, fun z h => by cases h⟩
theorem ti136 : TiOk prog 136 ⟨64, 64, true, .other, none⟩ := ⟨sz136, by kernel_rfl, agg136, trivial, fun z h => by cases h⟩
theorem ti137 : TiOk prog 137 ⟨4, 40, true, .struct [(0, 1), (1, 1), (2, 1), (3, 1)], some (Go.Value.agg #[Go.Value.pointer none, Go.Value.pointer none, Go.Value.pointer none, Go.Value.string { data := #[] }])⟩ := ⟨sz137, by kernel_rfl, agg137, ⟨_, underlying137, by kernel_rfl⟩, fun z h => by cases h; exact ⟨zero137, info137⟩⟩
theorem ti138 : TiOk prog 138 ⟨4, 40, true, .struct [(0, 1), (1, 1), (2, 1), (3, 1)], some (Go.Value.agg #[Go.Value.pointer none, Go.Value.pointer none, Go.Value.pointer none, Go.Value.string { data := #[] }])⟩ := ⟨sz138, by kernel_rfl, agg138, ⟨_, underlying138, by kernel_rfl⟩, fun z h => by cases h; exact ⟨zero138, info138⟩⟩
theorem ti139 : TiOk prog 139 ⟨0, 0, true, .other, some (Go.Value.agg #[])⟩ := ⟨sz139, by kernel_rfl, agg139, trivial, fun z h => by cases h; exact ⟨zero139, info139⟩⟩
theorem ti140 : TiOk prog 140 ⟨0, 0, true, .struct [(0, 0)], some (Go.Value.agg #[])⟩ := ⟨sz140, by kernel_rfl, agg140, ⟨_, underlying140, by kernel_rfl⟩, fun z h => by cases h; exact ⟨zero140, info140⟩⟩
theorem ti141 : TiOk prog 141 ⟨0, 0, true, .struct [(0, 0)], some (Go.Value.agg #[])⟩ := ⟨sz141, by kernel_rfl, agg141, ⟨_, underlying141, by kernel_rfl⟩, fun z h => by cases h; exact ⟨zero141, info141⟩⟩
theorem ti142 : TiOk prog 142 ⟨1, 8, false, .other, none⟩ := ⟨sz142, by kernel_rfl, agg142, trivial, fun z h => by cases h⟩
theorem ti143 : TiOk prog 143 ⟨1, 1, false, .int .u8, some (Go.Value.int Go.IntKind.u8 0)⟩ := ⟨sz143, by kernel_rfl, agg143, underlying143, fun z h => by cases h; exact ⟨zero143, info143⟩⟩
theorem ti144 : TiOk prog 144 ⟨1, 1, false, .int .u8, some (Go.Value.int Go.IntKind.u8 0)⟩ := ⟨sz144, by kernel_rfl, agg144, underlying144, fun z h => by cases h; exact ⟨zero144, info144⟩⟩
theorem ti145 : TiOk prog 145 ⟨1, 8, false, .other, none⟩ := ⟨sz145, by kernel_rfl, agg145, trivial, fun z h => by cases h⟩
theorem ti146 : TiOk prog 146 ⟨1, 4, false, .int .i32, some (Go.Value.int Go.IntKind.i32 0)⟩ := ⟨sz146, by kernel_rfl, agg146, underlying146, fun z h => by cases h; exact ⟨zero146, info146⟩⟩
theorem ti147 : TiOk prog 147 ⟨1, 4, false, .int .i32, some (Go.Value.int Go.IntKind.i32 0)⟩ := ⟨sz147, by kernel_rfl, agg147, underlying147, fun z h => by cases h; exact ⟨zero147, info147⟩⟩
theorem ti148 : TiOk prog 148 ⟨11, 48, true, .struct [(0, 1), (1, 1), (2, 1), (3, 1), (4, 1), (5, 1), (6, 1), (7, 1), (8, 1), (9, 1), (10, 1)], some (Go.Value.agg #[Go.Value.int Go.IntKind.u64 0, Go.Value.int Go.IntKind.u64 0, Go.Value.int Go.IntKind.u32 0, Go.Value.int Go.IntKind.u8 0, Go.Value.int Go.IntKind.u8 0, Go.Value.int Go.IntKind.u8 0, Go.Value.int Go.IntKind.u8 0, Go.Value.nilFunc, Go.Value.pointer none, Go.Value.int Go.IntKind.i32 0, Go.Value.int Go.IntKind.i32 0])⟩ := ⟨sz148, by kernel_rfl, agg148, ⟨_, underlying148, by kernel_rfl⟩, fun z h => by cases h; exact ⟨zero148, info148⟩⟩
theorem ti149 : TiOk prog 149 ⟨11, 48, true, .struct [(0, 1), (1, 1), (2, 1), (3, 1), (4, 1), (5, 1), (6, 1), (7, 1), (8, 1), (9, 1), (10, 1)], some (Go.Value.agg #[Go.Value.int Go.IntKind.u64 0, Go.Value.int Go.IntKind.u64 0, Go.Value.int Go.IntKind.u32 0, Go.Value.int Go.IntKind.u8 0, Go.Value.int Go.IntKind.u8 0, Go.Value.int Go.IntKind.u8 0, Go.Value.int Go.IntKind.u8 0, Go.Value.nilFunc, Go.Value.pointer none, Go.Value.int Go.IntKind.i32 0, Go.Value.int Go.IntKind.i32 0])⟩ := ⟨sz149, by kernel_rfl, agg149, ⟨_, underlying149, by kernel_rfl⟩, fun z h => by cases h; exact ⟨zero149, info149⟩⟩
def ttab : List TI := [⟨1, 0, false, .other, some (Go.Value.tuple #[])⟩,
  ⟨1, 8, false, .other, none⟩,
  ⟨1, 8, false, .int .i64, some (Go.Value.int Go.IntKind.i64 0)⟩,
  ⟨1, 8, false, .int .i64, some (Go.Value.int Go.IntKind.i64 0)⟩,
  ⟨1, 1, false, .bool, some (Go.Value.bool false)⟩,
  ⟨1, 1, false, .int .u8, some (Go.Value.int Go.IntKind.u8 0)⟩,
  ⟨1, 1, false, .int .u8, some (Go.Value.int Go.IntKind.u8 0)⟩,
  ⟨4, 24, true, .struct [(0, 1), (1, 1), (2, 1), (3, 1)], some (Go.Value.agg #[Go.Value.int Go.IntKind.i64 0, Go.Value.int Go.IntKind.i64 0, Go.Value.bool false, Go.Value.int Go.IntKind.u8 0])⟩,
  ⟨4, 24, true, .struct [(0, 1), (1, 1), (2, 1), (3, 1)], some (Go.Value.agg #[Go.Value.int Go.IntKind.i64 0, Go.Value.int Go.IntKind.i64 0, Go.Value.bool false, Go.Value.int Go.IntKind.u8 0])⟩,
  ⟨1, 16, false, .str, some (Go.Value.string { data := #[] })⟩,
  ⟨1, 16, false, .str, some (Go.Value.string { data := #[] })⟩,
  ⟨1, 16, false, .str, some (Go.Value.string { data := #[] })⟩,
  ⟨1, 8, false, .int .u64, some (Go.Value.int Go.IntKind.u64 0)⟩,
  ⟨2, 24, true, .struct [(0, 1), (1, 1)], some (Go.Value.agg #[Go.Value.string { data := #[] }, Go.Value.int Go.IntKind.u64 0])⟩,
  ⟨2, 24, true, .struct [(0, 1), (1, 1)], some (Go.Value.agg #[Go.Value.string { data := #[] }, Go.Value.int Go.IntKind.u64 0])⟩,
  ⟨1, 8, false, .ptr, some (Go.Value.pointer none)⟩,
  ⟨1, 8, false, .ptr, some (Go.Value.pointer none)⟩,
  ⟨1, 8, false, .ptr, some (Go.Value.pointer none)⟩,
  ⟨1, 8, true, .struct [(0, 1)], some (Go.Value.agg #[Go.Value.pointer none])⟩,
  ⟨1, 8, true, .struct [(0, 1)], some (Go.Value.agg #[Go.Value.pointer none])⟩,
  ⟨1, 16, false, .other, none⟩,
  ⟨1, 4, false, .int .i32, some (Go.Value.int Go.IntKind.i32 0)⟩,
  ⟨1, 24, false, .slice 54, some (Go.Value.slice none 0 0)⟩,
  ⟨1, 24, true, .struct [(0, 1)], some (Go.Value.agg #[Go.Value.slice none 0 0])⟩,
  ⟨1, 24, true, .struct [(0, 1)], some (Go.Value.agg #[Go.Value.slice none 0 0])⟩,
  ⟨1, 8, false, .other, none⟩,
  ⟨1, 8, false, .other, none⟩,
  ⟨1, 8, false, .int .i64, some (Go.Value.int Go.IntKind.i64 0)⟩,
  ⟨1, 0, false, .other, some (Go.Value.tuple #[Go.Value.string { data := #[] }, Go.Value.int Go.IntKind.i64 0])⟩,
  ⟨1, 8, false, .other, none⟩,
  ⟨1, 0, false, .other, some (Go.Value.tuple #[Go.Value.string { data := #[] }, Go.Value.int Go.IntKind.i64 0])⟩,
  ⟨1, 8, false, .other, none⟩,
  ⟨1, 8, false, .other, none⟩,
  ⟨1, 8, false, .other, none⟩,
  ⟨1, 24, false, .slice 3, some (Go.Value.slice none 0 0)⟩,
  ⟨1, 0, false, .other, some (Go.Value.tuple #[Go.Value.slice none 0 0, Go.Value.int Go.IntKind.i64 0])⟩,
  ⟨1, 8, false, .other, none⟩,
  ⟨1, 0, false, .other, some (Go.Value.tuple #[Go.Value.slice none 0 0, Go.Value.int Go.IntKind.i64 0])⟩,
  ⟨1, 8, false, .other, none⟩,
  ⟨1, 0, false, .other, some (Go.Value.tuple #[Go.Value.int Go.IntKind.i64 0, Go.Value.int Go.IntKind.i64 0])⟩,
  ⟨1, 8, false, .other, none⟩,
  ⟨1, 0, false, .other, some (Go.Value.tuple #[Go.Value.int Go.IntKind.i64 0, Go.Value.int Go.IntKind.i64 0])⟩,
  ⟨1, 8, false, .other, none⟩,
  ⟨1, 8, false, .other, none⟩,
  ⟨1, 0, false, .other, some (Go.Value.tuple #[Go.Value.agg #[Go.Value.slice none 0 0], Go.Value.int Go.IntKind.i64 0])⟩,
  ⟨1, 8, false, .other, none⟩,
  ⟨1, 0, false, .other, some (Go.Value.tuple #[Go.Value.agg #[Go.Value.slice none 0 0], Go.Value.int Go.IntKind.i64 0])⟩,
  ⟨1, 8, false, .other, none⟩,
  ⟨1, 8, false, .other, none⟩,
  ⟨1, 8, false, .other, none⟩,
  ⟨1, 8, false, .other, none⟩,
  ⟨1, 8, false, .other, none⟩,
  ⟨1, 8, false, .other, none⟩,
  ⟨6, 72, true, .struct [(0, 1), (1, 1), (2, 1), (3, 1), (4, 1), (5, 1)], some (Go.Value.agg #[Go.Value.int Go.IntKind.i64 0, Go.Value.string { data := #[] }, Go.Value.int Go.IntKind.i64 0, Go.Value.slice none 0 0, Go.Value.int Go.IntKind.i64 0, Go.Value.int Go.IntKind.i64 0])⟩,
  ⟨6, 72, true, .struct [(0, 1), (1, 1), (2, 1), (3, 1), (4, 1), (5, 1)], some (Go.Value.agg #[Go.Value.int Go.IntKind.i64 0, Go.Value.string { data := #[] }, Go.Value.int Go.IntKind.i64 0, Go.Value.slice none 0 0, Go.Value.int Go.IntKind.i64 0, Go.Value.int Go.IntKind.i64 0])⟩,
  ⟨1, 8, false, .ptr, some (Go.Value.pointer none)⟩,
  ⟨1, 24, false, .slice 9, some (Go.Value.slice none 0 0)⟩,
  ⟨2, 48, true, .struct [(0, 1), (1, 1)], some (Go.Value.agg #[Go.Value.slice none 0 0, Go.Value.slice none 0 0])⟩,
  ⟨2, 48, true, .struct [(0, 1), (1, 1)], some (Go.Value.agg #[Go.Value.slice none 0 0, Go.Value.slice none 0 0])⟩,
  ⟨1, 8, false, .other, none⟩,
  ⟨1, 8, false, .other, none⟩,
  ⟨1, 8, false, .ptr, some (Go.Value.pointer none)⟩,
  ⟨2, 40, true, .struct [(0, 1), (1, 1)], some (Go.Value.agg #[Go.Value.slice none 0 0, Go.Value.string { data := #[] }])⟩,
  ⟨2, 40, true, .struct [(0, 1), (1, 1)], some (Go.Value.agg #[Go.Value.slice none 0 0, Go.Value.string { data := #[] }])⟩,
  ⟨1, 0, false, .other, some (Go.Value.tuple #[Go.Value.slice none 0 0, Go.Value.bool false])⟩,
  ⟨1, 8, false, .other, none⟩,
  ⟨1, 8, false, .other, none⟩,
  ⟨1, 8, false, .other, none⟩,
  ⟨1, 8, false, .other, none⟩,
  ⟨1, 24, false, .slice 4, some (Go.Value.slice none 0 0)⟩,
  ⟨1, 8, false, .other, none⟩,
  ⟨1, 8, false, .other, none⟩,
  ⟨1, 8, false, .other, none⟩,
  ⟨1, 8, false, .other, none⟩,
  ⟨1, 8, false, .ptr, some (Go.Value.pointer none)⟩,
  ⟨1, 24, false, .slice 5, some (Go.Value.slice none 0 0)⟩,
  ⟨2, 32, true, .struct [(0, 1), (1, 1)], some (Go.Value.agg #[Go.Value.pointer none, Go.Value.slice none 0 0])⟩,
  ⟨2, 32, true, .struct [(0, 1), (1, 1)], some (Go.Value.agg #[Go.Value.pointer none, Go.Value.slice none 0 0])⟩,
  ⟨1, 16, false, .other, none⟩,
  ⟨1, 16, false, .other, none⟩,
  ⟨1, 0, false, .other, some (Go.Value.tuple #[Go.Value.int Go.IntKind.i64 0, Go.Value.nilIface])⟩,
  ⟨1, 8, false, .other, none⟩,
  ⟨1, 8, false, .other, none⟩,
  ⟨1, 8, false, .other, none⟩,
  ⟨1, 8, false, .other, none⟩,
  ⟨1, 8, false, .other, none⟩,
  ⟨1, 8, false, .other, none⟩,
  ⟨1, 8, false, .other, none⟩,
  ⟨1, 8, false, .other, none⟩,
  ⟨1, 8, false, .other, none⟩,
  ⟨1, 8, false, .other, none⟩,
  ⟨1, 8, false, .map .bool 9, some (Go.Value.map none)⟩,
  ⟨1, 8, false, .other, none⟩,
  ⟨1, 8, false, .other, none⟩,
  ⟨1, 8, false, .other, none⟩,
  ⟨1, 8, false, .other, none⟩,
  ⟨1, 8, false, .ptr, some (Go.Value.pointer none)⟩,
  ⟨1, 8, false, .other, none⟩,
  ⟨1, 8, false, .other, none⟩,
  ⟨1, 8, false, .other, none⟩,
  ⟨1, 0, false, .other, some (Go.Value.tuple #[Go.Value.string { data := #[] }, Go.Value.string { data := #[] }, Go.Value.bool false])⟩,
  ⟨1, 8, false, .other, none⟩,
  ⟨1, 8, false, .other, none⟩,
  ⟨1, 8, false, .other, none⟩,
  ⟨1, 8, false, .other, none⟩,
  ⟨1, 8, false, .other, none⟩,
  ⟨1, 8, false, .other, none⟩,
  ⟨1, 8, false, .other, some (Go.Value.pointer none)⟩,
  ⟨1, 8, false, .other, none⟩,
  ⟨1, 8, false, .other, none⟩,
  ⟨1, 8, false, .other, none⟩,
  ⟨1, 8, false, .other, none⟩,
  ⟨1, 8, false, .other, none⟩,
  ⟨1, 8, false, .other, none⟩,
  ⟨1, 8, false, .other, none⟩,
  ⟨1, 8, false, .other, none⟩,
  ⟨24, 24, true, .other, none⟩,
  ⟨1, 8, false, .int .u64, some (Go.Value.int Go.IntKind.u64 0)⟩,
  ⟨1, 8, false, .other, none⟩,
  ⟨1, 8, false, .other, none⟩,
  ⟨1, 0, false, .other, some (Go.Value.tuple #[Go.Value.slice none 0 0, Go.Value.string { data := #[] }])⟩,
  ⟨1, 8, false, .other, none⟩,
  ⟨1, 8, false, .other, none⟩,
  ⟨1, 8, false, .other, none⟩,
  ⟨1, 8, false, .other, none⟩,
  ⟨1, 8, false, .other, none⟩,
  ⟨1, 8, false, .other, none⟩,
  ⟨20, 160, true, .other, none⟩,
  ⟨1, 4, false, .int .u32, some (Go.Value.int Go.IntKind.u32 0)⟩,
  ⟨65, 65, true, .other, none⟩,
  ⟨1, 8, false, .int .u64, some (Go.Value.int Go.IntKind.u64 0)⟩,
  ⟨1, 8, false, .other, none⟩,
  ⟨1, 8, false, .other, none⟩,
  ⟨1, 0, false, .other, some (Go.Value.tuple #[Go.Value.int Go.IntKind.u32 0, Go.Value.int Go.IntKind.u32 0])⟩,
  ⟨1, 8, false, .other, none⟩,
  ⟨32, 32, true, .other, none⟩,
  ⟨64, 64, true, .other, none⟩,
  ⟨4, 40, true, .struct [(0, 1), (1, 1), (2, 1), (3, 1)], some (Go.Value.agg #[Go.Value.pointer none, Go.Value.pointer none, Go.Value.pointer none, Go.Value.string { data := #[] }])⟩,
  ⟨4, 40, true, .struct [(0, 1), (1, 1), (2, 1), (3, 1)], some (Go.Value.agg #[Go.Value.pointer none, Go.Value.pointer none, Go.Value.pointer none, Go.Value.string { data := #[] }])⟩,
  ⟨0, 0, true, .other, some (Go.Value.agg #[])⟩,
  ⟨0, 0, true, .struct [(0, 0)], some (Go.Value.agg #[])⟩,
  ⟨0, 0, true, .struct [(0, 0)], some (Go.Value.agg #[])⟩,
  ⟨1, 8, false, .other, none⟩,
  ⟨1, 1, false, .int .u8, some (Go.Value.int Go.IntKind.u8 0)⟩,
  ⟨1, 1, false, .int .u8, some (Go.Value.int Go.IntKind.u8 0)⟩,
  ⟨1, 8, false, .other, none⟩,
  ⟨1, 4, false, .int .i32, some (Go.Value.int Go.IntKind.i32 0)⟩,
  ⟨1, 4, false, .int .i32, some (Go.Value.int Go.IntKind.i32 0)⟩,
  ⟨11, 48, true, .struct [(0, 1), (1, 1), (2, 1), (3, 1), (4, 1), (5, 1), (6, 1), (7, 1), (8, 1), (9, 1), (10, 1)], some (Go.Value.agg #[Go.Value.int Go.IntKind.u64 0, Go.Value.int Go.IntKind.u64 0, Go.Value.int Go.IntKind.u32 0, Go.Value.int Go.IntKind.u8 0, Go.Value.int Go.IntKind.u8 0, Go.Value.int Go.IntKind.u8 0, Go.Value.int Go.IntKind.u8 0, Go.Value.nilFunc, Go.Value.pointer none, Go.Value.int Go.IntKind.i32 0, Go.Value.int Go.IntKind.i32 0])⟩,
  ⟨11, 48, true, .struct [(0, 1), (1, 1), (2, 1), (3, 1), (4, 1), (5, 1), (6, 1), (7, 1), (8, 1), (9, 1), (10, 1)], some (Go.Value.agg #[Go.Value.int Go.IntKind.u64 0, Go.Value.int Go.IntKind.u64 0, Go.Value.int Go.IntKind.u32 0, Go.Value.int Go.IntKind.u8 0, Go.Value.int Go.IntKind.u8 0, Go.Value.int Go.IntKind.u8 0, Go.Value.int Go.IntKind.u8 0, Go.Value.nilFunc, Go.Value.pointer none, Go.Value.int Go.IntKind.i32 0, Go.Value.int Go.IntKind.i32 0])⟩]
theorem ttab_ok : TabOk prog ttab := .of ⟨ti0, ti1, ti2, ti3, ti4, ti5, ti6, ti7, ti8, ti9, ti10, ti11, ti12, ti13, ti14, ti15, ti16, ti17, ti18, ti19, ti20, ti21, ti22, ti23, ti24, ti25, ti26, ti27, ti28, ti29, ti30, ti31, ti32, ti33, ti34, ti35, ti36, ti37, ti38, ti39, ti40, ti41, ti42, ti43, ti44, ti45, ti46, ti47, ti48, ti49, ti50, ti51, ti52, ti53, ti54, ti55, ti56, ti57, ti58, ti59, ti60, ti61, ti62, ti63, ti64, ti65, ti66, ti67, ti68, ti69, ti70, ti71, ti72, ti73, ti74, ti75, ti76, ti77, ti78, ti79, ti80, ti81, ti82, ti83, ti84, ti85, ti86, ti87, ti88, ti89, ti90, ti91, ti92, ti93, ti94, ti95, ti96, ti97, ti98, ti99, ti100, ti101, ti102, ti103, ti104, ti105, ti106, ti107, ti108, ti109, ti110, ti111, ti112, ti113, ti114, ti115, ti116, ti117, ti118, ti119, ti120, ti121, ti122, ti123, ti124, ti125, ti126, ti127, ti128, ti129, ti130, ti131, ti132, ti133, ti134, ti135, ti136, ti137, ti138, ti139, ti140, ti141, ti142, ti143, ti144, ti145, ti146, ti147, ti148, ti149, trivial⟩
theorem follows_ : prog.follows .mixedOrders = true := by kernel_rfl
end Go.Proofs.Tryz
