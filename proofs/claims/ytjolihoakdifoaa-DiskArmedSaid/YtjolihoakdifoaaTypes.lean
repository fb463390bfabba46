/- The types of the translation: their sizes and their zeros, as facts (printed by wip/tools/types.lean). -/
import Derived.Test.YtjolihoakdifoaaGc
import Derived.Test.YtjolihoakdifoaaProg
namespace Go.Proofs.Ytjolihoakdifoaa
open Go
theorem hmix : Try.prog.follows .mixedOrders = true := by kernel_rfl
@[simp] theorem sz0 : sizeA Try.prog 0 = some 1 := by kernel_rfl
@[simp] theorem by0 : bytesSz Try.prog 0 = some 0 := by kernel_rfl
@[simp] theorem zero0 : zeroA Try.prog 0 = some (.tuple []) := by kernel_rfl
@[simp] theorem sz1 : sizeA Try.prog 1 = some 1 := by kernel_rfl
@[simp] theorem by1 : bytesSz Try.prog 1 = some 8 := by kernel_rfl
@[simp] theorem zero1 : zeroA Try.prog 1 = some (.nilf) := by kernel_rfl
@[simp] theorem sz2 : sizeA Try.prog 2 = some 1 := by kernel_rfl
@[simp] theorem by2 : bytesSz Try.prog 2 = some 8 := by kernel_rfl
@[simp] theorem zero2 : zeroA Try.prog 2 = some (.int .i64 (0)) := by kernel_rfl
@[simp] theorem sz3 : sizeA Try.prog 3 = some 1 := by kernel_rfl
@[simp] theorem by3 : bytesSz Try.prog 3 = some 8 := by kernel_rfl
@[simp] theorem zero3 : zeroA Try.prog 3 = some (.int .i64 (0)) := by kernel_rfl
@[simp] theorem sz4 : sizeA Try.prog 4 = some 1 := by kernel_rfl
@[simp] theorem by4 : bytesSz Try.prog 4 = some 1 := by kernel_rfl
@[simp] theorem zero4 : zeroA Try.prog 4 = some (.bool false) := by kernel_rfl
@[simp] theorem sz5 : sizeA Try.prog 5 = some 1 := by kernel_rfl
@[simp] theorem by5 : bytesSz Try.prog 5 = some 1 := by kernel_rfl
@[simp] theorem zero5 : zeroA Try.prog 5 = some (.int .u8 (0)) := by kernel_rfl
@[simp] theorem sz6 : sizeA Try.prog 6 = some 1 := by kernel_rfl
@[simp] theorem by6 : bytesSz Try.prog 6 = some 1 := by kernel_rfl
@[simp] theorem zero6 : zeroA Try.prog 6 = some (.int .u8 (0)) := by kernel_rfl
@[simp] theorem sz7 : sizeA Try.prog 7 = some 4 := by kernel_rfl
@[simp] theorem by7 : bytesSz Try.prog 7 = some 24 := by kernel_rfl
@[simp] theorem zero7 : zeroA Try.prog 7 = some (.agg [.int .i64 (0), .int .i64 (0), .bool false, .int .u8 (0)]) := by kernel_rfl
@[simp] theorem sz8 : sizeA Try.prog 8 = some 4 := by kernel_rfl
@[simp] theorem by8 : bytesSz Try.prog 8 = some 24 := by kernel_rfl
@[simp] theorem zero8 : zeroA Try.prog 8 = some (.agg [.int .i64 (0), .int .i64 (0), .bool false, .int .u8 (0)]) := by kernel_rfl
@[simp] theorem sz9 : sizeA Try.prog 9 = some 1 := by kernel_rfl
@[simp] theorem by9 : bytesSz Try.prog 9 = some 16 := by kernel_rfl
@[simp] theorem zero9 : zeroA Try.prog 9 = some (.str []) := by kernel_rfl
@[simp] theorem sz10 : sizeA Try.prog 10 = some 1 := by kernel_rfl
@[simp] theorem by10 : bytesSz Try.prog 10 = some 16 := by kernel_rfl
@[simp] theorem zero10 : zeroA Try.prog 10 = some (.str []) := by kernel_rfl
@[simp] theorem sz11 : sizeA Try.prog 11 = some 1 := by kernel_rfl
@[simp] theorem by11 : bytesSz Try.prog 11 = some 16 := by kernel_rfl
@[simp] theorem zero11 : zeroA Try.prog 11 = some (.str []) := by kernel_rfl
@[simp] theorem sz12 : sizeA Try.prog 12 = some 1 := by kernel_rfl
@[simp] theorem by12 : bytesSz Try.prog 12 = some 8 := by kernel_rfl
@[simp] theorem zero12 : zeroA Try.prog 12 = some (.int .u64 (0)) := by kernel_rfl
@[simp] theorem sz13 : sizeA Try.prog 13 = some 2 := by kernel_rfl
@[simp] theorem by13 : bytesSz Try.prog 13 = some 24 := by kernel_rfl
@[simp] theorem zero13 : zeroA Try.prog 13 = some (.agg [.str [], .int .u64 (0)]) := by kernel_rfl
@[simp] theorem sz14 : sizeA Try.prog 14 = some 2 := by kernel_rfl
@[simp] theorem by14 : bytesSz Try.prog 14 = some 24 := by kernel_rfl
@[simp] theorem zero14 : zeroA Try.prog 14 = some (.agg [.str [], .int .u64 (0)]) := by kernel_rfl
@[simp] theorem sz15 : sizeA Try.prog 15 = some 1 := by kernel_rfl
@[simp] theorem by15 : bytesSz Try.prog 15 = some 8 := by kernel_rfl
@[simp] theorem zero15 : zeroA Try.prog 15 = some (.nilp) := by kernel_rfl
@[simp] theorem sz16 : sizeA Try.prog 16 = some 1 := by kernel_rfl
@[simp] theorem by16 : bytesSz Try.prog 16 = some 8 := by kernel_rfl
@[simp] theorem zero16 : zeroA Try.prog 16 = some (.nilp) := by kernel_rfl
@[simp] theorem sz17 : sizeA Try.prog 17 = some 1 := by kernel_rfl
@[simp] theorem by17 : bytesSz Try.prog 17 = some 8 := by kernel_rfl
@[simp] theorem zero17 : zeroA Try.prog 17 = some (.nilp) := by kernel_rfl
@[simp] theorem sz18 : sizeA Try.prog 18 = some 1 := by kernel_rfl
@[simp] theorem by18 : bytesSz Try.prog 18 = some 8 := by kernel_rfl
@[simp] theorem zero18 : zeroA Try.prog 18 = some (.agg [.nilp]) := by kernel_rfl
@[simp] theorem sz19 : sizeA Try.prog 19 = some 1 := by kernel_rfl
@[simp] theorem by19 : bytesSz Try.prog 19 = some 8 := by kernel_rfl
@[simp] theorem zero19 : zeroA Try.prog 19 = some (.agg [.nilp]) := by kernel_rfl
@[simp] theorem sz20 : sizeA Try.prog 20 = some 1 := by kernel_rfl
@[simp] theorem by20 : bytesSz Try.prog 20 = some 16 := by kernel_rfl
@[simp] theorem zero20 : zeroA Try.prog 20 = some (.top) := by kernel_rfl
@[simp] theorem sz21 : sizeA Try.prog 21 = some 1 := by kernel_rfl
@[simp] theorem by21 : bytesSz Try.prog 21 = some 4 := by kernel_rfl
@[simp] theorem zero21 : zeroA Try.prog 21 = some (.int .i32 (0)) := by kernel_rfl
@[simp] theorem sz22 : sizeA Try.prog 22 = some 1 := by kernel_rfl
@[simp] theorem by22 : bytesSz Try.prog 22 = some 24 := by kernel_rfl
@[simp] theorem zero22 : zeroA Try.prog 22 = some (.nils) := by kernel_rfl
@[simp] theorem sz23 : sizeA Try.prog 23 = some 1 := by kernel_rfl
@[simp] theorem by23 : bytesSz Try.prog 23 = some 8 := by kernel_rfl
@[simp] theorem zero23 : zeroA Try.prog 23 = some (.nilp) := by kernel_rfl
@[simp] theorem sz24 : sizeA Try.prog 24 = some 1 := by kernel_rfl
@[simp] theorem by24 : bytesSz Try.prog 24 = some 8 := by kernel_rfl
@[simp] theorem zero24 : zeroA Try.prog 24 = some (.nilf) := by kernel_rfl
@[simp] theorem sz25 : sizeA Try.prog 25 = some 1 := by kernel_rfl
@[simp] theorem by25 : bytesSz Try.prog 25 = some 8 := by kernel_rfl
@[simp] theorem zero25 : zeroA Try.prog 25 = some (.nilp) := by kernel_rfl
@[simp] theorem sz26 : sizeA Try.prog 26 = some 1 := by kernel_rfl
@[simp] theorem by26 : bytesSz Try.prog 26 = some 24 := by kernel_rfl
@[simp] theorem zero26 : zeroA Try.prog 26 = some (.nils) := by kernel_rfl
@[simp] theorem sz27 : sizeA Try.prog 27 = some 2 := by kernel_rfl
@[simp] theorem by27 : bytesSz Try.prog 27 = some 40 := by kernel_rfl
@[simp] theorem zero27 : zeroA Try.prog 27 = some (.agg [.str [], .nils]) := by kernel_rfl
@[simp] theorem sz28 : sizeA Try.prog 28 = some 2 := by kernel_rfl
@[simp] theorem by28 : bytesSz Try.prog 28 = some 40 := by kernel_rfl
@[simp] theorem zero28 : zeroA Try.prog 28 = some (.agg [.str [], .nils]) := by kernel_rfl
@[simp] theorem sz29 : sizeA Try.prog 29 = some 1 := by kernel_rfl
@[simp] theorem by29 : bytesSz Try.prog 29 = some 2 := by kernel_rfl
@[simp] theorem zero29 : zeroA Try.prog 29 = some (.int .i16 (0)) := by kernel_rfl
@[simp] theorem sz30 : sizeA Try.prog 30 = some 4 := by kernel_rfl
@[simp] theorem by30 : bytesSz Try.prog 30 = some 32 := by kernel_rfl
@[simp] theorem zero30 : zeroA Try.prog 30 = some (.agg [.int .u8 (0), .str [], .int .i16 (0), .int .i16 (0)]) := by kernel_rfl
@[simp] theorem sz31 : sizeA Try.prog 31 = some 4 := by kernel_rfl
@[simp] theorem by31 : bytesSz Try.prog 31 = some 32 := by kernel_rfl
@[simp] theorem zero31 : zeroA Try.prog 31 = some (.agg [.int .u8 (0), .str [], .int .i16 (0), .int .i16 (0)]) := by kernel_rfl
@[simp] theorem sz32 : sizeA Try.prog 32 = some 1 := by kernel_rfl
@[simp] theorem by32 : bytesSz Try.prog 32 = some 8 := by kernel_rfl
@[simp] theorem zero32 : zeroA Try.prog 32 = some (.nilf) := by kernel_rfl
@[simp] theorem sz33 : sizeA Try.prog 33 = some 1 := by kernel_rfl
@[simp] theorem by33 : bytesSz Try.prog 33 = some 8 := by kernel_rfl
@[simp] theorem zero33 : zeroA Try.prog 33 = some (.int .i64 (0)) := by kernel_rfl
@[simp] theorem sz34 : sizeA Try.prog 34 = some 1 := by kernel_rfl
@[simp] theorem by34 : bytesSz Try.prog 34 = some 8 := by kernel_rfl
@[simp] theorem zero34 : zeroA Try.prog 34 = some (.nilf) := by kernel_rfl
@[simp] theorem sz35 : sizeA Try.prog 35 = some 1 := by kernel_rfl
@[simp] theorem by35 : bytesSz Try.prog 35 = some 8 := by kernel_rfl
@[simp] theorem zero35 : zeroA Try.prog 35 = some (.nilf) := by kernel_rfl
@[simp] theorem sz36 : sizeA Try.prog 36 = some 1 := by kernel_rfl
@[simp] theorem by36 : bytesSz Try.prog 36 = some 8 := by kernel_rfl
@[simp] theorem zero36 : zeroA Try.prog 36 = some (.nilf) := by kernel_rfl
@[simp] theorem sz37 : sizeA Try.prog 37 = some 1 := by kernel_rfl
@[simp] theorem by37 : bytesSz Try.prog 37 = some 8 := by kernel_rfl
@[simp] theorem zero37 : zeroA Try.prog 37 = some (.nilf) := by kernel_rfl
@[simp] theorem sz38 : sizeA Try.prog 38 = some 1 := by kernel_rfl
@[simp] theorem by38 : bytesSz Try.prog 38 = some 8 := by kernel_rfl
@[simp] theorem zero38 : zeroA Try.prog 38 = some (.nilf) := by kernel_rfl
@[simp] theorem sz39 : sizeA Try.prog 39 = some 1 := by kernel_rfl
@[simp] theorem by39 : bytesSz Try.prog 39 = some 24 := by kernel_rfl
@[simp] theorem zero39 : zeroA Try.prog 39 = some (.nils) := by kernel_rfl
@[simp] theorem sz40 : sizeA Try.prog 40 = some 1 := by kernel_rfl
@[simp] theorem by40 : bytesSz Try.prog 40 = some 1 := by kernel_rfl
@[simp] theorem zero40 : zeroA Try.prog 40 = some (.int .i8 (0)) := by kernel_rfl
@[simp] theorem sz41 : sizeA Try.prog 41 = some 1 := by kernel_rfl
@[simp] theorem by41 : bytesSz Try.prog 41 = some 8 := by kernel_rfl
@[simp] theorem zero41 : zeroA Try.prog 41 = some (.nilp) := by kernel_rfl
@[simp] theorem sz42 : sizeA Try.prog 42 = some 1 := by kernel_rfl
@[simp] theorem by42 : bytesSz Try.prog 42 = some 8 := by kernel_rfl
@[simp] theorem zero42 : zeroA Try.prog 42 = some (.nilf) := by kernel_rfl
@[simp] theorem sz43 : sizeA Try.prog 43 = some 5 := by kernel_rfl
@[simp] theorem by43 : bytesSz Try.prog 43 = some 24 := by kernel_rfl
@[simp] theorem zero43 : zeroA Try.prog 43 = some (.agg [.int .u8 (0), .int .u8 (0), .int .u8 (0), .int .i8 (0), .str []]) := by kernel_rfl
@[simp] theorem sz44 : sizeA Try.prog 44 = some 5 := by kernel_rfl
@[simp] theorem by44 : bytesSz Try.prog 44 = some 24 := by kernel_rfl
@[simp] theorem zero44 : zeroA Try.prog 44 = some (.agg [.int .u8 (0), .int .u8 (0), .int .u8 (0), .int .i8 (0), .str []]) := by kernel_rfl
@[simp] theorem sz45 : sizeA Try.prog 45 = some 1 := by kernel_rfl
@[simp] theorem by45 : bytesSz Try.prog 45 = some 8 := by kernel_rfl
@[simp] theorem zero45 : zeroA Try.prog 45 = some (.nilf) := by kernel_rfl
@[simp] theorem sz46 : sizeA Try.prog 46 = some 1 := by kernel_rfl
@[simp] theorem by46 : bytesSz Try.prog 46 = some 8 := by kernel_rfl
@[simp] theorem zero46 : zeroA Try.prog 46 = some (.nilf) := by kernel_rfl
@[simp] theorem sz47 : sizeA Try.prog 47 = some 1 := by kernel_rfl
@[simp] theorem by47 : bytesSz Try.prog 47 = some 8 := by kernel_rfl
@[simp] theorem zero47 : zeroA Try.prog 47 = some (.nilf) := by kernel_rfl
@[simp] theorem sz48 : sizeA Try.prog 48 = some 1 := by kernel_rfl
@[simp] theorem by48 : bytesSz Try.prog 48 = some 8 := by kernel_rfl
@[simp] theorem zero48 : zeroA Try.prog 48 = some (.nilf) := by kernel_rfl
@[simp] theorem sz49 : sizeA Try.prog 49 = some 1 := by kernel_rfl
@[simp] theorem by49 : bytesSz Try.prog 49 = some 24 := by kernel_rfl
@[simp] theorem zero49 : zeroA Try.prog 49 = some (.nils) := by kernel_rfl
@[simp] theorem sz50 : sizeA Try.prog 50 = some 1 := by kernel_rfl
@[simp] theorem by50 : bytesSz Try.prog 50 = some 8 := by kernel_rfl
@[simp] theorem zero50 : zeroA Try.prog 50 = some (.nilf) := by kernel_rfl
@[simp] theorem sz51 : sizeA Try.prog 51 = some 1 := by kernel_rfl
@[simp] theorem by51 : bytesSz Try.prog 51 = some 8 := by kernel_rfl
@[simp] theorem zero51 : zeroA Try.prog 51 = some (.nilf) := by kernel_rfl
@[simp] theorem sz52 : sizeA Try.prog 52 = some 1 := by kernel_rfl
@[simp] theorem by52 : bytesSz Try.prog 52 = some 0 := by kernel_rfl
@[simp] theorem zero52 : zeroA Try.prog 52 = some (.tuple [.int .i64 (0), .bool false]) := by kernel_rfl
@[simp] theorem sz53 : sizeA Try.prog 53 = some 1 := by kernel_rfl
@[simp] theorem by53 : bytesSz Try.prog 53 = some 8 := by kernel_rfl
@[simp] theorem zero53 : zeroA Try.prog 53 = some (.nilf) := by kernel_rfl
@[simp] theorem sz54 : sizeA Try.prog 54 = some 1 := by kernel_rfl
@[simp] theorem by54 : bytesSz Try.prog 54 = some 8 := by kernel_rfl
@[simp] theorem zero54 : zeroA Try.prog 54 = some (.nilf) := by kernel_rfl
@[simp] theorem sz55 : sizeA Try.prog 55 = some 1 := by kernel_rfl
@[simp] theorem by55 : bytesSz Try.prog 55 = some 8 := by kernel_rfl
@[simp] theorem zero55 : zeroA Try.prog 55 = some (.nilf) := by kernel_rfl
@[simp] theorem sz56 : sizeA Try.prog 56 = some 1 := by kernel_rfl
@[simp] theorem by56 : bytesSz Try.prog 56 = some 24 := by kernel_rfl
@[simp] theorem zero56 : zeroA Try.prog 56 = some (.nils) := by kernel_rfl
@[simp] theorem sz57 : sizeA Try.prog 57 = some 1 := by kernel_rfl
@[simp] theorem by57 : bytesSz Try.prog 57 = some 8 := by kernel_rfl
@[simp] theorem zero57 : zeroA Try.prog 57 = some (.nilp) := by kernel_rfl
@[simp] theorem sz58 : sizeA Try.prog 58 = some 1 := by kernel_rfl
@[simp] theorem by58 : bytesSz Try.prog 58 = some 8 := by kernel_rfl
@[simp] theorem zero58 : zeroA Try.prog 58 = some (.nilf) := by kernel_rfl
@[simp] theorem sz59 : sizeA Try.prog 59 = some 1 := by kernel_rfl
@[simp] theorem by59 : bytesSz Try.prog 59 = some 24 := by kernel_rfl
@[simp] theorem zero59 : zeroA Try.prog 59 = some (.nils) := by kernel_rfl
@[simp] theorem sz60 : sizeA Try.prog 60 = some 6 := by kernel_rfl
@[simp] theorem by60 : bytesSz Try.prog 60 = some 56 := by kernel_rfl
@[simp] theorem zero60 : zeroA Try.prog 60 = some (.agg [.int .u8 (0), .int .u8 (0), .int .u8 (0), .str [], .int .i16 (0), .nils]) := by kernel_rfl
@[simp] theorem sz61 : sizeA Try.prog 61 = some 6 := by kernel_rfl
@[simp] theorem by61 : bytesSz Try.prog 61 = some 56 := by kernel_rfl
@[simp] theorem zero61 : zeroA Try.prog 61 = some (.agg [.int .u8 (0), .int .u8 (0), .int .u8 (0), .str [], .int .i16 (0), .nils]) := by kernel_rfl
@[simp] theorem sz62 : sizeA Try.prog 62 = some 1 := by kernel_rfl
@[simp] theorem by62 : bytesSz Try.prog 62 = some 8 := by kernel_rfl
@[simp] theorem zero62 : zeroA Try.prog 62 = some (.nilf) := by kernel_rfl
@[simp] theorem sz63 : sizeA Try.prog 63 = some 1 := by kernel_rfl
@[simp] theorem by63 : bytesSz Try.prog 63 = some 8 := by kernel_rfl
@[simp] theorem zero63 : zeroA Try.prog 63 = some (.nilf) := by kernel_rfl
@[simp] theorem sz64 : sizeA Try.prog 64 = some 1 := by kernel_rfl
@[simp] theorem by64 : bytesSz Try.prog 64 = some 0 := by kernel_rfl
@[simp] theorem zero64 : zeroA Try.prog 64 = some (.tuple [.int .i64 (0), .int .i64 (0)]) := by kernel_rfl
@[simp] theorem sz65 : sizeA Try.prog 65 = some 1 := by kernel_rfl
@[simp] theorem by65 : bytesSz Try.prog 65 = some 8 := by kernel_rfl
@[simp] theorem zero65 : zeroA Try.prog 65 = some (.nilf) := by kernel_rfl
@[simp] theorem sz66 : sizeA Try.prog 66 = some 1 := by kernel_rfl
@[simp] theorem by66 : bytesSz Try.prog 66 = some 8 := by kernel_rfl
@[simp] theorem zero66 : zeroA Try.prog 66 = some (.nilf) := by kernel_rfl
@[simp] theorem sz67 : sizeA Try.prog 67 = some 1 := by kernel_rfl
@[simp] theorem by67 : bytesSz Try.prog 67 = some 24 := by kernel_rfl
@[simp] theorem zero67 : zeroA Try.prog 67 = some (.nils) := by kernel_rfl
@[simp] theorem sz68 : sizeA Try.prog 68 = some 1 := by kernel_rfl
@[simp] theorem by68 : bytesSz Try.prog 68 = some 8 := by kernel_rfl
@[simp] theorem zero68 : zeroA Try.prog 68 = some (.nilf) := by kernel_rfl
@[simp] theorem sz69 : sizeA Try.prog 69 = some 1 := by kernel_rfl
@[simp] theorem by69 : bytesSz Try.prog 69 = some 8 := by kernel_rfl
@[simp] theorem zero69 : zeroA Try.prog 69 = some (.nilf) := by kernel_rfl
@[simp] theorem sz70 : sizeA Try.prog 70 = some 1 := by kernel_rfl
@[simp] theorem by70 : bytesSz Try.prog 70 = some 2 := by kernel_rfl
@[simp] theorem zero70 : zeroA Try.prog 70 = some (.int .u16 (0)) := by kernel_rfl
@[simp] theorem sz71 : sizeA Try.prog 71 = some 1 := by kernel_rfl
@[simp] theorem by71 : bytesSz Try.prog 71 = some 8 := by kernel_rfl
@[simp] theorem zero71 : zeroA Try.prog 71 = some (.nilf) := by kernel_rfl
@[simp] theorem sz72 : sizeA Try.prog 72 = some 1 := by kernel_rfl
@[simp] theorem by72 : bytesSz Try.prog 72 = some 24 := by kernel_rfl
@[simp] theorem zero72 : zeroA Try.prog 72 = some (.nils) := by kernel_rfl
@[simp] theorem sz73 : sizeA Try.prog 73 = some 3 := by kernel_rfl
@[simp] theorem by73 : bytesSz Try.prog 73 = some 56 := by kernel_rfl
@[simp] theorem zero73 : zeroA Try.prog 73 = some (.agg [.str [], .nils, .str []]) := by kernel_rfl
@[simp] theorem sz74 : sizeA Try.prog 74 = some 3 := by kernel_rfl
@[simp] theorem by74 : bytesSz Try.prog 74 = some 56 := by kernel_rfl
@[simp] theorem zero74 : zeroA Try.prog 74 = some (.agg [.str [], .nils, .str []]) := by kernel_rfl
@[simp] theorem sz75 : sizeA Try.prog 75 = some 1 := by kernel_rfl
@[simp] theorem by75 : bytesSz Try.prog 75 = some 8 := by kernel_rfl
@[simp] theorem zero75 : zeroA Try.prog 75 = some (.nilf) := by kernel_rfl
@[simp] theorem sz76 : sizeA Try.prog 76 = some 1 := by kernel_rfl
@[simp] theorem by76 : bytesSz Try.prog 76 = some 8 := by kernel_rfl
@[simp] theorem zero76 : zeroA Try.prog 76 = some (.nilf) := by kernel_rfl
@[simp] theorem sz77 : sizeA Try.prog 77 = some 1 := by kernel_rfl
@[simp] theorem by77 : bytesSz Try.prog 77 = some 8 := by kernel_rfl
@[simp] theorem zero77 : zeroA Try.prog 77 = some (.nilf) := by kernel_rfl
@[simp] theorem sz78 : sizeA Try.prog 78 = some 1 := by kernel_rfl
@[simp] theorem by78 : bytesSz Try.prog 78 = some 8 := by kernel_rfl
@[simp] theorem zero78 : zeroA Try.prog 78 = some (.nilf) := by kernel_rfl
@[simp] theorem sz79 : sizeA Try.prog 79 = some 1 := by kernel_rfl
@[simp] theorem by79 : bytesSz Try.prog 79 = some 8 := by kernel_rfl
@[simp] theorem zero79 : zeroA Try.prog 79 = some (.nilf) := by kernel_rfl
@[simp] theorem sz80 : sizeA Try.prog 80 = some 1 := by kernel_rfl
@[simp] theorem by80 : bytesSz Try.prog 80 = some 8 := by kernel_rfl
@[simp] theorem zero80 : zeroA Try.prog 80 = some (.nilf) := by kernel_rfl
@[simp] theorem sz81 : sizeA Try.prog 81 = some 1 := by kernel_rfl
@[simp] theorem by81 : bytesSz Try.prog 81 = some 8 := by kernel_rfl
@[simp] theorem zero81 : zeroA Try.prog 81 = some (.nilf) := by kernel_rfl
@[simp] theorem sz82 : sizeA Try.prog 82 = some 1 := by kernel_rfl
@[simp] theorem by82 : bytesSz Try.prog 82 = some 8 := by kernel_rfl
@[simp] theorem zero82 : zeroA Try.prog 82 = some (.nilf) := by kernel_rfl
@[simp] theorem sz83 : sizeA Try.prog 83 = some 1 := by kernel_rfl
@[simp] theorem by83 : bytesSz Try.prog 83 = some 8 := by kernel_rfl
@[simp] theorem zero83 : zeroA Try.prog 83 = some (.nilf) := by kernel_rfl
@[simp] theorem sz84 : sizeA Try.prog 84 = some 1 := by kernel_rfl
@[simp] theorem by84 : bytesSz Try.prog 84 = some 0 := by kernel_rfl
@[simp] theorem zero84 : zeroA Try.prog 84 = some (.tuple [.str [], .int .i64 (0)]) := by kernel_rfl
@[simp] theorem sz85 : sizeA Try.prog 85 = some 1 := by kernel_rfl
@[simp] theorem by85 : bytesSz Try.prog 85 = some 8 := by kernel_rfl
@[simp] theorem zero85 : zeroA Try.prog 85 = some (.nilf) := by kernel_rfl
@[simp] theorem sz86 : sizeA Try.prog 86 = some 1 := by kernel_rfl
@[simp] theorem by86 : bytesSz Try.prog 86 = some 8 := by kernel_rfl
@[simp] theorem zero86 : zeroA Try.prog 86 = some (.nilf) := by kernel_rfl
@[simp] theorem sz87 : sizeA Try.prog 87 = some 2 := by kernel_rfl
@[simp] theorem by87 : bytesSz Try.prog 87 = some 16 := by kernel_rfl
@[simp] theorem zero87 : zeroA Try.prog 87 = some (.agg [.int .i64 (0), .int .i64 (0)]) := by kernel_rfl
@[simp] theorem sz88 : sizeA Try.prog 88 = some 2 := by kernel_rfl
@[simp] theorem by88 : bytesSz Try.prog 88 = some 16 := by kernel_rfl
@[simp] theorem zero88 : zeroA Try.prog 88 = some (.agg [.int .i64 (0), .int .i64 (0)]) := by kernel_rfl
@[simp] theorem sz89 : sizeA Try.prog 89 = some 1 := by kernel_rfl
@[simp] theorem by89 : bytesSz Try.prog 89 = some 8 := by kernel_rfl
@[simp] theorem zero89 : zeroA Try.prog 89 = some (.nilf) := by kernel_rfl
@[simp] theorem sz90 : sizeA Try.prog 90 = some 2 := by kernel_rfl
@[simp] theorem by90 : bytesSz Try.prog 90 = some 16 := by kernel_rfl
@[simp] theorem zero90 : zeroA Try.prog 90 = some (.agg [.int .i64 (0), .int .i64 (0)]) := by kernel_rfl
@[simp] theorem sz91 : sizeA Try.prog 91 = some 1 := by kernel_rfl
@[simp] theorem by91 : bytesSz Try.prog 91 = some 8 := by kernel_rfl
@[simp] theorem zero91 : zeroA Try.prog 91 = some (.nilf) := by kernel_rfl
@[simp] theorem sz92 : sizeA Try.prog 92 = some 1 := by kernel_rfl
@[simp] theorem by92 : bytesSz Try.prog 92 = some 8 := by kernel_rfl
@[simp] theorem zero92 : zeroA Try.prog 92 = some (.nilf) := by kernel_rfl
@[simp] theorem sz93 : sizeA Try.prog 93 = some 1 := by kernel_rfl
@[simp] theorem by93 : bytesSz Try.prog 93 = some 8 := by kernel_rfl
@[simp] theorem zero93 : zeroA Try.prog 93 = some (.nilf) := by kernel_rfl
@[simp] theorem sz94 : sizeA Try.prog 94 = some 1 := by kernel_rfl
@[simp] theorem by94 : bytesSz Try.prog 94 = some 8 := by kernel_rfl
@[simp] theorem zero94 : zeroA Try.prog 94 = some (.nilm) := by kernel_rfl
@[simp] theorem sz95 : sizeA Try.prog 95 = some 1 := by kernel_rfl
@[simp] theorem by95 : bytesSz Try.prog 95 = some 8 := by kernel_rfl
@[simp] theorem zero95 : zeroA Try.prog 95 = some (.nilm) := by kernel_rfl
@[simp] theorem sz96 : sizeA Try.prog 96 = some 1 := by kernel_rfl
@[simp] theorem by96 : bytesSz Try.prog 96 = some 24 := by kernel_rfl
@[simp] theorem zero96 : zeroA Try.prog 96 = some (.nils) := by kernel_rfl
@[simp] theorem sz97 : sizeA Try.prog 97 = some 4 := by kernel_rfl
@[simp] theorem by97 : bytesSz Try.prog 97 = some 48 := by kernel_rfl
@[simp] theorem zero97 : zeroA Try.prog 97 = some (.agg [.nilm, .nilm, .nils, .int .i64 (0)]) := by kernel_rfl
@[simp] theorem sz98 : sizeA Try.prog 98 = some 4 := by kernel_rfl
@[simp] theorem by98 : bytesSz Try.prog 98 = some 48 := by kernel_rfl
@[simp] theorem zero98 : zeroA Try.prog 98 = some (.agg [.nilm, .nilm, .nils, .int .i64 (0)]) := by kernel_rfl
@[simp] theorem sz99 : sizeA Try.prog 99 = some 1 := by kernel_rfl
@[simp] theorem by99 : bytesSz Try.prog 99 = some 8 := by kernel_rfl
@[simp] theorem zero99 : zeroA Try.prog 99 = some (.nilp) := by kernel_rfl
@[simp] theorem sz100 : sizeA Try.prog 100 = some 1 := by kernel_rfl
@[simp] theorem by100 : bytesSz Try.prog 100 = some 24 := by kernel_rfl
@[simp] theorem zero100 : zeroA Try.prog 100 = some (.nils) := by kernel_rfl
@[simp] theorem sz101 : sizeA Try.prog 101 = some 2 := by kernel_rfl
@[simp] theorem by101 : bytesSz Try.prog 101 = some 32 := by kernel_rfl
@[simp] theorem zero101 : zeroA Try.prog 101 = some (.agg [.nilp, .nils]) := by kernel_rfl
@[simp] theorem sz102 : sizeA Try.prog 102 = some 2 := by kernel_rfl
@[simp] theorem by102 : bytesSz Try.prog 102 = some 32 := by kernel_rfl
@[simp] theorem zero102 : zeroA Try.prog 102 = some (.agg [.nilp, .nils]) := by kernel_rfl
@[simp] theorem sz103 : sizeA Try.prog 103 = some 1 := by kernel_rfl
@[simp] theorem by103 : bytesSz Try.prog 103 = some 16 := by kernel_rfl
@[simp] theorem zero103 : zeroA Try.prog 103 = some (.top) := by kernel_rfl
@[simp] theorem sz104 : sizeA Try.prog 104 = some 1 := by kernel_rfl
@[simp] theorem by104 : bytesSz Try.prog 104 = some 16 := by kernel_rfl
@[simp] theorem zero104 : zeroA Try.prog 104 = some (.top) := by kernel_rfl
@[simp] theorem sz105 : sizeA Try.prog 105 = some 1 := by kernel_rfl
@[simp] theorem by105 : bytesSz Try.prog 105 = some 0 := by kernel_rfl
@[simp] theorem zero105 : zeroA Try.prog 105 = some (.tuple [.int .i64 (0), .top]) := by kernel_rfl
@[simp] theorem sz106 : sizeA Try.prog 106 = some 1 := by kernel_rfl
@[simp] theorem by106 : bytesSz Try.prog 106 = some 8 := by kernel_rfl
@[simp] theorem zero106 : zeroA Try.prog 106 = some (.nilf) := by kernel_rfl
@[simp] theorem sz107 : sizeA Try.prog 107 = some 1 := by kernel_rfl
@[simp] theorem by107 : bytesSz Try.prog 107 = some 8 := by kernel_rfl
@[simp] theorem zero107 : zeroA Try.prog 107 = some (.nilf) := by kernel_rfl
@[simp] theorem sz108 : sizeA Try.prog 108 = some 1 := by kernel_rfl
@[simp] theorem by108 : bytesSz Try.prog 108 = some 8 := by kernel_rfl
@[simp] theorem zero108 : zeroA Try.prog 108 = some (.nilf) := by kernel_rfl
@[simp] theorem sz109 : sizeA Try.prog 109 = some 1 := by kernel_rfl
@[simp] theorem by109 : bytesSz Try.prog 109 = some 8 := by kernel_rfl
@[simp] theorem zero109 : zeroA Try.prog 109 = some (.nilf) := by kernel_rfl
@[simp] theorem sz110 : sizeA Try.prog 110 = some 1 := by kernel_rfl
@[simp] theorem by110 : bytesSz Try.prog 110 = some 8 := by kernel_rfl
@[simp] theorem zero110 : zeroA Try.prog 110 = some (.nilf) := by kernel_rfl
@[simp] theorem sz111 : sizeA Try.prog 111 = some 1 := by kernel_rfl
@[simp] theorem by111 : bytesSz Try.prog 111 = some 8 := by kernel_rfl
@[simp] theorem zero111 : zeroA Try.prog 111 = some (.nilf) := by kernel_rfl
@[simp] theorem sz112 : sizeA Try.prog 112 = some 1 := by kernel_rfl
@[simp] theorem by112 : bytesSz Try.prog 112 = some 8 := by kernel_rfl
@[simp] theorem zero112 : zeroA Try.prog 112 = some (.nilf) := by kernel_rfl
@[simp] theorem sz113 : sizeA Try.prog 113 = some 2 := by kernel_rfl
@[simp] theorem by113 : bytesSz Try.prog 113 = some 24 := by kernel_rfl
@[simp] theorem zero113 : zeroA Try.prog 113 = some (.agg [.str [], .nilf]) := by kernel_rfl
@[simp] theorem sz114 : sizeA Try.prog 114 = some 2 := by kernel_rfl
@[simp] theorem by114 : bytesSz Try.prog 114 = some 24 := by kernel_rfl
@[simp] theorem zero114 : zeroA Try.prog 114 = some (.agg [.str [], .nilf]) := by kernel_rfl
@[simp] theorem sz115 : sizeA Try.prog 115 = some 1 := by kernel_rfl
@[simp] theorem by115 : bytesSz Try.prog 115 = some 8 := by kernel_rfl
@[simp] theorem zero115 : zeroA Try.prog 115 = some (.nilf) := by kernel_rfl
@[simp] theorem sz116 : sizeA Try.prog 116 = some 1 := by kernel_rfl
@[simp] theorem by116 : bytesSz Try.prog 116 = some 8 := by kernel_rfl
@[simp] theorem zero116 : zeroA Try.prog 116 = some (.nilf) := by kernel_rfl
@[simp] theorem sz117 : sizeA Try.prog 117 = some 1 := by kernel_rfl
@[simp] theorem by117 : bytesSz Try.prog 117 = some 8 := by kernel_rfl
@[simp] theorem zero117 : zeroA Try.prog 117 = some (.nilf) := by kernel_rfl
@[simp] theorem sz118 : sizeA Try.prog 118 = some 1 := by kernel_rfl
@[simp] theorem by118 : bytesSz Try.prog 118 = some 8 := by kernel_rfl
@[simp] theorem zero118 : zeroA Try.prog 118 = some (.nilf) := by kernel_rfl
@[simp] theorem sz119 : sizeA Try.prog 119 = some 1 := by kernel_rfl
@[simp] theorem by119 : bytesSz Try.prog 119 = some 8 := by kernel_rfl
@[simp] theorem zero119 : zeroA Try.prog 119 = some (.nilm) := by kernel_rfl
@[simp] theorem sz120 : sizeA Try.prog 120 = some 6 := by kernel_rfl
@[simp] theorem by120 : bytesSz Try.prog 120 = some 48 := by kernel_rfl
@[simp] theorem zero120 : zeroA Try.prog 120 = some (.agg [.nilp, .nilm, .int .i64 (0), .int .i64 (0), .int .i64 (0), .bool false]) := by kernel_rfl
@[simp] theorem sz121 : sizeA Try.prog 121 = some 6 := by kernel_rfl
@[simp] theorem by121 : bytesSz Try.prog 121 = some 48 := by kernel_rfl
@[simp] theorem zero121 : zeroA Try.prog 121 = some (.agg [.nilp, .nilm, .int .i64 (0), .int .i64 (0), .int .i64 (0), .bool false]) := by kernel_rfl
@[simp] theorem sz122 : sizeA Try.prog 122 = some 1 := by kernel_rfl
@[simp] theorem by122 : bytesSz Try.prog 122 = some 8 := by kernel_rfl
@[simp] theorem zero122 : zeroA Try.prog 122 = some (.nilf) := by kernel_rfl
@[simp] theorem sz123 : sizeA Try.prog 123 = some 1 := by kernel_rfl
@[simp] theorem by123 : bytesSz Try.prog 123 = some 8 := by kernel_rfl
@[simp] theorem zero123 : zeroA Try.prog 123 = some (.nilf) := by kernel_rfl
@[simp] theorem sz124 : sizeA Try.prog 124 = some 1 := by kernel_rfl
@[simp] theorem by124 : bytesSz Try.prog 124 = some 8 := by kernel_rfl
@[simp] theorem zero124 : zeroA Try.prog 124 = some (.nilf) := by kernel_rfl
@[simp] theorem sz125 : sizeA Try.prog 125 = some 2 := by kernel_rfl
@[simp] theorem by125 : bytesSz Try.prog 125 = some 32 := by kernel_rfl
@[simp] theorem zero125 : zeroA Try.prog 125 = some (.agg [.str [], .str []]) := by kernel_rfl
@[simp] theorem sz126 : sizeA Try.prog 126 = some 2 := by kernel_rfl
@[simp] theorem by126 : bytesSz Try.prog 126 = some 32 := by kernel_rfl
@[simp] theorem zero126 : zeroA Try.prog 126 = some (.agg [.str [], .str []]) := by kernel_rfl
@[simp] theorem sz127 : sizeA Try.prog 127 = some 1 := by kernel_rfl
@[simp] theorem by127 : bytesSz Try.prog 127 = some 0 := by kernel_rfl
@[simp] theorem zero127 : zeroA Try.prog 127 = some (.tuple [.nilp, .int .i64 (0)]) := by kernel_rfl
@[simp] theorem sz128 : sizeA Try.prog 128 = some 1 := by kernel_rfl
@[simp] theorem by128 : bytesSz Try.prog 128 = some 8 := by kernel_rfl
@[simp] theorem zero128 : zeroA Try.prog 128 = some (.nilf) := by kernel_rfl
@[simp] theorem sz129 : sizeA Try.prog 129 = some 1 := by kernel_rfl
@[simp] theorem by129 : bytesSz Try.prog 129 = some 8 := by kernel_rfl
@[simp] theorem zero129 : zeroA Try.prog 129 = some (.agg [.nilf]) := by kernel_rfl
@[simp] theorem sz130 : sizeA Try.prog 130 = some 1 := by kernel_rfl
@[simp] theorem by130 : bytesSz Try.prog 130 = some 8 := by kernel_rfl
@[simp] theorem zero130 : zeroA Try.prog 130 = some (.agg [.nilf]) := by kernel_rfl
@[simp] theorem sz131 : sizeA Try.prog 131 = some 1 := by kernel_rfl
@[simp] theorem by131 : bytesSz Try.prog 131 = some 8 := by kernel_rfl
@[simp] theorem zero131 : zeroA Try.prog 131 = some (.nilf) := by kernel_rfl
@[simp] theorem sz132 : sizeA Try.prog 132 = some 1 := by kernel_rfl
@[simp] theorem by132 : bytesSz Try.prog 132 = some 8 := by kernel_rfl
@[simp] theorem zero132 : zeroA Try.prog 132 = some (.nilf) := by kernel_rfl
@[simp] theorem sz133 : sizeA Try.prog 133 = some 3 := by kernel_rfl
@[simp] theorem by133 : bytesSz Try.prog 133 = some 32 := by kernel_rfl
@[simp] theorem zero133 : zeroA Try.prog 133 = some (.agg [.bool false, .int .i64 (0), .str []]) := by kernel_rfl
@[simp] theorem sz134 : sizeA Try.prog 134 = some 3 := by kernel_rfl
@[simp] theorem by134 : bytesSz Try.prog 134 = some 32 := by kernel_rfl
@[simp] theorem zero134 : zeroA Try.prog 134 = some (.agg [.bool false, .int .i64 (0), .str []]) := by kernel_rfl
@[simp] theorem sz135 : sizeA Try.prog 135 = some 1 := by kernel_rfl
@[simp] theorem by135 : bytesSz Try.prog 135 = some 8 := by kernel_rfl
@[simp] theorem zero135 : zeroA Try.prog 135 = some (.nilf) := by kernel_rfl
@[simp] theorem sz136 : sizeA Try.prog 136 = some 1 := by kernel_rfl
@[simp] theorem by136 : bytesSz Try.prog 136 = some 8 := by kernel_rfl
@[simp] theorem zero136 : zeroA Try.prog 136 = some (.nilf) := by kernel_rfl
@[simp] theorem sz137 : sizeA Try.prog 137 = some 1 := by kernel_rfl
@[simp] theorem by137 : bytesSz Try.prog 137 = some 8 := by kernel_rfl
@[simp] theorem zero137 : zeroA Try.prog 137 = some (.nilf) := by kernel_rfl
@[simp] theorem sz138 : sizeA Try.prog 138 = some 1 := by kernel_rfl
@[simp] theorem by138 : bytesSz Try.prog 138 = some 8 := by kernel_rfl
@[simp] theorem zero138 : zeroA Try.prog 138 = some (.nilp) := by kernel_rfl
@[simp] theorem sz139 : sizeA Try.prog 139 = some 1 := by kernel_rfl
@[simp] theorem by139 : bytesSz Try.prog 139 = some 8 := by kernel_rfl
@[simp] theorem zero139 : zeroA Try.prog 139 = some (.nilf) := by kernel_rfl
@[simp] theorem sz140 : sizeA Try.prog 140 = some 1 := by kernel_rfl
@[simp] theorem by140 : bytesSz Try.prog 140 = some 8 := by kernel_rfl
@[simp] theorem zero140 : zeroA Try.prog 140 = some (.nilp) := by kernel_rfl
@[simp] theorem sz141 : sizeA Try.prog 141 = some 1 := by kernel_rfl
@[simp] theorem by141 : bytesSz Try.prog 141 = some 8 := by kernel_rfl
@[simp] theorem zero141 : zeroA Try.prog 141 = some (.nilf) := by kernel_rfl
@[simp] theorem sz142 : sizeA Try.prog 142 = some 1 := by kernel_rfl
@[simp] theorem by142 : bytesSz Try.prog 142 = some 8 := by kernel_rfl
@[simp] theorem zero142 : zeroA Try.prog 142 = some (.nilf) := by kernel_rfl
@[simp] theorem sz143 : sizeA Try.prog 143 = some 1 := by kernel_rfl
@[simp] theorem by143 : bytesSz Try.prog 143 = some 8 := by kernel_rfl
@[simp] theorem zero143 : zeroA Try.prog 143 = some (.nilf) := by kernel_rfl
@[simp] theorem sz144 : sizeA Try.prog 144 = some 1 := by kernel_rfl
@[simp] theorem by144 : bytesSz Try.prog 144 = some 8 := by kernel_rfl
@[simp] theorem zero144 : zeroA Try.prog 144 = some (.nilf) := by kernel_rfl
@[simp] theorem sz145 : sizeA Try.prog 145 = some 1 := by kernel_rfl
@[simp] theorem by145 : bytesSz Try.prog 145 = some 8 := by kernel_rfl
@[simp] theorem zero145 : zeroA Try.prog 145 = some (.nilf) := by kernel_rfl
@[simp] theorem sz146 : sizeA Try.prog 146 = some 1 := by kernel_rfl
@[simp] theorem by146 : bytesSz Try.prog 146 = some 8 := by kernel_rfl
@[simp] theorem zero146 : zeroA Try.prog 146 = some (.int .u64 (0)) := by kernel_rfl
@[simp] theorem sz147 : sizeA Try.prog 147 = some 1 := by kernel_rfl
@[simp] theorem by147 : bytesSz Try.prog 147 = some 8 := by kernel_rfl
@[simp] theorem zero147 : zeroA Try.prog 147 = some (.nilf) := by kernel_rfl
@[simp] theorem sz148 : sizeA Try.prog 148 = some 1 := by kernel_rfl
@[simp] theorem by148 : bytesSz Try.prog 148 = some 8 := by kernel_rfl
@[simp] theorem zero148 : zeroA Try.prog 148 = some (.int .i64 (0)) := by kernel_rfl
@[simp] theorem sz149 : sizeA Try.prog 149 = some 1 := by kernel_rfl
@[simp] theorem by149 : bytesSz Try.prog 149 = some 0 := by kernel_rfl
@[simp] theorem zero149 : zeroA Try.prog 149 = some (.tuple [.int .i64 (0), .int .i64 (0)]) := by kernel_rfl
@[simp] theorem sz150 : sizeA Try.prog 150 = some 1 := by kernel_rfl
@[simp] theorem by150 : bytesSz Try.prog 150 = some 8 := by kernel_rfl
@[simp] theorem zero150 : zeroA Try.prog 150 = some (.nilf) := by kernel_rfl
@[simp] theorem sz151 : sizeA Try.prog 151 = some 1 := by kernel_rfl
@[simp] theorem by151 : bytesSz Try.prog 151 = some 8 := by kernel_rfl
@[simp] theorem zero151 : zeroA Try.prog 151 = some (.nilf) := by kernel_rfl
@[simp] theorem sz152 : sizeA Try.prog 152 = some 1 := by kernel_rfl
@[simp] theorem by152 : bytesSz Try.prog 152 = some 8 := by kernel_rfl
@[simp] theorem zero152 : zeroA Try.prog 152 = some (.nilf) := by kernel_rfl
@[simp] theorem sz153 : sizeA Try.prog 153 = some 1 := by kernel_rfl
@[simp] theorem by153 : bytesSz Try.prog 153 = some 8 := by kernel_rfl
@[simp] theorem zero153 : zeroA Try.prog 153 = some (.nilf) := by kernel_rfl
@[simp] theorem sz154 : sizeA Try.prog 154 = some 1 := by kernel_rfl
@[simp] theorem by154 : bytesSz Try.prog 154 = some 8 := by kernel_rfl
@[simp] theorem zero154 : zeroA Try.prog 154 = some (.nilf) := by kernel_rfl
@[simp] theorem sz155 : sizeA Try.prog 155 = some 1 := by kernel_rfl
@[simp] theorem by155 : bytesSz Try.prog 155 = some 8 := by kernel_rfl
@[simp] theorem zero155 : zeroA Try.prog 155 = some (.nilf) := by kernel_rfl
@[simp] theorem sz156 : sizeA Try.prog 156 = some 1 := by kernel_rfl
@[simp] theorem by156 : bytesSz Try.prog 156 = some 4 := by kernel_rfl
@[simp] theorem zero156 : zeroA Try.prog 156 = some (.int .u32 (0)) := by kernel_rfl
@[simp] theorem sz157 : sizeA Try.prog 157 = some 1 := by kernel_rfl
@[simp] theorem by157 : bytesSz Try.prog 157 = some 8 := by kernel_rfl
@[simp] theorem zero157 : zeroA Try.prog 157 = some (.nilf) := by kernel_rfl
@[simp] theorem sz158 : sizeA Try.prog 158 = some 1 := by kernel_rfl
@[simp] theorem by158 : bytesSz Try.prog 158 = some 8 := by kernel_rfl
@[simp] theorem zero158 : zeroA Try.prog 158 = some (.int .u64 (0)) := by kernel_rfl
@[simp] theorem sz159 : sizeA Try.prog 159 = some 1 := by kernel_rfl
@[simp] theorem by159 : bytesSz Try.prog 159 = some 8 := by kernel_rfl
@[simp] theorem zero159 : zeroA Try.prog 159 = some (.int .u64 (0)) := by kernel_rfl
@[simp] theorem sz160 : sizeA Try.prog 160 = some 1 := by kernel_rfl
@[simp] theorem by160 : bytesSz Try.prog 160 = some 8 := by kernel_rfl
@[simp] theorem zero160 : zeroA Try.prog 160 = some (.nilf) := by kernel_rfl
@[simp] theorem sz161 : sizeA Try.prog 161 = some 1 := by kernel_rfl
@[simp] theorem by161 : bytesSz Try.prog 161 = some 8 := by kernel_rfl
@[simp] theorem zero161 : zeroA Try.prog 161 = some (.nilf) := by kernel_rfl
@[simp] theorem sz162 : sizeA Try.prog 162 = some 1 := by kernel_rfl
@[simp] theorem by162 : bytesSz Try.prog 162 = some 8 := by kernel_rfl
@[simp] theorem zero162 : zeroA Try.prog 162 = some (.nilf) := by kernel_rfl
@[simp] theorem sz163 : sizeA Try.prog 163 = some 1 := by kernel_rfl
@[simp] theorem by163 : bytesSz Try.prog 163 = some 8 := by kernel_rfl
@[simp] theorem zero163 : zeroA Try.prog 163 = some (.nilp) := by kernel_rfl
@[simp] theorem sz164 : sizeA Try.prog 164 = some 1 := by kernel_rfl
@[simp] theorem by164 : bytesSz Try.prog 164 = some 8 := by kernel_rfl
@[simp] theorem zero164 : zeroA Try.prog 164 = some (.nilf) := by kernel_rfl
@[simp] theorem sz165 : sizeA Try.prog 165 = some 1 := by kernel_rfl
@[simp] theorem by165 : bytesSz Try.prog 165 = some 8 := by kernel_rfl
@[simp] theorem zero165 : zeroA Try.prog 165 = some (.nilp) := by kernel_rfl
@[simp] theorem sz166 : sizeA Try.prog 166 = some 1 := by kernel_rfl
@[simp] theorem by166 : bytesSz Try.prog 166 = some 0 := by kernel_rfl
@[simp] theorem zero166 : zeroA Try.prog 166 = some (.tuple [.int .i64 (0), .int .i64 (0)]) := by kernel_rfl
@[simp] theorem sz167 : sizeA Try.prog 167 = some 1 := by kernel_rfl
@[simp] theorem by167 : bytesSz Try.prog 167 = some 8 := by kernel_rfl
@[simp] theorem zero167 : zeroA Try.prog 167 = some (.nilf) := by kernel_rfl
@[simp] theorem sz168 : sizeA Try.prog 168 = some 4 := by kernel_rfl
@[simp] theorem by168 : bytesSz Try.prog 168 = some 40 := by kernel_rfl
@[simp] theorem zero168 : zeroA Try.prog 168 = some (.agg [.nilp, .nilp, .nilp, .str []]) := by kernel_rfl
@[simp] theorem sz169 : sizeA Try.prog 169 = some 4 := by kernel_rfl
@[simp] theorem by169 : bytesSz Try.prog 169 = some 40 := by kernel_rfl
@[simp] theorem zero169 : zeroA Try.prog 169 = some (.agg [.nilp, .nilp, .nilp, .str []]) := by kernel_rfl
@[simp] theorem sz170 : sizeA Try.prog 170 = some 0 := by kernel_rfl
@[simp] theorem by170 : bytesSz Try.prog 170 = some 0 := by kernel_rfl
@[simp] theorem zero170 : zeroA Try.prog 170 = some (.agg []) := by kernel_rfl
@[simp] theorem sz171 : sizeA Try.prog 171 = some 0 := by kernel_rfl
@[simp] theorem by171 : bytesSz Try.prog 171 = some 0 := by kernel_rfl
@[simp] theorem zero171 : zeroA Try.prog 171 = some (.agg []) := by kernel_rfl
@[simp] theorem sz172 : sizeA Try.prog 172 = some 0 := by kernel_rfl
@[simp] theorem by172 : bytesSz Try.prog 172 = some 0 := by kernel_rfl
@[simp] theorem zero172 : zeroA Try.prog 172 = some (.agg []) := by kernel_rfl
@[simp] theorem sz173 : sizeA Try.prog 173 = some 1 := by kernel_rfl
@[simp] theorem by173 : bytesSz Try.prog 173 = some 1 := by kernel_rfl
@[simp] theorem zero173 : zeroA Try.prog 173 = some (.int .u8 (0)) := by kernel_rfl
@[simp] theorem sz174 : sizeA Try.prog 174 = some 1 := by kernel_rfl
@[simp] theorem by174 : bytesSz Try.prog 174 = some 1 := by kernel_rfl
@[simp] theorem zero174 : zeroA Try.prog 174 = some (.int .u8 (0)) := by kernel_rfl
@[simp] theorem sz175 : sizeA Try.prog 175 = some 1 := by kernel_rfl
@[simp] theorem by175 : bytesSz Try.prog 175 = some 8 := by kernel_rfl
@[simp] theorem zero175 : zeroA Try.prog 175 = some (.nilf) := by kernel_rfl
@[simp] theorem sz176 : sizeA Try.prog 176 = some 1 := by kernel_rfl
@[simp] theorem by176 : bytesSz Try.prog 176 = some 4 := by kernel_rfl
@[simp] theorem zero176 : zeroA Try.prog 176 = some (.int .i32 (0)) := by kernel_rfl
@[simp] theorem sz177 : sizeA Try.prog 177 = some 1 := by kernel_rfl
@[simp] theorem by177 : bytesSz Try.prog 177 = some 4 := by kernel_rfl
@[simp] theorem zero177 : zeroA Try.prog 177 = some (.int .i32 (0)) := by kernel_rfl
@[simp] theorem sz178 : sizeA Try.prog 178 = some 11 := by kernel_rfl
@[simp] theorem by178 : bytesSz Try.prog 178 = some 48 := by kernel_rfl
@[simp] theorem zero178 : zeroA Try.prog 178 = some (.agg [.int .u64 (0), .int .u64 (0), .int .u32 (0), .int .u8 (0), .int .u8 (0), .int .u8 (0), .int .u8 (0), .nilf, .nilp, .int .i32 (0), .int .i32 (0)]) := by kernel_rfl
@[simp] theorem sz179 : sizeA Try.prog 179 = some 11 := by kernel_rfl
@[simp] theorem by179 : bytesSz Try.prog 179 = some 48 := by kernel_rfl
@[simp] theorem zero179 : zeroA Try.prog 179 = some (.agg [.int .u64 (0), .int .u64 (0), .int .u32 (0), .int .u8 (0), .int .u8 (0), .int .u8 (0), .int .u8 (0), .nilf, .nilp, .int .i32 (0), .int .i32 (0)]) := by kernel_rfl
@[simp] theorem fe7 : flatEq Try.prog 7 = some 4 := by kernel_rfl
@[simp] theorem fe8 : flatEq Try.prog 8 = some 4 := by kernel_rfl
@[simp] theorem fe30 : flatEq Try.prog 30 = some 4 := by kernel_rfl
@[simp] theorem fe31 : flatEq Try.prog 31 = some 4 := by kernel_rfl
@[simp] theorem fe43 : flatEq Try.prog 43 = some 5 := by kernel_rfl
@[simp] theorem fe44 : flatEq Try.prog 44 = some 5 := by kernel_rfl
@[simp] theorem fe87 : flatEq Try.prog 87 = some 2 := by kernel_rfl
@[simp] theorem fe88 : flatEq Try.prog 88 = some 2 := by kernel_rfl
@[simp] theorem fe90 : flatEq Try.prog 90 = some 2 := by kernel_rfl
@[simp] theorem fe125 : flatEq Try.prog 125 = some 2 := by kernel_rfl
@[simp] theorem fe126 : flatEq Try.prog 126 = some 2 := by kernel_rfl
@[simp] theorem fe133 : flatEq Try.prog 133 = some 3 := by kernel_rfl
@[simp] theorem fe134 : flatEq Try.prog 134 = some 3 := by kernel_rfl
@[simp] theorem fn2 : fnOf Try.prog 2 = some Try.f2 := Try.func2
@[simp] theorem fn3 : fnOf Try.prog 3 = some Try.f3 := Try.func3
@[simp] theorem fn4 : fnOf Try.prog 4 = some Try.f4 := Try.func4
@[simp] theorem fn5 : fnOf Try.prog 5 = some Try.f5 := Try.func5
@[simp] theorem fn6 : fnOf Try.prog 6 = some Try.f6 := Try.func6
@[simp] theorem fn7 : fnOf Try.prog 7 = some Try.f7 := Try.func7
@[simp] theorem fn8 : fnOf Try.prog 8 = some Try.f8 := Try.func8
@[simp] theorem fn9 : fnOf Try.prog 9 = some Try.f9 := Try.func9
@[simp] theorem fn10 : fnOf Try.prog 10 = some Try.f10 := Try.func10
@[simp] theorem fn11 : fnOf Try.prog 11 = some Try.f11 := Try.func11
@[simp] theorem fn12 : fnOf Try.prog 12 = some Try.f12 := Try.func12
@[simp] theorem fn13 : fnOf Try.prog 13 = some Try.f13 := Try.func13
@[simp] theorem fn14 : fnOf Try.prog 14 = some Try.f14 := Try.func14
@[simp] theorem fn15 : fnOf Try.prog 15 = some Try.f15 := Try.func15
@[simp] theorem fn16 : fnOf Try.prog 16 = some Try.f16 := Try.func16
@[simp] theorem fn17 : fnOf Try.prog 17 = some Try.f17 := Try.func17
@[simp] theorem fn18 : fnOf Try.prog 18 = some Try.f18 := Try.func18
@[simp] theorem fn19 : fnOf Try.prog 19 = some Try.f19 := Try.func19
@[simp] theorem fn20 : fnOf Try.prog 20 = some Try.f20 := Try.func20
@[simp] theorem fn21 : fnOf Try.prog 21 = some Try.f21 := Try.func21
@[simp] theorem fn22 : fnOf Try.prog 22 = some Try.f22 := Try.func22
@[simp] theorem fn23 : fnOf Try.prog 23 = some Try.f23 := Try.func23
@[simp] theorem fn24 : fnOf Try.prog 24 = some Try.f24 := Try.func24
@[simp] theorem fn25 : fnOf Try.prog 25 = some Try.f25 := Try.func25
@[simp] theorem fn26 : fnOf Try.prog 26 = some Try.f26 := Try.func26
@[simp] theorem fn27 : fnOf Try.prog 27 = some Try.f27 := Try.func27
@[simp] theorem fn28 : fnOf Try.prog 28 = some Try.f28 := Try.func28
@[simp] theorem fn29 : fnOf Try.prog 29 = some Try.f29 := Try.func29
@[simp] theorem fn30 : fnOf Try.prog 30 = some Try.f30 := Try.func30
@[simp] theorem fn31 : fnOf Try.prog 31 = some Try.f31 := Try.func31
@[simp] theorem fn32 : fnOf Try.prog 32 = some Try.f32 := Try.func32
@[simp] theorem fn33 : fnOf Try.prog 33 = some Try.f33 := Try.func33
@[simp] theorem fn34 : fnOf Try.prog 34 = some Try.f34 := Try.func34
@[simp] theorem fn35 : fnOf Try.prog 35 = some Try.f35 := Try.func35
@[simp] theorem fn36 : fnOf Try.prog 36 = some Try.f36 := Try.func36
@[simp] theorem fn37 : fnOf Try.prog 37 = some Try.f37 := Try.func37
@[simp] theorem fn38 : fnOf Try.prog 38 = some Try.f38 := Try.func38
@[simp] theorem fn39 : fnOf Try.prog 39 = some Try.f39 := Try.func39
@[simp] theorem fn40 : fnOf Try.prog 40 = some Try.f40 := Try.func40
@[simp] theorem fn41 : fnOf Try.prog 41 = some Try.f41 := Try.func41
@[simp] theorem fn42 : fnOf Try.prog 42 = some Try.f42 := Try.func42
@[simp] theorem fn43 : fnOf Try.prog 43 = some Try.f43 := Try.func43
@[simp] theorem fn44 : fnOf Try.prog 44 = some Try.f44 := Try.func44
@[simp] theorem fn45 : fnOf Try.prog 45 = some Try.f45 := Try.func45
@[simp] theorem fn46 : fnOf Try.prog 46 = some Try.f46 := Try.func46
@[simp] theorem fn47 : fnOf Try.prog 47 = some Try.f47 := Try.func47
@[simp] theorem fn48 : fnOf Try.prog 48 = some Try.f48 := Try.func48
@[simp] theorem fn49 : fnOf Try.prog 49 = some Try.f49 := Try.func49
@[simp] theorem fn50 : fnOf Try.prog 50 = some Try.f50 := Try.func50
@[simp] theorem fn51 : fnOf Try.prog 51 = some Try.f51 := Try.func51
@[simp] theorem fn52 : fnOf Try.prog 52 = some Try.f52 := Try.func52
@[simp] theorem fn53 : fnOf Try.prog 53 = some Try.f53 := Try.func53
@[simp] theorem fn54 : fnOf Try.prog 54 = some Try.f54 := Try.func54
@[simp] theorem fn55 : fnOf Try.prog 55 = some Try.f55 := Try.func55
@[simp] theorem fn56 : fnOf Try.prog 56 = some Try.f56 := Try.func56
@[simp] theorem fn57 : fnOf Try.prog 57 = some Try.f57 := Try.func57
@[simp] theorem fn58 : fnOf Try.prog 58 = some Try.f58 := Try.func58
@[simp] theorem fn59 : fnOf Try.prog 59 = some Try.f59 := Try.func59
@[simp] theorem fn60 : fnOf Try.prog 60 = some Try.f60 := Try.func60
@[simp] theorem fn61 : fnOf Try.prog 61 = some Try.f61 := Try.func61
@[simp] theorem fn62 : fnOf Try.prog 62 = some Try.f62 := Try.func62
@[simp] theorem fn63 : fnOf Try.prog 63 = some Try.f63 := Try.func63
@[simp] theorem fn64 : fnOf Try.prog 64 = some Try.f64 := Try.func64
@[simp] theorem fn65 : fnOf Try.prog 65 = some Try.f65 := Try.func65
@[simp] theorem fn66 : fnOf Try.prog 66 = some Try.f66 := Try.func66
@[simp] theorem fn67 : fnOf Try.prog 67 = some Try.f67 := Try.func67
@[simp] theorem fn68 : fnOf Try.prog 68 = some Try.f68 := Try.func68
@[simp] theorem fn69 : fnOf Try.prog 69 = some Try.f69 := Try.func69
@[simp] theorem fn70 : fnOf Try.prog 70 = some Try.f70 := Try.func70
@[simp] theorem fn71 : fnOf Try.prog 71 = some Try.f71 := Try.func71
@[simp] theorem fn72 : fnOf Try.prog 72 = some Try.f72 := Try.func72
@[simp] theorem fn73 : fnOf Try.prog 73 = some Try.f73 := Try.func73
@[simp] theorem fn74 : fnOf Try.prog 74 = some Try.f74 := Try.func74
@[simp] theorem fn75 : fnOf Try.prog 75 = some Try.f75 := Try.func75
@[simp] theorem fn76 : fnOf Try.prog 76 = some Try.f76 := Try.func76
@[simp] theorem fn77 : fnOf Try.prog 77 = some Try.f77 := Try.func77
@[simp] theorem fn78 : fnOf Try.prog 78 = some Try.f78 := Try.func78
@[simp] theorem fn79 : fnOf Try.prog 79 = some Try.f79 := Try.func79
@[simp] theorem fn80 : fnOf Try.prog 80 = some Try.f80 := Try.func80
@[simp] theorem fn81 : fnOf Try.prog 81 = some Try.f81 := Try.func81
@[simp] theorem fn82 : fnOf Try.prog 82 = some Try.f82 := Try.func82
@[simp] theorem fn83 : fnOf Try.prog 83 = some Try.f83 := Try.func83
@[simp] theorem fn84 : fnOf Try.prog 84 = some Try.f84 := Try.func84
@[simp] theorem fn85 : fnOf Try.prog 85 = some Try.f85 := Try.func85
@[simp] theorem fn86 : fnOf Try.prog 86 = some Try.f86 := Try.func86
@[simp] theorem fn87 : fnOf Try.prog 87 = some Try.f87 := Try.func87
@[simp] theorem fn88 : fnOf Try.prog 88 = some Try.f88 := Try.func88
@[simp] theorem fn89 : fnOf Try.prog 89 = some Try.f89 := Try.func89
@[simp] theorem fn90 : fnOf Try.prog 90 = some Try.f90 := Try.func90
@[simp] theorem fn91 : fnOf Try.prog 91 = some Try.f91 := Try.func91
@[simp] theorem fn92 : fnOf Try.prog 92 = some Try.f92 := Try.func92
@[simp] theorem fn93 : fnOf Try.prog 93 = some Try.f93 := Try.func93
@[simp] theorem fn94 : fnOf Try.prog 94 = some Try.f94 := Try.func94
@[simp] theorem fn95 : fnOf Try.prog 95 = some Try.f95 := Try.func95
@[simp] theorem fn96 : fnOf Try.prog 96 = some Try.f96 := Try.func96
@[simp] theorem fn97 : fnOf Try.prog 97 = some Try.f97 := Try.func97
@[simp] theorem fn99 : fnOf Try.prog 99 = some Try.f99 := Try.func99
@[simp] theorem fn100 : fnOf Try.prog 100 = some Try.f100 := Try.func100
@[simp] theorem fn103 : fnOf Try.prog 103 = some Try.f103 := Try.func103
@[simp] theorem fn104 : fnOf Try.prog 104 = some Try.f104 := Try.func104
@[simp] theorem fn105 : fnOf Try.prog 105 = some Try.f105 := Try.func105
@[simp] theorem fn106 : fnOf Try.prog 106 = some Try.f106 := Try.func106
@[simp] theorem fn107 : fnOf Try.prog 107 = some Try.f107 := Try.func107
@[simp] theorem fn108 : fnOf Try.prog 108 = some Try.f108 := Try.func108
@[simp] theorem fn109 : fnOf Try.prog 109 = some Try.f109 := Try.func109
@[simp] theorem fn110 : fnOf Try.prog 110 = some Try.f110 := Try.func110
@[simp] theorem fn111 : fnOf Try.prog 111 = some Try.f111 := Try.func111
@[simp] theorem fn112 : fnOf Try.prog 112 = some Try.f112 := Try.func112
@[simp] theorem fn113 : fnOf Try.prog 113 = some Try.f113 := Try.func113
@[simp] theorem fn114 : fnOf Try.prog 114 = some Try.f114 := Try.func114
@[simp] theorem fn115 : fnOf Try.prog 115 = some Try.f115 := Try.func115
@[simp] theorem fn116 : fnOf Try.prog 116 = some Try.f116 := Try.func116
@[simp] theorem fn117 : fnOf Try.prog 117 = some Try.f117 := Try.func117
@[simp] theorem fn118 : fnOf Try.prog 118 = some Try.f118 := Try.func118
@[simp] theorem fn119 : fnOf Try.prog 119 = some Try.f119 := Try.func119
@[simp] theorem fn120 : fnOf Try.prog 120 = some Try.f120 := Try.func120
@[simp] theorem fn121 : fnOf Try.prog 121 = some Try.f121 := Try.func121
@[simp] theorem fn122 : fnOf Try.prog 122 = some Try.f122 := Try.func122
@[simp] theorem fn123 : fnOf Try.prog 123 = some Try.f123 := Try.func123
attribute [simp] Try.underlying0 Try.underlying1 Try.underlying2 Try.underlying3 Try.underlying4 Try.underlying5 Try.underlying6 Try.underlying7 Try.underlying8 Try.underlying9 Try.underlying10 Try.underlying11 Try.underlying12 Try.underlying13 Try.underlying14 Try.underlying15 Try.underlying16 Try.underlying17 Try.underlying18 Try.underlying19 Try.underlying20 Try.underlying21 Try.underlying22 Try.underlying23 Try.underlying24 Try.underlying25 Try.underlying26 Try.underlying27 Try.underlying28 Try.underlying29 Try.underlying30 Try.underlying31 Try.underlying32 Try.underlying33 Try.underlying34 Try.underlying35 Try.underlying36 Try.underlying37 Try.underlying38 Try.underlying39 Try.underlying40 Try.underlying41 Try.underlying42 Try.underlying43 Try.underlying44 Try.underlying45 Try.underlying46 Try.underlying47 Try.underlying48 Try.underlying49 Try.underlying50 Try.underlying51 Try.underlying52 Try.underlying53 Try.underlying54 Try.underlying55 Try.underlying56 Try.underlying57 Try.underlying58 Try.underlying59 Try.underlying60 Try.underlying61 Try.underlying62 Try.underlying63 Try.underlying64 Try.underlying65 Try.underlying66 Try.underlying67 Try.underlying68 Try.underlying69 Try.underlying70 Try.underlying71 Try.underlying72 Try.underlying73 Try.underlying74 Try.underlying75 Try.underlying76 Try.underlying77 Try.underlying78 Try.underlying79 Try.underlying80 Try.underlying81 Try.underlying82 Try.underlying83 Try.underlying84 Try.underlying85 Try.underlying86 Try.underlying87 Try.underlying88 Try.underlying89 Try.underlying90 Try.underlying91 Try.underlying92 Try.underlying93 Try.underlying94 Try.underlying95 Try.underlying96 Try.underlying97 Try.underlying98 Try.underlying99 Try.underlying100 Try.underlying101 Try.underlying102 Try.underlying103 Try.underlying104 Try.underlying105 Try.underlying106 Try.underlying107 Try.underlying108 Try.underlying109 Try.underlying110 Try.underlying111 Try.underlying112 Try.underlying113 Try.underlying114 Try.underlying115 Try.underlying116 Try.underlying117 Try.underlying118 Try.underlying119 Try.underlying120 Try.underlying121 Try.underlying122 Try.underlying123 Try.underlying124 Try.underlying125 Try.underlying126 Try.underlying127 Try.underlying128 Try.underlying129 Try.underlying130 Try.underlying131 Try.underlying132 Try.underlying133 Try.underlying134 Try.underlying135 Try.underlying136 Try.underlying137 Try.underlying138 Try.underlying139 Try.underlying140 Try.underlying141 Try.underlying142 Try.underlying143 Try.underlying144 Try.underlying145 Try.underlying146 Try.underlying147 Try.underlying148 Try.underlying149 Try.underlying150 Try.underlying151 Try.underlying152 Try.underlying153 Try.underlying154 Try.underlying155 Try.underlying156 Try.underlying157 Try.underlying158 Try.underlying159 Try.underlying160 Try.underlying161 Try.underlying162 Try.underlying163 Try.underlying164 Try.underlying165 Try.underlying166 Try.underlying167 Try.underlying168 Try.underlying169 Try.underlying170 Try.underlying171 Try.underlying172 Try.underlying173 Try.underlying174 Try.underlying175 Try.underlying176 Try.underlying177 Try.underlying178 Try.underlying179
end Go.Proofs.Ytjolihoakdifoaa
