/- The types of the translation: their sizes and their zeros, as facts (printed by wip/tools/types.lean). -/
import Derived.Test.YtjolihoakdifoaaGreatY3
import Derived.Test.YtjolihoakdifoaaGreatProg
namespace Go.Proofs.YtjolihoakdifoaaGreat
open Go
theorem hmix : Tryz.prog.follows .mixedOrders = true := by kernel_rfl
@[simp] theorem sz0 : sizeA Tryz.prog 0 = some 1 := by kernel_rfl
@[simp] theorem by0 : bytesSz Tryz.prog 0 = some 0 := by kernel_rfl
@[simp] theorem zero0 : zeroA Tryz.prog 0 = some (.tuple []) := by kernel_rfl
@[simp] theorem sz1 : sizeA Tryz.prog 1 = some 1 := by kernel_rfl
@[simp] theorem by1 : bytesSz Tryz.prog 1 = some 8 := by kernel_rfl
@[simp] theorem zero1 : zeroA Tryz.prog 1 = some (.nilf) := by kernel_rfl
@[simp] theorem sz2 : sizeA Tryz.prog 2 = some 1 := by kernel_rfl
@[simp] theorem by2 : bytesSz Tryz.prog 2 = some 8 := by kernel_rfl
@[simp] theorem zero2 : zeroA Tryz.prog 2 = some (.int .i64 (0)) := by kernel_rfl
@[simp] theorem sz3 : sizeA Tryz.prog 3 = some 1 := by kernel_rfl
@[simp] theorem by3 : bytesSz Tryz.prog 3 = some 8 := by kernel_rfl
@[simp] theorem zero3 : zeroA Tryz.prog 3 = some (.int .i64 (0)) := by kernel_rfl
@[simp] theorem sz4 : sizeA Tryz.prog 4 = some 1 := by kernel_rfl
@[simp] theorem by4 : bytesSz Tryz.prog 4 = some 1 := by kernel_rfl
@[simp] theorem zero4 : zeroA Tryz.prog 4 = some (.bool false) := by kernel_rfl
@[simp] theorem sz5 : sizeA Tryz.prog 5 = some 1 := by kernel_rfl
@[simp] theorem by5 : bytesSz Tryz.prog 5 = some 1 := by kernel_rfl
@[simp] theorem zero5 : zeroA Tryz.prog 5 = some (.int .u8 (0)) := by kernel_rfl
@[simp] theorem sz6 : sizeA Tryz.prog 6 = some 1 := by kernel_rfl
@[simp] theorem by6 : bytesSz Tryz.prog 6 = some 1 := by kernel_rfl
@[simp] theorem zero6 : zeroA Tryz.prog 6 = some (.int .u8 (0)) := by kernel_rfl
@[simp] theorem sz7 : sizeA Tryz.prog 7 = some 4 := by kernel_rfl
@[simp] theorem by7 : bytesSz Tryz.prog 7 = some 24 := by kernel_rfl
@[simp] theorem zero7 : zeroA Tryz.prog 7 = some (.agg [.int .i64 (0), .int .i64 (0), .bool false, .int .u8 (0)]) := by kernel_rfl
@[simp] theorem sz8 : sizeA Tryz.prog 8 = some 4 := by kernel_rfl
@[simp] theorem by8 : bytesSz Tryz.prog 8 = some 24 := by kernel_rfl
@[simp] theorem zero8 : zeroA Tryz.prog 8 = some (.agg [.int .i64 (0), .int .i64 (0), .bool false, .int .u8 (0)]) := by kernel_rfl
@[simp] theorem sz9 : sizeA Tryz.prog 9 = some 1 := by kernel_rfl
@[simp] theorem by9 : bytesSz Tryz.prog 9 = some 16 := by kernel_rfl
@[simp] theorem zero9 : zeroA Tryz.prog 9 = some (.str []) := by kernel_rfl
@[simp] theorem sz10 : sizeA Tryz.prog 10 = some 1 := by kernel_rfl
@[simp] theorem by10 : bytesSz Tryz.prog 10 = some 16 := by kernel_rfl
@[simp] theorem zero10 : zeroA Tryz.prog 10 = some (.str []) := by kernel_rfl
@[simp] theorem sz11 : sizeA Tryz.prog 11 = some 1 := by kernel_rfl
@[simp] theorem by11 : bytesSz Tryz.prog 11 = some 16 := by kernel_rfl
@[simp] theorem zero11 : zeroA Tryz.prog 11 = some (.str []) := by kernel_rfl
@[simp] theorem sz12 : sizeA Tryz.prog 12 = some 1 := by kernel_rfl
@[simp] theorem by12 : bytesSz Tryz.prog 12 = some 8 := by kernel_rfl
@[simp] theorem zero12 : zeroA Tryz.prog 12 = some (.int .u64 (0)) := by kernel_rfl
@[simp] theorem sz13 : sizeA Tryz.prog 13 = some 2 := by kernel_rfl
@[simp] theorem by13 : bytesSz Tryz.prog 13 = some 24 := by kernel_rfl
@[simp] theorem zero13 : zeroA Tryz.prog 13 = some (.agg [.str [], .int .u64 (0)]) := by kernel_rfl
@[simp] theorem sz14 : sizeA Tryz.prog 14 = some 2 := by kernel_rfl
@[simp] theorem by14 : bytesSz Tryz.prog 14 = some 24 := by kernel_rfl
@[simp] theorem zero14 : zeroA Tryz.prog 14 = some (.agg [.str [], .int .u64 (0)]) := by kernel_rfl
@[simp] theorem sz15 : sizeA Tryz.prog 15 = some 1 := by kernel_rfl
@[simp] theorem by15 : bytesSz Tryz.prog 15 = some 8 := by kernel_rfl
@[simp] theorem zero15 : zeroA Tryz.prog 15 = some (.nilp) := by kernel_rfl
@[simp] theorem sz16 : sizeA Tryz.prog 16 = some 1 := by kernel_rfl
@[simp] theorem by16 : bytesSz Tryz.prog 16 = some 8 := by kernel_rfl
@[simp] theorem zero16 : zeroA Tryz.prog 16 = some (.nilp) := by kernel_rfl
@[simp] theorem sz17 : sizeA Tryz.prog 17 = some 1 := by kernel_rfl
@[simp] theorem by17 : bytesSz Tryz.prog 17 = some 8 := by kernel_rfl
@[simp] theorem zero17 : zeroA Tryz.prog 17 = some (.nilp) := by kernel_rfl
@[simp] theorem sz18 : sizeA Tryz.prog 18 = some 1 := by kernel_rfl
@[simp] theorem by18 : bytesSz Tryz.prog 18 = some 8 := by kernel_rfl
@[simp] theorem zero18 : zeroA Tryz.prog 18 = some (.agg [.nilp]) := by kernel_rfl
@[simp] theorem sz19 : sizeA Tryz.prog 19 = some 1 := by kernel_rfl
@[simp] theorem by19 : bytesSz Tryz.prog 19 = some 8 := by kernel_rfl
@[simp] theorem zero19 : zeroA Tryz.prog 19 = some (.agg [.nilp]) := by kernel_rfl
@[simp] theorem sz20 : sizeA Tryz.prog 20 = some 1 := by kernel_rfl
@[simp] theorem by20 : bytesSz Tryz.prog 20 = some 16 := by kernel_rfl
@[simp] theorem zero20 : zeroA Tryz.prog 20 = some (.top) := by kernel_rfl
@[simp] theorem sz21 : sizeA Tryz.prog 21 = some 1 := by kernel_rfl
@[simp] theorem by21 : bytesSz Tryz.prog 21 = some 4 := by kernel_rfl
@[simp] theorem zero21 : zeroA Tryz.prog 21 = some (.int .i32 (0)) := by kernel_rfl
@[simp] theorem sz22 : sizeA Tryz.prog 22 = some 1 := by kernel_rfl
@[simp] theorem by22 : bytesSz Tryz.prog 22 = some 24 := by kernel_rfl
@[simp] theorem zero22 : zeroA Tryz.prog 22 = some (.nils) := by kernel_rfl
@[simp] theorem sz23 : sizeA Tryz.prog 23 = some 1 := by kernel_rfl
@[simp] theorem by23 : bytesSz Tryz.prog 23 = some 24 := by kernel_rfl
@[simp] theorem zero23 : zeroA Tryz.prog 23 = some (.nils) := by kernel_rfl
@[simp] theorem sz24 : sizeA Tryz.prog 24 = some 1 := by kernel_rfl
@[simp] theorem by24 : bytesSz Tryz.prog 24 = some 8 := by kernel_rfl
@[simp] theorem zero24 : zeroA Tryz.prog 24 = some (.nilf) := by kernel_rfl
@[simp] theorem sz25 : sizeA Tryz.prog 25 = some 1 := by kernel_rfl
@[simp] theorem by25 : bytesSz Tryz.prog 25 = some 8 := by kernel_rfl
@[simp] theorem zero25 : zeroA Tryz.prog 25 = some (.nilp) := by kernel_rfl
@[simp] theorem sz26 : sizeA Tryz.prog 26 = some 1 := by kernel_rfl
@[simp] theorem by26 : bytesSz Tryz.prog 26 = some 8 := by kernel_rfl
@[simp] theorem zero26 : zeroA Tryz.prog 26 = some (.nilf) := by kernel_rfl
@[simp] theorem sz27 : sizeA Tryz.prog 27 = some 1 := by kernel_rfl
@[simp] theorem by27 : bytesSz Tryz.prog 27 = some 8 := by kernel_rfl
@[simp] theorem zero27 : zeroA Tryz.prog 27 = some (.nilm) := by kernel_rfl
@[simp] theorem sz28 : sizeA Tryz.prog 28 = some 1 := by kernel_rfl
@[simp] theorem by28 : bytesSz Tryz.prog 28 = some 2 := by kernel_rfl
@[simp] theorem zero28 : zeroA Tryz.prog 28 = some (.int .i16 (0)) := by kernel_rfl
@[simp] theorem sz29 : sizeA Tryz.prog 29 = some 6 := by kernel_rfl
@[simp] theorem by29 : bytesSz Tryz.prog 29 = some 56 := by kernel_rfl
@[simp] theorem zero29 : zeroA Tryz.prog 29 = some (.agg [.int .u8 (0), .int .u8 (0), .int .u8 (0), .str [], .int .i16 (0), .nils]) := by kernel_rfl
@[simp] theorem sz30 : sizeA Tryz.prog 30 = some 6 := by kernel_rfl
@[simp] theorem by30 : bytesSz Tryz.prog 30 = some 56 := by kernel_rfl
@[simp] theorem zero30 : zeroA Tryz.prog 30 = some (.agg [.int .u8 (0), .int .u8 (0), .int .u8 (0), .str [], .int .i16 (0), .nils]) := by kernel_rfl
@[simp] theorem sz31 : sizeA Tryz.prog 31 = some 1 := by kernel_rfl
@[simp] theorem by31 : bytesSz Tryz.prog 31 = some 8 := by kernel_rfl
@[simp] theorem zero31 : zeroA Tryz.prog 31 = some (.nilf) := by kernel_rfl
@[simp] theorem sz32 : sizeA Tryz.prog 32 = some 1 := by kernel_rfl
@[simp] theorem by32 : bytesSz Tryz.prog 32 = some 8 := by kernel_rfl
@[simp] theorem zero32 : zeroA Tryz.prog 32 = some (.nilf) := by kernel_rfl
@[simp] theorem sz33 : sizeA Tryz.prog 33 = some 1 := by kernel_rfl
@[simp] theorem by33 : bytesSz Tryz.prog 33 = some 8 := by kernel_rfl
@[simp] theorem zero33 : zeroA Tryz.prog 33 = some (.int .i64 (0)) := by kernel_rfl
@[simp] theorem sz34 : sizeA Tryz.prog 34 = some 1 := by kernel_rfl
@[simp] theorem by34 : bytesSz Tryz.prog 34 = some 8 := by kernel_rfl
@[simp] theorem zero34 : zeroA Tryz.prog 34 = some (.nilf) := by kernel_rfl
@[simp] theorem sz35 : sizeA Tryz.prog 35 = some 1 := by kernel_rfl
@[simp] theorem by35 : bytesSz Tryz.prog 35 = some 8 := by kernel_rfl
@[simp] theorem zero35 : zeroA Tryz.prog 35 = some (.nilf) := by kernel_rfl
@[simp] theorem sz36 : sizeA Tryz.prog 36 = some 2 := by kernel_rfl
@[simp] theorem by36 : bytesSz Tryz.prog 36 = some 24 := by kernel_rfl
@[simp] theorem zero36 : zeroA Tryz.prog 36 = some (.agg [.str [], .bool false]) := by kernel_rfl
@[simp] theorem sz37 : sizeA Tryz.prog 37 = some 2 := by kernel_rfl
@[simp] theorem by37 : bytesSz Tryz.prog 37 = some 24 := by kernel_rfl
@[simp] theorem zero37 : zeroA Tryz.prog 37 = some (.agg [.str [], .bool false]) := by kernel_rfl
@[simp] theorem sz38 : sizeA Tryz.prog 38 = some 1 := by kernel_rfl
@[simp] theorem by38 : bytesSz Tryz.prog 38 = some 0 := by kernel_rfl
@[simp] theorem zero38 : zeroA Tryz.prog 38 = some (.tuple [.top, .bool false]) := by kernel_rfl
@[simp] theorem sz39 : sizeA Tryz.prog 39 = some 1 := by kernel_rfl
@[simp] theorem by39 : bytesSz Tryz.prog 39 = some 0 := by kernel_rfl
@[simp] theorem zero39 : zeroA Tryz.prog 39 = some (.tuple [.str [], .int .i64 (0)]) := by kernel_rfl
@[simp] theorem sz40 : sizeA Tryz.prog 40 = some 1 := by kernel_rfl
@[simp] theorem by40 : bytesSz Tryz.prog 40 = some 8 := by kernel_rfl
@[simp] theorem zero40 : zeroA Tryz.prog 40 = some (.nilf) := by kernel_rfl
@[simp] theorem sz41 : sizeA Tryz.prog 41 = some 1 := by kernel_rfl
@[simp] theorem by41 : bytesSz Tryz.prog 41 = some 8 := by kernel_rfl
@[simp] theorem zero41 : zeroA Tryz.prog 41 = some (.nilf) := by kernel_rfl
@[simp] theorem sz42 : sizeA Tryz.prog 42 = some 1 := by kernel_rfl
@[simp] theorem by42 : bytesSz Tryz.prog 42 = some 8 := by kernel_rfl
@[simp] theorem zero42 : zeroA Tryz.prog 42 = some (.nilf) := by kernel_rfl
@[simp] theorem sz43 : sizeA Tryz.prog 43 = some 1 := by kernel_rfl
@[simp] theorem by43 : bytesSz Tryz.prog 43 = some 8 := by kernel_rfl
@[simp] theorem zero43 : zeroA Tryz.prog 43 = some (.nilf) := by kernel_rfl
@[simp] theorem sz44 : sizeA Tryz.prog 44 = some 1 := by kernel_rfl
@[simp] theorem by44 : bytesSz Tryz.prog 44 = some 8 := by kernel_rfl
@[simp] theorem zero44 : zeroA Tryz.prog 44 = some (.nilf) := by kernel_rfl
@[simp] theorem sz45 : sizeA Tryz.prog 45 = some 1 := by kernel_rfl
@[simp] theorem by45 : bytesSz Tryz.prog 45 = some 24 := by kernel_rfl
@[simp] theorem zero45 : zeroA Tryz.prog 45 = some (.nils) := by kernel_rfl
@[simp] theorem sz46 : sizeA Tryz.prog 46 = some 1 := by kernel_rfl
@[simp] theorem by46 : bytesSz Tryz.prog 46 = some 8 := by kernel_rfl
@[simp] theorem zero46 : zeroA Tryz.prog 46 = some (.nilf) := by kernel_rfl
@[simp] theorem sz47 : sizeA Tryz.prog 47 = some 1 := by kernel_rfl
@[simp] theorem by47 : bytesSz Tryz.prog 47 = some 8 := by kernel_rfl
@[simp] theorem zero47 : zeroA Tryz.prog 47 = some (.nilf) := by kernel_rfl
@[simp] theorem sz48 : sizeA Tryz.prog 48 = some 1 := by kernel_rfl
@[simp] theorem by48 : bytesSz Tryz.prog 48 = some 8 := by kernel_rfl
@[simp] theorem zero48 : zeroA Tryz.prog 48 = some (.nilf) := by kernel_rfl
@[simp] theorem sz49 : sizeA Tryz.prog 49 = some 1 := by kernel_rfl
@[simp] theorem by49 : bytesSz Tryz.prog 49 = some 2 := by kernel_rfl
@[simp] theorem zero49 : zeroA Tryz.prog 49 = some (.int .u16 (0)) := by kernel_rfl
@[simp] theorem sz50 : sizeA Tryz.prog 50 = some 1 := by kernel_rfl
@[simp] theorem by50 : bytesSz Tryz.prog 50 = some 8 := by kernel_rfl
@[simp] theorem zero50 : zeroA Tryz.prog 50 = some (.nilf) := by kernel_rfl
@[simp] theorem sz51 : sizeA Tryz.prog 51 = some 1 := by kernel_rfl
@[simp] theorem by51 : bytesSz Tryz.prog 51 = some 8 := by kernel_rfl
@[simp] theorem zero51 : zeroA Tryz.prog 51 = some (.nilf) := by kernel_rfl
@[simp] theorem sz52 : sizeA Tryz.prog 52 = some 1 := by kernel_rfl
@[simp] theorem by52 : bytesSz Tryz.prog 52 = some 8 := by kernel_rfl
@[simp] theorem zero52 : zeroA Tryz.prog 52 = some (.nilf) := by kernel_rfl
@[simp] theorem sz53 : sizeA Tryz.prog 53 = some 1 := by kernel_rfl
@[simp] theorem by53 : bytesSz Tryz.prog 53 = some 8 := by kernel_rfl
@[simp] theorem zero53 : zeroA Tryz.prog 53 = some (.nilf) := by kernel_rfl
@[simp] theorem sz54 : sizeA Tryz.prog 54 = some 2 := by kernel_rfl
@[simp] theorem by54 : bytesSz Tryz.prog 54 = some 32 := by kernel_rfl
@[simp] theorem zero54 : zeroA Tryz.prog 54 = some (.agg [.str [], .str []]) := by kernel_rfl
@[simp] theorem sz55 : sizeA Tryz.prog 55 = some 2 := by kernel_rfl
@[simp] theorem by55 : bytesSz Tryz.prog 55 = some 32 := by kernel_rfl
@[simp] theorem zero55 : zeroA Tryz.prog 55 = some (.agg [.str [], .str []]) := by kernel_rfl
@[simp] theorem sz56 : sizeA Tryz.prog 56 = some 1 := by kernel_rfl
@[simp] theorem by56 : bytesSz Tryz.prog 56 = some 8 := by kernel_rfl
@[simp] theorem zero56 : zeroA Tryz.prog 56 = some (.nilf) := by kernel_rfl
@[simp] theorem sz57 : sizeA Tryz.prog 57 = some 1 := by kernel_rfl
@[simp] theorem by57 : bytesSz Tryz.prog 57 = some 0 := by kernel_rfl
@[simp] theorem zero57 : zeroA Tryz.prog 57 = some (.tuple [.int .i64 (0), .int .i64 (0)]) := by kernel_rfl
@[simp] theorem sz58 : sizeA Tryz.prog 58 = some 1 := by kernel_rfl
@[simp] theorem by58 : bytesSz Tryz.prog 58 = some 8 := by kernel_rfl
@[simp] theorem zero58 : zeroA Tryz.prog 58 = some (.nilf) := by kernel_rfl
@[simp] theorem sz59 : sizeA Tryz.prog 59 = some 1 := by kernel_rfl
@[simp] theorem by59 : bytesSz Tryz.prog 59 = some 24 := by kernel_rfl
@[simp] theorem zero59 : zeroA Tryz.prog 59 = some (.nils) := by kernel_rfl
@[simp] theorem sz60 : sizeA Tryz.prog 60 = some 1 := by kernel_rfl
@[simp] theorem by60 : bytesSz Tryz.prog 60 = some 8 := by kernel_rfl
@[simp] theorem zero60 : zeroA Tryz.prog 60 = some (.nilf) := by kernel_rfl
@[simp] theorem sz61 : sizeA Tryz.prog 61 = some 1 := by kernel_rfl
@[simp] theorem by61 : bytesSz Tryz.prog 61 = some 8 := by kernel_rfl
@[simp] theorem zero61 : zeroA Tryz.prog 61 = some (.nilf) := by kernel_rfl
@[simp] theorem sz62 : sizeA Tryz.prog 62 = some 1 := by kernel_rfl
@[simp] theorem by62 : bytesSz Tryz.prog 62 = some 8 := by kernel_rfl
@[simp] theorem zero62 : zeroA Tryz.prog 62 = some (.nilf) := by kernel_rfl
@[simp] theorem sz63 : sizeA Tryz.prog 63 = some 1 := by kernel_rfl
@[simp] theorem by63 : bytesSz Tryz.prog 63 = some 8 := by kernel_rfl
@[simp] theorem zero63 : zeroA Tryz.prog 63 = some (.nilp) := by kernel_rfl
@[simp] theorem sz64 : sizeA Tryz.prog 64 = some 1 := by kernel_rfl
@[simp] theorem by64 : bytesSz Tryz.prog 64 = some 8 := by kernel_rfl
@[simp] theorem zero64 : zeroA Tryz.prog 64 = some (.nilm) := by kernel_rfl
@[simp] theorem sz65 : sizeA Tryz.prog 65 = some 6 := by kernel_rfl
@[simp] theorem by65 : bytesSz Tryz.prog 65 = some 48 := by kernel_rfl
@[simp] theorem zero65 : zeroA Tryz.prog 65 = some (.agg [.nilp, .nilm, .int .i64 (0), .int .i64 (0), .int .i64 (0), .bool false]) := by kernel_rfl
@[simp] theorem sz66 : sizeA Tryz.prog 66 = some 6 := by kernel_rfl
@[simp] theorem by66 : bytesSz Tryz.prog 66 = some 48 := by kernel_rfl
@[simp] theorem zero66 : zeroA Tryz.prog 66 = some (.agg [.nilp, .nilm, .int .i64 (0), .int .i64 (0), .int .i64 (0), .bool false]) := by kernel_rfl
@[simp] theorem sz67 : sizeA Tryz.prog 67 = some 1 := by kernel_rfl
@[simp] theorem by67 : bytesSz Tryz.prog 67 = some 8 := by kernel_rfl
@[simp] theorem zero67 : zeroA Tryz.prog 67 = some (.nilp) := by kernel_rfl
@[simp] theorem sz68 : sizeA Tryz.prog 68 = some 1 := by kernel_rfl
@[simp] theorem by68 : bytesSz Tryz.prog 68 = some 8 := by kernel_rfl
@[simp] theorem zero68 : zeroA Tryz.prog 68 = some (.nilf) := by kernel_rfl
@[simp] theorem sz69 : sizeA Tryz.prog 69 = some 1 := by kernel_rfl
@[simp] theorem by69 : bytesSz Tryz.prog 69 = some 8 := by kernel_rfl
@[simp] theorem zero69 : zeroA Tryz.prog 69 = some (.nilf) := by kernel_rfl
@[simp] theorem sz70 : sizeA Tryz.prog 70 = some 1 := by kernel_rfl
@[simp] theorem by70 : bytesSz Tryz.prog 70 = some 8 := by kernel_rfl
@[simp] theorem zero70 : zeroA Tryz.prog 70 = some (.nilf) := by kernel_rfl
@[simp] theorem sz71 : sizeA Tryz.prog 71 = some 1 := by kernel_rfl
@[simp] theorem by71 : bytesSz Tryz.prog 71 = some 8 := by kernel_rfl
@[simp] theorem zero71 : zeroA Tryz.prog 71 = some (.nilf) := by kernel_rfl
@[simp] theorem sz72 : sizeA Tryz.prog 72 = some 1 := by kernel_rfl
@[simp] theorem by72 : bytesSz Tryz.prog 72 = some 0 := by kernel_rfl
@[simp] theorem zero72 : zeroA Tryz.prog 72 = some (.tuple [.nilp, .int .i64 (0)]) := by kernel_rfl
@[simp] theorem sz73 : sizeA Tryz.prog 73 = some 1 := by kernel_rfl
@[simp] theorem by73 : bytesSz Tryz.prog 73 = some 8 := by kernel_rfl
@[simp] theorem zero73 : zeroA Tryz.prog 73 = some (.nilf) := by kernel_rfl
@[simp] theorem sz74 : sizeA Tryz.prog 74 = some 1 := by kernel_rfl
@[simp] theorem by74 : bytesSz Tryz.prog 74 = some 8 := by kernel_rfl
@[simp] theorem zero74 : zeroA Tryz.prog 74 = some (.nilf) := by kernel_rfl
@[simp] theorem sz75 : sizeA Tryz.prog 75 = some 1 := by kernel_rfl
@[simp] theorem by75 : bytesSz Tryz.prog 75 = some 8 := by kernel_rfl
@[simp] theorem zero75 : zeroA Tryz.prog 75 = some (.nilf) := by kernel_rfl
@[simp] theorem sz76 : sizeA Tryz.prog 76 = some 1 := by kernel_rfl
@[simp] theorem by76 : bytesSz Tryz.prog 76 = some 8 := by kernel_rfl
@[simp] theorem zero76 : zeroA Tryz.prog 76 = some (.nilf) := by kernel_rfl
@[simp] theorem sz77 : sizeA Tryz.prog 77 = some 1 := by kernel_rfl
@[simp] theorem by77 : bytesSz Tryz.prog 77 = some 8 := by kernel_rfl
@[simp] theorem zero77 : zeroA Tryz.prog 77 = some (.nilf) := by kernel_rfl
@[simp] theorem sz78 : sizeA Tryz.prog 78 = some 1 := by kernel_rfl
@[simp] theorem by78 : bytesSz Tryz.prog 78 = some 8 := by kernel_rfl
@[simp] theorem zero78 : zeroA Tryz.prog 78 = some (.nilf) := by kernel_rfl
@[simp] theorem sz79 : sizeA Tryz.prog 79 = some 1 := by kernel_rfl
@[simp] theorem by79 : bytesSz Tryz.prog 79 = some 8 := by kernel_rfl
@[simp] theorem zero79 : zeroA Tryz.prog 79 = some (.nilf) := by kernel_rfl
@[simp] theorem sz80 : sizeA Tryz.prog 80 = some 1 := by kernel_rfl
@[simp] theorem by80 : bytesSz Tryz.prog 80 = some 24 := by kernel_rfl
@[simp] theorem zero80 : zeroA Tryz.prog 80 = some (.nils) := by kernel_rfl
@[simp] theorem sz81 : sizeA Tryz.prog 81 = some 1 := by kernel_rfl
@[simp] theorem by81 : bytesSz Tryz.prog 81 = some 8 := by kernel_rfl
@[simp] theorem zero81 : zeroA Tryz.prog 81 = some (.nilf) := by kernel_rfl
@[simp] theorem sz82 : sizeA Tryz.prog 82 = some 1 := by kernel_rfl
@[simp] theorem by82 : bytesSz Tryz.prog 82 = some 8 := by kernel_rfl
@[simp] theorem zero82 : zeroA Tryz.prog 82 = some (.nilf) := by kernel_rfl
@[simp] theorem sz83 : sizeA Tryz.prog 83 = some 1 := by kernel_rfl
@[simp] theorem by83 : bytesSz Tryz.prog 83 = some 8 := by kernel_rfl
@[simp] theorem zero83 : zeroA Tryz.prog 83 = some (.nilf) := by kernel_rfl
@[simp] theorem sz84 : sizeA Tryz.prog 84 = some 1 := by kernel_rfl
@[simp] theorem by84 : bytesSz Tryz.prog 84 = some 8 := by kernel_rfl
@[simp] theorem zero84 : zeroA Tryz.prog 84 = some (.nilf) := by kernel_rfl
@[simp] theorem sz85 : sizeA Tryz.prog 85 = some 1 := by kernel_rfl
@[simp] theorem by85 : bytesSz Tryz.prog 85 = some 8 := by kernel_rfl
@[simp] theorem zero85 : zeroA Tryz.prog 85 = some (.nilf) := by kernel_rfl
@[simp] theorem sz86 : sizeA Tryz.prog 86 = some 1 := by kernel_rfl
@[simp] theorem by86 : bytesSz Tryz.prog 86 = some 8 := by kernel_rfl
@[simp] theorem zero86 : zeroA Tryz.prog 86 = some (.agg [.nilf]) := by kernel_rfl
@[simp] theorem sz87 : sizeA Tryz.prog 87 = some 1 := by kernel_rfl
@[simp] theorem by87 : bytesSz Tryz.prog 87 = some 8 := by kernel_rfl
@[simp] theorem zero87 : zeroA Tryz.prog 87 = some (.agg [.nilf]) := by kernel_rfl
@[simp] theorem sz88 : sizeA Tryz.prog 88 = some 1 := by kernel_rfl
@[simp] theorem by88 : bytesSz Tryz.prog 88 = some 8 := by kernel_rfl
@[simp] theorem zero88 : zeroA Tryz.prog 88 = some (.nilf) := by kernel_rfl
@[simp] theorem sz89 : sizeA Tryz.prog 89 = some 1 := by kernel_rfl
@[simp] theorem by89 : bytesSz Tryz.prog 89 = some 0 := by kernel_rfl
@[simp] theorem zero89 : zeroA Tryz.prog 89 = some (.tuple [.int .i64 (0), .bool false]) := by kernel_rfl
@[simp] theorem sz90 : sizeA Tryz.prog 90 = some 1 := by kernel_rfl
@[simp] theorem by90 : bytesSz Tryz.prog 90 = some 8 := by kernel_rfl
@[simp] theorem zero90 : zeroA Tryz.prog 90 = some (.nilf) := by kernel_rfl
@[simp] theorem sz91 : sizeA Tryz.prog 91 = some 2 := by kernel_rfl
@[simp] theorem by91 : bytesSz Tryz.prog 91 = some 16 := by kernel_rfl
@[simp] theorem zero91 : zeroA Tryz.prog 91 = some (.agg [.int .i64 (0), .int .i64 (0)]) := by kernel_rfl
@[simp] theorem sz92 : sizeA Tryz.prog 92 = some 2 := by kernel_rfl
@[simp] theorem by92 : bytesSz Tryz.prog 92 = some 16 := by kernel_rfl
@[simp] theorem zero92 : zeroA Tryz.prog 92 = some (.agg [.int .i64 (0), .int .i64 (0)]) := by kernel_rfl
@[simp] theorem sz93 : sizeA Tryz.prog 93 = some 1 := by kernel_rfl
@[simp] theorem by93 : bytesSz Tryz.prog 93 = some 8 := by kernel_rfl
@[simp] theorem zero93 : zeroA Tryz.prog 93 = some (.nilf) := by kernel_rfl
@[simp] theorem sz94 : sizeA Tryz.prog 94 = some 1 := by kernel_rfl
@[simp] theorem by94 : bytesSz Tryz.prog 94 = some 8 := by kernel_rfl
@[simp] theorem zero94 : zeroA Tryz.prog 94 = some (.nilf) := by kernel_rfl
@[simp] theorem sz95 : sizeA Tryz.prog 95 = some 1 := by kernel_rfl
@[simp] theorem by95 : bytesSz Tryz.prog 95 = some 8 := by kernel_rfl
@[simp] theorem zero95 : zeroA Tryz.prog 95 = some (.nilm) := by kernel_rfl
@[simp] theorem sz96 : sizeA Tryz.prog 96 = some 1 := by kernel_rfl
@[simp] theorem by96 : bytesSz Tryz.prog 96 = some 8 := by kernel_rfl
@[simp] theorem zero96 : zeroA Tryz.prog 96 = some (.nilm) := by kernel_rfl
@[simp] theorem sz97 : sizeA Tryz.prog 97 = some 1 := by kernel_rfl
@[simp] theorem by97 : bytesSz Tryz.prog 97 = some 24 := by kernel_rfl
@[simp] theorem zero97 : zeroA Tryz.prog 97 = some (.nils) := by kernel_rfl
@[simp] theorem sz98 : sizeA Tryz.prog 98 = some 4 := by kernel_rfl
@[simp] theorem by98 : bytesSz Tryz.prog 98 = some 48 := by kernel_rfl
@[simp] theorem zero98 : zeroA Tryz.prog 98 = some (.agg [.nilm, .nilm, .nils, .int .i64 (0)]) := by kernel_rfl
@[simp] theorem sz99 : sizeA Tryz.prog 99 = some 4 := by kernel_rfl
@[simp] theorem by99 : bytesSz Tryz.prog 99 = some 48 := by kernel_rfl
@[simp] theorem zero99 : zeroA Tryz.prog 99 = some (.agg [.nilm, .nilm, .nils, .int .i64 (0)]) := by kernel_rfl
@[simp] theorem sz100 : sizeA Tryz.prog 100 = some 1 := by kernel_rfl
@[simp] theorem by100 : bytesSz Tryz.prog 100 = some 8 := by kernel_rfl
@[simp] theorem zero100 : zeroA Tryz.prog 100 = some (.nilf) := by kernel_rfl
@[simp] theorem sz101 : sizeA Tryz.prog 101 = some 1 := by kernel_rfl
@[simp] theorem by101 : bytesSz Tryz.prog 101 = some 8 := by kernel_rfl
@[simp] theorem zero101 : zeroA Tryz.prog 101 = some (.nilf) := by kernel_rfl
@[simp] theorem sz102 : sizeA Tryz.prog 102 = some 1 := by kernel_rfl
@[simp] theorem by102 : bytesSz Tryz.prog 102 = some 24 := by kernel_rfl
@[simp] theorem zero102 : zeroA Tryz.prog 102 = some (.nils) := by kernel_rfl
@[simp] theorem sz103 : sizeA Tryz.prog 103 = some 3 := by kernel_rfl
@[simp] theorem by103 : bytesSz Tryz.prog 103 = some 56 := by kernel_rfl
@[simp] theorem zero103 : zeroA Tryz.prog 103 = some (.agg [.str [], .nils, .str []]) := by kernel_rfl
@[simp] theorem sz104 : sizeA Tryz.prog 104 = some 3 := by kernel_rfl
@[simp] theorem by104 : bytesSz Tryz.prog 104 = some 56 := by kernel_rfl
@[simp] theorem zero104 : zeroA Tryz.prog 104 = some (.agg [.str [], .nils, .str []]) := by kernel_rfl
@[simp] theorem sz105 : sizeA Tryz.prog 105 = some 1 := by kernel_rfl
@[simp] theorem by105 : bytesSz Tryz.prog 105 = some 8 := by kernel_rfl
@[simp] theorem zero105 : zeroA Tryz.prog 105 = some (.nilf) := by kernel_rfl
@[simp] theorem sz106 : sizeA Tryz.prog 106 = some 1 := by kernel_rfl
@[simp] theorem by106 : bytesSz Tryz.prog 106 = some 8 := by kernel_rfl
@[simp] theorem zero106 : zeroA Tryz.prog 106 = some (.nilf) := by kernel_rfl
@[simp] theorem sz107 : sizeA Tryz.prog 107 = some 1 := by kernel_rfl
@[simp] theorem by107 : bytesSz Tryz.prog 107 = some 8 := by kernel_rfl
@[simp] theorem zero107 : zeroA Tryz.prog 107 = some (.nilf) := by kernel_rfl
@[simp] theorem sz108 : sizeA Tryz.prog 108 = some 1 := by kernel_rfl
@[simp] theorem by108 : bytesSz Tryz.prog 108 = some 8 := by kernel_rfl
@[simp] theorem zero108 : zeroA Tryz.prog 108 = some (.nilp) := by kernel_rfl
@[simp] theorem sz109 : sizeA Tryz.prog 109 = some 1 := by kernel_rfl
@[simp] theorem by109 : bytesSz Tryz.prog 109 = some 24 := by kernel_rfl
@[simp] theorem zero109 : zeroA Tryz.prog 109 = some (.nils) := by kernel_rfl
@[simp] theorem sz110 : sizeA Tryz.prog 110 = some 2 := by kernel_rfl
@[simp] theorem by110 : bytesSz Tryz.prog 110 = some 32 := by kernel_rfl
@[simp] theorem zero110 : zeroA Tryz.prog 110 = some (.agg [.nilp, .nils]) := by kernel_rfl
@[simp] theorem sz111 : sizeA Tryz.prog 111 = some 2 := by kernel_rfl
@[simp] theorem by111 : bytesSz Tryz.prog 111 = some 32 := by kernel_rfl
@[simp] theorem zero111 : zeroA Tryz.prog 111 = some (.agg [.nilp, .nils]) := by kernel_rfl
@[simp] theorem sz112 : sizeA Tryz.prog 112 = some 1 := by kernel_rfl
@[simp] theorem by112 : bytesSz Tryz.prog 112 = some 16 := by kernel_rfl
@[simp] theorem zero112 : zeroA Tryz.prog 112 = some (.top) := by kernel_rfl
@[simp] theorem sz113 : sizeA Tryz.prog 113 = some 1 := by kernel_rfl
@[simp] theorem by113 : bytesSz Tryz.prog 113 = some 16 := by kernel_rfl
@[simp] theorem zero113 : zeroA Tryz.prog 113 = some (.top) := by kernel_rfl
@[simp] theorem sz114 : sizeA Tryz.prog 114 = some 1 := by kernel_rfl
@[simp] theorem by114 : bytesSz Tryz.prog 114 = some 0 := by kernel_rfl
@[simp] theorem zero114 : zeroA Tryz.prog 114 = some (.tuple [.int .i64 (0), .top]) := by kernel_rfl
@[simp] theorem sz115 : sizeA Tryz.prog 115 = some 1 := by kernel_rfl
@[simp] theorem by115 : bytesSz Tryz.prog 115 = some 8 := by kernel_rfl
@[simp] theorem zero115 : zeroA Tryz.prog 115 = some (.nilf) := by kernel_rfl
@[simp] theorem sz116 : sizeA Tryz.prog 116 = some 1 := by kernel_rfl
@[simp] theorem by116 : bytesSz Tryz.prog 116 = some 8 := by kernel_rfl
@[simp] theorem zero116 : zeroA Tryz.prog 116 = some (.nilf) := by kernel_rfl
@[simp] theorem sz117 : sizeA Tryz.prog 117 = some 1 := by kernel_rfl
@[simp] theorem by117 : bytesSz Tryz.prog 117 = some 8 := by kernel_rfl
@[simp] theorem zero117 : zeroA Tryz.prog 117 = some (.nilf) := by kernel_rfl
@[simp] theorem sz118 : sizeA Tryz.prog 118 = some 1 := by kernel_rfl
@[simp] theorem by118 : bytesSz Tryz.prog 118 = some 8 := by kernel_rfl
@[simp] theorem zero118 : zeroA Tryz.prog 118 = some (.nilf) := by kernel_rfl
@[simp] theorem sz119 : sizeA Tryz.prog 119 = some 2 := by kernel_rfl
@[simp] theorem by119 : bytesSz Tryz.prog 119 = some 24 := by kernel_rfl
@[simp] theorem zero119 : zeroA Tryz.prog 119 = some (.agg [.str [], .nilf]) := by kernel_rfl
@[simp] theorem sz120 : sizeA Tryz.prog 120 = some 2 := by kernel_rfl
@[simp] theorem by120 : bytesSz Tryz.prog 120 = some 24 := by kernel_rfl
@[simp] theorem zero120 : zeroA Tryz.prog 120 = some (.agg [.str [], .nilf]) := by kernel_rfl
@[simp] theorem sz121 : sizeA Tryz.prog 121 = some 1 := by kernel_rfl
@[simp] theorem by121 : bytesSz Tryz.prog 121 = some 8 := by kernel_rfl
@[simp] theorem zero121 : zeroA Tryz.prog 121 = some (.nilf) := by kernel_rfl
@[simp] theorem sz122 : sizeA Tryz.prog 122 = some 1 := by kernel_rfl
@[simp] theorem by122 : bytesSz Tryz.prog 122 = some 8 := by kernel_rfl
@[simp] theorem zero122 : zeroA Tryz.prog 122 = some (.nilf) := by kernel_rfl
@[simp] theorem sz123 : sizeA Tryz.prog 123 = some 1 := by kernel_rfl
@[simp] theorem by123 : bytesSz Tryz.prog 123 = some 8 := by kernel_rfl
@[simp] theorem zero123 : zeroA Tryz.prog 123 = some (.nilf) := by kernel_rfl
@[simp] theorem sz124 : sizeA Tryz.prog 124 = some 1 := by kernel_rfl
@[simp] theorem by124 : bytesSz Tryz.prog 124 = some 8 := by kernel_rfl
@[simp] theorem zero124 : zeroA Tryz.prog 124 = some (.nilf) := by kernel_rfl
@[simp] theorem sz125 : sizeA Tryz.prog 125 = some 1 := by kernel_rfl
@[simp] theorem by125 : bytesSz Tryz.prog 125 = some 8 := by kernel_rfl
@[simp] theorem zero125 : zeroA Tryz.prog 125 = some (.nilf) := by kernel_rfl
@[simp] theorem sz126 : sizeA Tryz.prog 126 = some 1 := by kernel_rfl
@[simp] theorem by126 : bytesSz Tryz.prog 126 = some 8 := by kernel_rfl
@[simp] theorem zero126 : zeroA Tryz.prog 126 = some (.nilf) := by kernel_rfl
@[simp] theorem sz127 : sizeA Tryz.prog 127 = some 1 := by kernel_rfl
@[simp] theorem by127 : bytesSz Tryz.prog 127 = some 8 := by kernel_rfl
@[simp] theorem zero127 : zeroA Tryz.prog 127 = some (.nilf) := by kernel_rfl
@[simp] theorem sz128 : sizeA Tryz.prog 128 = some 1 := by kernel_rfl
@[simp] theorem by128 : bytesSz Tryz.prog 128 = some 8 := by kernel_rfl
@[simp] theorem zero128 : zeroA Tryz.prog 128 = some (.nilf) := by kernel_rfl
@[simp] theorem sz129 : sizeA Tryz.prog 129 = some 1 := by kernel_rfl
@[simp] theorem by129 : bytesSz Tryz.prog 129 = some 8 := by kernel_rfl
@[simp] theorem zero129 : zeroA Tryz.prog 129 = some (.nilf) := by kernel_rfl
@[simp] theorem sz130 : sizeA Tryz.prog 130 = some 1 := by kernel_rfl
@[simp] theorem by130 : bytesSz Tryz.prog 130 = some 8 := by kernel_rfl
@[simp] theorem zero130 : zeroA Tryz.prog 130 = some (.nilf) := by kernel_rfl
@[simp] theorem sz131 : sizeA Tryz.prog 131 = some 1 := by kernel_rfl
@[simp] theorem by131 : bytesSz Tryz.prog 131 = some 8 := by kernel_rfl
@[simp] theorem zero131 : zeroA Tryz.prog 131 = some (.nilp) := by kernel_rfl
@[simp] theorem sz132 : sizeA Tryz.prog 132 = some 1 := by kernel_rfl
@[simp] theorem by132 : bytesSz Tryz.prog 132 = some 8 := by kernel_rfl
@[simp] theorem zero132 : zeroA Tryz.prog 132 = some (.nilf) := by kernel_rfl
@[simp] theorem sz133 : sizeA Tryz.prog 133 = some 1 := by kernel_rfl
@[simp] theorem by133 : bytesSz Tryz.prog 133 = some 8 := by kernel_rfl
@[simp] theorem zero133 : zeroA Tryz.prog 133 = some (.nilp) := by kernel_rfl
@[simp] theorem sz134 : sizeA Tryz.prog 134 = some 1 := by kernel_rfl
@[simp] theorem by134 : bytesSz Tryz.prog 134 = some 8 := by kernel_rfl
@[simp] theorem zero134 : zeroA Tryz.prog 134 = some (.nilf) := by kernel_rfl
@[simp] theorem sz135 : sizeA Tryz.prog 135 = some 1 := by kernel_rfl
@[simp] theorem by135 : bytesSz Tryz.prog 135 = some 8 := by kernel_rfl
@[simp] theorem zero135 : zeroA Tryz.prog 135 = some (.nilf) := by kernel_rfl
@[simp] theorem sz136 : sizeA Tryz.prog 136 = some 1 := by kernel_rfl
@[simp] theorem by136 : bytesSz Tryz.prog 136 = some 8 := by kernel_rfl
@[simp] theorem zero136 : zeroA Tryz.prog 136 = some (.nilf) := by kernel_rfl
@[simp] theorem sz137 : sizeA Tryz.prog 137 = some 1 := by kernel_rfl
@[simp] theorem by137 : bytesSz Tryz.prog 137 = some 8 := by kernel_rfl
@[simp] theorem zero137 : zeroA Tryz.prog 137 = some (.nilf) := by kernel_rfl
@[simp] theorem sz138 : sizeA Tryz.prog 138 = some 1 := by kernel_rfl
@[simp] theorem by138 : bytesSz Tryz.prog 138 = some 8 := by kernel_rfl
@[simp] theorem zero138 : zeroA Tryz.prog 138 = some (.nilf) := by kernel_rfl
@[simp] theorem sz139 : sizeA Tryz.prog 139 = some 1 := by kernel_rfl
@[simp] theorem by139 : bytesSz Tryz.prog 139 = some 8 := by kernel_rfl
@[simp] theorem zero139 : zeroA Tryz.prog 139 = some (.int .u64 (0)) := by kernel_rfl
@[simp] theorem sz140 : sizeA Tryz.prog 140 = some 1 := by kernel_rfl
@[simp] theorem by140 : bytesSz Tryz.prog 140 = some 8 := by kernel_rfl
@[simp] theorem zero140 : zeroA Tryz.prog 140 = some (.nilf) := by kernel_rfl
@[simp] theorem sz141 : sizeA Tryz.prog 141 = some 1 := by kernel_rfl
@[simp] theorem by141 : bytesSz Tryz.prog 141 = some 8 := by kernel_rfl
@[simp] theorem zero141 : zeroA Tryz.prog 141 = some (.int .i64 (0)) := by kernel_rfl
@[simp] theorem sz142 : sizeA Tryz.prog 142 = some 1 := by kernel_rfl
@[simp] theorem by142 : bytesSz Tryz.prog 142 = some 0 := by kernel_rfl
@[simp] theorem zero142 : zeroA Tryz.prog 142 = some (.tuple [.int .i64 (0), .int .i64 (0)]) := by kernel_rfl
@[simp] theorem sz143 : sizeA Tryz.prog 143 = some 1 := by kernel_rfl
@[simp] theorem by143 : bytesSz Tryz.prog 143 = some 8 := by kernel_rfl
@[simp] theorem zero143 : zeroA Tryz.prog 143 = some (.nilf) := by kernel_rfl
@[simp] theorem sz144 : sizeA Tryz.prog 144 = some 1 := by kernel_rfl
@[simp] theorem by144 : bytesSz Tryz.prog 144 = some 8 := by kernel_rfl
@[simp] theorem zero144 : zeroA Tryz.prog 144 = some (.nilf) := by kernel_rfl
@[simp] theorem sz145 : sizeA Tryz.prog 145 = some 1 := by kernel_rfl
@[simp] theorem by145 : bytesSz Tryz.prog 145 = some 8 := by kernel_rfl
@[simp] theorem zero145 : zeroA Tryz.prog 145 = some (.nilf) := by kernel_rfl
@[simp] theorem sz146 : sizeA Tryz.prog 146 = some 1 := by kernel_rfl
@[simp] theorem by146 : bytesSz Tryz.prog 146 = some 8 := by kernel_rfl
@[simp] theorem zero146 : zeroA Tryz.prog 146 = some (.nilf) := by kernel_rfl
@[simp] theorem sz147 : sizeA Tryz.prog 147 = some 1 := by kernel_rfl
@[simp] theorem by147 : bytesSz Tryz.prog 147 = some 8 := by kernel_rfl
@[simp] theorem zero147 : zeroA Tryz.prog 147 = some (.nilf) := by kernel_rfl
@[simp] theorem sz148 : sizeA Tryz.prog 148 = some 1 := by kernel_rfl
@[simp] theorem by148 : bytesSz Tryz.prog 148 = some 4 := by kernel_rfl
@[simp] theorem zero148 : zeroA Tryz.prog 148 = some (.int .u32 (0)) := by kernel_rfl
@[simp] theorem sz149 : sizeA Tryz.prog 149 = some 1 := by kernel_rfl
@[simp] theorem by149 : bytesSz Tryz.prog 149 = some 8 := by kernel_rfl
@[simp] theorem zero149 : zeroA Tryz.prog 149 = some (.nilf) := by kernel_rfl
@[simp] theorem sz150 : sizeA Tryz.prog 150 = some 1 := by kernel_rfl
@[simp] theorem by150 : bytesSz Tryz.prog 150 = some 8 := by kernel_rfl
@[simp] theorem zero150 : zeroA Tryz.prog 150 = some (.int .u64 (0)) := by kernel_rfl
@[simp] theorem sz151 : sizeA Tryz.prog 151 = some 1 := by kernel_rfl
@[simp] theorem by151 : bytesSz Tryz.prog 151 = some 8 := by kernel_rfl
@[simp] theorem zero151 : zeroA Tryz.prog 151 = some (.int .u64 (0)) := by kernel_rfl
@[simp] theorem sz152 : sizeA Tryz.prog 152 = some 1 := by kernel_rfl
@[simp] theorem by152 : bytesSz Tryz.prog 152 = some 8 := by kernel_rfl
@[simp] theorem zero152 : zeroA Tryz.prog 152 = some (.nilf) := by kernel_rfl
@[simp] theorem sz153 : sizeA Tryz.prog 153 = some 1 := by kernel_rfl
@[simp] theorem by153 : bytesSz Tryz.prog 153 = some 8 := by kernel_rfl
@[simp] theorem zero153 : zeroA Tryz.prog 153 = some (.nilf) := by kernel_rfl
@[simp] theorem sz154 : sizeA Tryz.prog 154 = some 1 := by kernel_rfl
@[simp] theorem by154 : bytesSz Tryz.prog 154 = some 8 := by kernel_rfl
@[simp] theorem zero154 : zeroA Tryz.prog 154 = some (.nilf) := by kernel_rfl
@[simp] theorem sz155 : sizeA Tryz.prog 155 = some 1 := by kernel_rfl
@[simp] theorem by155 : bytesSz Tryz.prog 155 = some 8 := by kernel_rfl
@[simp] theorem zero155 : zeroA Tryz.prog 155 = some (.nilp) := by kernel_rfl
@[simp] theorem sz156 : sizeA Tryz.prog 156 = some 1 := by kernel_rfl
@[simp] theorem by156 : bytesSz Tryz.prog 156 = some 8 := by kernel_rfl
@[simp] theorem zero156 : zeroA Tryz.prog 156 = some (.nilf) := by kernel_rfl
@[simp] theorem sz157 : sizeA Tryz.prog 157 = some 1 := by kernel_rfl
@[simp] theorem by157 : bytesSz Tryz.prog 157 = some 8 := by kernel_rfl
@[simp] theorem zero157 : zeroA Tryz.prog 157 = some (.nilp) := by kernel_rfl
@[simp] theorem sz158 : sizeA Tryz.prog 158 = some 1 := by kernel_rfl
@[simp] theorem by158 : bytesSz Tryz.prog 158 = some 0 := by kernel_rfl
@[simp] theorem zero158 : zeroA Tryz.prog 158 = some (.tuple [.int .i64 (0), .int .i64 (0)]) := by kernel_rfl
@[simp] theorem sz159 : sizeA Tryz.prog 159 = some 1 := by kernel_rfl
@[simp] theorem by159 : bytesSz Tryz.prog 159 = some 8 := by kernel_rfl
@[simp] theorem zero159 : zeroA Tryz.prog 159 = some (.nilf) := by kernel_rfl
@[simp] theorem sz160 : sizeA Tryz.prog 160 = some 4 := by kernel_rfl
@[simp] theorem by160 : bytesSz Tryz.prog 160 = some 40 := by kernel_rfl
@[simp] theorem zero160 : zeroA Tryz.prog 160 = some (.agg [.nilp, .nilp, .nilp, .str []]) := by kernel_rfl
@[simp] theorem sz161 : sizeA Tryz.prog 161 = some 4 := by kernel_rfl
@[simp] theorem by161 : bytesSz Tryz.prog 161 = some 40 := by kernel_rfl
@[simp] theorem zero161 : zeroA Tryz.prog 161 = some (.agg [.nilp, .nilp, .nilp, .str []]) := by kernel_rfl
@[simp] theorem sz162 : sizeA Tryz.prog 162 = some 0 := by kernel_rfl
@[simp] theorem by162 : bytesSz Tryz.prog 162 = some 0 := by kernel_rfl
@[simp] theorem zero162 : zeroA Tryz.prog 162 = some (.agg []) := by kernel_rfl
@[simp] theorem sz163 : sizeA Tryz.prog 163 = some 0 := by kernel_rfl
@[simp] theorem by163 : bytesSz Tryz.prog 163 = some 0 := by kernel_rfl
@[simp] theorem zero163 : zeroA Tryz.prog 163 = some (.agg []) := by kernel_rfl
@[simp] theorem sz164 : sizeA Tryz.prog 164 = some 0 := by kernel_rfl
@[simp] theorem by164 : bytesSz Tryz.prog 164 = some 0 := by kernel_rfl
@[simp] theorem zero164 : zeroA Tryz.prog 164 = some (.agg []) := by kernel_rfl
@[simp] theorem sz165 : sizeA Tryz.prog 165 = some 1 := by kernel_rfl
@[simp] theorem by165 : bytesSz Tryz.prog 165 = some 1 := by kernel_rfl
@[simp] theorem zero165 : zeroA Tryz.prog 165 = some (.int .u8 (0)) := by kernel_rfl
@[simp] theorem sz166 : sizeA Tryz.prog 166 = some 1 := by kernel_rfl
@[simp] theorem by166 : bytesSz Tryz.prog 166 = some 1 := by kernel_rfl
@[simp] theorem zero166 : zeroA Tryz.prog 166 = some (.int .u8 (0)) := by kernel_rfl
@[simp] theorem sz167 : sizeA Tryz.prog 167 = some 1 := by kernel_rfl
@[simp] theorem by167 : bytesSz Tryz.prog 167 = some 8 := by kernel_rfl
@[simp] theorem zero167 : zeroA Tryz.prog 167 = some (.nilf) := by kernel_rfl
@[simp] theorem sz168 : sizeA Tryz.prog 168 = some 1 := by kernel_rfl
@[simp] theorem by168 : bytesSz Tryz.prog 168 = some 4 := by kernel_rfl
@[simp] theorem zero168 : zeroA Tryz.prog 168 = some (.int .i32 (0)) := by kernel_rfl
@[simp] theorem sz169 : sizeA Tryz.prog 169 = some 1 := by kernel_rfl
@[simp] theorem by169 : bytesSz Tryz.prog 169 = some 4 := by kernel_rfl
@[simp] theorem zero169 : zeroA Tryz.prog 169 = some (.int .i32 (0)) := by kernel_rfl
@[simp] theorem sz170 : sizeA Tryz.prog 170 = some 11 := by kernel_rfl
@[simp] theorem by170 : bytesSz Tryz.prog 170 = some 48 := by kernel_rfl
@[simp] theorem zero170 : zeroA Tryz.prog 170 = some (.agg [.int .u64 (0), .int .u64 (0), .int .u32 (0), .int .u8 (0), .int .u8 (0), .int .u8 (0), .int .u8 (0), .nilf, .nilp, .int .i32 (0), .int .i32 (0)]) := by kernel_rfl
@[simp] theorem sz171 : sizeA Tryz.prog 171 = some 11 := by kernel_rfl
@[simp] theorem by171 : bytesSz Tryz.prog 171 = some 48 := by kernel_rfl
@[simp] theorem zero171 : zeroA Tryz.prog 171 = some (.agg [.int .u64 (0), .int .u64 (0), .int .u32 (0), .int .u8 (0), .int .u8 (0), .int .u8 (0), .int .u8 (0), .nilf, .nilp, .int .i32 (0), .int .i32 (0)]) := by kernel_rfl
@[simp] theorem fe7 : flatEq Tryz.prog 7 = some 4 := by kernel_rfl
@[simp] theorem fe8 : flatEq Tryz.prog 8 = some 4 := by kernel_rfl
@[simp] theorem fe36 : flatEq Tryz.prog 36 = some 2 := by kernel_rfl
@[simp] theorem fe37 : flatEq Tryz.prog 37 = some 2 := by kernel_rfl
@[simp] theorem fe54 : flatEq Tryz.prog 54 = some 2 := by kernel_rfl
@[simp] theorem fe55 : flatEq Tryz.prog 55 = some 2 := by kernel_rfl
@[simp] theorem fe91 : flatEq Tryz.prog 91 = some 2 := by kernel_rfl
@[simp] theorem fe92 : flatEq Tryz.prog 92 = some 2 := by kernel_rfl
@[simp] theorem fn2 : fnOf Tryz.prog 2 = some Tryz.f2 := Tryz.func2
@[simp] theorem fn3 : fnOf Tryz.prog 3 = some Tryz.f3 := Tryz.func3
@[simp] theorem fn4 : fnOf Tryz.prog 4 = some Tryz.f4 := Tryz.func4
@[simp] theorem fn5 : fnOf Tryz.prog 5 = some Tryz.f5 := Tryz.func5
@[simp] theorem fn6 : fnOf Tryz.prog 6 = some Tryz.f6 := Tryz.func6
@[simp] theorem fn7 : fnOf Tryz.prog 7 = some Tryz.f7 := Tryz.func7
@[simp] theorem fn8 : fnOf Tryz.prog 8 = some Tryz.f8 := Tryz.func8
@[simp] theorem fn9 : fnOf Tryz.prog 9 = some Tryz.f9 := Tryz.func9
@[simp] theorem fn10 : fnOf Tryz.prog 10 = some Tryz.f10 := Tryz.func10
@[simp] theorem fn11 : fnOf Tryz.prog 11 = some Tryz.f11 := Tryz.func11
@[simp] theorem fn12 : fnOf Tryz.prog 12 = some Tryz.f12 := Tryz.func12
@[simp] theorem fn13 : fnOf Tryz.prog 13 = some Tryz.f13 := Tryz.func13
@[simp] theorem fn14 : fnOf Tryz.prog 14 = some Tryz.f14 := Tryz.func14
@[simp] theorem fn15 : fnOf Tryz.prog 15 = some Tryz.f15 := Tryz.func15
@[simp] theorem fn16 : fnOf Tryz.prog 16 = some Tryz.f16 := Tryz.func16
@[simp] theorem fn17 : fnOf Tryz.prog 17 = some Tryz.f17 := Tryz.func17
@[simp] theorem fn18 : fnOf Tryz.prog 18 = some Tryz.f18 := Tryz.func18
@[simp] theorem fn19 : fnOf Tryz.prog 19 = some Tryz.f19 := Tryz.func19
@[simp] theorem fn20 : fnOf Tryz.prog 20 = some Tryz.f20 := Tryz.func20
@[simp] theorem fn21 : fnOf Tryz.prog 21 = some Tryz.f21 := Tryz.func21
@[simp] theorem fn22 : fnOf Tryz.prog 22 = some Tryz.f22 := Tryz.func22
@[simp] theorem fn23 : fnOf Tryz.prog 23 = some Tryz.f23 := Tryz.func23
@[simp] theorem fn24 : fnOf Tryz.prog 24 = some Tryz.f24 := Tryz.func24
@[simp] theorem fn25 : fnOf Tryz.prog 25 = some Tryz.f25 := Tryz.func25
@[simp] theorem fn26 : fnOf Tryz.prog 26 = some Tryz.f26 := Tryz.func26
@[simp] theorem fn27 : fnOf Tryz.prog 27 = some Tryz.f27 := Tryz.func27
@[simp] theorem fn28 : fnOf Tryz.prog 28 = some Tryz.f28 := Tryz.func28
@[simp] theorem fn29 : fnOf Tryz.prog 29 = some Tryz.f29 := Tryz.func29
@[simp] theorem fn30 : fnOf Tryz.prog 30 = some Tryz.f30 := Tryz.func30
@[simp] theorem fn31 : fnOf Tryz.prog 31 = some Tryz.f31 := Tryz.func31
@[simp] theorem fn32 : fnOf Tryz.prog 32 = some Tryz.f32 := Tryz.func32
@[simp] theorem fn33 : fnOf Tryz.prog 33 = some Tryz.f33 := Tryz.func33
@[simp] theorem fn34 : fnOf Tryz.prog 34 = some Tryz.f34 := Tryz.func34
@[simp] theorem fn35 : fnOf Tryz.prog 35 = some Tryz.f35 := Tryz.func35
@[simp] theorem fn36 : fnOf Tryz.prog 36 = some Tryz.f36 := Tryz.func36
@[simp] theorem fn37 : fnOf Tryz.prog 37 = some Tryz.f37 := Tryz.func37
@[simp] theorem fn38 : fnOf Tryz.prog 38 = some Tryz.f38 := Tryz.func38
@[simp] theorem fn39 : fnOf Tryz.prog 39 = some Tryz.f39 := Tryz.func39
@[simp] theorem fn40 : fnOf Tryz.prog 40 = some Tryz.f40 := Tryz.func40
@[simp] theorem fn41 : fnOf Tryz.prog 41 = some Tryz.f41 := Tryz.func41
@[simp] theorem fn42 : fnOf Tryz.prog 42 = some Tryz.f42 := Tryz.func42
@[simp] theorem fn43 : fnOf Tryz.prog 43 = some Tryz.f43 := Tryz.func43
@[simp] theorem fn44 : fnOf Tryz.prog 44 = some Tryz.f44 := Tryz.func44
@[simp] theorem fn45 : fnOf Tryz.prog 45 = some Tryz.f45 := Tryz.func45
@[simp] theorem fn46 : fnOf Tryz.prog 46 = some Tryz.f46 := Tryz.func46
@[simp] theorem fn47 : fnOf Tryz.prog 47 = some Tryz.f47 := Tryz.func47
@[simp] theorem fn48 : fnOf Tryz.prog 48 = some Tryz.f48 := Tryz.func48
@[simp] theorem fn49 : fnOf Tryz.prog 49 = some Tryz.f49 := Tryz.func49
@[simp] theorem fn50 : fnOf Tryz.prog 50 = some Tryz.f50 := Tryz.func50
@[simp] theorem fn51 : fnOf Tryz.prog 51 = some Tryz.f51 := Tryz.func51
@[simp] theorem fn52 : fnOf Tryz.prog 52 = some Tryz.f52 := Tryz.func52
@[simp] theorem fn53 : fnOf Tryz.prog 53 = some Tryz.f53 := Tryz.func53
@[simp] theorem fn54 : fnOf Tryz.prog 54 = some Tryz.f54 := Tryz.func54
@[simp] theorem fn55 : fnOf Tryz.prog 55 = some Tryz.f55 := Tryz.func55
@[simp] theorem fn56 : fnOf Tryz.prog 56 = some Tryz.f56 := Tryz.func56
@[simp] theorem fn57 : fnOf Tryz.prog 57 = some Tryz.f57 := Tryz.func57
@[simp] theorem fn58 : fnOf Tryz.prog 58 = some Tryz.f58 := Tryz.func58
@[simp] theorem fn59 : fnOf Tryz.prog 59 = some Tryz.f59 := Tryz.func59
@[simp] theorem fn60 : fnOf Tryz.prog 60 = some Tryz.f60 := Tryz.func60
@[simp] theorem fn61 : fnOf Tryz.prog 61 = some Tryz.f61 := Tryz.func61
@[simp] theorem fn62 : fnOf Tryz.prog 62 = some Tryz.f62 := Tryz.func62
@[simp] theorem fn63 : fnOf Tryz.prog 63 = some Tryz.f63 := Tryz.func63
@[simp] theorem fn64 : fnOf Tryz.prog 64 = some Tryz.f64 := Tryz.func64
@[simp] theorem fn65 : fnOf Tryz.prog 65 = some Tryz.f65 := Tryz.func65
@[simp] theorem fn66 : fnOf Tryz.prog 66 = some Tryz.f66 := Tryz.func66
@[simp] theorem fn67 : fnOf Tryz.prog 67 = some Tryz.f67 := Tryz.func67
@[simp] theorem fn68 : fnOf Tryz.prog 68 = some Tryz.f68 := Tryz.func68
@[simp] theorem fn69 : fnOf Tryz.prog 69 = some Tryz.f69 := Tryz.func69
@[simp] theorem fn70 : fnOf Tryz.prog 70 = some Tryz.f70 := Tryz.func70
@[simp] theorem fn71 : fnOf Tryz.prog 71 = some Tryz.f71 := Tryz.func71
@[simp] theorem fn72 : fnOf Tryz.prog 72 = some Tryz.f72 := Tryz.func72
@[simp] theorem fn73 : fnOf Tryz.prog 73 = some Tryz.f73 := Tryz.func73
@[simp] theorem fn74 : fnOf Tryz.prog 74 = some Tryz.f74 := Tryz.func74
@[simp] theorem fn75 : fnOf Tryz.prog 75 = some Tryz.f75 := Tryz.func75
@[simp] theorem fn76 : fnOf Tryz.prog 76 = some Tryz.f76 := Tryz.func76
@[simp] theorem fn77 : fnOf Tryz.prog 77 = some Tryz.f77 := Tryz.func77
@[simp] theorem fn78 : fnOf Tryz.prog 78 = some Tryz.f78 := Tryz.func78
@[simp] theorem fn79 : fnOf Tryz.prog 79 = some Tryz.f79 := Tryz.func79
@[simp] theorem fn80 : fnOf Tryz.prog 80 = some Tryz.f80 := Tryz.func80
@[simp] theorem fn81 : fnOf Tryz.prog 81 = some Tryz.f81 := Tryz.func81
@[simp] theorem fn82 : fnOf Tryz.prog 82 = some Tryz.f82 := Tryz.func82
@[simp] theorem fn83 : fnOf Tryz.prog 83 = some Tryz.f83 := Tryz.func83
@[simp] theorem fn85 : fnOf Tryz.prog 85 = some Tryz.f85 := Tryz.func85
@[simp] theorem fn86 : fnOf Tryz.prog 86 = some Tryz.f86 := Tryz.func86
@[simp] theorem fn87 : fnOf Tryz.prog 87 = some Tryz.f87 := Tryz.func87
@[simp] theorem fn88 : fnOf Tryz.prog 88 = some Tryz.f88 := Tryz.func88
@[simp] theorem fn89 : fnOf Tryz.prog 89 = some Tryz.f89 := Tryz.func89
@[simp] theorem fn90 : fnOf Tryz.prog 90 = some Tryz.f90 := Tryz.func90
@[simp] theorem fn91 : fnOf Tryz.prog 91 = some Tryz.f91 := Tryz.func91
@[simp] theorem fn92 : fnOf Tryz.prog 92 = some Tryz.f92 := Tryz.func92
@[simp] theorem fn93 : fnOf Tryz.prog 93 = some Tryz.f93 := Tryz.func93
@[simp] theorem fn94 : fnOf Tryz.prog 94 = some Tryz.f94 := Tryz.func94
@[simp] theorem fn95 : fnOf Tryz.prog 95 = some Tryz.f95 := Tryz.func95
@[simp] theorem fn96 : fnOf Tryz.prog 96 = some Tryz.f96 := Tryz.func96
@[simp] theorem fn97 : fnOf Tryz.prog 97 = some Tryz.f97 := Tryz.func97
@[simp] theorem fn98 : fnOf Tryz.prog 98 = some Tryz.f98 := Tryz.func98
@[simp] theorem fn101 : fnOf Tryz.prog 101 = some Tryz.f101 := Tryz.func101
@[simp] theorem fn102 : fnOf Tryz.prog 102 = some Tryz.f102 := Tryz.func102
@[simp] theorem fn103 : fnOf Tryz.prog 103 = some Tryz.f103 := Tryz.func103
@[simp] theorem fn104 : fnOf Tryz.prog 104 = some Tryz.f104 := Tryz.func104
@[simp] theorem fn105 : fnOf Tryz.prog 105 = some Tryz.f105 := Tryz.func105
@[simp] theorem fn106 : fnOf Tryz.prog 106 = some Tryz.f106 := Tryz.func106
@[simp] theorem fn107 : fnOf Tryz.prog 107 = some Tryz.f107 := Tryz.func107
@[simp] theorem fn108 : fnOf Tryz.prog 108 = some Tryz.f108 := Tryz.func108
@[simp] theorem fn109 : fnOf Tryz.prog 109 = some Tryz.f109 := Tryz.func109
@[simp] theorem fn110 : fnOf Tryz.prog 110 = some Tryz.f110 := Tryz.func110
@[simp] theorem fn111 : fnOf Tryz.prog 111 = some Tryz.f111 := Tryz.func111
@[simp] theorem fn112 : fnOf Tryz.prog 112 = some Tryz.f112 := Tryz.func112
@[simp] theorem fn113 : fnOf Tryz.prog 113 = some Tryz.f113 := Tryz.func113
@[simp] theorem fn114 : fnOf Tryz.prog 114 = some Tryz.f114 := Tryz.func114
@[simp] theorem fn115 : fnOf Tryz.prog 115 = some Tryz.f115 := Tryz.func115
@[simp] theorem fn116 : fnOf Tryz.prog 116 = some Tryz.f116 := Tryz.func116
@[simp] theorem fn117 : fnOf Tryz.prog 117 = some Tryz.f117 := Tryz.func117
@[simp] theorem fn118 : fnOf Tryz.prog 118 = some Tryz.f118 := Tryz.func118
@[simp] theorem fn119 : fnOf Tryz.prog 119 = some Tryz.f119 := Tryz.func119
@[simp] theorem fn120 : fnOf Tryz.prog 120 = some Tryz.f120 := Tryz.func120
@[simp] theorem fn121 : fnOf Tryz.prog 121 = some Tryz.f121 := Tryz.func121
attribute [simp] Tryz.underlying0 Tryz.underlying1 Tryz.underlying2 Tryz.underlying3 Tryz.underlying4 Tryz.underlying5 Tryz.underlying6 Tryz.underlying7 Tryz.underlying8 Tryz.underlying9 Tryz.underlying10 Tryz.underlying11 Tryz.underlying12 Tryz.underlying13 Tryz.underlying14 Tryz.underlying15 Tryz.underlying16 Tryz.underlying17 Tryz.underlying18 Tryz.underlying19 Tryz.underlying20 Tryz.underlying21 Tryz.underlying22 Tryz.underlying23 Tryz.underlying24 Tryz.underlying25 Tryz.underlying26 Tryz.underlying27 Tryz.underlying28 Tryz.underlying29 Tryz.underlying30 Tryz.underlying31 Tryz.underlying32 Tryz.underlying33 Tryz.underlying34 Tryz.underlying35 Tryz.underlying36 Tryz.underlying37 Tryz.underlying38 Tryz.underlying39 Tryz.underlying40 Tryz.underlying41 Tryz.underlying42 Tryz.underlying43 Tryz.underlying44 Tryz.underlying45 Tryz.underlying46 Tryz.underlying47 Tryz.underlying48 Tryz.underlying49 Tryz.underlying50 Tryz.underlying51 Tryz.underlying52 Tryz.underlying53 Tryz.underlying54 Tryz.underlying55 Tryz.underlying56 Tryz.underlying57 Tryz.underlying58 Tryz.underlying59 Tryz.underlying60 Tryz.underlying61 Tryz.underlying62 Tryz.underlying63 Tryz.underlying64 Tryz.underlying65 Tryz.underlying66 Tryz.underlying67 Tryz.underlying68 Tryz.underlying69 Tryz.underlying70 Tryz.underlying71 Tryz.underlying72 Tryz.underlying73 Tryz.underlying74 Tryz.underlying75 Tryz.underlying76 Tryz.underlying77 Tryz.underlying78 Tryz.underlying79 Tryz.underlying80 Tryz.underlying81 Tryz.underlying82 Tryz.underlying83 Tryz.underlying84 Tryz.underlying85 Tryz.underlying86 Tryz.underlying87 Tryz.underlying88 Tryz.underlying89 Tryz.underlying90 Tryz.underlying91 Tryz.underlying92 Tryz.underlying93 Tryz.underlying94 Tryz.underlying95 Tryz.underlying96 Tryz.underlying97 Tryz.underlying98 Tryz.underlying99 Tryz.underlying100 Tryz.underlying101 Tryz.underlying102 Tryz.underlying103 Tryz.underlying104 Tryz.underlying105 Tryz.underlying106 Tryz.underlying107 Tryz.underlying108 Tryz.underlying109 Tryz.underlying110 Tryz.underlying111 Tryz.underlying112 Tryz.underlying113 Tryz.underlying114 Tryz.underlying115 Tryz.underlying116 Tryz.underlying117 Tryz.underlying118 Tryz.underlying119 Tryz.underlying120 Tryz.underlying121 Tryz.underlying122 Tryz.underlying123 Tryz.underlying124 Tryz.underlying125 Tryz.underlying126 Tryz.underlying127 Tryz.underlying128 Tryz.underlying129 Tryz.underlying130 Tryz.underlying131 Tryz.underlying132 Tryz.underlying133 Tryz.underlying134 Tryz.underlying135 Tryz.underlying136 Tryz.underlying137 Tryz.underlying138 Tryz.underlying139 Tryz.underlying140 Tryz.underlying141 Tryz.underlying142 Tryz.underlying143 Tryz.underlying144 Tryz.underlying145 Tryz.underlying146 Tryz.underlying147 Tryz.underlying148 Tryz.underlying149 Tryz.underlying150 Tryz.underlying151 Tryz.underlying152 Tryz.underlying153 Tryz.underlying154 Tryz.underlying155 Tryz.underlying156 Tryz.underlying157 Tryz.underlying158 Tryz.underlying159 Tryz.underlying160 Tryz.underlying161 Tryz.underlying162 Tryz.underlying163 Tryz.underlying164 Tryz.underlying165 Tryz.underlying166 Tryz.underlying167 Tryz.underlying168 Tryz.underlying169 Tryz.underlying170 Tryz.underlying171
end Go.Proofs.YtjolihoakdifoaaGreat
