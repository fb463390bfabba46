/- The types of the translation: their sizes and their zeros, as facts (printed by wip/tools/types.lean). -/
import Derived.Test.YtkeffhaldeedpaaDoorGc
import Derived.Test.YtkeffhaldeedpaaDoorProg
namespace Go.Proofs.YtkeffhaldeedpaaDoor
open Go
theorem hmix : Tryd.prog.follows .mixedOrders = true := by kernel_rfl
@[simp] theorem sz0 : sizeA Tryd.prog 0 = some 1 := by kernel_rfl
@[simp] theorem by0 : bytesSz Tryd.prog 0 = some 0 := by kernel_rfl
@[simp] theorem zero0 : zeroA Tryd.prog 0 = some (.tuple []) := by kernel_rfl
@[simp] theorem sz1 : sizeA Tryd.prog 1 = some 1 := by kernel_rfl
@[simp] theorem by1 : bytesSz Tryd.prog 1 = some 8 := by kernel_rfl
@[simp] theorem zero1 : zeroA Tryd.prog 1 = some (.nilf) := by kernel_rfl
@[simp] theorem sz2 : sizeA Tryd.prog 2 = some 1 := by kernel_rfl
@[simp] theorem by2 : bytesSz Tryd.prog 2 = some 8 := by kernel_rfl
@[simp] theorem zero2 : zeroA Tryd.prog 2 = some (.int .i64 (0)) := by kernel_rfl
@[simp] theorem sz3 : sizeA Tryd.prog 3 = some 1 := by kernel_rfl
@[simp] theorem by3 : bytesSz Tryd.prog 3 = some 8 := by kernel_rfl
@[simp] theorem zero3 : zeroA Tryd.prog 3 = some (.int .i64 (0)) := by kernel_rfl
@[simp] theorem sz4 : sizeA Tryd.prog 4 = some 1 := by kernel_rfl
@[simp] theorem by4 : bytesSz Tryd.prog 4 = some 1 := by kernel_rfl
@[simp] theorem zero4 : zeroA Tryd.prog 4 = some (.bool false) := by kernel_rfl
@[simp] theorem sz5 : sizeA Tryd.prog 5 = some 1 := by kernel_rfl
@[simp] theorem by5 : bytesSz Tryd.prog 5 = some 1 := by kernel_rfl
@[simp] theorem zero5 : zeroA Tryd.prog 5 = some (.int .u8 (0)) := by kernel_rfl
@[simp] theorem sz6 : sizeA Tryd.prog 6 = some 1 := by kernel_rfl
@[simp] theorem by6 : bytesSz Tryd.prog 6 = some 1 := by kernel_rfl
@[simp] theorem zero6 : zeroA Tryd.prog 6 = some (.int .u8 (0)) := by kernel_rfl
@[simp] theorem sz7 : sizeA Tryd.prog 7 = some 4 := by kernel_rfl
@[simp] theorem by7 : bytesSz Tryd.prog 7 = some 24 := by kernel_rfl
@[simp] theorem zero7 : zeroA Tryd.prog 7 = some (.agg [.int .i64 (0), .int .i64 (0), .bool false, .int .u8 (0)]) := by kernel_rfl
@[simp] theorem sz8 : sizeA Tryd.prog 8 = some 4 := by kernel_rfl
@[simp] theorem by8 : bytesSz Tryd.prog 8 = some 24 := by kernel_rfl
@[simp] theorem zero8 : zeroA Tryd.prog 8 = some (.agg [.int .i64 (0), .int .i64 (0), .bool false, .int .u8 (0)]) := by kernel_rfl
@[simp] theorem sz9 : sizeA Tryd.prog 9 = some 1 := by kernel_rfl
@[simp] theorem by9 : bytesSz Tryd.prog 9 = some 16 := by kernel_rfl
@[simp] theorem zero9 : zeroA Tryd.prog 9 = some (.str []) := by kernel_rfl
@[simp] theorem sz10 : sizeA Tryd.prog 10 = some 1 := by kernel_rfl
@[simp] theorem by10 : bytesSz Tryd.prog 10 = some 16 := by kernel_rfl
@[simp] theorem zero10 : zeroA Tryd.prog 10 = some (.str []) := by kernel_rfl
@[simp] theorem sz11 : sizeA Tryd.prog 11 = some 1 := by kernel_rfl
@[simp] theorem by11 : bytesSz Tryd.prog 11 = some 16 := by kernel_rfl
@[simp] theorem zero11 : zeroA Tryd.prog 11 = some (.str []) := by kernel_rfl
@[simp] theorem sz12 : sizeA Tryd.prog 12 = some 1 := by kernel_rfl
@[simp] theorem by12 : bytesSz Tryd.prog 12 = some 8 := by kernel_rfl
@[simp] theorem zero12 : zeroA Tryd.prog 12 = some (.int .u64 (0)) := by kernel_rfl
@[simp] theorem sz13 : sizeA Tryd.prog 13 = some 2 := by kernel_rfl
@[simp] theorem by13 : bytesSz Tryd.prog 13 = some 24 := by kernel_rfl
@[simp] theorem zero13 : zeroA Tryd.prog 13 = some (.agg [.str [], .int .u64 (0)]) := by kernel_rfl
@[simp] theorem sz14 : sizeA Tryd.prog 14 = some 2 := by kernel_rfl
@[simp] theorem by14 : bytesSz Tryd.prog 14 = some 24 := by kernel_rfl
@[simp] theorem zero14 : zeroA Tryd.prog 14 = some (.agg [.str [], .int .u64 (0)]) := by kernel_rfl
@[simp] theorem sz15 : sizeA Tryd.prog 15 = some 1 := by kernel_rfl
@[simp] theorem by15 : bytesSz Tryd.prog 15 = some 8 := by kernel_rfl
@[simp] theorem zero15 : zeroA Tryd.prog 15 = some (.nilp) := by kernel_rfl
@[simp] theorem sz16 : sizeA Tryd.prog 16 = some 1 := by kernel_rfl
@[simp] theorem by16 : bytesSz Tryd.prog 16 = some 8 := by kernel_rfl
@[simp] theorem zero16 : zeroA Tryd.prog 16 = some (.nilp) := by kernel_rfl
@[simp] theorem sz17 : sizeA Tryd.prog 17 = some 1 := by kernel_rfl
@[simp] theorem by17 : bytesSz Tryd.prog 17 = some 8 := by kernel_rfl
@[simp] theorem zero17 : zeroA Tryd.prog 17 = some (.nilp) := by kernel_rfl
@[simp] theorem sz18 : sizeA Tryd.prog 18 = some 1 := by kernel_rfl
@[simp] theorem by18 : bytesSz Tryd.prog 18 = some 8 := by kernel_rfl
@[simp] theorem zero18 : zeroA Tryd.prog 18 = some (.agg [.nilp]) := by kernel_rfl
@[simp] theorem sz19 : sizeA Tryd.prog 19 = some 1 := by kernel_rfl
@[simp] theorem by19 : bytesSz Tryd.prog 19 = some 8 := by kernel_rfl
@[simp] theorem zero19 : zeroA Tryd.prog 19 = some (.agg [.nilp]) := by kernel_rfl
@[simp] theorem sz20 : sizeA Tryd.prog 20 = some 1 := by kernel_rfl
@[simp] theorem by20 : bytesSz Tryd.prog 20 = some 16 := by kernel_rfl
@[simp] theorem zero20 : zeroA Tryd.prog 20 = some (.top) := by kernel_rfl
@[simp] theorem sz21 : sizeA Tryd.prog 21 = some 1 := by kernel_rfl
@[simp] theorem by21 : bytesSz Tryd.prog 21 = some 4 := by kernel_rfl
@[simp] theorem zero21 : zeroA Tryd.prog 21 = some (.int .i32 (0)) := by kernel_rfl
@[simp] theorem sz22 : sizeA Tryd.prog 22 = some 1 := by kernel_rfl
@[simp] theorem by22 : bytesSz Tryd.prog 22 = some 24 := by kernel_rfl
@[simp] theorem zero22 : zeroA Tryd.prog 22 = some (.nils) := by kernel_rfl
@[simp] theorem sz23 : sizeA Tryd.prog 23 = some 1 := by kernel_rfl
@[simp] theorem by23 : bytesSz Tryd.prog 23 = some 24 := by kernel_rfl
@[simp] theorem zero23 : zeroA Tryd.prog 23 = some (.nils) := by kernel_rfl
@[simp] theorem sz24 : sizeA Tryd.prog 24 = some 1 := by kernel_rfl
@[simp] theorem by24 : bytesSz Tryd.prog 24 = some 4 := by kernel_rfl
@[simp] theorem zero24 : zeroA Tryd.prog 24 = some (.int .u32 (0)) := by kernel_rfl
@[simp] theorem sz25 : sizeA Tryd.prog 25 = some 3 := by kernel_rfl
@[simp] theorem by25 : bytesSz Tryd.prog 25 = some 24 := by kernel_rfl
@[simp] theorem zero25 : zeroA Tryd.prog 25 = some (.agg [.int .u8 (0), .int .u32 (0), .str []]) := by kernel_rfl
@[simp] theorem sz26 : sizeA Tryd.prog 26 = some 3 := by kernel_rfl
@[simp] theorem by26 : bytesSz Tryd.prog 26 = some 24 := by kernel_rfl
@[simp] theorem zero26 : zeroA Tryd.prog 26 = some (.agg [.int .u8 (0), .int .u32 (0), .str []]) := by kernel_rfl
@[simp] theorem sz27 : sizeA Tryd.prog 27 = some 1 := by kernel_rfl
@[simp] theorem by27 : bytesSz Tryd.prog 27 = some 8 := by kernel_rfl
@[simp] theorem zero27 : zeroA Tryd.prog 27 = some (.nilf) := by kernel_rfl
@[simp] theorem sz28 : sizeA Tryd.prog 28 = some 1 := by kernel_rfl
@[simp] theorem by28 : bytesSz Tryd.prog 28 = some 8 := by kernel_rfl
@[simp] theorem zero28 : zeroA Tryd.prog 28 = some (.nilf) := by kernel_rfl
@[simp] theorem sz29 : sizeA Tryd.prog 29 = some 1 := by kernel_rfl
@[simp] theorem by29 : bytesSz Tryd.prog 29 = some 0 := by kernel_rfl
@[simp] theorem zero29 : zeroA Tryd.prog 29 = some (.tuple [.int .i64 (0), .int .i64 (0)]) := by kernel_rfl
@[simp] theorem sz30 : sizeA Tryd.prog 30 = some 1 := by kernel_rfl
@[simp] theorem by30 : bytesSz Tryd.prog 30 = some 8 := by kernel_rfl
@[simp] theorem zero30 : zeroA Tryd.prog 30 = some (.nilf) := by kernel_rfl
@[simp] theorem sz31 : sizeA Tryd.prog 31 = some 1 := by kernel_rfl
@[simp] theorem by31 : bytesSz Tryd.prog 31 = some 8 := by kernel_rfl
@[simp] theorem zero31 : zeroA Tryd.prog 31 = some (.nilf) := by kernel_rfl
@[simp] theorem sz32 : sizeA Tryd.prog 32 = some 1 := by kernel_rfl
@[simp] theorem by32 : bytesSz Tryd.prog 32 = some 24 := by kernel_rfl
@[simp] theorem zero32 : zeroA Tryd.prog 32 = some (.nils) := by kernel_rfl
@[simp] theorem sz33 : sizeA Tryd.prog 33 = some 1 := by kernel_rfl
@[simp] theorem by33 : bytesSz Tryd.prog 33 = some 8 := by kernel_rfl
@[simp] theorem zero33 : zeroA Tryd.prog 33 = some (.nilf) := by kernel_rfl
@[simp] theorem sz34 : sizeA Tryd.prog 34 = some 1 := by kernel_rfl
@[simp] theorem by34 : bytesSz Tryd.prog 34 = some 8 := by kernel_rfl
@[simp] theorem zero34 : zeroA Tryd.prog 34 = some (.nilf) := by kernel_rfl
@[simp] theorem sz35 : sizeA Tryd.prog 35 = some 1 := by kernel_rfl
@[simp] theorem by35 : bytesSz Tryd.prog 35 = some 8 := by kernel_rfl
@[simp] theorem zero35 : zeroA Tryd.prog 35 = some (.nilf) := by kernel_rfl
@[simp] theorem sz36 : sizeA Tryd.prog 36 = some 1 := by kernel_rfl
@[simp] theorem by36 : bytesSz Tryd.prog 36 = some 8 := by kernel_rfl
@[simp] theorem zero36 : zeroA Tryd.prog 36 = some (.nilf) := by kernel_rfl
@[simp] theorem sz37 : sizeA Tryd.prog 37 = some 1 := by kernel_rfl
@[simp] theorem by37 : bytesSz Tryd.prog 37 = some 8 := by kernel_rfl
@[simp] theorem zero37 : zeroA Tryd.prog 37 = some (.nilf) := by kernel_rfl
@[simp] theorem sz38 : sizeA Tryd.prog 38 = some 1 := by kernel_rfl
@[simp] theorem by38 : bytesSz Tryd.prog 38 = some 8 := by kernel_rfl
@[simp] theorem zero38 : zeroA Tryd.prog 38 = some (.nilf) := by kernel_rfl
@[simp] theorem sz39 : sizeA Tryd.prog 39 = some 3 := by kernel_rfl
@[simp] theorem by39 : bytesSz Tryd.prog 39 = some 48 := by kernel_rfl
@[simp] theorem zero39 : zeroA Tryd.prog 39 = some (.agg [.str [], .str [], .str []]) := by kernel_rfl
@[simp] theorem sz40 : sizeA Tryd.prog 40 = some 1 := by kernel_rfl
@[simp] theorem by40 : bytesSz Tryd.prog 40 = some 8 := by kernel_rfl
@[simp] theorem zero40 : zeroA Tryd.prog 40 = some (.nilf) := by kernel_rfl
@[simp] theorem sz41 : sizeA Tryd.prog 41 = some 1 := by kernel_rfl
@[simp] theorem by41 : bytesSz Tryd.prog 41 = some 24 := by kernel_rfl
@[simp] theorem zero41 : zeroA Tryd.prog 41 = some (.nils) := by kernel_rfl
@[simp] theorem sz42 : sizeA Tryd.prog 42 = some 1 := by kernel_rfl
@[simp] theorem by42 : bytesSz Tryd.prog 42 = some 8 := by kernel_rfl
@[simp] theorem zero42 : zeroA Tryd.prog 42 = some (.nilf) := by kernel_rfl
@[simp] theorem sz43 : sizeA Tryd.prog 43 = some 1 := by kernel_rfl
@[simp] theorem by43 : bytesSz Tryd.prog 43 = some 8 := by kernel_rfl
@[simp] theorem zero43 : zeroA Tryd.prog 43 = some (.nilm) := by kernel_rfl
@[simp] theorem sz44 : sizeA Tryd.prog 44 = some 1 := by kernel_rfl
@[simp] theorem by44 : bytesSz Tryd.prog 44 = some 8 := by kernel_rfl
@[simp] theorem zero44 : zeroA Tryd.prog 44 = some (.nilf) := by kernel_rfl
@[simp] theorem sz45 : sizeA Tryd.prog 45 = some 1 := by kernel_rfl
@[simp] theorem by45 : bytesSz Tryd.prog 45 = some 8 := by kernel_rfl
@[simp] theorem zero45 : zeroA Tryd.prog 45 = some (.nilf) := by kernel_rfl
@[simp] theorem sz46 : sizeA Tryd.prog 46 = some 5 := by kernel_rfl
@[simp] theorem by46 : bytesSz Tryd.prog 46 = some 80 := by kernel_rfl
@[simp] theorem zero46 : zeroA Tryd.prog 46 = some (.agg [.str [], .str [], .str [], .str [], .str []]) := by kernel_rfl
@[simp] theorem sz47 : sizeA Tryd.prog 47 = some 1 := by kernel_rfl
@[simp] theorem by47 : bytesSz Tryd.prog 47 = some 8 := by kernel_rfl
@[simp] theorem zero47 : zeroA Tryd.prog 47 = some (.nilf) := by kernel_rfl
@[simp] theorem sz48 : sizeA Tryd.prog 48 = some 1 := by kernel_rfl
@[simp] theorem by48 : bytesSz Tryd.prog 48 = some 0 := by kernel_rfl
@[simp] theorem zero48 : zeroA Tryd.prog 48 = some (.tuple [.str [], .bool false]) := by kernel_rfl
@[simp] theorem sz49 : sizeA Tryd.prog 49 = some 1 := by kernel_rfl
@[simp] theorem by49 : bytesSz Tryd.prog 49 = some 8 := by kernel_rfl
@[simp] theorem zero49 : zeroA Tryd.prog 49 = some (.nilf) := by kernel_rfl
@[simp] theorem sz50 : sizeA Tryd.prog 50 = some 1 := by kernel_rfl
@[simp] theorem by50 : bytesSz Tryd.prog 50 = some 16 := by kernel_rfl
@[simp] theorem zero50 : zeroA Tryd.prog 50 = some (.top) := by kernel_rfl
@[simp] theorem sz51 : sizeA Tryd.prog 51 = some 1 := by kernel_rfl
@[simp] theorem by51 : bytesSz Tryd.prog 51 = some 16 := by kernel_rfl
@[simp] theorem zero51 : zeroA Tryd.prog 51 = some (.top) := by kernel_rfl
@[simp] theorem sz52 : sizeA Tryd.prog 52 = some 1 := by kernel_rfl
@[simp] theorem by52 : bytesSz Tryd.prog 52 = some 0 := by kernel_rfl
@[simp] theorem zero52 : zeroA Tryd.prog 52 = some (.tuple [.int .i64 (0), .top]) := by kernel_rfl
@[simp] theorem sz53 : sizeA Tryd.prog 53 = some 1 := by kernel_rfl
@[simp] theorem by53 : bytesSz Tryd.prog 53 = some 8 := by kernel_rfl
@[simp] theorem zero53 : zeroA Tryd.prog 53 = some (.nilf) := by kernel_rfl
@[simp] theorem sz54 : sizeA Tryd.prog 54 = some 1 := by kernel_rfl
@[simp] theorem by54 : bytesSz Tryd.prog 54 = some 8 := by kernel_rfl
@[simp] theorem zero54 : zeroA Tryd.prog 54 = some (.nilf) := by kernel_rfl
@[simp] theorem sz55 : sizeA Tryd.prog 55 = some 1 := by kernel_rfl
@[simp] theorem by55 : bytesSz Tryd.prog 55 = some 8 := by kernel_rfl
@[simp] theorem zero55 : zeroA Tryd.prog 55 = some (.nilf) := by kernel_rfl
@[simp] theorem sz56 : sizeA Tryd.prog 56 = some 1 := by kernel_rfl
@[simp] theorem by56 : bytesSz Tryd.prog 56 = some 24 := by kernel_rfl
@[simp] theorem zero56 : zeroA Tryd.prog 56 = some (.nils) := by kernel_rfl
@[simp] theorem sz57 : sizeA Tryd.prog 57 = some 1 := by kernel_rfl
@[simp] theorem by57 : bytesSz Tryd.prog 57 = some 8 := by kernel_rfl
@[simp] theorem zero57 : zeroA Tryd.prog 57 = some (.nilf) := by kernel_rfl
@[simp] theorem sz58 : sizeA Tryd.prog 58 = some 1 := by kernel_rfl
@[simp] theorem by58 : bytesSz Tryd.prog 58 = some 8 := by kernel_rfl
@[simp] theorem zero58 : zeroA Tryd.prog 58 = some (.nilf) := by kernel_rfl
@[simp] theorem sz59 : sizeA Tryd.prog 59 = some 1 := by kernel_rfl
@[simp] theorem by59 : bytesSz Tryd.prog 59 = some 8 := by kernel_rfl
@[simp] theorem zero59 : zeroA Tryd.prog 59 = some (.nilf) := by kernel_rfl
@[simp] theorem sz60 : sizeA Tryd.prog 60 = some 1 := by kernel_rfl
@[simp] theorem by60 : bytesSz Tryd.prog 60 = some 8 := by kernel_rfl
@[simp] theorem zero60 : zeroA Tryd.prog 60 = some (.int .i64 (0)) := by kernel_rfl
@[simp] theorem sz61 : sizeA Tryd.prog 61 = some 1 := by kernel_rfl
@[simp] theorem by61 : bytesSz Tryd.prog 61 = some 0 := by kernel_rfl
@[simp] theorem zero61 : zeroA Tryd.prog 61 = some (.tuple [.int .i64 (0), .top]) := by kernel_rfl
@[simp] theorem sz62 : sizeA Tryd.prog 62 = some 1 := by kernel_rfl
@[simp] theorem by62 : bytesSz Tryd.prog 62 = some 8 := by kernel_rfl
@[simp] theorem zero62 : zeroA Tryd.prog 62 = some (.nilf) := by kernel_rfl
@[simp] theorem sz63 : sizeA Tryd.prog 63 = some 1 := by kernel_rfl
@[simp] theorem by63 : bytesSz Tryd.prog 63 = some 8 := by kernel_rfl
@[simp] theorem zero63 : zeroA Tryd.prog 63 = some (.nilp) := by kernel_rfl
@[simp] theorem sz64 : sizeA Tryd.prog 64 = some 1 := by kernel_rfl
@[simp] theorem by64 : bytesSz Tryd.prog 64 = some 8 := by kernel_rfl
@[simp] theorem zero64 : zeroA Tryd.prog 64 = some (.nilf) := by kernel_rfl
@[simp] theorem sz65 : sizeA Tryd.prog 65 = some 1 := by kernel_rfl
@[simp] theorem by65 : bytesSz Tryd.prog 65 = some 8 := by kernel_rfl
@[simp] theorem zero65 : zeroA Tryd.prog 65 = some (.nilf) := by kernel_rfl
@[simp] theorem sz66 : sizeA Tryd.prog 66 = some 1 := by kernel_rfl
@[simp] theorem by66 : bytesSz Tryd.prog 66 = some 8 := by kernel_rfl
@[simp] theorem zero66 : zeroA Tryd.prog 66 = some (.nilf) := by kernel_rfl
@[simp] theorem sz67 : sizeA Tryd.prog 67 = some 1 := by kernel_rfl
@[simp] theorem by67 : bytesSz Tryd.prog 67 = some 8 := by kernel_rfl
@[simp] theorem zero67 : zeroA Tryd.prog 67 = some (.nilf) := by kernel_rfl
@[simp] theorem sz68 : sizeA Tryd.prog 68 = some 1 := by kernel_rfl
@[simp] theorem by68 : bytesSz Tryd.prog 68 = some 8 := by kernel_rfl
@[simp] theorem zero68 : zeroA Tryd.prog 68 = some (.nilf) := by kernel_rfl
@[simp] theorem sz69 : sizeA Tryd.prog 69 = some 1 := by kernel_rfl
@[simp] theorem by69 : bytesSz Tryd.prog 69 = some 8 := by kernel_rfl
@[simp] theorem zero69 : zeroA Tryd.prog 69 = some (.int .u64 (0)) := by kernel_rfl
@[simp] theorem sz70 : sizeA Tryd.prog 70 = some 1 := by kernel_rfl
@[simp] theorem by70 : bytesSz Tryd.prog 70 = some 8 := by kernel_rfl
@[simp] theorem zero70 : zeroA Tryd.prog 70 = some (.int .u64 (0)) := by kernel_rfl
@[simp] theorem sz71 : sizeA Tryd.prog 71 = some 1 := by kernel_rfl
@[simp] theorem by71 : bytesSz Tryd.prog 71 = some 0 := by kernel_rfl
@[simp] theorem zero71 : zeroA Tryd.prog 71 = some (.tuple [.int .u64 (0), .top]) := by kernel_rfl
@[simp] theorem sz72 : sizeA Tryd.prog 72 = some 1 := by kernel_rfl
@[simp] theorem by72 : bytesSz Tryd.prog 72 = some 8 := by kernel_rfl
@[simp] theorem zero72 : zeroA Tryd.prog 72 = some (.nilf) := by kernel_rfl
@[simp] theorem sz73 : sizeA Tryd.prog 73 = some 1 := by kernel_rfl
@[simp] theorem by73 : bytesSz Tryd.prog 73 = some 8 := by kernel_rfl
@[simp] theorem zero73 : zeroA Tryd.prog 73 = some (.nilf) := by kernel_rfl
@[simp] theorem sz74 : sizeA Tryd.prog 74 = some 3 := by kernel_rfl
@[simp] theorem by74 : bytesSz Tryd.prog 74 = some 48 := by kernel_rfl
@[simp] theorem zero74 : zeroA Tryd.prog 74 = some (.agg [.str [], .str [], .top]) := by kernel_rfl
@[simp] theorem sz75 : sizeA Tryd.prog 75 = some 3 := by kernel_rfl
@[simp] theorem by75 : bytesSz Tryd.prog 75 = some 48 := by kernel_rfl
@[simp] theorem zero75 : zeroA Tryd.prog 75 = some (.agg [.str [], .str [], .top]) := by kernel_rfl
@[simp] theorem sz76 : sizeA Tryd.prog 76 = some 1 := by kernel_rfl
@[simp] theorem by76 : bytesSz Tryd.prog 76 = some 8 := by kernel_rfl
@[simp] theorem zero76 : zeroA Tryd.prog 76 = some (.nilf) := by kernel_rfl
@[simp] theorem sz77 : sizeA Tryd.prog 77 = some 24 := by kernel_rfl
@[simp] theorem by77 : bytesSz Tryd.prog 77 = some 24 := by kernel_rfl
@[simp] theorem zero77 : zeroA Tryd.prog 77 = some (.agg [.int .u8 (0), .int .u8 (0), .int .u8 (0), .int .u8 (0), .int .u8 (0), .int .u8 (0), .int .u8 (0), .int .u8 (0), .int .u8 (0), .int .u8 (0), .int .u8 (0), .int .u8 (0), .int .u8 (0), .int .u8 (0), .int .u8 (0), .int .u8 (0), .int .u8 (0), .int .u8 (0), .int .u8 (0), .int .u8 (0), .int .u8 (0), .int .u8 (0), .int .u8 (0), .int .u8 (0)]) := by kernel_rfl
@[simp] theorem sz78 : sizeA Tryd.prog 78 = some 1 := by kernel_rfl
@[simp] theorem by78 : bytesSz Tryd.prog 78 = some 8 := by kernel_rfl
@[simp] theorem zero78 : zeroA Tryd.prog 78 = some (.nilf) := by kernel_rfl
@[simp] theorem sz79 : sizeA Tryd.prog 79 = some 1 := by kernel_rfl
@[simp] theorem by79 : bytesSz Tryd.prog 79 = some 8 := by kernel_rfl
@[simp] theorem zero79 : zeroA Tryd.prog 79 = some (.nilf) := by kernel_rfl
@[simp] theorem sz80 : sizeA Tryd.prog 80 = some 1 := by kernel_rfl
@[simp] theorem by80 : bytesSz Tryd.prog 80 = some 0 := by kernel_rfl
@[simp] theorem zero80 : zeroA Tryd.prog 80 = some (.tuple [.nils, .str []]) := by kernel_rfl
@[simp] theorem sz81 : sizeA Tryd.prog 81 = some 1 := by kernel_rfl
@[simp] theorem by81 : bytesSz Tryd.prog 81 = some 8 := by kernel_rfl
@[simp] theorem zero81 : zeroA Tryd.prog 81 = some (.nilf) := by kernel_rfl
@[simp] theorem sz82 : sizeA Tryd.prog 82 = some 1 := by kernel_rfl
@[simp] theorem by82 : bytesSz Tryd.prog 82 = some 8 := by kernel_rfl
@[simp] theorem zero82 : zeroA Tryd.prog 82 = some (.nilf) := by kernel_rfl
@[simp] theorem sz83 : sizeA Tryd.prog 83 = some 1 := by kernel_rfl
@[simp] theorem by83 : bytesSz Tryd.prog 83 = some 8 := by kernel_rfl
@[simp] theorem zero83 : zeroA Tryd.prog 83 = some (.int .i64 (0)) := by kernel_rfl
@[simp] theorem sz84 : sizeA Tryd.prog 84 = some 1 := by kernel_rfl
@[simp] theorem by84 : bytesSz Tryd.prog 84 = some 0 := by kernel_rfl
@[simp] theorem zero84 : zeroA Tryd.prog 84 = some (.tuple [.int .i64 (0), .int .i64 (0)]) := by kernel_rfl
@[simp] theorem sz85 : sizeA Tryd.prog 85 = some 1 := by kernel_rfl
@[simp] theorem by85 : bytesSz Tryd.prog 85 = some 8 := by kernel_rfl
@[simp] theorem zero85 : zeroA Tryd.prog 85 = some (.nilf) := by kernel_rfl
@[simp] theorem sz86 : sizeA Tryd.prog 86 = some 1 := by kernel_rfl
@[simp] theorem by86 : bytesSz Tryd.prog 86 = some 8 := by kernel_rfl
@[simp] theorem zero86 : zeroA Tryd.prog 86 = some (.nilf) := by kernel_rfl
@[simp] theorem sz87 : sizeA Tryd.prog 87 = some 1 := by kernel_rfl
@[simp] theorem by87 : bytesSz Tryd.prog 87 = some 8 := by kernel_rfl
@[simp] theorem zero87 : zeroA Tryd.prog 87 = some (.nilf) := by kernel_rfl
@[simp] theorem sz88 : sizeA Tryd.prog 88 = some 1 := by kernel_rfl
@[simp] theorem by88 : bytesSz Tryd.prog 88 = some 8 := by kernel_rfl
@[simp] theorem zero88 : zeroA Tryd.prog 88 = some (.nilf) := by kernel_rfl
@[simp] theorem sz89 : sizeA Tryd.prog 89 = some 1 := by kernel_rfl
@[simp] theorem by89 : bytesSz Tryd.prog 89 = some 0 := by kernel_rfl
@[simp] theorem zero89 : zeroA Tryd.prog 89 = some (.tuple [.int .i64 (0), .bool false]) := by kernel_rfl
@[simp] theorem sz90 : sizeA Tryd.prog 90 = some 1 := by kernel_rfl
@[simp] theorem by90 : bytesSz Tryd.prog 90 = some 8 := by kernel_rfl
@[simp] theorem zero90 : zeroA Tryd.prog 90 = some (.nilf) := by kernel_rfl
@[simp] theorem sz91 : sizeA Tryd.prog 91 = some 1 := by kernel_rfl
@[simp] theorem by91 : bytesSz Tryd.prog 91 = some 8 := by kernel_rfl
@[simp] theorem zero91 : zeroA Tryd.prog 91 = some (.nilf) := by kernel_rfl
@[simp] theorem sz92 : sizeA Tryd.prog 92 = some 1 := by kernel_rfl
@[simp] theorem by92 : bytesSz Tryd.prog 92 = some 8 := by kernel_rfl
@[simp] theorem zero92 : zeroA Tryd.prog 92 = some (.nilf) := by kernel_rfl
@[simp] theorem sz93 : sizeA Tryd.prog 93 = some 1 := by kernel_rfl
@[simp] theorem by93 : bytesSz Tryd.prog 93 = some 8 := by kernel_rfl
@[simp] theorem zero93 : zeroA Tryd.prog 93 = some (.nilf) := by kernel_rfl
@[simp] theorem sz94 : sizeA Tryd.prog 94 = some 1 := by kernel_rfl
@[simp] theorem by94 : bytesSz Tryd.prog 94 = some 8 := by kernel_rfl
@[simp] theorem zero94 : zeroA Tryd.prog 94 = some (.nilp) := by kernel_rfl
@[simp] theorem sz95 : sizeA Tryd.prog 95 = some 1 := by kernel_rfl
@[simp] theorem by95 : bytesSz Tryd.prog 95 = some 8 := by kernel_rfl
@[simp] theorem zero95 : zeroA Tryd.prog 95 = some (.nilp) := by kernel_rfl
@[simp] theorem sz96 : sizeA Tryd.prog 96 = some 1 := by kernel_rfl
@[simp] theorem by96 : bytesSz Tryd.prog 96 = some 16 := by kernel_rfl
@[simp] theorem zero96 : zeroA Tryd.prog 96 = some (.agg [.str []]) := by kernel_rfl
@[simp] theorem sz97 : sizeA Tryd.prog 97 = some 1 := by kernel_rfl
@[simp] theorem by97 : bytesSz Tryd.prog 97 = some 16 := by kernel_rfl
@[simp] theorem zero97 : zeroA Tryd.prog 97 = some (.agg [.str []]) := by kernel_rfl
@[simp] theorem sz98 : sizeA Tryd.prog 98 = some 1 := by kernel_rfl
@[simp] theorem by98 : bytesSz Tryd.prog 98 = some 8 := by kernel_rfl
@[simp] theorem zero98 : zeroA Tryd.prog 98 = some (.nilf) := by kernel_rfl
@[simp] theorem sz99 : sizeA Tryd.prog 99 = some 1 := by kernel_rfl
@[simp] theorem by99 : bytesSz Tryd.prog 99 = some 8 := by kernel_rfl
@[simp] theorem zero99 : zeroA Tryd.prog 99 = some (.nilf) := by kernel_rfl
@[simp] theorem sz100 : sizeA Tryd.prog 100 = some 20 := by kernel_rfl
@[simp] theorem by100 : bytesSz Tryd.prog 100 = some 160 := by kernel_rfl
@[simp] theorem zero100 : zeroA Tryd.prog 100 = some (.agg [.int .u64 (0), .int .u64 (0), .int .u64 (0), .int .u64 (0), .int .u64 (0), .int .u64 (0), .int .u64 (0), .int .u64 (0), .int .u64 (0), .int .u64 (0), .int .u64 (0), .int .u64 (0), .int .u64 (0), .int .u64 (0), .int .u64 (0), .int .u64 (0), .int .u64 (0), .int .u64 (0), .int .u64 (0), .int .u64 (0)]) := by kernel_rfl
@[simp] theorem sz102 : sizeA Tryd.prog 102 = some 1 := by kernel_rfl
@[simp] theorem by102 : bytesSz Tryd.prog 102 = some 8 := by kernel_rfl
@[simp] theorem zero102 : zeroA Tryd.prog 102 = some (.int .u64 (0)) := by kernel_rfl
@[simp] theorem sz103 : sizeA Tryd.prog 103 = some 1 := by kernel_rfl
@[simp] theorem by103 : bytesSz Tryd.prog 103 = some 8 := by kernel_rfl
@[simp] theorem zero103 : zeroA Tryd.prog 103 = some (.nilf) := by kernel_rfl
@[simp] theorem sz104 : sizeA Tryd.prog 104 = some 1 := by kernel_rfl
@[simp] theorem by104 : bytesSz Tryd.prog 104 = some 8 := by kernel_rfl
@[simp] theorem zero104 : zeroA Tryd.prog 104 = some (.nilf) := by kernel_rfl
@[simp] theorem sz105 : sizeA Tryd.prog 105 = some 1 := by kernel_rfl
@[simp] theorem by105 : bytesSz Tryd.prog 105 = some 8 := by kernel_rfl
@[simp] theorem zero105 : zeroA Tryd.prog 105 = some (.nilf) := by kernel_rfl
@[simp] theorem sz106 : sizeA Tryd.prog 106 = some 1 := by kernel_rfl
@[simp] theorem by106 : bytesSz Tryd.prog 106 = some 8 := by kernel_rfl
@[simp] theorem zero106 : zeroA Tryd.prog 106 = some (.nilp) := by kernel_rfl
@[simp] theorem sz107 : sizeA Tryd.prog 107 = some 1 := by kernel_rfl
@[simp] theorem by107 : bytesSz Tryd.prog 107 = some 8 := by kernel_rfl
@[simp] theorem zero107 : zeroA Tryd.prog 107 = some (.nilf) := by kernel_rfl
@[simp] theorem sz108 : sizeA Tryd.prog 108 = some 1 := by kernel_rfl
@[simp] theorem by108 : bytesSz Tryd.prog 108 = some 8 := by kernel_rfl
@[simp] theorem zero108 : zeroA Tryd.prog 108 = some (.nilp) := by kernel_rfl
@[simp] theorem sz109 : sizeA Tryd.prog 109 = some 1 := by kernel_rfl
@[simp] theorem by109 : bytesSz Tryd.prog 109 = some 8 := by kernel_rfl
@[simp] theorem zero109 : zeroA Tryd.prog 109 = some (.nilf) := by kernel_rfl
@[simp] theorem sz110 : sizeA Tryd.prog 110 = some 32 := by kernel_rfl
@[simp] theorem by110 : bytesSz Tryd.prog 110 = some 32 := by kernel_rfl
@[simp] theorem zero110 : zeroA Tryd.prog 110 = some (.agg [.int .u8 (0), .int .u8 (0), .int .u8 (0), .int .u8 (0), .int .u8 (0), .int .u8 (0), .int .u8 (0), .int .u8 (0), .int .u8 (0), .int .u8 (0), .int .u8 (0), .int .u8 (0), .int .u8 (0), .int .u8 (0), .int .u8 (0), .int .u8 (0), .int .u8 (0), .int .u8 (0), .int .u8 (0), .int .u8 (0), .int .u8 (0), .int .u8 (0), .int .u8 (0), .int .u8 (0), .int .u8 (0), .int .u8 (0), .int .u8 (0), .int .u8 (0), .int .u8 (0), .int .u8 (0), .int .u8 (0), .int .u8 (0)]) := by kernel_rfl
@[simp] theorem sz111 : sizeA Tryd.prog 111 = some 64 := by kernel_rfl
@[simp] theorem by111 : bytesSz Tryd.prog 111 = some 64 := by kernel_rfl
@[simp] theorem zero111 : zeroA Tryd.prog 111 = some (.agg [.int .u8 (0), .int .u8 (0), .int .u8 (0), .int .u8 (0), .int .u8 (0), .int .u8 (0), .int .u8 (0), .int .u8 (0), .int .u8 (0), .int .u8 (0), .int .u8 (0), .int .u8 (0), .int .u8 (0), .int .u8 (0), .int .u8 (0), .int .u8 (0), .int .u8 (0), .int .u8 (0), .int .u8 (0), .int .u8 (0), .int .u8 (0), .int .u8 (0), .int .u8 (0), .int .u8 (0), .int .u8 (0), .int .u8 (0), .int .u8 (0), .int .u8 (0), .int .u8 (0), .int .u8 (0), .int .u8 (0), .int .u8 (0), .int .u8 (0), .int .u8 (0), .int .u8 (0), .int .u8 (0), .int .u8 (0), .int .u8 (0), .int .u8 (0), .int .u8 (0), .int .u8 (0), .int .u8 (0), .int .u8 (0), .int .u8 (0), .int .u8 (0), .int .u8 (0), .int .u8 (0), .int .u8 (0), .int .u8 (0), .int .u8 (0), .int .u8 (0), .int .u8 (0), .int .u8 (0), .int .u8 (0), .int .u8 (0), .int .u8 (0), .int .u8 (0), .int .u8 (0), .int .u8 (0), .int .u8 (0), .int .u8 (0), .int .u8 (0), .int .u8 (0), .int .u8 (0)]) := by kernel_rfl
@[simp] theorem sz112 : sizeA Tryd.prog 112 = some 4 := by kernel_rfl
@[simp] theorem by112 : bytesSz Tryd.prog 112 = some 40 := by kernel_rfl
@[simp] theorem zero112 : zeroA Tryd.prog 112 = some (.agg [.nilp, .nilp, .nilp, .str []]) := by kernel_rfl
@[simp] theorem sz113 : sizeA Tryd.prog 113 = some 4 := by kernel_rfl
@[simp] theorem by113 : bytesSz Tryd.prog 113 = some 40 := by kernel_rfl
@[simp] theorem zero113 : zeroA Tryd.prog 113 = some (.agg [.nilp, .nilp, .nilp, .str []]) := by kernel_rfl
@[simp] theorem sz114 : sizeA Tryd.prog 114 = some 0 := by kernel_rfl
@[simp] theorem by114 : bytesSz Tryd.prog 114 = some 0 := by kernel_rfl
@[simp] theorem zero114 : zeroA Tryd.prog 114 = some (.agg []) := by kernel_rfl
@[simp] theorem sz115 : sizeA Tryd.prog 115 = some 0 := by kernel_rfl
@[simp] theorem by115 : bytesSz Tryd.prog 115 = some 0 := by kernel_rfl
@[simp] theorem zero115 : zeroA Tryd.prog 115 = some (.agg []) := by kernel_rfl
@[simp] theorem sz116 : sizeA Tryd.prog 116 = some 0 := by kernel_rfl
@[simp] theorem by116 : bytesSz Tryd.prog 116 = some 0 := by kernel_rfl
@[simp] theorem zero116 : zeroA Tryd.prog 116 = some (.agg []) := by kernel_rfl
@[simp] theorem sz117 : sizeA Tryd.prog 117 = some 1 := by kernel_rfl
@[simp] theorem by117 : bytesSz Tryd.prog 117 = some 8 := by kernel_rfl
@[simp] theorem zero117 : zeroA Tryd.prog 117 = some (.nilf) := by kernel_rfl
@[simp] theorem sz118 : sizeA Tryd.prog 118 = some 1 := by kernel_rfl
@[simp] theorem by118 : bytesSz Tryd.prog 118 = some 1 := by kernel_rfl
@[simp] theorem zero118 : zeroA Tryd.prog 118 = some (.int .u8 (0)) := by kernel_rfl
@[simp] theorem sz119 : sizeA Tryd.prog 119 = some 1 := by kernel_rfl
@[simp] theorem by119 : bytesSz Tryd.prog 119 = some 1 := by kernel_rfl
@[simp] theorem zero119 : zeroA Tryd.prog 119 = some (.int .u8 (0)) := by kernel_rfl
@[simp] theorem sz120 : sizeA Tryd.prog 120 = some 1 := by kernel_rfl
@[simp] theorem by120 : bytesSz Tryd.prog 120 = some 8 := by kernel_rfl
@[simp] theorem zero120 : zeroA Tryd.prog 120 = some (.nilf) := by kernel_rfl
@[simp] theorem sz121 : sizeA Tryd.prog 121 = some 1 := by kernel_rfl
@[simp] theorem by121 : bytesSz Tryd.prog 121 = some 4 := by kernel_rfl
@[simp] theorem zero121 : zeroA Tryd.prog 121 = some (.int .i32 (0)) := by kernel_rfl
@[simp] theorem sz122 : sizeA Tryd.prog 122 = some 1 := by kernel_rfl
@[simp] theorem by122 : bytesSz Tryd.prog 122 = some 4 := by kernel_rfl
@[simp] theorem zero122 : zeroA Tryd.prog 122 = some (.int .i32 (0)) := by kernel_rfl
@[simp] theorem sz123 : sizeA Tryd.prog 123 = some 11 := by kernel_rfl
@[simp] theorem by123 : bytesSz Tryd.prog 123 = some 48 := by kernel_rfl
@[simp] theorem zero123 : zeroA Tryd.prog 123 = some (.agg [.int .u64 (0), .int .u64 (0), .int .u32 (0), .int .u8 (0), .int .u8 (0), .int .u8 (0), .int .u8 (0), .nilf, .nilp, .int .i32 (0), .int .i32 (0)]) := by kernel_rfl
@[simp] theorem sz124 : sizeA Tryd.prog 124 = some 11 := by kernel_rfl
@[simp] theorem by124 : bytesSz Tryd.prog 124 = some 48 := by kernel_rfl
@[simp] theorem zero124 : zeroA Tryd.prog 124 = some (.agg [.int .u64 (0), .int .u64 (0), .int .u32 (0), .int .u8 (0), .int .u8 (0), .int .u8 (0), .int .u8 (0), .nilf, .nilp, .int .i32 (0), .int .i32 (0)]) := by kernel_rfl
@[simp] theorem sz125 : sizeA Tryd.prog 125 = some 1 := by kernel_rfl
@[simp] theorem by125 : bytesSz Tryd.prog 125 = some 8 := by kernel_rfl
@[simp] theorem zero125 : zeroA Tryd.prog 125 = some (.nilp) := by kernel_rfl
@[simp] theorem fe7 : flatEq Tryd.prog 7 = some 4 := by kernel_rfl
@[simp] theorem fe8 : flatEq Tryd.prog 8 = some 4 := by kernel_rfl
@[simp] theorem fe25 : flatEq Tryd.prog 25 = some 3 := by kernel_rfl
@[simp] theorem fe26 : flatEq Tryd.prog 26 = some 3 := by kernel_rfl
@[simp] theorem fe96 : flatEq Tryd.prog 96 = some 1 := by kernel_rfl
@[simp] theorem fe97 : flatEq Tryd.prog 97 = some 1 := by kernel_rfl
@[simp] theorem fn2 : fnOf Tryd.prog 2 = some Tryd.f2 := Tryd.func2
@[simp] theorem fn3 : fnOf Tryd.prog 3 = some Tryd.f3 := Tryd.func3
@[simp] theorem fn4 : fnOf Tryd.prog 4 = some Tryd.f4 := Tryd.func4
@[simp] theorem fn5 : fnOf Tryd.prog 5 = some Tryd.f5 := Tryd.func5
@[simp] theorem fn6 : fnOf Tryd.prog 6 = some Tryd.f6 := Tryd.func6
@[simp] theorem fn7 : fnOf Tryd.prog 7 = some Tryd.f7 := Tryd.func7
@[simp] theorem fn8 : fnOf Tryd.prog 8 = some Tryd.f8 := Tryd.func8
@[simp] theorem fn9 : fnOf Tryd.prog 9 = some Tryd.f9 := Tryd.func9
@[simp] theorem fn10 : fnOf Tryd.prog 10 = some Tryd.f10 := Tryd.func10
@[simp] theorem fn11 : fnOf Tryd.prog 11 = some Tryd.f11 := Tryd.func11
@[simp] theorem fn12 : fnOf Tryd.prog 12 = some Tryd.f12 := Tryd.func12
@[simp] theorem fn13 : fnOf Tryd.prog 13 = some Tryd.f13 := Tryd.func13
@[simp] theorem fn14 : fnOf Tryd.prog 14 = some Tryd.f14 := Tryd.func14
@[simp] theorem fn15 : fnOf Tryd.prog 15 = some Tryd.f15 := Tryd.func15
@[simp] theorem fn16 : fnOf Tryd.prog 16 = some Tryd.f16 := Tryd.func16
@[simp] theorem fn17 : fnOf Tryd.prog 17 = some Tryd.f17 := Tryd.func17
@[simp] theorem fn18 : fnOf Tryd.prog 18 = some Tryd.f18 := Tryd.func18
@[simp] theorem fn19 : fnOf Tryd.prog 19 = some Tryd.f19 := Tryd.func19
@[simp] theorem fn20 : fnOf Tryd.prog 20 = some Tryd.f20 := Tryd.func20
@[simp] theorem fn21 : fnOf Tryd.prog 21 = some Tryd.f21 := Tryd.func21
@[simp] theorem fn22 : fnOf Tryd.prog 22 = some Tryd.f22 := Tryd.func22
@[simp] theorem fn23 : fnOf Tryd.prog 23 = some Tryd.f23 := Tryd.func23
@[simp] theorem fn24 : fnOf Tryd.prog 24 = some Tryd.f24 := Tryd.func24
@[simp] theorem fn25 : fnOf Tryd.prog 25 = some Tryd.f25 := Tryd.func25
@[simp] theorem fn26 : fnOf Tryd.prog 26 = some Tryd.f26 := Tryd.func26
@[simp] theorem fn27 : fnOf Tryd.prog 27 = some Tryd.f27 := Tryd.func27
@[simp] theorem fn28 : fnOf Tryd.prog 28 = some Tryd.f28 := Tryd.func28
@[simp] theorem fn29 : fnOf Tryd.prog 29 = some Tryd.f29 := Tryd.func29
@[simp] theorem fn30 : fnOf Tryd.prog 30 = some Tryd.f30 := Tryd.func30
@[simp] theorem fn31 : fnOf Tryd.prog 31 = some Tryd.f31 := Tryd.func31
@[simp] theorem fn32 : fnOf Tryd.prog 32 = some Tryd.f32 := Tryd.func32
@[simp] theorem fn33 : fnOf Tryd.prog 33 = some Tryd.f33 := Tryd.func33
@[simp] theorem fn34 : fnOf Tryd.prog 34 = some Tryd.f34 := Tryd.func34
@[simp] theorem fn35 : fnOf Tryd.prog 35 = some Tryd.f35 := Tryd.func35
@[simp] theorem fn36 : fnOf Tryd.prog 36 = some Tryd.f36 := Tryd.func36
@[simp] theorem fn37 : fnOf Tryd.prog 37 = some Tryd.f37 := Tryd.func37
@[simp] theorem fn38 : fnOf Tryd.prog 38 = some Tryd.f38 := Tryd.func38
@[simp] theorem fn39 : fnOf Tryd.prog 39 = some Tryd.f39 := Tryd.func39
@[simp] theorem fn40 : fnOf Tryd.prog 40 = some Tryd.f40 := Tryd.func40
@[simp] theorem fn41 : fnOf Tryd.prog 41 = some Tryd.f41 := Tryd.func41
@[simp] theorem fn42 : fnOf Tryd.prog 42 = some Tryd.f42 := Tryd.func42
@[simp] theorem fn43 : fnOf Tryd.prog 43 = some Tryd.f43 := Tryd.func43
@[simp] theorem fn44 : fnOf Tryd.prog 44 = some Tryd.f44 := Tryd.func44
@[simp] theorem fn45 : fnOf Tryd.prog 45 = some Tryd.f45 := Tryd.func45
@[simp] theorem fn46 : fnOf Tryd.prog 46 = some Tryd.f46 := Tryd.func46
@[simp] theorem fn47 : fnOf Tryd.prog 47 = some Tryd.f47 := Tryd.func47
@[simp] theorem fn48 : fnOf Tryd.prog 48 = some Tryd.f48 := Tryd.func48
@[simp] theorem fn49 : fnOf Tryd.prog 49 = some Tryd.f49 := Tryd.func49
@[simp] theorem fn50 : fnOf Tryd.prog 50 = some Tryd.f50 := Tryd.func50
@[simp] theorem fn51 : fnOf Tryd.prog 51 = some Tryd.f51 := Tryd.func51
@[simp] theorem fn52 : fnOf Tryd.prog 52 = some Tryd.f52 := Tryd.func52
@[simp] theorem fn53 : fnOf Tryd.prog 53 = some Tryd.f53 := Tryd.func53
@[simp] theorem fn54 : fnOf Tryd.prog 54 = some Tryd.f54 := Tryd.func54
@[simp] theorem fn55 : fnOf Tryd.prog 55 = some Tryd.f55 := Tryd.func55
@[simp] theorem fn56 : fnOf Tryd.prog 56 = some Tryd.f56 := Tryd.func56
@[simp] theorem fn57 : fnOf Tryd.prog 57 = some Tryd.f57 := Tryd.func57
@[simp] theorem fn58 : fnOf Tryd.prog 58 = some Tryd.f58 := Tryd.func58
@[simp] theorem fn59 : fnOf Tryd.prog 59 = some Tryd.f59 := Tryd.func59
@[simp] theorem fn60 : fnOf Tryd.prog 60 = some Tryd.f60 := Tryd.func60
@[simp] theorem fn61 : fnOf Tryd.prog 61 = some Tryd.f61 := Tryd.func61
@[simp] theorem fn62 : fnOf Tryd.prog 62 = some Tryd.f62 := Tryd.func62
@[simp] theorem fn63 : fnOf Tryd.prog 63 = some Tryd.f63 := Tryd.func63
@[simp] theorem fn64 : fnOf Tryd.prog 64 = some Tryd.f64 := Tryd.func64
@[simp] theorem fn65 : fnOf Tryd.prog 65 = some Tryd.f65 := Tryd.func65
@[simp] theorem fn66 : fnOf Tryd.prog 66 = some Tryd.f66 := Tryd.func66
@[simp] theorem fn67 : fnOf Tryd.prog 67 = some Tryd.f67 := Tryd.func67
@[simp] theorem fn68 : fnOf Tryd.prog 68 = some Tryd.f68 := Tryd.func68
@[simp] theorem fn69 : fnOf Tryd.prog 69 = some Tryd.f69 := Tryd.func69
@[simp] theorem fn70 : fnOf Tryd.prog 70 = some Tryd.f70 := Tryd.func70
@[simp] theorem fn71 : fnOf Tryd.prog 71 = some Tryd.f71 := Tryd.func71
@[simp] theorem fn72 : fnOf Tryd.prog 72 = some Tryd.f72 := Tryd.func72
@[simp] theorem fn99 : fnOf Tryd.prog 99 = some Tryd.f99 := Tryd.func99
attribute [simp] Tryd.underlying0 Tryd.underlying1 Tryd.underlying2 Tryd.underlying3 Tryd.underlying4 Tryd.underlying5 Tryd.underlying6 Tryd.underlying7 Tryd.underlying8 Tryd.underlying9 Tryd.underlying10 Tryd.underlying11 Tryd.underlying12 Tryd.underlying13 Tryd.underlying14 Tryd.underlying15 Tryd.underlying16 Tryd.underlying17 Tryd.underlying18 Tryd.underlying19 Tryd.underlying20 Tryd.underlying21 Tryd.underlying22 Tryd.underlying23 Tryd.underlying24 Tryd.underlying25 Tryd.underlying26 Tryd.underlying27 Tryd.underlying28 Tryd.underlying29 Tryd.underlying30 Tryd.underlying31 Tryd.underlying32 Tryd.underlying33 Tryd.underlying34 Tryd.underlying35 Tryd.underlying36 Tryd.underlying37 Tryd.underlying38 Tryd.underlying39 Tryd.underlying40 Tryd.underlying41 Tryd.underlying42 Tryd.underlying43 Tryd.underlying44 Tryd.underlying45 Tryd.underlying46 Tryd.underlying47 Tryd.underlying48 Tryd.underlying49 Tryd.underlying50 Tryd.underlying51 Tryd.underlying52 Tryd.underlying53 Tryd.underlying54 Tryd.underlying55 Tryd.underlying56 Tryd.underlying57 Tryd.underlying58 Tryd.underlying59 Tryd.underlying60 Tryd.underlying61 Tryd.underlying62 Tryd.underlying63 Tryd.underlying64 Tryd.underlying65 Tryd.underlying66 Tryd.underlying67 Tryd.underlying68 Tryd.underlying69 Tryd.underlying70 Tryd.underlying71 Tryd.underlying72 Tryd.underlying73 Tryd.underlying74 Tryd.underlying75 Tryd.underlying76 Tryd.underlying77 Tryd.underlying78 Tryd.underlying79 Tryd.underlying80 Tryd.underlying81 Tryd.underlying82 Tryd.underlying83 Tryd.underlying84 Tryd.underlying85 Tryd.underlying86 Tryd.underlying87 Tryd.underlying88 Tryd.underlying89 Tryd.underlying90 Tryd.underlying91 Tryd.underlying92 Tryd.underlying93 Tryd.underlying94 Tryd.underlying95 Tryd.underlying96 Tryd.underlying97 Tryd.underlying98 Tryd.underlying99 Tryd.underlying100 Tryd.underlying101 Tryd.underlying102 Tryd.underlying103 Tryd.underlying104 Tryd.underlying105 Tryd.underlying106 Tryd.underlying107 Tryd.underlying108 Tryd.underlying109 Tryd.underlying110 Tryd.underlying111 Tryd.underlying112 Tryd.underlying113 Tryd.underlying114 Tryd.underlying115 Tryd.underlying116 Tryd.underlying117 Tryd.underlying118 Tryd.underlying119 Tryd.underlying120 Tryd.underlying121 Tryd.underlying122 Tryd.underlying123 Tryd.underlying124 Tryd.underlying125
end Go.Proofs.YtkeffhaldeedpaaDoor
