/- The types of the translation: their sizes and their zeros, as facts (printed by wip/tools/types.lean). -/
import Derived.Test.YtjiilgpagpfdnaaGc
import Derived.Test.YtjiilgpagpfdnaaProg
namespace Go.Proofs.Ytjiilgpagpfdnaa
open Go
theorem hmix : Try.prog.follows .mixedOrders = true := by kernel_rfl
@[simp] theorem sz0 : sizeA Try.prog 0 = some 1 := by kernel_rfl
@[simp] theorem by0 : bytesSz Try.prog 0 = some 0 := by kernel_rfl
@[simp] theorem zero0 : zeroA Try.prog 0 = some (.tuple []) := by kernel_rfl
@[simp] theorem sz1 : sizeA Try.prog 1 = some 1 := by kernel_rfl
@[simp] theorem by1 : bytesSz Try.prog 1 = some 8 := by kernel_rfl
@[simp] theorem zero1 : zeroA Try.prog 1 = some (.nilf) := by kernel_rfl
@[simp] theorem sz2 : sizeA Try.prog 2 = some 1 := by kernel_rfl
@[simp] theorem by2 : bytesSz Try.prog 2 = some 8 := by kernel_rfl
@[simp] theorem zero2 : zeroA Try.prog 2 = some (.int .i64 (0)) := by kernel_rfl
@[simp] theorem sz3 : sizeA Try.prog 3 = some 1 := by kernel_rfl
@[simp] theorem by3 : bytesSz Try.prog 3 = some 8 := by kernel_rfl
@[simp] theorem zero3 : zeroA Try.prog 3 = some (.int .i64 (0)) := by kernel_rfl
@[simp] theorem sz4 : sizeA Try.prog 4 = some 1 := by kernel_rfl
@[simp] theorem by4 : bytesSz Try.prog 4 = some 1 := by kernel_rfl
@[simp] theorem zero4 : zeroA Try.prog 4 = some (.bool false) := by kernel_rfl
@[simp] theorem sz5 : sizeA Try.prog 5 = some 1 := by kernel_rfl
@[simp] theorem by5 : bytesSz Try.prog 5 = some 1 := by kernel_rfl
@[simp] theorem zero5 : zeroA Try.prog 5 = some (.int .u8 (0)) := by kernel_rfl
@[simp] theorem sz6 : sizeA Try.prog 6 = some 1 := by kernel_rfl
@[simp] theorem by6 : bytesSz Try.prog 6 = some 1 := by kernel_rfl
@[simp] theorem zero6 : zeroA Try.prog 6 = some (.int .u8 (0)) := by kernel_rfl
@[simp] theorem sz7 : sizeA Try.prog 7 = some 4 := by kernel_rfl
@[simp] theorem by7 : bytesSz Try.prog 7 = some 24 := by kernel_rfl
@[simp] theorem zero7 : zeroA Try.prog 7 = some (.agg [.int .i64 (0), .int .i64 (0), .bool false, .int .u8 (0)]) := by kernel_rfl
@[simp] theorem sz8 : sizeA Try.prog 8 = some 4 := by kernel_rfl
@[simp] theorem by8 : bytesSz Try.prog 8 = some 24 := by kernel_rfl
@[simp] theorem zero8 : zeroA Try.prog 8 = some (.agg [.int .i64 (0), .int .i64 (0), .bool false, .int .u8 (0)]) := by kernel_rfl
@[simp] theorem sz9 : sizeA Try.prog 9 = some 1 := by kernel_rfl
@[simp] theorem by9 : bytesSz Try.prog 9 = some 16 := by kernel_rfl
@[simp] theorem zero9 : zeroA Try.prog 9 = some (.str []) := by kernel_rfl
@[simp] theorem sz10 : sizeA Try.prog 10 = some 1 := by kernel_rfl
@[simp] theorem by10 : bytesSz Try.prog 10 = some 16 := by kernel_rfl
@[simp] theorem zero10 : zeroA Try.prog 10 = some (.str []) := by kernel_rfl
@[simp] theorem sz11 : sizeA Try.prog 11 = some 1 := by kernel_rfl
@[simp] theorem by11 : bytesSz Try.prog 11 = some 16 := by kernel_rfl
@[simp] theorem zero11 : zeroA Try.prog 11 = some (.str []) := by kernel_rfl
@[simp] theorem sz12 : sizeA Try.prog 12 = some 1 := by kernel_rfl
@[simp] theorem by12 : bytesSz Try.prog 12 = some 8 := by kernel_rfl
@[simp] theorem zero12 : zeroA Try.prog 12 = some (.int .u64 (0)) := by kernel_rfl
@[simp] theorem sz13 : sizeA Try.prog 13 = some 2 := by kernel_rfl
@[simp] theorem by13 : bytesSz Try.prog 13 = some 24 := by kernel_rfl
@[simp] theorem zero13 : zeroA Try.prog 13 = some (.agg [.str [], .int .u64 (0)]) := by kernel_rfl
@[simp] theorem sz14 : sizeA Try.prog 14 = some 2 := by kernel_rfl
@[simp] theorem by14 : bytesSz Try.prog 14 = some 24 := by kernel_rfl
@[simp] theorem zero14 : zeroA Try.prog 14 = some (.agg [.str [], .int .u64 (0)]) := by kernel_rfl
@[simp] theorem sz15 : sizeA Try.prog 15 = some 1 := by kernel_rfl
@[simp] theorem by15 : bytesSz Try.prog 15 = some 8 := by kernel_rfl
@[simp] theorem zero15 : zeroA Try.prog 15 = some (.nilp) := by kernel_rfl
@[simp] theorem sz16 : sizeA Try.prog 16 = some 1 := by kernel_rfl
@[simp] theorem by16 : bytesSz Try.prog 16 = some 8 := by kernel_rfl
@[simp] theorem zero16 : zeroA Try.prog 16 = some (.nilp) := by kernel_rfl
@[simp] theorem sz17 : sizeA Try.prog 17 = some 1 := by kernel_rfl
@[simp] theorem by17 : bytesSz Try.prog 17 = some 8 := by kernel_rfl
@[simp] theorem zero17 : zeroA Try.prog 17 = some (.nilp) := by kernel_rfl
@[simp] theorem sz18 : sizeA Try.prog 18 = some 1 := by kernel_rfl
@[simp] theorem by18 : bytesSz Try.prog 18 = some 8 := by kernel_rfl
@[simp] theorem zero18 : zeroA Try.prog 18 = some (.agg [.nilp]) := by kernel_rfl
@[simp] theorem sz19 : sizeA Try.prog 19 = some 1 := by kernel_rfl
@[simp] theorem by19 : bytesSz Try.prog 19 = some 8 := by kernel_rfl
@[simp] theorem zero19 : zeroA Try.prog 19 = some (.agg [.nilp]) := by kernel_rfl
@[simp] theorem sz20 : sizeA Try.prog 20 = some 1 := by kernel_rfl
@[simp] theorem by20 : bytesSz Try.prog 20 = some 16 := by kernel_rfl
@[simp] theorem zero20 : zeroA Try.prog 20 = some (.top) := by kernel_rfl
@[simp] theorem sz21 : sizeA Try.prog 21 = some 1 := by kernel_rfl
@[simp] theorem by21 : bytesSz Try.prog 21 = some 4 := by kernel_rfl
@[simp] theorem zero21 : zeroA Try.prog 21 = some (.int .i32 (0)) := by kernel_rfl
@[simp] theorem sz22 : sizeA Try.prog 22 = some 1 := by kernel_rfl
@[simp] theorem by22 : bytesSz Try.prog 22 = some 24 := by kernel_rfl
@[simp] theorem zero22 : zeroA Try.prog 22 = some (.nils) := by kernel_rfl
@[simp] theorem sz23 : sizeA Try.prog 23 = some 1 := by kernel_rfl
@[simp] theorem by23 : bytesSz Try.prog 23 = some 1 := by kernel_rfl
@[simp] theorem zero23 : zeroA Try.prog 23 = some (.int .i8 (0)) := by kernel_rfl
@[simp] theorem sz24 : sizeA Try.prog 24 = some 1 := by kernel_rfl
@[simp] theorem by24 : bytesSz Try.prog 24 = some 8 := by kernel_rfl
@[simp] theorem zero24 : zeroA Try.prog 24 = some (.nilf) := by kernel_rfl
@[simp] theorem sz25 : sizeA Try.prog 25 = some 1 := by kernel_rfl
@[simp] theorem by25 : bytesSz Try.prog 25 = some 8 := by kernel_rfl
@[simp] theorem zero25 : zeroA Try.prog 25 = some (.nilp) := by kernel_rfl
@[simp] theorem sz26 : sizeA Try.prog 26 = some 1 := by kernel_rfl
@[simp] theorem by26 : bytesSz Try.prog 26 = some 8 := by kernel_rfl
@[simp] theorem zero26 : zeroA Try.prog 26 = some (.nilf) := by kernel_rfl
@[simp] theorem sz27 : sizeA Try.prog 27 = some 5 := by kernel_rfl
@[simp] theorem by27 : bytesSz Try.prog 27 = some 24 := by kernel_rfl
@[simp] theorem zero27 : zeroA Try.prog 27 = some (.agg [.int .u8 (0), .int .u8 (0), .int .u8 (0), .int .i8 (0), .str []]) := by kernel_rfl
@[simp] theorem sz28 : sizeA Try.prog 28 = some 5 := by kernel_rfl
@[simp] theorem by28 : bytesSz Try.prog 28 = some 24 := by kernel_rfl
@[simp] theorem zero28 : zeroA Try.prog 28 = some (.agg [.int .u8 (0), .int .u8 (0), .int .u8 (0), .int .i8 (0), .str []]) := by kernel_rfl
@[simp] theorem sz29 : sizeA Try.prog 29 = some 1 := by kernel_rfl
@[simp] theorem by29 : bytesSz Try.prog 29 = some 8 := by kernel_rfl
@[simp] theorem zero29 : zeroA Try.prog 29 = some (.nilf) := by kernel_rfl
@[simp] theorem sz30 : sizeA Try.prog 30 = some 1 := by kernel_rfl
@[simp] theorem by30 : bytesSz Try.prog 30 = some 8 := by kernel_rfl
@[simp] theorem zero30 : zeroA Try.prog 30 = some (.nilf) := by kernel_rfl
@[simp] theorem sz31 : sizeA Try.prog 31 = some 1 := by kernel_rfl
@[simp] theorem by31 : bytesSz Try.prog 31 = some 8 := by kernel_rfl
@[simp] theorem zero31 : zeroA Try.prog 31 = some (.nilf) := by kernel_rfl
@[simp] theorem sz32 : sizeA Try.prog 32 = some 1 := by kernel_rfl
@[simp] theorem by32 : bytesSz Try.prog 32 = some 8 := by kernel_rfl
@[simp] theorem zero32 : zeroA Try.prog 32 = some (.nilf) := by kernel_rfl
@[simp] theorem sz33 : sizeA Try.prog 33 = some 1 := by kernel_rfl
@[simp] theorem by33 : bytesSz Try.prog 33 = some 24 := by kernel_rfl
@[simp] theorem zero33 : zeroA Try.prog 33 = some (.nils) := by kernel_rfl
@[simp] theorem sz34 : sizeA Try.prog 34 = some 1 := by kernel_rfl
@[simp] theorem by34 : bytesSz Try.prog 34 = some 8 := by kernel_rfl
@[simp] theorem zero34 : zeroA Try.prog 34 = some (.nilf) := by kernel_rfl
@[simp] theorem sz35 : sizeA Try.prog 35 = some 1 := by kernel_rfl
@[simp] theorem by35 : bytesSz Try.prog 35 = some 8 := by kernel_rfl
@[simp] theorem zero35 : zeroA Try.prog 35 = some (.nilf) := by kernel_rfl
@[simp] theorem sz36 : sizeA Try.prog 36 = some 1 := by kernel_rfl
@[simp] theorem by36 : bytesSz Try.prog 36 = some 0 := by kernel_rfl
@[simp] theorem zero36 : zeroA Try.prog 36 = some (.tuple [.int .i64 (0), .bool false]) := by kernel_rfl
@[simp] theorem sz37 : sizeA Try.prog 37 = some 1 := by kernel_rfl
@[simp] theorem by37 : bytesSz Try.prog 37 = some 8 := by kernel_rfl
@[simp] theorem zero37 : zeroA Try.prog 37 = some (.nilf) := by kernel_rfl
@[simp] theorem sz38 : sizeA Try.prog 38 = some 1 := by kernel_rfl
@[simp] theorem by38 : bytesSz Try.prog 38 = some 8 := by kernel_rfl
@[simp] theorem zero38 : zeroA Try.prog 38 = some (.nilf) := by kernel_rfl
@[simp] theorem sz39 : sizeA Try.prog 39 = some 1 := by kernel_rfl
@[simp] theorem by39 : bytesSz Try.prog 39 = some 8 := by kernel_rfl
@[simp] theorem zero39 : zeroA Try.prog 39 = some (.nilf) := by kernel_rfl
@[simp] theorem sz40 : sizeA Try.prog 40 = some 1 := by kernel_rfl
@[simp] theorem by40 : bytesSz Try.prog 40 = some 8 := by kernel_rfl
@[simp] theorem zero40 : zeroA Try.prog 40 = some (.int .i64 (0)) := by kernel_rfl
@[simp] theorem sz41 : sizeA Try.prog 41 = some 1 := by kernel_rfl
@[simp] theorem by41 : bytesSz Try.prog 41 = some 0 := by kernel_rfl
@[simp] theorem zero41 : zeroA Try.prog 41 = some (.tuple [.int .i64 (0), .int .i64 (0)]) := by kernel_rfl
@[simp] theorem sz42 : sizeA Try.prog 42 = some 1 := by kernel_rfl
@[simp] theorem by42 : bytesSz Try.prog 42 = some 8 := by kernel_rfl
@[simp] theorem zero42 : zeroA Try.prog 42 = some (.nilf) := by kernel_rfl
@[simp] theorem sz43 : sizeA Try.prog 43 = some 1 := by kernel_rfl
@[simp] theorem by43 : bytesSz Try.prog 43 = some 8 := by kernel_rfl
@[simp] theorem zero43 : zeroA Try.prog 43 = some (.nilm) := by kernel_rfl
@[simp] theorem sz44 : sizeA Try.prog 44 = some 1 := by kernel_rfl
@[simp] theorem by44 : bytesSz Try.prog 44 = some 8 := by kernel_rfl
@[simp] theorem zero44 : zeroA Try.prog 44 = some (.nilf) := by kernel_rfl
@[simp] theorem sz45 : sizeA Try.prog 45 = some 1 := by kernel_rfl
@[simp] theorem by45 : bytesSz Try.prog 45 = some 8 := by kernel_rfl
@[simp] theorem zero45 : zeroA Try.prog 45 = some (.nilf) := by kernel_rfl
@[simp] theorem sz46 : sizeA Try.prog 46 = some 1 := by kernel_rfl
@[simp] theorem by46 : bytesSz Try.prog 46 = some 8 := by kernel_rfl
@[simp] theorem zero46 : zeroA Try.prog 46 = some (.nilf) := by kernel_rfl
@[simp] theorem sz47 : sizeA Try.prog 47 = some 1 := by kernel_rfl
@[simp] theorem by47 : bytesSz Try.prog 47 = some 8 := by kernel_rfl
@[simp] theorem zero47 : zeroA Try.prog 47 = some (.nilf) := by kernel_rfl
@[simp] theorem sz48 : sizeA Try.prog 48 = some 1 := by kernel_rfl
@[simp] theorem by48 : bytesSz Try.prog 48 = some 8 := by kernel_rfl
@[simp] theorem zero48 : zeroA Try.prog 48 = some (.nilm) := by kernel_rfl
@[simp] theorem sz49 : sizeA Try.prog 49 = some 1 := by kernel_rfl
@[simp] theorem by49 : bytesSz Try.prog 49 = some 8 := by kernel_rfl
@[simp] theorem zero49 : zeroA Try.prog 49 = some (.nilm) := by kernel_rfl
@[simp] theorem sz50 : sizeA Try.prog 50 = some 1 := by kernel_rfl
@[simp] theorem by50 : bytesSz Try.prog 50 = some 24 := by kernel_rfl
@[simp] theorem zero50 : zeroA Try.prog 50 = some (.nils) := by kernel_rfl
@[simp] theorem sz51 : sizeA Try.prog 51 = some 4 := by kernel_rfl
@[simp] theorem by51 : bytesSz Try.prog 51 = some 48 := by kernel_rfl
@[simp] theorem zero51 : zeroA Try.prog 51 = some (.agg [.nilm, .nilm, .nils, .int .i64 (0)]) := by kernel_rfl
@[simp] theorem sz52 : sizeA Try.prog 52 = some 4 := by kernel_rfl
@[simp] theorem by52 : bytesSz Try.prog 52 = some 48 := by kernel_rfl
@[simp] theorem zero52 : zeroA Try.prog 52 = some (.agg [.nilm, .nilm, .nils, .int .i64 (0)]) := by kernel_rfl
@[simp] theorem sz53 : sizeA Try.prog 53 = some 1 := by kernel_rfl
@[simp] theorem by53 : bytesSz Try.prog 53 = some 8 := by kernel_rfl
@[simp] theorem zero53 : zeroA Try.prog 53 = some (.nilp) := by kernel_rfl
@[simp] theorem sz54 : sizeA Try.prog 54 = some 1 := by kernel_rfl
@[simp] theorem by54 : bytesSz Try.prog 54 = some 24 := by kernel_rfl
@[simp] theorem zero54 : zeroA Try.prog 54 = some (.nils) := by kernel_rfl
@[simp] theorem sz55 : sizeA Try.prog 55 = some 2 := by kernel_rfl
@[simp] theorem by55 : bytesSz Try.prog 55 = some 32 := by kernel_rfl
@[simp] theorem zero55 : zeroA Try.prog 55 = some (.agg [.nilp, .nils]) := by kernel_rfl
@[simp] theorem sz56 : sizeA Try.prog 56 = some 2 := by kernel_rfl
@[simp] theorem by56 : bytesSz Try.prog 56 = some 32 := by kernel_rfl
@[simp] theorem zero56 : zeroA Try.prog 56 = some (.agg [.nilp, .nils]) := by kernel_rfl
@[simp] theorem sz57 : sizeA Try.prog 57 = some 1 := by kernel_rfl
@[simp] theorem by57 : bytesSz Try.prog 57 = some 16 := by kernel_rfl
@[simp] theorem zero57 : zeroA Try.prog 57 = some (.top) := by kernel_rfl
@[simp] theorem sz58 : sizeA Try.prog 58 = some 1 := by kernel_rfl
@[simp] theorem by58 : bytesSz Try.prog 58 = some 16 := by kernel_rfl
@[simp] theorem zero58 : zeroA Try.prog 58 = some (.top) := by kernel_rfl
@[simp] theorem sz59 : sizeA Try.prog 59 = some 1 := by kernel_rfl
@[simp] theorem by59 : bytesSz Try.prog 59 = some 0 := by kernel_rfl
@[simp] theorem zero59 : zeroA Try.prog 59 = some (.tuple [.int .i64 (0), .top]) := by kernel_rfl
@[simp] theorem sz60 : sizeA Try.prog 60 = some 1 := by kernel_rfl
@[simp] theorem by60 : bytesSz Try.prog 60 = some 8 := by kernel_rfl
@[simp] theorem zero60 : zeroA Try.prog 60 = some (.nilf) := by kernel_rfl
@[simp] theorem sz61 : sizeA Try.prog 61 = some 1 := by kernel_rfl
@[simp] theorem by61 : bytesSz Try.prog 61 = some 8 := by kernel_rfl
@[simp] theorem zero61 : zeroA Try.prog 61 = some (.nilf) := by kernel_rfl
@[simp] theorem sz62 : sizeA Try.prog 62 = some 1 := by kernel_rfl
@[simp] theorem by62 : bytesSz Try.prog 62 = some 8 := by kernel_rfl
@[simp] theorem zero62 : zeroA Try.prog 62 = some (.nilf) := by kernel_rfl
@[simp] theorem sz63 : sizeA Try.prog 63 = some 1 := by kernel_rfl
@[simp] theorem by63 : bytesSz Try.prog 63 = some 8 := by kernel_rfl
@[simp] theorem zero63 : zeroA Try.prog 63 = some (.nilf) := by kernel_rfl
@[simp] theorem sz64 : sizeA Try.prog 64 = some 1 := by kernel_rfl
@[simp] theorem by64 : bytesSz Try.prog 64 = some 8 := by kernel_rfl
@[simp] theorem zero64 : zeroA Try.prog 64 = some (.nilf) := by kernel_rfl
@[simp] theorem sz65 : sizeA Try.prog 65 = some 1 := by kernel_rfl
@[simp] theorem by65 : bytesSz Try.prog 65 = some 8 := by kernel_rfl
@[simp] theorem zero65 : zeroA Try.prog 65 = some (.nilf) := by kernel_rfl
@[simp] theorem sz66 : sizeA Try.prog 66 = some 1 := by kernel_rfl
@[simp] theorem by66 : bytesSz Try.prog 66 = some 8 := by kernel_rfl
@[simp] theorem zero66 : zeroA Try.prog 66 = some (.nilf) := by kernel_rfl
@[simp] theorem sz67 : sizeA Try.prog 67 = some 1 := by kernel_rfl
@[simp] theorem by67 : bytesSz Try.prog 67 = some 8 := by kernel_rfl
@[simp] theorem zero67 : zeroA Try.prog 67 = some (.nilf) := by kernel_rfl
@[simp] theorem sz68 : sizeA Try.prog 68 = some 2 := by kernel_rfl
@[simp] theorem by68 : bytesSz Try.prog 68 = some 24 := by kernel_rfl
@[simp] theorem zero68 : zeroA Try.prog 68 = some (.agg [.str [], .nilf]) := by kernel_rfl
@[simp] theorem sz69 : sizeA Try.prog 69 = some 2 := by kernel_rfl
@[simp] theorem by69 : bytesSz Try.prog 69 = some 24 := by kernel_rfl
@[simp] theorem zero69 : zeroA Try.prog 69 = some (.agg [.str [], .nilf]) := by kernel_rfl
@[simp] theorem sz70 : sizeA Try.prog 70 = some 1 := by kernel_rfl
@[simp] theorem by70 : bytesSz Try.prog 70 = some 8 := by kernel_rfl
@[simp] theorem zero70 : zeroA Try.prog 70 = some (.nilf) := by kernel_rfl
@[simp] theorem sz71 : sizeA Try.prog 71 = some 1 := by kernel_rfl
@[simp] theorem by71 : bytesSz Try.prog 71 = some 8 := by kernel_rfl
@[simp] theorem zero71 : zeroA Try.prog 71 = some (.nilf) := by kernel_rfl
@[simp] theorem sz72 : sizeA Try.prog 72 = some 1 := by kernel_rfl
@[simp] theorem by72 : bytesSz Try.prog 72 = some 8 := by kernel_rfl
@[simp] theorem zero72 : zeroA Try.prog 72 = some (.nilf) := by kernel_rfl
@[simp] theorem sz73 : sizeA Try.prog 73 = some 1 := by kernel_rfl
@[simp] theorem by73 : bytesSz Try.prog 73 = some 8 := by kernel_rfl
@[simp] theorem zero73 : zeroA Try.prog 73 = some (.nilp) := by kernel_rfl
@[simp] theorem sz74 : sizeA Try.prog 74 = some 1 := by kernel_rfl
@[simp] theorem by74 : bytesSz Try.prog 74 = some 8 := by kernel_rfl
@[simp] theorem zero74 : zeroA Try.prog 74 = some (.nilf) := by kernel_rfl
@[simp] theorem sz75 : sizeA Try.prog 75 = some 1 := by kernel_rfl
@[simp] theorem by75 : bytesSz Try.prog 75 = some 8 := by kernel_rfl
@[simp] theorem zero75 : zeroA Try.prog 75 = some (.nilf) := by kernel_rfl
@[simp] theorem sz76 : sizeA Try.prog 76 = some 1 := by kernel_rfl
@[simp] theorem by76 : bytesSz Try.prog 76 = some 8 := by kernel_rfl
@[simp] theorem zero76 : zeroA Try.prog 76 = some (.nilp) := by kernel_rfl
@[simp] theorem sz77 : sizeA Try.prog 77 = some 1 := by kernel_rfl
@[simp] theorem by77 : bytesSz Try.prog 77 = some 8 := by kernel_rfl
@[simp] theorem zero77 : zeroA Try.prog 77 = some (.nilf) := by kernel_rfl
@[simp] theorem sz78 : sizeA Try.prog 78 = some 1 := by kernel_rfl
@[simp] theorem by78 : bytesSz Try.prog 78 = some 8 := by kernel_rfl
@[simp] theorem zero78 : zeroA Try.prog 78 = some (.nilf) := by kernel_rfl
@[simp] theorem sz79 : sizeA Try.prog 79 = some 1 := by kernel_rfl
@[simp] theorem by79 : bytesSz Try.prog 79 = some 8 := by kernel_rfl
@[simp] theorem zero79 : zeroA Try.prog 79 = some (.nilf) := by kernel_rfl
@[simp] theorem sz80 : sizeA Try.prog 80 = some 1 := by kernel_rfl
@[simp] theorem by80 : bytesSz Try.prog 80 = some 8 := by kernel_rfl
@[simp] theorem zero80 : zeroA Try.prog 80 = some (.nilf) := by kernel_rfl
@[simp] theorem sz81 : sizeA Try.prog 81 = some 1 := by kernel_rfl
@[simp] theorem by81 : bytesSz Try.prog 81 = some 8 := by kernel_rfl
@[simp] theorem zero81 : zeroA Try.prog 81 = some (.nilf) := by kernel_rfl
@[simp] theorem sz82 : sizeA Try.prog 82 = some 1 := by kernel_rfl
@[simp] theorem by82 : bytesSz Try.prog 82 = some 8 := by kernel_rfl
@[simp] theorem zero82 : zeroA Try.prog 82 = some (.int .u64 (0)) := by kernel_rfl
@[simp] theorem sz83 : sizeA Try.prog 83 = some 1 := by kernel_rfl
@[simp] theorem by83 : bytesSz Try.prog 83 = some 8 := by kernel_rfl
@[simp] theorem zero83 : zeroA Try.prog 83 = some (.nilf) := by kernel_rfl
@[simp] theorem sz84 : sizeA Try.prog 84 = some 1 := by kernel_rfl
@[simp] theorem by84 : bytesSz Try.prog 84 = some 8 := by kernel_rfl
@[simp] theorem zero84 : zeroA Try.prog 84 = some (.int .i64 (0)) := by kernel_rfl
@[simp] theorem sz85 : sizeA Try.prog 85 = some 1 := by kernel_rfl
@[simp] theorem by85 : bytesSz Try.prog 85 = some 0 := by kernel_rfl
@[simp] theorem zero85 : zeroA Try.prog 85 = some (.tuple [.int .i64 (0), .int .i64 (0)]) := by kernel_rfl
@[simp] theorem sz86 : sizeA Try.prog 86 = some 1 := by kernel_rfl
@[simp] theorem by86 : bytesSz Try.prog 86 = some 8 := by kernel_rfl
@[simp] theorem zero86 : zeroA Try.prog 86 = some (.nilf) := by kernel_rfl
@[simp] theorem sz87 : sizeA Try.prog 87 = some 1 := by kernel_rfl
@[simp] theorem by87 : bytesSz Try.prog 87 = some 8 := by kernel_rfl
@[simp] theorem zero87 : zeroA Try.prog 87 = some (.nilf) := by kernel_rfl
@[simp] theorem sz88 : sizeA Try.prog 88 = some 1 := by kernel_rfl
@[simp] theorem by88 : bytesSz Try.prog 88 = some 8 := by kernel_rfl
@[simp] theorem zero88 : zeroA Try.prog 88 = some (.nilf) := by kernel_rfl
@[simp] theorem sz89 : sizeA Try.prog 89 = some 1 := by kernel_rfl
@[simp] theorem by89 : bytesSz Try.prog 89 = some 8 := by kernel_rfl
@[simp] theorem zero89 : zeroA Try.prog 89 = some (.nilf) := by kernel_rfl
@[simp] theorem sz90 : sizeA Try.prog 90 = some 1 := by kernel_rfl
@[simp] theorem by90 : bytesSz Try.prog 90 = some 8 := by kernel_rfl
@[simp] theorem zero90 : zeroA Try.prog 90 = some (.nilf) := by kernel_rfl
@[simp] theorem sz91 : sizeA Try.prog 91 = some 1 := by kernel_rfl
@[simp] theorem by91 : bytesSz Try.prog 91 = some 8 := by kernel_rfl
@[simp] theorem zero91 : zeroA Try.prog 91 = some (.nilf) := by kernel_rfl
@[simp] theorem sz92 : sizeA Try.prog 92 = some 1 := by kernel_rfl
@[simp] theorem by92 : bytesSz Try.prog 92 = some 4 := by kernel_rfl
@[simp] theorem zero92 : zeroA Try.prog 92 = some (.int .u32 (0)) := by kernel_rfl
@[simp] theorem sz93 : sizeA Try.prog 93 = some 1 := by kernel_rfl
@[simp] theorem by93 : bytesSz Try.prog 93 = some 8 := by kernel_rfl
@[simp] theorem zero93 : zeroA Try.prog 93 = some (.nilf) := by kernel_rfl
@[simp] theorem sz94 : sizeA Try.prog 94 = some 1 := by kernel_rfl
@[simp] theorem by94 : bytesSz Try.prog 94 = some 8 := by kernel_rfl
@[simp] theorem zero94 : zeroA Try.prog 94 = some (.int .u64 (0)) := by kernel_rfl
@[simp] theorem sz95 : sizeA Try.prog 95 = some 1 := by kernel_rfl
@[simp] theorem by95 : bytesSz Try.prog 95 = some 8 := by kernel_rfl
@[simp] theorem zero95 : zeroA Try.prog 95 = some (.int .u64 (0)) := by kernel_rfl
@[simp] theorem sz96 : sizeA Try.prog 96 = some 1 := by kernel_rfl
@[simp] theorem by96 : bytesSz Try.prog 96 = some 8 := by kernel_rfl
@[simp] theorem zero96 : zeroA Try.prog 96 = some (.nilf) := by kernel_rfl
@[simp] theorem sz97 : sizeA Try.prog 97 = some 1 := by kernel_rfl
@[simp] theorem by97 : bytesSz Try.prog 97 = some 8 := by kernel_rfl
@[simp] theorem zero97 : zeroA Try.prog 97 = some (.nilf) := by kernel_rfl
@[simp] theorem sz98 : sizeA Try.prog 98 = some 1 := by kernel_rfl
@[simp] theorem by98 : bytesSz Try.prog 98 = some 8 := by kernel_rfl
@[simp] theorem zero98 : zeroA Try.prog 98 = some (.nilf) := by kernel_rfl
@[simp] theorem sz99 : sizeA Try.prog 99 = some 1 := by kernel_rfl
@[simp] theorem by99 : bytesSz Try.prog 99 = some 8 := by kernel_rfl
@[simp] theorem zero99 : zeroA Try.prog 99 = some (.nilp) := by kernel_rfl
@[simp] theorem sz100 : sizeA Try.prog 100 = some 1 := by kernel_rfl
@[simp] theorem by100 : bytesSz Try.prog 100 = some 8 := by kernel_rfl
@[simp] theorem zero100 : zeroA Try.prog 100 = some (.nilf) := by kernel_rfl
@[simp] theorem sz101 : sizeA Try.prog 101 = some 1 := by kernel_rfl
@[simp] theorem by101 : bytesSz Try.prog 101 = some 8 := by kernel_rfl
@[simp] theorem zero101 : zeroA Try.prog 101 = some (.nilp) := by kernel_rfl
@[simp] theorem sz102 : sizeA Try.prog 102 = some 1 := by kernel_rfl
@[simp] theorem by102 : bytesSz Try.prog 102 = some 0 := by kernel_rfl
@[simp] theorem zero102 : zeroA Try.prog 102 = some (.tuple [.int .i64 (0), .int .i64 (0)]) := by kernel_rfl
@[simp] theorem sz103 : sizeA Try.prog 103 = some 1 := by kernel_rfl
@[simp] theorem by103 : bytesSz Try.prog 103 = some 8 := by kernel_rfl
@[simp] theorem zero103 : zeroA Try.prog 103 = some (.nilf) := by kernel_rfl
@[simp] theorem sz104 : sizeA Try.prog 104 = some 4 := by kernel_rfl
@[simp] theorem by104 : bytesSz Try.prog 104 = some 40 := by kernel_rfl
@[simp] theorem zero104 : zeroA Try.prog 104 = some (.agg [.nilp, .nilp, .nilp, .str []]) := by kernel_rfl
@[simp] theorem sz105 : sizeA Try.prog 105 = some 4 := by kernel_rfl
@[simp] theorem by105 : bytesSz Try.prog 105 = some 40 := by kernel_rfl
@[simp] theorem zero105 : zeroA Try.prog 105 = some (.agg [.nilp, .nilp, .nilp, .str []]) := by kernel_rfl
@[simp] theorem sz106 : sizeA Try.prog 106 = some 0 := by kernel_rfl
@[simp] theorem by106 : bytesSz Try.prog 106 = some 0 := by kernel_rfl
@[simp] theorem zero106 : zeroA Try.prog 106 = some (.agg []) := by kernel_rfl
@[simp] theorem sz107 : sizeA Try.prog 107 = some 0 := by kernel_rfl
@[simp] theorem by107 : bytesSz Try.prog 107 = some 0 := by kernel_rfl
@[simp] theorem zero107 : zeroA Try.prog 107 = some (.agg []) := by kernel_rfl
@[simp] theorem sz108 : sizeA Try.prog 108 = some 0 := by kernel_rfl
@[simp] theorem by108 : bytesSz Try.prog 108 = some 0 := by kernel_rfl
@[simp] theorem zero108 : zeroA Try.prog 108 = some (.agg []) := by kernel_rfl
@[simp] theorem sz109 : sizeA Try.prog 109 = some 1 := by kernel_rfl
@[simp] theorem by109 : bytesSz Try.prog 109 = some 1 := by kernel_rfl
@[simp] theorem zero109 : zeroA Try.prog 109 = some (.int .u8 (0)) := by kernel_rfl
@[simp] theorem sz110 : sizeA Try.prog 110 = some 1 := by kernel_rfl
@[simp] theorem by110 : bytesSz Try.prog 110 = some 1 := by kernel_rfl
@[simp] theorem zero110 : zeroA Try.prog 110 = some (.int .u8 (0)) := by kernel_rfl
@[simp] theorem sz111 : sizeA Try.prog 111 = some 1 := by kernel_rfl
@[simp] theorem by111 : bytesSz Try.prog 111 = some 8 := by kernel_rfl
@[simp] theorem zero111 : zeroA Try.prog 111 = some (.nilf) := by kernel_rfl
@[simp] theorem sz112 : sizeA Try.prog 112 = some 1 := by kernel_rfl
@[simp] theorem by112 : bytesSz Try.prog 112 = some 4 := by kernel_rfl
@[simp] theorem zero112 : zeroA Try.prog 112 = some (.int .i32 (0)) := by kernel_rfl
@[simp] theorem sz113 : sizeA Try.prog 113 = some 1 := by kernel_rfl
@[simp] theorem by113 : bytesSz Try.prog 113 = some 4 := by kernel_rfl
@[simp] theorem zero113 : zeroA Try.prog 113 = some (.int .i32 (0)) := by kernel_rfl
@[simp] theorem sz114 : sizeA Try.prog 114 = some 11 := by kernel_rfl
@[simp] theorem by114 : bytesSz Try.prog 114 = some 48 := by kernel_rfl
@[simp] theorem zero114 : zeroA Try.prog 114 = some (.agg [.int .u64 (0), .int .u64 (0), .int .u32 (0), .int .u8 (0), .int .u8 (0), .int .u8 (0), .int .u8 (0), .nilf, .nilp, .int .i32 (0), .int .i32 (0)]) := by kernel_rfl
@[simp] theorem sz115 : sizeA Try.prog 115 = some 11 := by kernel_rfl
@[simp] theorem by115 : bytesSz Try.prog 115 = some 48 := by kernel_rfl
@[simp] theorem zero115 : zeroA Try.prog 115 = some (.agg [.int .u64 (0), .int .u64 (0), .int .u32 (0), .int .u8 (0), .int .u8 (0), .int .u8 (0), .int .u8 (0), .nilf, .nilp, .int .i32 (0), .int .i32 (0)]) := by kernel_rfl
@[simp] theorem fe7 : flatEq Try.prog 7 = some 4 := by kernel_rfl
@[simp] theorem fe8 : flatEq Try.prog 8 = some 4 := by kernel_rfl
@[simp] theorem fe27 : flatEq Try.prog 27 = some 5 := by kernel_rfl
@[simp] theorem fe28 : flatEq Try.prog 28 = some 5 := by kernel_rfl
@[simp] theorem fn2 : fnOf Try.prog 2 = some Try.f2 := Try.func2
@[simp] theorem fn3 : fnOf Try.prog 3 = some Try.f3 := Try.func3
@[simp] theorem fn4 : fnOf Try.prog 4 = some Try.f4 := Try.func4
@[simp] theorem fn5 : fnOf Try.prog 5 = some Try.f5 := Try.func5
@[simp] theorem fn6 : fnOf Try.prog 6 = some Try.f6 := Try.func6
@[simp] theorem fn7 : fnOf Try.prog 7 = some Try.f7 := Try.func7
@[simp] theorem fn8 : fnOf Try.prog 8 = some Try.f8 := Try.func8
@[simp] theorem fn9 : fnOf Try.prog 9 = some Try.f9 := Try.func9
@[simp] theorem fn10 : fnOf Try.prog 10 = some Try.f10 := Try.func10
@[simp] theorem fn11 : fnOf Try.prog 11 = some Try.f11 := Try.func11
@[simp] theorem fn12 : fnOf Try.prog 12 = some Try.f12 := Try.func12
@[simp] theorem fn13 : fnOf Try.prog 13 = some Try.f13 := Try.func13
@[simp] theorem fn14 : fnOf Try.prog 14 = some Try.f14 := Try.func14
@[simp] theorem fn15 : fnOf Try.prog 15 = some Try.f15 := Try.func15
@[simp] theorem fn16 : fnOf Try.prog 16 = some Try.f16 := Try.func16
@[simp] theorem fn17 : fnOf Try.prog 17 = some Try.f17 := Try.func17
@[simp] theorem fn18 : fnOf Try.prog 18 = some Try.f18 := Try.func18
@[simp] theorem fn19 : fnOf Try.prog 19 = some Try.f19 := Try.func19
@[simp] theorem fn20 : fnOf Try.prog 20 = some Try.f20 := Try.func20
@[simp] theorem fn21 : fnOf Try.prog 21 = some Try.f21 := Try.func21
@[simp] theorem fn22 : fnOf Try.prog 22 = some Try.f22 := Try.func22
@[simp] theorem fn23 : fnOf Try.prog 23 = some Try.f23 := Try.func23
@[simp] theorem fn24 : fnOf Try.prog 24 = some Try.f24 := Try.func24
@[simp] theorem fn25 : fnOf Try.prog 25 = some Try.f25 := Try.func25
@[simp] theorem fn26 : fnOf Try.prog 26 = some Try.f26 := Try.func26
@[simp] theorem fn27 : fnOf Try.prog 27 = some Try.f27 := Try.func27
@[simp] theorem fn28 : fnOf Try.prog 28 = some Try.f28 := Try.func28
@[simp] theorem fn29 : fnOf Try.prog 29 = some Try.f29 := Try.func29
@[simp] theorem fn30 : fnOf Try.prog 30 = some Try.f30 := Try.func30
@[simp] theorem fn31 : fnOf Try.prog 31 = some Try.f31 := Try.func31
@[simp] theorem fn32 : fnOf Try.prog 32 = some Try.f32 := Try.func32
@[simp] theorem fn33 : fnOf Try.prog 33 = some Try.f33 := Try.func33
@[simp] theorem fn34 : fnOf Try.prog 34 = some Try.f34 := Try.func34
@[simp] theorem fn35 : fnOf Try.prog 35 = some Try.f35 := Try.func35
@[simp] theorem fn36 : fnOf Try.prog 36 = some Try.f36 := Try.func36
@[simp] theorem fn37 : fnOf Try.prog 37 = some Try.f37 := Try.func37
@[simp] theorem fn41 : fnOf Try.prog 41 = some Try.f41 := Try.func41
@[simp] theorem fn42 : fnOf Try.prog 42 = some Try.f42 := Try.func42
@[simp] theorem fn43 : fnOf Try.prog 43 = some Try.f43 := Try.func43
@[simp] theorem fn44 : fnOf Try.prog 44 = some Try.f44 := Try.func44
@[simp] theorem fn45 : fnOf Try.prog 45 = some Try.f45 := Try.func45
@[simp] theorem fn46 : fnOf Try.prog 46 = some Try.f46 := Try.func46
@[simp] theorem fn47 : fnOf Try.prog 47 = some Try.f47 := Try.func47
@[simp] theorem fn48 : fnOf Try.prog 48 = some Try.f48 := Try.func48
@[simp] theorem fn49 : fnOf Try.prog 49 = some Try.f49 := Try.func49
@[simp] theorem fn50 : fnOf Try.prog 50 = some Try.f50 := Try.func50
@[simp] theorem fn51 : fnOf Try.prog 51 = some Try.f51 := Try.func51
@[simp] theorem fn52 : fnOf Try.prog 52 = some Try.f52 := Try.func52
@[simp] theorem fn53 : fnOf Try.prog 53 = some Try.f53 := Try.func53
@[simp] theorem fn54 : fnOf Try.prog 54 = some Try.f54 := Try.func54
@[simp] theorem fn55 : fnOf Try.prog 55 = some Try.f55 := Try.func55
@[simp] theorem fn56 : fnOf Try.prog 56 = some Try.f56 := Try.func56
@[simp] theorem fn57 : fnOf Try.prog 57 = some Try.f57 := Try.func57
@[simp] theorem fn58 : fnOf Try.prog 58 = some Try.f58 := Try.func58
@[simp] theorem fn59 : fnOf Try.prog 59 = some Try.f59 := Try.func59
@[simp] theorem fn60 : fnOf Try.prog 60 = some Try.f60 := Try.func60
@[simp] theorem fn61 : fnOf Try.prog 61 = some Try.f61 := Try.func61
attribute [simp] Try.underlying0 Try.underlying1 Try.underlying2 Try.underlying3 Try.underlying4 Try.underlying5 Try.underlying6 Try.underlying7 Try.underlying8 Try.underlying9 Try.underlying10 Try.underlying11 Try.underlying12 Try.underlying13 Try.underlying14 Try.underlying15 Try.underlying16 Try.underlying17 Try.underlying18 Try.underlying19 Try.underlying20 Try.underlying21 Try.underlying22 Try.underlying23 Try.underlying24 Try.underlying25 Try.underlying26 Try.underlying27 Try.underlying28 Try.underlying29 Try.underlying30 Try.underlying31 Try.underlying32 Try.underlying33 Try.underlying34 Try.underlying35 Try.underlying36 Try.underlying37 Try.underlying38 Try.underlying39 Try.underlying40 Try.underlying41 Try.underlying42 Try.underlying43 Try.underlying44 Try.underlying45 Try.underlying46 Try.underlying47 Try.underlying48 Try.underlying49 Try.underlying50 Try.underlying51 Try.underlying52 Try.underlying53 Try.underlying54 Try.underlying55 Try.underlying56 Try.underlying57 Try.underlying58 Try.underlying59 Try.underlying60 Try.underlying61 Try.underlying62 Try.underlying63 Try.underlying64 Try.underlying65 Try.underlying66 Try.underlying67 Try.underlying68 Try.underlying69 Try.underlying70 Try.underlying71 Try.underlying72 Try.underlying73 Try.underlying74 Try.underlying75 Try.underlying76 Try.underlying77 Try.underlying78 Try.underlying79 Try.underlying80 Try.underlying81 Try.underlying82 Try.underlying83 Try.underlying84 Try.underlying85 Try.underlying86 Try.underlying87 Try.underlying88 Try.underlying89 Try.underlying90 Try.underlying91 Try.underlying92 Try.underlying93 Try.underlying94 Try.underlying95 Try.underlying96 Try.underlying97 Try.underlying98 Try.underlying99 Try.underlying100 Try.underlying101 Try.underlying102 Try.underlying103 Try.underlying104 Try.underlying105 Try.underlying106 Try.underlying107 Try.underlying108 Try.underlying109 Try.underlying110 Try.underlying111 Try.underlying112 Try.underlying113 Try.underlying114 Try.underlying115
end Go.Proofs.Ytjiilgpagpfdnaa
