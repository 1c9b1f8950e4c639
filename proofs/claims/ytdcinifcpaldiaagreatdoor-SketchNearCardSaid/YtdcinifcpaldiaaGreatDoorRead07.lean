/- The document's cursor: Read of a number. No statement is proved here. -/
import Derived.Test.YtdcinifcpaldiaaGreatDoorRunvar
namespace Go.Proofs.YtdcinifcpaldiaaGreatDoor
open Go.RowKit

def pieceL (x : Nat) : List Value := [.int .i64 0, .int .u64 (x : Int), .int .u8 0, .int .u8 0, .int .u8 0, .int .u8 0, .int .u8 0, .int .u8 0, .int .u8 0, .int .u8 0, .int .u8 0, .slice none 0 0, .int .i64 0]
def pieceV (x : Nat) : Value := .agg #[.int .i64 0, .int .u64 (x : Int), .int .u8 0, .int .u8 0, .int .u8 0, .int .u8 0, .int .u8 0, .int .u8 0, .int .u8 0, .int .u8 0, .int .u8 0, .slice none 0 0, .int .i64 0]
end Go.Proofs.YtdcinifcpaldiaaGreatDoor
