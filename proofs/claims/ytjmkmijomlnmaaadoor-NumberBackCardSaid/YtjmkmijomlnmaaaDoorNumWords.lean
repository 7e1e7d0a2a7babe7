/- Words of the number layer's proofs. -/
import Derived.Test.YtjmkmijomlnmaaaDoorAmWp
import Derived.Test.YtjmkmijomlnmaaaDoorAmPure
namespace Go.Am
open Go
def asTab : List Value := (List.range 256).map fun i => .bool (decide (48 ≤ i) && decide (i ≤ 57))
def hLit9 : AHeap := H0 9 []
def cut10 : Value := .string (bs [48, 49, 50, 51, 52, 53, 54, 55, 56, 57])
/-- The two digits of each number below 100, in a row. -/
def smalls : ByteArray := ⟨⟨(List.range 100).flatMap fun i => [UInt8.ofNat (48 + i / 10), UInt8.ofNat (48 + i % 10)]⟩⟩
def digs36 : ByteArray := bs [48, 49, 50, 51, 52, 53, 54, 55, 56, 57, 97, 98, 99, 100, 101, 102, 103, 104, 105, 106, 107, 108, 109, 110, 111, 112, 113, 114, 115, 116, 117, 118, 119, 120, 121, 122]
def len8 : ByteArray := ⟨⟨(List.range 256).map fun i => UInt8.ofNat (if i = 0 then 0 else Nat.log2 i + 1)⟩⟩
def pow10s : List Value := (List.range 20).map fun i => .int .u64 ((10 : Int) ^ i)
def hNum : AHeap := H0 9 [(2, pow10s)]
def intV (n : Int) : Value := .int .i64 n
def spansV : List Value := [.int .u32 0, .int .u32 0, .int .i64 1, .int .u32 23456, .int .u32 23456, .int .i64 2, .int .u32 64512, .int .u32 65534, .int .i64 3, .int .u32 4200000000, .int .u32 4294967294, .int .i64 3, .int .u32 64496, .int .u32 64511, .int .i64 4, .int .u32 65535, .int .u32 65551, .int .i64 4, .int .u32 4294967295, .int .u32 4294967295, .int .i64 4]
def hSp : AHeap := H0 9 [(0, spansV)]
end Go.Am
