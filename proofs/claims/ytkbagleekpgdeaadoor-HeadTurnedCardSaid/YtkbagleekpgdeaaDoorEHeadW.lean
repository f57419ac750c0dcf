/- What functions of the given program do, one after the other, told by that layer. -/
import Derived.Test.YtkbagleekpgdeaaDoorEHead
namespace Go.Hd
open Go.Cv Go.Sha
/-- The private key of a hop, by a text and its number. -/
def privR (s : List UInt8) (i : Nat) : List UInt8 := derive s [112, 114, 105, 118, 97, 116, 101, UInt8.ofNat (48 + i)] 32
/-- What the example has: the seed, the hop's private key, its point, the secret, the keys, the header. -/
def exSeed : List UInt8 := [45, 231, 111, 218, 57, 238, 175, 120, 9, 119, 206, 202, 247, 97, 14, 51, 195, 114, 225, 194, 123, 249, 10, 39, 85, 89, 218, 246, 129, 4, 150, 113]
def exPriv : List UInt8 := [70, 28, 6, 198, 212, 219, 135, 8, 153, 106, 166, 23, 34, 106, 7, 102, 154, 152, 111, 151, 179, 205, 111, 67, 152, 220, 11, 163, 2, 97, 73, 86]
def exPub : List UInt8 := [146, 12, 176, 174, 186, 209, 41, 87, 66, 66, 244, 114, 178, 153, 86, 235, 87, 118, 129, 23, 157, 219, 202, 254, 225, 181, 133, 122, 129, 168, 165, 92]
def exSec : List UInt8 := [254, 239, 51, 236, 58, 243, 253, 245, 145, 123, 131, 119, 220, 182, 30, 250, 130, 250, 238, 201, 52, 5, 127, 221, 82, 255, 183, 45, 97, 163, 93, 36]
def exKeys : HK := ⟨[206, 34, 35, 239, 17, 175, 55, 251, 199, 97, 121, 59, 45, 237, 38, 37, 60, 74, 158, 39, 141, 152, 209, 50, 76, 74, 65, 116, 210, 168, 2, 164], [149, 63, 137, 70, 59, 211, 254, 135, 198, 236, 210, 127, 41, 133, 66, 95, 143, 16, 90, 84, 214, 54, 215, 3, 114, 92, 118, 242, 227, 199, 193, 178], [157, 107, 182, 186, 210, 86, 27, 84, 12, 210, 157, 37, 26, 20, 211, 130, 243, 200, 77, 99, 176, 99, 56, 44, 151, 239, 29, 135, 155, 177, 65, 28], [255, 31, 97, 140, 192, 20, 175, 146, 72, 11, 14, 253, 85, 238, 39, 126, 61, 209, 65, 143, 180, 50, 97, 172, 172, 241, 34, 134, 152, 59, 5, 161], [136, 141, 211, 213, 227, 17, 241, 76, 151, 244, 243, 154, 119, 242, 161, 243]⟩
def exHead : List UInt8 := [29, 39, 31, 185, 158, 147, 244, 14, 125, 237, 136, 121, 104, 240, 83, 178, 128, 28, 201, 157, 140, 211, 243, 210, 157, 233, 36, 6, 11, 195, 213, 6, 211, 71, 160, 163, 54, 173, 48, 212, 215, 12, 83, 101, 217, 183, 122, 97, 145, 13, 52, 208, 5, 249, 52, 230, 149, 53, 249, 61, 133, 130, 142, 147, 126, 230, 161, 249, 237, 254, 240, 46, 91, 83, 92, 91, 71, 255, 6, 210, 233, 107, 38, 199, 106, 101, 32, 18, 200, 60, 70, 255, 163, 243, 155, 204, 134, 69, 237, 150, 152, 239, 227, 17, 63, 40, 82, 246, 94, 200, 77, 8, 55, 204, 85, 23, 24, 214, 62, 243, 124, 26, 46, 24, 1, 96, 146, 249, 48, 115, 3, 116, 15, 132, 196, 156, 41, 71, 238, 156, 182, 153, 2, 18, 169, 113, 2, 163, 252, 125, 172, 20, 195, 52, 154, 235, 208, 194, 248, 78, 209, 126, 159, 202, 92, 87, 47, 69, 156, 27, 184, 34, 149, 238, 227, 94, 148, 121, 113, 227, 142, 11, 83, 112, 36, 102, 145, 232, 25, 69, 82, 149, 78, 158, 92, 97, 58, 144, 113, 112, 117, 97, 57, 219, 159, 235, 228, 65, 222, 198, 7, 144, 150, 195, 55, 182, 67, 103, 54, 142, 30, 207, 142, 151, 235, 200, 108, 80, 221, 174, 226, 242, 235, 115, 212, 156, 2, 189, 101, 55, 180, 194, 198, 71, 235, 225, 114, 30]
set_option maxRecDepth 1000000
theorem ex_seed : privR [115, 101, 101, 100] 0 = exSeed := by decide +kernel
theorem ex_priv : privR [97] 0 = exPriv := by decide +kernel
theorem ex_pub : publicR exPriv = (exPub, 0) := by decide +kernel
theorem ex_shared : sharedR exSeed exPub = (exSec, 0) := by decide +kernel
theorem ex_keys : keysOf exSec = exKeys := by decide +kernel
theorem ex_head : headR exSeed [exKeys] [[4, 0, 0, 0, 0, 0, 0, 0, 0, 0, 0, 0, 0, 0, 0, 0, 0, 0, 0, 0, 0, 0, 0, 0]] = exHead := by decide +kernel
theorem ex_back : sharedR exPriv (exHead.take 32) = (exSec, 0) := by decide +kernel
theorem ex_mac : macX exKeys (exHead.drop 48) = (exHead.drop 32).take 16 := by decide +kernel
theorem ex_open : (flowX exKeys (exHead.drop 48 ++ List.replicate 40 0) 0).take 24 = [4, 0, 0, 0, 0, 0, 0, 0, 0, 0, 0, 0, 0, 0, 0, 0, 0, 0, 0, 0, 0, 0, 0, 0] := by decide +kernel
theorem ex_hops : hopsGo [exSeed] [exPub] = ([exSec], 0) := by
  have h : chainR exPub [exSeed] = (exSec, 0) := by
    unfold chainR
    rw [if_neg (by decide), if_neg (by decide), chainGo, ex_shared]
    rfl
  rw [hopsGo, h]
  rfl
end Go.Hd
