/- THE PLAIN LAW OF SHA-256's block; no program in sight. No conditions. -/
import Derived.Test.YtdhafmjhohnclaaShaMath
namespace Go.Proofs.Ytdhafmjhohnclaa
open Go Sums

def tabK : List (BitVec 32) := [1116352408#32, 1899447441#32, 3049323471#32, 3921009573#32, 961987163#32, 1508970993#32, 2453635748#32, 2870763221#32, 3624381080#32, 310598401#32, 607225278#32, 1426881987#32, 1925078388#32, 2162078206#32, 2614888103#32, 3248222580#32, 3835390401#32, 4022224774#32, 264347078#32, 604807628#32, 770255983#32, 1249150122#32, 1555081692#32, 1996064986#32, 2554220882#32, 2821834349#32, 2952996808#32, 3210313671#32, 3336571891#32, 3584528711#32, 113926993#32, 338241895#32, 666307205#32, 773529912#32, 1294757372#32, 1396182291#32, 1695183700#32, 1986661051#32, 2177026350#32, 2456956037#32, 2730485921#32, 2820302411#32, 3259730800#32, 3345764771#32, 3516065817#32, 3600352804#32, 4094571909#32, 275423344#32, 430227734#32, 506948616#32, 659060556#32, 883997877#32, 958139571#32, 1322822218#32, 1537002063#32, 1747873779#32, 1955562222#32, 2024104815#32, 2227730452#32, 2361852424#32, 2428436474#32, 2756734187#32, 3204031479#32, 3329325298#32]
def sx (x : BitVec 32) : BitVec 32 := (rotl x 25 ^^^ rotl x 14) ^^^ (x >>> 3)
def sy (y : BitVec 32) : BitVec 32 := (rotl y 15 ^^^ rotl y 13) ^^^ (y >>> 10)
def sched2 (s : ByteArray) : Nat → List (BitVec 32)
  | 0 => []
  | i + 1 => sched2 s i ++ [if i < 16 then wordAt s (4 * i) else ((at32 (sched2 s i) (i - 16) + sx (at32 (sched2 s i) (i - 15))) + at32 (sched2 s i) (i - 7)) + sy (at32 (sched2 s i) (i - 2))]
theorem sched2_len (s : ByteArray) : ∀ i, (sched2 s i).length = i
  | 0 => rfl
  | i + 1 => by unfold sched2; rw [List.length_append, sched2_len s i]; rfl
structure W8 where
  v0 : BitVec 32
  v1 : BitVec 32
  v2 : BitVec 32
  v3 : BitVec 32
  v4 : BitVec 32
  v5 : BitVec 32
  v6 : BitVec 32
  v7 : BitVec 32
def tT (k x : BitVec 32) (v : W8) : BitVec 32 := (((v.v7 + ((rotl v.v4 26 ^^^ rotl v.v4 21) ^^^ rotl v.v4 7)) + ((v.v4 &&& v.v5) ^^^ (~~~v.v4 &&& v.v6))) + k) + x
def uU (v : W8) : BitVec 32 := ((rotl v.v0 30 ^^^ rotl v.v0 19) ^^^ rotl v.v0 10) + (((v.v0 &&& v.v1) ^^^ (v.v0 &&& v.v2)) ^^^ (v.v1 &&& v.v2))
def step2 (k x : BitVec 32) (v : W8) : W8 := ⟨tT k x v + uU v, v.v0, v.v1, v.v2, v.v3 + tT k x v, v.v4, v.v5, v.v6⟩
def steps2 (l : List (BitVec 32)) (v : W8) : Nat → W8
  | 0 => v
  | i + 1 => step2 (at32 tabK i) (at32 l i) (steps2 l v i)
def blk2 (s : ByteArray) (h : List (BitVec 32)) : List (BitVec 32) :=
  let v := steps2 (sched2 s 64) ⟨at32 h 0, at32 h 1, at32 h 2, at32 h 3, at32 h 4, at32 h 5, at32 h 6, at32 h 7⟩ 64
  [at32 h 0 + v.v0, at32 h 1 + v.v1, at32 h 2 + v.v2, at32 h 3 + v.v3, at32 h 4 + v.v4, at32 h 5 + v.v5, at32 h 6 + v.v6, at32 h 7 + v.v7]
end Go.Proofs.Ytdhafmjhohnclaa
