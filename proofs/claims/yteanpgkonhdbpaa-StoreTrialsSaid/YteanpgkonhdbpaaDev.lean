/- The plain state of a flash device and its steps; how a device and a reference's value lie in memory. -/
import Derived.Test.YteanpgkonhdbpaaRef05
namespace Go.Proofs.Yteanpgkonhdbpaa
open Go.RowKit

structure Dev where
  ns : Nat
  nw : Nat
  lim : Nat
  bits : List Nat
  worn : List Nat
  on : Bool
  armed : Bool
  left : Nat
  seed : Nat
  ops : Int
structure Dev.Ok (d : Dev) : Prop where
  ns1 : 1 ≤ d.ns
  ns2 : d.ns ≤ 64
  nw1 : 1 ≤ d.nw
  nw2 : d.nw ≤ 1024
  lim2 : d.lim ≤ 1048576
  blen : d.bits.length = d.ns * d.nw
  wlen : d.worn.length = d.ns
  bit : ∀ x ∈ d.bits, x < 4294967296
  wear : ∀ x ∈ d.worn, x ≤ d.lim
  seed2 : d.seed < 4294967296
  left2 : d.left ≤ 9223372036854775807
abbrev natsV (l : List Nat) : List Value := l.map (fun x : Nat => Value.int .i64 (x : Int))
def newD (s n l : Nat) : Dev := ⟨s, n, l, List.replicate (s * n) 4294967295, List.replicate s 0, true, false, 0, 0, 0⟩
/-- One more operation: does the power go? -/
def goesS (d : Dev) : Dev × Bool :=
  if d.armed then (if 0 < d.left then ({ d with ops := wrap64 (d.ops + 1), left := d.left - 1 }, false) else ({ d with ops := wrap64 (d.ops + 1), on := false, armed := false }, true))
  else ({ d with ops := wrap64 (d.ops + 1) }, false)
def isS (d : Dev) (s w : Int) : Bool := decide (0 ≤ s ∧ s < d.ns ∧ 0 ≤ w ∧ w < d.nw)
def atS (d : Dev) (s w : Int) : Nat := s.toNat * d.nw + w.toNat
def atV (d : Dev) (s w : Int) : Int := if isS d s w then (atS d s w : Int) else -1
def readS (d : Dev) (s w : Int) : Nat × Int :=
  if d.on = false then (0, 63) else if isS d s w then (d.bits.getD (atS d s w) 0, 0) else (0, 60)
def progS (d : Dev) (s w : Int) (v : Nat) : Dev × Int :=
  if d.on = false then (d, 63) else if isS d s w = false then (d, 60)
  else
    let i := atS d s w
    let b := d.bits.getD i 0
    if v ||| b ≠ b then (d, 61)
    else
      let r := goesS d
      if r.2 then ({ r.1 with bits := d.bits.set i (b &&& (v ||| max d.seed 1)) }, 63) else ({ r.1 with bits := d.bits.set i v }, 0)
def eraseBits (torn : Bool) (seed : Nat) (l : List Nat) (base : Nat) : Nat → List Nat
  | 0 => l
  | k + 1 => (eraseBits torn seed l base k).set (base + k) (if torn then (l.getD (base + k) 0) ||| mSeq (max seed 1) k else 4294967295)
def eraseS (d : Dev) (s : Int) : Dev × Int :=
  if d.on = false then (d, 63) else if ¬ (0 ≤ s ∧ s < d.ns) then (d, 60)
  else if d.lim ≤ d.worn.getD s.toNat 0 then (d, 62)
  else
    let r := goesS { d with worn := d.worn.set s.toNat (d.worn.getD s.toNat 0 + 1) }
    ({ r.1 with bits := eraseBits r.2 d.seed d.bits (s.toNat * d.nw) d.nw }, if r.2 then 63 else 0)
def armS (d : Dev) (n : Int) (seed : Nat) : Dev := { d with armed := true, left := n.toNat, seed := seed }
def powerS (d : Dev) (b : Bool) : Dev := { d with on := b }

/-- The cells of a device. -/
def devV (d : Dev) (b1 b2 : Nat) : Array Value :=
  #[.int .i64 d.nw, .int .i64 d.lim, .slice (some ⟨b1, 0, none⟩) d.bits.length d.bits.length, .slice (some ⟨b2, 0, none⟩) d.worn.length d.worn.length, .bool d.on, .bool d.armed, .int .i64 d.left, .int .u32 (d.seed : Int), .int .i64 d.ops]
structure DevAt (w : World) (g b1 b2 : Nat) (d : Dev) : Prop where
  dev : Blk w g 112 (devV d b1 b2)
  bits : Blk w b1 33 (wordsV d.bits).toArray
  worn : Blk w b2 3 (natsV d.worn).toArray
/-- The cells of the reference's value. -/
def refV (d : Dev) (A1 A2 : Option Addr) (c1 c2 : Nat) : List Value :=
  [.int .i64 d.ns, .int .i64 d.nw, .int .i64 d.lim, .slice A1 d.bits.length c1, .slice A2 d.worn.length c2, .bool (!d.on), .bool d.armed, .int .i64 d.left, .int .u32 (d.seed : Int), .int .i64 d.ops]
structure RefAt (w : World) (A1 A2 : Option Addr) (d : Dev) : Prop where
  bits : Reads w 1 A1 d.bits.length (wordsV d.bits)
  worn : Reads w 1 A2 d.worn.length (natsV d.worn)
theorem RefAt.keep {w w' : World} {A1 A2 : Option Addr} {d : Dev} {F : List Nat} (h : RefAt w A1 A2 d) (k : Keep F w w') (h1 : Off F A1) (h2 : Off F A2) : RefAt w' A1 A2 d := ⟨h.bits.keep k h1, h.worn.keep k h2⟩
theorem DevAt.keep {w w' : World} {g b1 b2 : Nat} {d : Dev} {F : List Nat} (h : DevAt w g b1 b2 d) (k : Keep F w w') (h0 : g ∉ F) (h1 : b1 ∉ F) (h2 : b2 ∉ F) : DevAt w' g b1 b2 d := ⟨h.dev.keep k h0, h.bits.keep k h1, h.worn.keep k h2⟩
end Go.Proofs.Yteanpgkonhdbpaa
