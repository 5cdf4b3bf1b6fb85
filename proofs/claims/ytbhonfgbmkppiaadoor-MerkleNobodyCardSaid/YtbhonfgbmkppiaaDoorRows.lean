/-
  NARROWER THAN 'FOR EVERY INPUT', by the rows' own cells (each row's printed sentence says how): MerklePaths: laid · MerkleParts: laid · MerkleNobody: laid · WireBack: laid · WireTurned: laid · ResyncSame: laid.
  DERIVED. THE GIVEN ROWS OF THIS SEAT. 6 by the template 'for every input the law returns true; each argument reads behind the call as it read before'; 0 by the template 'total and deterministic' (their statements: YtbhonfgbmkppiaaDoorTotals.lean).
  GIVEN WITH THE SEED: the statements are not yours to turn. If you find one false, say at which input.
  Laid BY PROGRAM, IN A SANDBOX (cutbox-rows.mjs): the forced cells as the released guide's own fill.sh prints them over the translation b17893547efc4f57… (all of the seat's roots in one cut). By AI agents, Wed Nov 11 2026. No macro, syntax, notation, axiom, sorry.
-/
import Derived.Test.YtbhonfgbmkppiaaDoorChecked
import GoSem.Claim
import GoSem.ClaimJoined
import GoSem.ClaimMapViews
import Derived.JoinedTies
import Derived.KernelRfl
namespace Go.Proofs.YtbhonfgbmkppiaaDoor
/- THE CELL 'sum', in the pinned program and in every row, IS THE sha256 OF THE DUMP (.gsa) THAT YtbhonfgbmkppiaaDoorProg.lean LOADS. Nothing in Lean hashes anything: it is a label: what it is worth is what the hold of that sum in a sandbox is worth. -/
noncomputable def Tryd.pinned : Pinned := { name := "ytbhonfgbmkppiaadoor", sum := "b17893547efc4f573eb073e1665a0d4e3c270abc5cddcb30c28be2e7e3c3fa24", checked := Tryd.checked }
namespace Rows
def none {H : Type} : Left H := { results := [], args := [] }

/- WHAT THE LISTED PACKAGE-LEVEL VARIABLES READ AS WHEN THE CALL BEGINS. Each datum BY PROGRAM (the guide's laid-datum.mjs) off the statement by which the dump's own 'gosem.cut.vars' lays the variable. In a bare row this is a premise. The card (YtbhonfgbmkppiaaDoorCards.lean) ties it to the program's text. -/
def laid_gemel_sha_rounds {H : Type} : DataW H := .agg [.lit (.int .u32 1116352408), .lit (.int .u32 1899447441), .lit (.int .u32 3049323471), .lit (.int .u32 3921009573), .lit (.int .u32 961987163), .lit (.int .u32 1508970993), .lit (.int .u32 2453635748), .lit (.int .u32 2870763221), .lit (.int .u32 3624381080), .lit (.int .u32 310598401), .lit (.int .u32 607225278), .lit (.int .u32 1426881987), .lit (.int .u32 1925078388), .lit (.int .u32 2162078206), .lit (.int .u32 2614888103), .lit (.int .u32 3248222580), .lit (.int .u32 3835390401), .lit (.int .u32 4022224774), .lit (.int .u32 264347078), .lit (.int .u32 604807628), .lit (.int .u32 770255983), .lit (.int .u32 1249150122), .lit (.int .u32 1555081692), .lit (.int .u32 1996064986), .lit (.int .u32 2554220882), .lit (.int .u32 2821834349), .lit (.int .u32 2952996808), .lit (.int .u32 3210313671), .lit (.int .u32 3336571891), .lit (.int .u32 3584528711), .lit (.int .u32 113926993), .lit (.int .u32 338241895), .lit (.int .u32 666307205), .lit (.int .u32 773529912), .lit (.int .u32 1294757372), .lit (.int .u32 1396182291), .lit (.int .u32 1695183700), .lit (.int .u32 1986661051), .lit (.int .u32 2177026350), .lit (.int .u32 2456956037), .lit (.int .u32 2730485921), .lit (.int .u32 2820302411), .lit (.int .u32 3259730800), .lit (.int .u32 3345764771), .lit (.int .u32 3516065817), .lit (.int .u32 3600352804), .lit (.int .u32 4094571909), .lit (.int .u32 275423344), .lit (.int .u32 430227734), .lit (.int .u32 506948616), .lit (.int .u32 659060556), .lit (.int .u32 883997877), .lit (.int .u32 958139571), .lit (.int .u32 1322822218), .lit (.int .u32 1537002063), .lit (.int .u32 1747873779), .lit (.int .u32 1955562222), .lit (.int .u32 2024104815), .lit (.int .u32 2227730452), .lit (.int .u32 2361852424), .lit (.int .u32 2428436474), .lit (.int .u32 2756734187), .lit (.int .u32 3204031479), .lit (.int .u32 3329325298)]
def laid_gemel_wire_names {H : Type} : DataW H := .agg [.lit (.string []), .lit (.string [100, 97, 116, 97]), .lit (.string [97, 99, 107]), .lit (.string [97, 115, 107]), .lit (.string [116, 101, 108, 108]), .lit (.string [108, 101, 97, 102])]

/-- 'gemellaw24.MerklePaths': WHATEVER THE INPUT: true; the input reads as it did. -/
def merklePathsSpec : ChangeSpec := { name := "merklePaths", fn := fun _ => fun
  | [d] => { results := [.lit (.bool true)], args := [d] }
  | _ => none }
def merklePathsRow : OpenClaim := { program := "ytbhonfgbmkppiaadoor", sum := "b17893547efc4f573eb073e1665a0d4e3c270abc5cddcb30c28be2e7e3c3fa24", func := "gemel/gemellaw24.MerklePaths", spec := "merklePaths", unfollowed := true, recurses := true, named := ["gemel/sha.rounds"], apart := false, laid := [("gemel/sha.rounds", laid_gemel_sha_rounds)] }
def MerklePathsSaid : Prop := merklePathsRow.holds Tryd.pinned (OpenSpec.ofChange merklePathsSpec)

/-- ITS FALSE NEIGHBOUR: 'it returns false'. Refute it at one input. -/
def merklePathsWrong : ChangeSpec := { name := "merklePaths", fn := fun _ => fun
  | [d] => { results := [.lit (.bool false)], args := [d] }
  | _ => none }
def MerklePathsWrongFalsely : Prop := merklePathsRow.holds Tryd.pinned (OpenSpec.ofChange merklePathsWrong)

/-- 'gemellaw24.MerkleParts': WHATEVER THE INPUT: true; the input reads as it did. -/
def merklePartsSpec : ChangeSpec := { name := "merkleParts", fn := fun _ => fun
  | [d1, d2] => { results := [.lit (.bool true)], args := [d1, d2] }
  | _ => none }
def merklePartsRow : OpenClaim := { program := "ytbhonfgbmkppiaadoor", sum := "b17893547efc4f573eb073e1665a0d4e3c270abc5cddcb30c28be2e7e3c3fa24", func := "gemel/gemellaw24.MerkleParts", spec := "merkleParts", unfollowed := true, recurses := true, named := ["gemel/sha.rounds"], apart := false, laid := [("gemel/sha.rounds", laid_gemel_sha_rounds)] }
def MerklePartsSaid : Prop := merklePartsRow.holds Tryd.pinned (OpenSpec.ofChange merklePartsSpec)

/-- ITS FALSE NEIGHBOUR: 'it returns false'. Refute it at one input. -/
def merklePartsWrong : ChangeSpec := { name := "merkleParts", fn := fun _ => fun
  | [d1, d2] => { results := [.lit (.bool false)], args := [d1, d2] }
  | _ => none }
def MerklePartsWrongFalsely : Prop := merklePartsRow.holds Tryd.pinned (OpenSpec.ofChange merklePartsWrong)

/-- 'gemellaw24.MerkleNobody': WHATEVER THE INPUT: true; the input reads as it did. -/
def merkleNobodySpec : ChangeSpec := { name := "merkleNobody", fn := fun _ => fun
  | [d] => { results := [.lit (.bool true)], args := [d] }
  | _ => none }
def merkleNobodyRow : OpenClaim := { program := "ytbhonfgbmkppiaadoor", sum := "b17893547efc4f573eb073e1665a0d4e3c270abc5cddcb30c28be2e7e3c3fa24", func := "gemel/gemellaw24.MerkleNobody", spec := "merkleNobody", inPlace := ["sync/atomic.LoadUint32", "(*internal/sync.Mutex).Lock", "internal/race.Disable", "sync/atomic.CompareAndSwapInt32", "internal/race.Enable", "internal/race.Acquire", "(*internal/sync.Mutex).lockSlow", "internal/sync.runtime_canSpin", "internal/sync.runtime_doSpin", "internal/sync.throw", "internal/sync.runtime_nanotime", "internal/sync.runtime_SemacquireMutex", "sync/atomic.AddInt32", "(*internal/sync.Mutex).Unlock", "internal/race.ReleaseMerge", "(*internal/sync.Mutex).unlockSlow", "internal/sync.fatal", "internal/sync.runtime_Semrelease", "sync/atomic.StoreUint32"], unfollowed := true, recurses := true, named := ["gemel/sha.rounds"], apart := false, laid := [("gemel/sha.rounds", laid_gemel_sha_rounds)] }
def MerkleNobodySaid : Prop := merkleNobodyRow.holds Tryd.pinned (OpenSpec.ofChange merkleNobodySpec)

/-- ITS FALSE NEIGHBOUR: 'it returns false'. Refute it at one input. -/
def merkleNobodyWrong : ChangeSpec := { name := "merkleNobody", fn := fun _ => fun
  | [d] => { results := [.lit (.bool false)], args := [d] }
  | _ => none }
def MerkleNobodyWrongFalsely : Prop := merkleNobodyRow.holds Tryd.pinned (OpenSpec.ofChange merkleNobodyWrong)

/-- 'gemellaw14.WireBack': WHATEVER THE INPUT: true; the input reads as it did. -/
def wireBackSpec : ChangeSpec := { name := "wireBack", fn := fun _ => fun
  | [d1, d2, d3] => { results := [.lit (.bool true)], args := [d1, d2, d3] }
  | _ => none }
def wireBackRow : OpenClaim := { program := "ytbhonfgbmkppiaadoor", sum := "b17893547efc4f573eb073e1665a0d4e3c270abc5cddcb30c28be2e7e3c3fa24", func := "gemel/gemellaw14.WireBack", spec := "wireBack", unfollowed := true, recurses := true, named := ["gemel/wire.names"], apart := false, laid := [("gemel/wire.names", laid_gemel_wire_names)] }
def WireBackSaid : Prop := wireBackRow.holds Tryd.pinned (OpenSpec.ofChange wireBackSpec)

/-- ITS FALSE NEIGHBOUR: 'it returns false'. Refute it at one input. -/
def wireBackWrong : ChangeSpec := { name := "wireBack", fn := fun _ => fun
  | [d1, d2, d3] => { results := [.lit (.bool false)], args := [d1, d2, d3] }
  | _ => none }
def WireBackWrongFalsely : Prop := wireBackRow.holds Tryd.pinned (OpenSpec.ofChange wireBackWrong)

/-- 'gemellaw14.WireTurned': WHATEVER THE INPUT: true; the input reads as it did. -/
def wireTurnedSpec : ChangeSpec := { name := "wireTurned", fn := fun _ => fun
  | [d1, d2, d3, d4] => { results := [.lit (.bool true)], args := [d1, d2, d3, d4] }
  | _ => none }
def wireTurnedRow : OpenClaim := { program := "ytbhonfgbmkppiaadoor", sum := "b17893547efc4f573eb073e1665a0d4e3c270abc5cddcb30c28be2e7e3c3fa24", func := "gemel/gemellaw14.WireTurned", spec := "wireTurned", unfollowed := true, recurses := true, named := ["gemel/wire.names"], apart := false, laid := [("gemel/wire.names", laid_gemel_wire_names)] }
def WireTurnedSaid : Prop := wireTurnedRow.holds Tryd.pinned (OpenSpec.ofChange wireTurnedSpec)

/-- ITS FALSE NEIGHBOUR: 'it returns false'. Refute it at one input. -/
def wireTurnedWrong : ChangeSpec := { name := "wireTurned", fn := fun _ => fun
  | [d1, d2, d3, d4] => { results := [.lit (.bool false)], args := [d1, d2, d3, d4] }
  | _ => none }
def WireTurnedWrongFalsely : Prop := wireTurnedRow.holds Tryd.pinned (OpenSpec.ofChange wireTurnedWrong)

/-- 'gemellaw25.ResyncSame': WHATEVER THE INPUT: true; the input reads as it did. -/
def resyncSameSpec : ChangeSpec := { name := "resyncSame", fn := fun _ => fun
  | [d] => { results := [.lit (.bool true)], args := [d] }
  | _ => none }
def resyncSameRow : OpenClaim := { program := "ytbhonfgbmkppiaadoor", sum := "b17893547efc4f573eb073e1665a0d4e3c270abc5cddcb30c28be2e7e3c3fa24", func := "gemel/gemellaw25.ResyncSame", spec := "resyncSame", inPlace := ["sync/atomic.LoadUint32", "(*internal/sync.Mutex).Lock", "internal/race.Disable", "sync/atomic.CompareAndSwapInt32", "internal/race.Enable", "internal/race.Acquire", "(*internal/sync.Mutex).lockSlow", "internal/sync.runtime_canSpin", "internal/sync.runtime_doSpin", "internal/sync.throw", "internal/sync.runtime_nanotime", "internal/sync.runtime_SemacquireMutex", "sync/atomic.AddInt32", "(*internal/sync.Mutex).Unlock", "internal/race.ReleaseMerge", "(*internal/sync.Mutex).unlockSlow", "internal/sync.fatal", "internal/sync.runtime_Semrelease", "sync/atomic.StoreUint32"], unfollowed := true, recurses := true, named := ["gemel/sha.rounds"], apart := false, laid := [("gemel/sha.rounds", laid_gemel_sha_rounds)] }
def ResyncSameSaid : Prop := resyncSameRow.holds Tryd.pinned (OpenSpec.ofChange resyncSameSpec)

/-- ITS FALSE NEIGHBOUR: 'it returns false'. Refute it at one input. -/
def resyncSameWrong : ChangeSpec := { name := "resyncSame", fn := fun _ => fun
  | [d] => { results := [.lit (.bool false)], args := [d] }
  | _ => none }
def ResyncSameWrongFalsely : Prop := resyncSameRow.holds Tryd.pinned (OpenSpec.ofChange resyncSameWrong)

/- THE SECOND FORM. 'bulk': how many values and letters a reading holds, each counted each time it is reached (what is shared counts as often as it is met; a slice's spare places count too). A statement '..UptoSaid' is the law's where the arguments, and the package variables that the reading takes, are together of bulk at most 1048576: NARROWER than '..Said'. Prove '..Said' where nothing that the law and all that it calls make is longer than what came in: it says more and counts as full. Else prove '..UptoSaid'. A law counts once. -/
mutual
def uptoBulk {H : Type} : DataW H → Nat
  | .lit (.string bytes) => bytes.length + 1
  | .lit _ => 1
  | .nil => 1
  | .ptr d => uptoBulk d + 1
  | .slice elems spare => uptoBulkAll elems + uptoBulkAll spare + 1
  | .agg parts => uptoBulkAll parts + 1
  | .iface _ d => uptoBulk d + 1
  | .map entries => uptoBulkEntries entries + 1
  | .held _ => 1
def uptoBulkAll {H : Type} : List (DataW H) → Nat
  | [] => 0
  | d :: r => uptoBulk d + uptoBulkAll r
def uptoBulkEntries {H : Type} : List (Lit × DataW H) → Nat
  | [] => 0
  | x :: r => uptoBulkEntry x + uptoBulkEntries r
def uptoBulkEntry {H : Type} : Lit × DataW H → Nat
  | (.string bytes, d) => bytes.length + uptoBulk d + 1
  | (_, d) => uptoBulk d + 1
 end
def uptoSmall : (H : Type) → List (DataW H) → Bool := fun _ ds => decide (uptoBulkAll ds ≤ 1048576)
def OpenSpec.upto (s : _root_.Go.ChangeSpec) : _root_.Go.OpenSpec := { _root_.Go.OpenSpec.ofChange s with cond := some uptoSmall }

/-- 'gemellaw24.MerklePaths', WHERE WHAT IT READS IS OF BULK AT MOST 1048576: true; the input reads as it did. -/
def merklePathsUptoRow : OpenClaim := { program := "ytbhonfgbmkppiaadoor", sum := "b17893547efc4f573eb073e1665a0d4e3c270abc5cddcb30c28be2e7e3c3fa24", func := "gemel/gemellaw24.MerklePaths", spec := "merklePaths", unfollowed := true, recurses := true, named := ["gemel/sha.rounds"], apart := false, laid := [("gemel/sha.rounds", laid_gemel_sha_rounds)], narrowed := true }
def MerklePathsUptoSaid : Prop := merklePathsUptoRow.holds Tryd.pinned (OpenSpec.upto merklePathsSpec)

/-- 'gemellaw24.MerkleParts', WHERE WHAT IT READS IS OF BULK AT MOST 1048576: true; the input reads as it did. -/
def merklePartsUptoRow : OpenClaim := { program := "ytbhonfgbmkppiaadoor", sum := "b17893547efc4f573eb073e1665a0d4e3c270abc5cddcb30c28be2e7e3c3fa24", func := "gemel/gemellaw24.MerkleParts", spec := "merkleParts", unfollowed := true, recurses := true, named := ["gemel/sha.rounds"], apart := false, laid := [("gemel/sha.rounds", laid_gemel_sha_rounds)], narrowed := true }
def MerklePartsUptoSaid : Prop := merklePartsUptoRow.holds Tryd.pinned (OpenSpec.upto merklePartsSpec)

/-- 'gemellaw24.MerkleNobody', WHERE WHAT IT READS IS OF BULK AT MOST 1048576: true; the input reads as it did. -/
def merkleNobodyUptoRow : OpenClaim := { program := "ytbhonfgbmkppiaadoor", sum := "b17893547efc4f573eb073e1665a0d4e3c270abc5cddcb30c28be2e7e3c3fa24", func := "gemel/gemellaw24.MerkleNobody", spec := "merkleNobody", inPlace := ["sync/atomic.LoadUint32", "(*internal/sync.Mutex).Lock", "internal/race.Disable", "sync/atomic.CompareAndSwapInt32", "internal/race.Enable", "internal/race.Acquire", "(*internal/sync.Mutex).lockSlow", "internal/sync.runtime_canSpin", "internal/sync.runtime_doSpin", "internal/sync.throw", "internal/sync.runtime_nanotime", "internal/sync.runtime_SemacquireMutex", "sync/atomic.AddInt32", "(*internal/sync.Mutex).Unlock", "internal/race.ReleaseMerge", "(*internal/sync.Mutex).unlockSlow", "internal/sync.fatal", "internal/sync.runtime_Semrelease", "sync/atomic.StoreUint32"], unfollowed := true, recurses := true, named := ["gemel/sha.rounds"], apart := false, laid := [("gemel/sha.rounds", laid_gemel_sha_rounds)], narrowed := true }
def MerkleNobodyUptoSaid : Prop := merkleNobodyUptoRow.holds Tryd.pinned (OpenSpec.upto merkleNobodySpec)

/-- 'gemellaw14.WireBack', WHERE WHAT IT READS IS OF BULK AT MOST 1048576: true; the input reads as it did. -/
def wireBackUptoRow : OpenClaim := { program := "ytbhonfgbmkppiaadoor", sum := "b17893547efc4f573eb073e1665a0d4e3c270abc5cddcb30c28be2e7e3c3fa24", func := "gemel/gemellaw14.WireBack", spec := "wireBack", unfollowed := true, recurses := true, named := ["gemel/wire.names"], apart := false, laid := [("gemel/wire.names", laid_gemel_wire_names)], narrowed := true }
def WireBackUptoSaid : Prop := wireBackUptoRow.holds Tryd.pinned (OpenSpec.upto wireBackSpec)

/-- 'gemellaw14.WireTurned', WHERE WHAT IT READS IS OF BULK AT MOST 1048576: true; the input reads as it did. -/
def wireTurnedUptoRow : OpenClaim := { program := "ytbhonfgbmkppiaadoor", sum := "b17893547efc4f573eb073e1665a0d4e3c270abc5cddcb30c28be2e7e3c3fa24", func := "gemel/gemellaw14.WireTurned", spec := "wireTurned", unfollowed := true, recurses := true, named := ["gemel/wire.names"], apart := false, laid := [("gemel/wire.names", laid_gemel_wire_names)], narrowed := true }
def WireTurnedUptoSaid : Prop := wireTurnedUptoRow.holds Tryd.pinned (OpenSpec.upto wireTurnedSpec)

/-- 'gemellaw25.ResyncSame', WHERE WHAT IT READS IS OF BULK AT MOST 1048576: true; the input reads as it did. -/
def resyncSameUptoRow : OpenClaim := { program := "ytbhonfgbmkppiaadoor", sum := "b17893547efc4f573eb073e1665a0d4e3c270abc5cddcb30c28be2e7e3c3fa24", func := "gemel/gemellaw25.ResyncSame", spec := "resyncSame", inPlace := ["sync/atomic.LoadUint32", "(*internal/sync.Mutex).Lock", "internal/race.Disable", "sync/atomic.CompareAndSwapInt32", "internal/race.Enable", "internal/race.Acquire", "(*internal/sync.Mutex).lockSlow", "internal/sync.runtime_canSpin", "internal/sync.runtime_doSpin", "internal/sync.throw", "internal/sync.runtime_nanotime", "internal/sync.runtime_SemacquireMutex", "sync/atomic.AddInt32", "(*internal/sync.Mutex).Unlock", "internal/race.ReleaseMerge", "(*internal/sync.Mutex).unlockSlow", "internal/sync.fatal", "internal/sync.runtime_Semrelease", "sync/atomic.StoreUint32"], unfollowed := true, recurses := true, named := ["gemel/sha.rounds"], apart := false, laid := [("gemel/sha.rounds", laid_gemel_sha_rounds)], narrowed := true }
def ResyncSameUptoSaid : Prop := resyncSameUptoRow.holds Tryd.pinned (OpenSpec.upto resyncSameSpec)

end Rows
end Go.Proofs.YtbhonfgbmkppiaaDoor
