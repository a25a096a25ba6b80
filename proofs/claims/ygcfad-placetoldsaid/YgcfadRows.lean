/-
  No cell of these rows narrows 'for every input' (looked for: loops, veiled, ifaces, maps, wideKeys, modest, calm, conditions, laid).
  DERIVED. THE GIVEN ROWS OF THIS SEAT. 11 by the template 'for every input the law returns true; each argument reads behind the call as it read before'; 0 by the template 'total and deterministic' (their statements: YgcfadTotals.lean).
  GIVEN WITH THE SEED: the statements are not yours to turn. If you find one false, say at which input.
  Laid BY PROGRAM, IN A SANDBOX (cutbox-rows.mjs): the forced cells as the released guide's own fill.sh prints them over the translation e48fa765a9f637ec… (all of the seat's roots in one cut). By AI agents, Wed Nov 11 2026. No macro, syntax, notation, axiom, sorry.
-/
import Derived.Test.YgcfadChecked
import GoSem.Claim
import GoSem.ClaimJoined
import GoSem.ClaimMapViews
import Derived.JoinedTies
import Derived.KernelRfl
namespace Go.Proofs.Ygcfad
/- THE CELL 'sum', in the pinned program and in every row, IS THE sha256 OF THE DUMP (.gsa) THAT YgcfadProg.lean LOADS. Nothing in Lean hashes anything: it is a label: what it is worth is what the hold of that sum in a sandbox is worth. -/
noncomputable def Fadg.pinned : Pinned := { name := "ygcfad", sum := "e48fa765a9f637ec5d2781d372352597e0498546971cd112328cfd53a0187f0a", checked := Fadg.checked }
namespace Rows
def none {H : Type} : Left H := { results := [], args := [] }

/-- 'law.BuildSound': WHATEVER THE INPUT: true; the input reads as it did. -/
def buildSoundSpec : ChangeSpec := { name := "buildSound", fn := fun _ => fun
  | [d] => { results := [.lit (.bool true)], args := [d] }
  | _ => none }
def buildSoundRow : OpenClaim := { program := "ygcfad", sum := "e48fa765a9f637ec5d2781d372352597e0498546971cd112328cfd53a0187f0a", func := "wordview/law.BuildSound", spec := "buildSound", apart := false }
def BuildSoundSaid : Prop := buildSoundRow.holds Fadg.pinned (OpenSpec.ofChange buildSoundSpec)

/-- ITS FALSE NEIGHBOUR: 'it returns false'. Refute it at one input. -/
def buildSoundWrong : ChangeSpec := { name := "buildSound", fn := fun _ => fun
  | [d] => { results := [.lit (.bool false)], args := [d] }
  | _ => none }
def BuildSoundWrongFalsely : Prop := buildSoundRow.holds Fadg.pinned (OpenSpec.ofChange buildSoundWrong)

/-- 'law.PackBack': WHATEVER THE INPUT: true; the input reads as it did. -/
def packBackSpec : ChangeSpec := { name := "packBack", fn := fun _ => fun
  | [d] => { results := [.lit (.bool true)], args := [d] }
  | _ => none }
def packBackRow : OpenClaim := { program := "ygcfad", sum := "e48fa765a9f637ec5d2781d372352597e0498546971cd112328cfd53a0187f0a", func := "wordview/law.PackBack", spec := "packBack", apart := false }
def PackBackSaid : Prop := packBackRow.holds Fadg.pinned (OpenSpec.ofChange packBackSpec)

/-- ITS FALSE NEIGHBOUR: 'it returns false'. Refute it at one input. -/
def packBackWrong : ChangeSpec := { name := "packBack", fn := fun _ => fun
  | [d] => { results := [.lit (.bool false)], args := [d] }
  | _ => none }
def PackBackWrongFalsely : Prop := packBackRow.holds Fadg.pinned (OpenSpec.ofChange packBackWrong)

/-- 'law.UnpackTotal': WHATEVER THE INPUT: true; the input reads as it did. -/
def unpackTotalSpec : ChangeSpec := { name := "unpackTotal", fn := fun _ => fun
  | [d] => { results := [.lit (.bool true)], args := [d] }
  | _ => none }
def unpackTotalRow : OpenClaim := { program := "ygcfad", sum := "e48fa765a9f637ec5d2781d372352597e0498546971cd112328cfd53a0187f0a", func := "wordview/law.UnpackTotal", spec := "unpackTotal", apart := false }
def UnpackTotalSaid : Prop := unpackTotalRow.holds Fadg.pinned (OpenSpec.ofChange unpackTotalSpec)

/-- ITS FALSE NEIGHBOUR: 'it returns false'. Refute it at one input. -/
def unpackTotalWrong : ChangeSpec := { name := "unpackTotal", fn := fun _ => fun
  | [d] => { results := [.lit (.bool false)], args := [d] }
  | _ => none }
def UnpackTotalWrongFalsely : Prop := unpackTotalRow.holds Fadg.pinned (OpenSpec.ofChange unpackTotalWrong)

/-- 'law.PackRuns': WHATEVER THE INPUT: true; the input reads as it did. -/
def packRunsSpec : ChangeSpec := { name := "packRuns", fn := fun _ => fun
  | [d1, d2] => { results := [.lit (.bool true)], args := [d1, d2] }
  | _ => none }
def packRunsRow : OpenClaim := { program := "ygcfad", sum := "e48fa765a9f637ec5d2781d372352597e0498546971cd112328cfd53a0187f0a", func := "wordview/law.PackRuns", spec := "packRuns", apart := false }
def PackRunsSaid : Prop := packRunsRow.holds Fadg.pinned (OpenSpec.ofChange packRunsSpec)

/-- ITS FALSE NEIGHBOUR: 'it returns false'. Refute it at one input. -/
def packRunsWrong : ChangeSpec := { name := "packRuns", fn := fun _ => fun
  | [d1, d2] => { results := [.lit (.bool false)], args := [d1, d2] }
  | _ => none }
def PackRunsWrongFalsely : Prop := packRunsRow.holds Fadg.pinned (OpenSpec.ofChange packRunsWrong)

/-- 'law.SchemaPlace': WHATEVER THE INPUT: true; the input reads as it did. -/
def schemaPlaceSpec : ChangeSpec := { name := "schemaPlace", fn := fun _ => fun
  | [d] => { results := [.lit (.bool true)], args := [d] }
  | _ => none }
def schemaPlaceRow : OpenClaim := { program := "ygcfad", sum := "e48fa765a9f637ec5d2781d372352597e0498546971cd112328cfd53a0187f0a", func := "wordview/law.SchemaPlace", spec := "schemaPlace", apart := false }
def SchemaPlaceSaid : Prop := schemaPlaceRow.holds Fadg.pinned (OpenSpec.ofChange schemaPlaceSpec)

/-- ITS FALSE NEIGHBOUR: 'it returns false'. Refute it at one input. -/
def schemaPlaceWrong : ChangeSpec := { name := "schemaPlace", fn := fun _ => fun
  | [d] => { results := [.lit (.bool false)], args := [d] }
  | _ => none }
def SchemaPlaceWrongFalsely : Prop := schemaPlaceRow.holds Fadg.pinned (OpenSpec.ofChange schemaPlaceWrong)

/-- 'law.RecPlace': WHATEVER THE INPUT: true; the input reads as it did. -/
def recPlaceSpec : ChangeSpec := { name := "recPlace", fn := fun _ => fun
  | [d] => { results := [.lit (.bool true)], args := [d] }
  | _ => none }
def recPlaceRow : OpenClaim := { program := "ygcfad", sum := "e48fa765a9f637ec5d2781d372352597e0498546971cd112328cfd53a0187f0a", func := "wordview/law.RecPlace", spec := "recPlace", apart := false }
def RecPlaceSaid : Prop := recPlaceRow.holds Fadg.pinned (OpenSpec.ofChange recPlaceSpec)

/-- ITS FALSE NEIGHBOUR: 'it returns false'. Refute it at one input. -/
def recPlaceWrong : ChangeSpec := { name := "recPlace", fn := fun _ => fun
  | [d] => { results := [.lit (.bool false)], args := [d] }
  | _ => none }
def RecPlaceWrongFalsely : Prop := recPlaceRow.holds Fadg.pinned (OpenSpec.ofChange recPlaceWrong)

/-- 'law.PlaceTold': WHATEVER THE INPUT: true; the input reads as it did. -/
def placeToldSpec : ChangeSpec := { name := "placeTold", fn := fun _ => fun
  | [d] => { results := [.lit (.bool true)], args := [d] }
  | _ => none }
def placeToldRow : OpenClaim := { program := "ygcfad", sum := "e48fa765a9f637ec5d2781d372352597e0498546971cd112328cfd53a0187f0a", func := "wordview/law.PlaceTold", spec := "placeTold", apart := false }
def PlaceToldSaid : Prop := placeToldRow.holds Fadg.pinned (OpenSpec.ofChange placeToldSpec)

/-- ITS FALSE NEIGHBOUR: 'it returns false'. Refute it at one input. -/
def placeToldWrong : ChangeSpec := { name := "placeTold", fn := fun _ => fun
  | [d] => { results := [.lit (.bool false)], args := [d] }
  | _ => none }
def PlaceToldWrongFalsely : Prop := placeToldRow.holds Fadg.pinned (OpenSpec.ofChange placeToldWrong)

/-- 'law.ReadTotal': WHATEVER THE INPUT: true; the input reads as it did. -/
def readTotalSpec : ChangeSpec := { name := "readTotal", fn := fun _ => fun
  | [d1, d2, d3, d4] => { results := [.lit (.bool true)], args := [d1, d2, d3, d4] }
  | _ => none }
def readTotalRow : OpenClaim := { program := "ygcfad", sum := "e48fa765a9f637ec5d2781d372352597e0498546971cd112328cfd53a0187f0a", func := "wordview/law.ReadTotal", spec := "readTotal", apart := false }
def ReadTotalSaid : Prop := readTotalRow.holds Fadg.pinned (OpenSpec.ofChange readTotalSpec)

/-- ITS FALSE NEIGHBOUR: 'it returns false'. Refute it at one input. -/
def readTotalWrong : ChangeSpec := { name := "readTotal", fn := fun _ => fun
  | [d1, d2, d3, d4] => { results := [.lit (.bool false)], args := [d1, d2, d3, d4] }
  | _ => none }
def ReadTotalWrongFalsely : Prop := readTotalRow.holds Fadg.pinned (OpenSpec.ofChange readTotalWrong)

/-- 'law.ReadsArena': WHATEVER THE INPUT: true; the input reads as it did. -/
def readsArenaSpec : ChangeSpec := { name := "readsArena", fn := fun _ => fun
  | [d1, d2, d3, d4] => { results := [.lit (.bool true)], args := [d1, d2, d3, d4] }
  | _ => none }
def readsArenaRow : OpenClaim := { program := "ygcfad", sum := "e48fa765a9f637ec5d2781d372352597e0498546971cd112328cfd53a0187f0a", func := "wordview/law.ReadsArena", spec := "readsArena", apart := false }
def ReadsArenaSaid : Prop := readsArenaRow.holds Fadg.pinned (OpenSpec.ofChange readsArenaSpec)

/-- ITS FALSE NEIGHBOUR: 'it returns false'. Refute it at one input. -/
def readsArenaWrong : ChangeSpec := { name := "readsArena", fn := fun _ => fun
  | [d1, d2, d3, d4] => { results := [.lit (.bool false)], args := [d1, d2, d3, d4] }
  | _ => none }
def ReadsArenaWrongFalsely : Prop := readsArenaRow.holds Fadg.pinned (OpenSpec.ofChange readsArenaWrong)

/-- 'law.ReadsWords': WHATEVER THE INPUT: true; the input reads as it did. -/
def readsWordsSpec : ChangeSpec := { name := "readsWords", fn := fun _ => fun
  | [d1, d2, d3, d4] => { results := [.lit (.bool true)], args := [d1, d2, d3, d4] }
  | _ => none }
def readsWordsRow : OpenClaim := { program := "ygcfad", sum := "e48fa765a9f637ec5d2781d372352597e0498546971cd112328cfd53a0187f0a", func := "wordview/law.ReadsWords", spec := "readsWords", apart := false }
def ReadsWordsSaid : Prop := readsWordsRow.holds Fadg.pinned (OpenSpec.ofChange readsWordsSpec)

/-- ITS FALSE NEIGHBOUR: 'it returns false'. Refute it at one input. -/
def readsWordsWrong : ChangeSpec := { name := "readsWords", fn := fun _ => fun
  | [d1, d2, d3, d4] => { results := [.lit (.bool false)], args := [d1, d2, d3, d4] }
  | _ => none }
def ReadsWordsWrongFalsely : Prop := readsWordsRow.holds Fadg.pinned (OpenSpec.ofChange readsWordsWrong)

/-- 'law.RecModel': WHATEVER THE INPUT: true; the input reads as it did. -/
def recModelSpec : ChangeSpec := { name := "recModel", fn := fun _ => fun
  | [d1, d2, d3] => { results := [.lit (.bool true)], args := [d1, d2, d3] }
  | _ => none }
def recModelRow : OpenClaim := { program := "ygcfad", sum := "e48fa765a9f637ec5d2781d372352597e0498546971cd112328cfd53a0187f0a", func := "wordview/law.RecModel", spec := "recModel", recurses := true, apart := false }
def RecModelSaid : Prop := recModelRow.holds Fadg.pinned (OpenSpec.ofChange recModelSpec)

/-- ITS FALSE NEIGHBOUR: 'it returns false'. Refute it at one input. -/
def recModelWrong : ChangeSpec := { name := "recModel", fn := fun _ => fun
  | [d1, d2, d3] => { results := [.lit (.bool false)], args := [d1, d2, d3] }
  | _ => none }
def RecModelWrongFalsely : Prop := recModelRow.holds Fadg.pinned (OpenSpec.ofChange recModelWrong)

end Rows
end Go.Proofs.Ygcfad
