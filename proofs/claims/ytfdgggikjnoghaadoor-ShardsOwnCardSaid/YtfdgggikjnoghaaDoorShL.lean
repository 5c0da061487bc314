/- Sharded counters: what the statements' walks share. -/
import Derived.Test.YtfdgggikjnoghaaDoorShSim
namespace Go.Proofs.YtfdgggikjnoghaaDoor
open Go Sy Close
set_option maxRecDepth 100000
def consL5 : List Contract := ⟨11, beginsP⟩ :: ⟨22, rstepP⟩ :: consL4
theorem cons5 : ∀ c ∈ consL5, c.Ok Tryd.prog := con_ok begins_ok (con_ok rstep_ok cons4)
noncomputable def host5 : Host Tryd.prog := hostOf _ cons5
abbrev Bks := List (Nat × TypeId × List Value)
def cntB (c cb ws n : Nat) : Bks := [(c, 77, [ptrV cb]), (cb, 82, [.slice (some ⟨ws, 0, none⟩) n n])]
def pendB (c : Nat) (k w b ak ab cell last sum : Int) (over : Bool) (p kb bb : Nat) : Bks := [(p, 71, pendV c k w b kb bb cell last sum over), (kb, 31, [.int .u8 ak]), (bb, 32, [.int .u64 ab])]
def ptrs (so : Option Addr) (n cap : Nat) (ps : List Value) : Vec := ⟨36, 1, .slice so n cap, n, ps⟩
def unders (so : Option Addr) (n cap : Nat) (ps : List Value) : Vec := ⟨54, 5, .slice so n cap, n, ps⟩
def opsK (k w b : Int) : List (Nat × Value) := [(0, .int .u8 k), (1, .int .i64 w), (2, .int .u64 b)]
end Go.Proofs.YtfdgggikjnoghaaDoor
