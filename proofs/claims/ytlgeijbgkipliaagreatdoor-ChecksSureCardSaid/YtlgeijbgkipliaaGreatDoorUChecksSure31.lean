/- FillH -/
import Derived.OrdersHeld
import Derived.Test.YtlgeijbgkipliaaGreatDoorUChecksSure17
import Derived.Test.YtlgeijbgkipliaaGreatDoorUChecksSure29
set_option linter.unusedVariables false
set_option linter.unusedSimpArgs false
namespace Go.Proofs.YtlgeijbgkipliaaGreatDoor
open Go.RowKit
theorem zero_head : ((Tryz.prog.info? 59).bind (·.zero)) = some (.agg (.int .i64 0 :: zeros 32).toArray) := by kernel_rfl
theorem places_head : ∃ fs, Tryz.prog.underlying 59 = some (.struct fs) ∧ fs.toList.mapM (fun f => (Tryz.prog.info? f.type).map fun i => (f.offset, i.size)) = some [(0, 1), (1, 32)] := ⟨_, Tryz.underlying59, by kernel_rfl⟩
theorem built_head (size : Int) (root : By) (hr : root.length = 32) : Tryz.prog.built 59 [(0, .int .i64 size), (1, .agg (bytes8 root).toArray)] = some (headC size root).toArray := by
  obtain ⟨fs, h2, h3⟩ := places_head
  rw [built_of zero_head h2 h3]
  exact fill_two (.int .i64 0 :: zeros 32) 1 32 [.int .i64 size] (bytes8 root) (by rw [List.length_cons, zeros_len]) _ _ rfl rfl rfl (by rw [bytes8_len, hr])
theorem zero_signed : ((Tryz.prog.info? 63).bind (·.zero)) = some (.agg ((.int .i64 0 :: zeros 32) ++ [.int .i64 0, .string ⟨#[]⟩, .slice none 0 0] : List Value).toArray) := by kernel_rfl
theorem places_signed : ∃ fs, Tryz.prog.underlying 63 = some (.struct fs) ∧ fs.toList.mapM (fun f => (Tryz.prog.info? f.type).map fun i => (f.offset, i.size)) = some [(0, 33), (33, 3)] := ⟨_, Tryz.underlying63, by kernel_rfl⟩
theorem built_signed (size i : Int) (root : By) (s : ByteArray) (v : Value) (hr : root.length = 32) : Tryz.prog.built 63 [(0, .agg (headC size root).toArray), (1, .agg #[.int .i64 i, .string s, v])] = some (signedC size root i s v).toArray := by
  obtain ⟨fs, h2, h3⟩ := places_signed
  rw [built_of zero_signed h2 h3]
  exact fill_two ((.int .i64 0 :: zeros 32) ++ [.int .i64 0, .string ⟨#[]⟩, .slice none 0 0]) 33 3 (headC size root) [.int .i64 i, .string s, v] (by rw [List.length_append, List.length_cons, zeros_len]; rfl) (.agg (headC size root).toArray) (.agg #[.int .i64 i, .string s, v]) rfl rfl (by rw [List.length_cons, bytes8_len, hr]) rfl
theorem built_sealP (parts : List (Nat × Value)) : (Tryz.prog).built 61 parts = Instr.fill ((#[(0, 1), (1, 1), (2, 1)] : Array (Nat × Nat))[·]?) #[.int .i64 0, .string ⟨#[]⟩, .slice none 0 0] parts := by kernel_rfl
theorem built_seal (i : Int) (s : ByteArray) (a : Option Addr) (n c : Nat) : Tryz.prog.built 61 [(0, .int .i64 i), (1, .string s), (2, .slice a n c)] = some (#[.int .i64 i, .string s, .slice a n c] : Array Value) := by
  rw [built_sealP]
  simp [Instr.fill, Value.cells]
section
variable {P : Program} {ops : Array Oper} {S : World → Prop} {o : Oper} {a : Act}
theorem yields_built (t : TypeId) (parts : Array (Nat × Operand)) (ho : o.op = .build t parts) (cells : Array Value) (hb : P.built t (parts.map fun (i, x) => (i, a.eval x)).toList = some cells) (hw : Region.wanted o (yielded ops a.tmps) = true := by rfl) : YieldsIf P ops S o (.agg cells) a :=
  Or.inl ⟨hw, fun w _ => by unfold execOp; simp only [ho, Sem.run_bind, run_build w t _ cells hb, Result.andThen_ok]; rfl⟩
end
end Go.Proofs.YtlgeijbgkipliaaGreatDoor
