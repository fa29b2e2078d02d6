/- SegOpen SegOpen2 SegOpen3 SegReg SegOpen4 SegOpen5 -/
import Derived.Deep.RegionHeld3
import Derived.Test.YtpmdlkogccojmaaGreatDoorUScrubNone36
import Derived.Test.YtpmdlkogccojmaaGreatDoorUScrubNone37
import Derived.Test.YtpmdlkogccojmaaGreatDoorUScrubNone29
import Derived.Test.YtpmdlkogccojmaaGreatDoorUScrubNone01
import Derived.Test.YtpmdlkogccojmaaGreatDoorUScrubNone03
import Derived.Test.YtpmdlkogccojmaaGreatDoorUScrubNone28
set_option linter.unusedVariables false
set_option linter.unusedSimpArgs false
set_option maxRecDepth 100000
set_option maxHeartbeats 16000000
namespace Go.Proofs.YtpmdlkogccojmaaGreatDoor
open Go.RowKit
abbrev segC (d : Nat) (x y : Value) (st : Int) (dead : Bool) : List Value:=[.pointer (some ⟨d, 0, none⟩), x, y, .int .i64 st, .bool dead]
theorem one_str (l : List By) : ∀ u ∈ strV l, u.oneCell' = true:=by
 intro u hu
 obtain ⟨p, _, rfl⟩:=List.mem_map.1 hu
 rfl
section
variable {M : DiskM} {L : List By}
end
structure IsSeg (w : World) (s d : Nat) (G : SegM) (S : Nat → Prop) : Prop where
 ex : ∃ x y, Blk w s (segC d x y G.starts G.dead) 139∧Row w 9 1 x (strV G.entries)∧Row w 3 1 y (natsV (endsE G.entries))∧(∀ k, x.ownBlock = some k → S k)∧∀ k, y.ownBlock = some k → S k
 own : S s
 few : G.entries.length ≤ 4096
 short : ∀ p ∈ G.entries, p.length ≤ 200
section
variable {w wr W1 : World} {d ab sb : Nat} {st : Int} {tv u v : Value} {E l : List By} {C : List Chg}
end
section
variable {w : World} {d : Nat} {B : Nat → Prop} {M : DiskM}
end
theorem size_no (w : World) (v : Value) (n : Int) (h : NoDisk w v) : Calls Tryz.prog 34 #[v, .int .i64 n] w fun e w'=>e = .returned (.tuple #[.int .i64 0, .int .i64 1])∧w = w':=by
 have h':=h
 rcases h' with rfl | ⟨d, rfl, hc⟩
 all_goals
  go_enter Tryz.func34, Tryz.ntmps34
  go_wp2_with (go_at_call 64; refine (has_no _ _ _ h).mono ?_; rintro e w' ⟨rfl, rfl⟩)
  exact bodyPost_ret (v:=.tuple #[.int .i64 0, .int .i64 1]) (by simp [results, Tryz.results34, go_sem]) rfl ⟨rfl, rfl⟩
theorem up_no (w : World) (v : Value)  (h : NoDisk w v) : Calls Tryz.prog 24 #[v] w fun e w'=>e = .returned (.bool false)∧w = w':=by
 have h':=h
 rcases h' with rfl | ⟨d, rfl, hc⟩
 all_goals
  go_enter Tryz.func24, Tryz.ntmps24
  go_wp2_with (go_at_call 39; refine (ready_no _ _ h).mono ?_; rintro e w' ⟨rfl, rfl⟩)
  go_ret
  exact ⟨rfl, rfl⟩
theorem NoDisk.kept {w w' : World} {v : Value} (h : NoDisk w v) (hk : Kept (fun _=>False) w w') : NoDisk w' v:=by
 rcases h with rfl | ⟨d, rfl, hc⟩
 ·exact Or.inl rfl
 ·exact Or.inr ⟨d, rfl, hk.cell hc id⟩
section
variable {w : World} {d : Nat} {B : Nat → Prop} {M : DiskM}
end
end Go.Proofs.YtpmdlkogccojmaaGreatDoor
