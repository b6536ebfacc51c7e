/-
  What is known of memory: the library's table of 64 places, as its variable is laid.
-/
import Derived.Test.YtlaaljiffcablaaGreatDoorTnS
import Derived.Test.YtlaaljiffcablaaGreatDoorShelf
namespace Go.Proofs.YtlaaljiffcablaaGreatDoor
open Go Go.Sy Go.Tn

theorem tab_len : Lib.deBruijn64tab.length = 64 := by decide +kernel
def Kn : Know where
  ok w := TabAt 0 Lib.deBruijn64tab w
  foot b o := b = 0 ∧ o < 64
  bound w h b o hb := by
    obtain ⟨rfl, ho⟩ := hb
    exact World.block_lt_of_cell? w ⟨0, o, none⟩ (h o (by rw [tab_len]; exact ho))
  stable w w' h hs := fun j hj => by
    rw [hs 0 j ⟨rfl, by rw [← tab_len]; exact hj⟩]
    exact h j hj
end Go.Proofs.YtlaaljiffcablaaGreatDoor
