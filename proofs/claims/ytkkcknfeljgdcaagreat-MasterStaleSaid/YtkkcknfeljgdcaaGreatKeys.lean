/- A map's keys, sorted, in this program. -/
import Derived.Test.YtkkcknfeljgdcaaGreatB3
import Derived.Test.YtkkcknfeljgdcaaGreatShelf
namespace Go.Proofs
open Go.RowKit Go.Maps Go.Sort Go.Shelf
theorem Tryz.sorts78 (m : Nat) : AnyZI.SortsIn Tryz.prog Tryz.sorted78_ren Fence.wide m :=
  ⟨fun blk off cap ss W hH hblk hsz => callsIn_wide.2 (AnyM.slices_Sort_int Tryz.sort111 blk off cap ss W hH hblk hsz), fun p cap W => callsIn_wide.2 (AnyM.slices_Sort_int_none Tryz.sort111 p cap W)⟩
theorem Tryz.sk_78_112 : Go.Ev.SortedKeys Tryz.prog 78 112 3 3 := by
  refine ⟨fun b nn D0 w B hB hc hown hmax hbytes => (callsIn_wide (n := 5)).1 ?_, fun w B hB hc => (callsIn_wide (n := 5)).1 ?_⟩
  · have hseq : SeqGives Fence.wide 2 Tryz.prog 112 #[.pointer (some ⟨B, 0, none⟩)] encZ (fun ss => ss.Perm (intKeys D0)) (Maps.size D0) w :=
      AnyZI.keys_gives (ρ := Tryz.keys79_ren) { Tryz.keys79 with } Fence.wide _ trivial rfl (by omega) B b nn D0 _ hB hc hown
    exact AnyZI.sorted_in Tryz.sorted78 Fence.wide 5 trivial trivial trivial trivial rfl (by omega) (Tryz.sorts78 _) (enters_of Tryz.func111 (by kernel_rfl) rfl) 112 #[.pointer (some ⟨B, 0, none⟩)] trivial (enters_of Tryz.func112 (by kernel_rfl) rfl) _ _ hmax hbytes _ hseq
  · have hseq : SeqGives Fence.wide 2 Tryz.prog 112 #[.pointer (some ⟨B, 0, none⟩)] encZ (fun ss : List Int => ss = []) 0 w :=
      AnyZI.keys_gives_nil (ρ := Tryz.keys79_ren) { Tryz.keys79 with } Fence.wide _ trivial rfl B _ hB hc
    refine (AnyZI.sorted_in Tryz.sorted78 Fence.wide 5 trivial trivial trivial trivial rfl (by omega) (Tryz.sorts78 _) (enters_of Tryz.func111 (by kernel_rfl) rfl) 112 #[.pointer (some ⟨B, 0, none⟩)] trivial (enters_of Tryz.func112 (by kernel_rfl) rfl) _ 0 (Nat.zero_le _) (by omega) _ hseq).mono ?_
    rintro e w' ⟨v, ss, rfl, rfl, hrow, hnil, hb⟩
    obtain rfl : v = .slice none 0 0 := hnil.2 rfl
    exact ⟨rfl, hb⟩
theorem Tryz.sk_78_131 : Go.Ev.SortedKeys Tryz.prog 78 131 3 3 := by
  refine ⟨fun b nn D0 w B hB hc hown hmax hbytes => (callsIn_wide (n := 5)).1 ?_, fun w B hB hc => (callsIn_wide (n := 5)).1 ?_⟩
  · have hseq : SeqGives Fence.wide 2 Tryz.prog 131 #[.pointer (some ⟨B, 0, none⟩)] encZ (fun ss => ss.Perm (intKeys D0)) (Maps.size D0) w :=
      AnyZI.keys_gives (ρ := Tryz.keys109_ren) { Tryz.keys109 with } Fence.wide _ trivial rfl (by omega) B b nn D0 _ hB hc hown
    exact AnyZI.sorted_in Tryz.sorted78 Fence.wide 5 trivial trivial trivial trivial rfl (by omega) (Tryz.sorts78 _) (enters_of Tryz.func111 (by kernel_rfl) rfl) 131 #[.pointer (some ⟨B, 0, none⟩)] trivial (enters_of Tryz.func131 (by kernel_rfl) rfl) _ _ hmax hbytes _ hseq
  · have hseq : SeqGives Fence.wide 2 Tryz.prog 131 #[.pointer (some ⟨B, 0, none⟩)] encZ (fun ss : List Int => ss = []) 0 w :=
      AnyZI.keys_gives_nil (ρ := Tryz.keys109_ren) { Tryz.keys109 with } Fence.wide _ trivial rfl B _ hB hc
    refine (AnyZI.sorted_in Tryz.sorted78 Fence.wide 5 trivial trivial trivial trivial rfl (by omega) (Tryz.sorts78 _) (enters_of Tryz.func111 (by kernel_rfl) rfl) 131 #[.pointer (some ⟨B, 0, none⟩)] trivial (enters_of Tryz.func131 (by kernel_rfl) rfl) _ 0 (Nat.zero_le _) (by omega) _ hseq).mono ?_
    rintro e w' ⟨v, ss, rfl, rfl, hrow, hnil, hb⟩
    obtain rfl : v = .slice none 0 0 := hnil.2 rfl
    exact ⟨rfl, hb⟩
theorem Tryz.sorts113 (m : Nat) : AnyZI.SortsIn Tryz.prog Tryz.sorted113_ren Fence.wide m :=
  ⟨fun blk off cap ss W hH hblk hsz => callsIn_wide.2 (AnyM.slices_Sort_int Tryz.sort136 blk off cap ss W hH hblk hsz), fun p cap W => callsIn_wide.2 (AnyM.slices_Sort_int_none Tryz.sort136 p cap W)⟩
theorem Tryz.sk_113_137 : Go.Ev.SortedKeys Tryz.prog 113 137 2 2 := by
  refine ⟨fun b nn D0 w B hB hc hown hmax hbytes => (callsIn_wide (n := 5)).1 ?_, fun w B hB hc => (callsIn_wide (n := 5)).1 ?_⟩
  · have hseq : SeqGives Fence.wide 2 Tryz.prog 137 #[.pointer (some ⟨B, 0, none⟩)] encZ (fun ss => ss.Perm (intKeys D0)) (Maps.size D0) w :=
      AnyZI.keys_gives (ρ := Tryz.keys114_ren) { Tryz.keys114 with } Fence.wide _ trivial rfl (by omega) B b nn D0 _ hB hc hown
    exact AnyZI.sorted_in Tryz.sorted113 Fence.wide 5 trivial trivial trivial trivial rfl (by omega) (Tryz.sorts113 _) (enters_of Tryz.func136 (by kernel_rfl) rfl) 137 #[.pointer (some ⟨B, 0, none⟩)] trivial (enters_of Tryz.func137 (by kernel_rfl) rfl) _ _ hmax hbytes _ hseq
  · have hseq : SeqGives Fence.wide 2 Tryz.prog 137 #[.pointer (some ⟨B, 0, none⟩)] encZ (fun ss : List Int => ss = []) 0 w :=
      AnyZI.keys_gives_nil (ρ := Tryz.keys114_ren) { Tryz.keys114 with } Fence.wide _ trivial rfl B _ hB hc
    refine (AnyZI.sorted_in Tryz.sorted113 Fence.wide 5 trivial trivial trivial trivial rfl (by omega) (Tryz.sorts113 _) (enters_of Tryz.func136 (by kernel_rfl) rfl) 137 #[.pointer (some ⟨B, 0, none⟩)] trivial (enters_of Tryz.func137 (by kernel_rfl) rfl) _ 0 (Nat.zero_le _) (by omega) _ hseq).mono ?_
    rintro e w' ⟨v, ss, rfl, rfl, hrow, hnil, hb⟩
    obtain rfl : v = .slice none 0 0 := hnil.2 rfl
    exact ⟨rfl, hb⟩
theorem Tryz.sk_78_138 : Go.Ev.SortedKeys Tryz.prog 78 138 3 3 := by
  refine ⟨fun b nn D0 w B hB hc hown hmax hbytes => (callsIn_wide (n := 5)).1 ?_, fun w B hB hc => (callsIn_wide (n := 5)).1 ?_⟩
  · have hseq : SeqGives Fence.wide 2 Tryz.prog 138 #[.pointer (some ⟨B, 0, none⟩)] encZ (fun ss => ss.Perm (intKeys D0)) (Maps.size D0) w :=
      AnyZI.keys_gives (ρ := Tryz.keys116_ren) { Tryz.keys116 with } Fence.wide _ trivial rfl (by omega) B b nn D0 _ hB hc hown
    exact AnyZI.sorted_in Tryz.sorted78 Fence.wide 5 trivial trivial trivial trivial rfl (by omega) (Tryz.sorts78 _) (enters_of Tryz.func111 (by kernel_rfl) rfl) 138 #[.pointer (some ⟨B, 0, none⟩)] trivial (enters_of Tryz.func138 (by kernel_rfl) rfl) _ _ hmax hbytes _ hseq
  · have hseq : SeqGives Fence.wide 2 Tryz.prog 138 #[.pointer (some ⟨B, 0, none⟩)] encZ (fun ss : List Int => ss = []) 0 w :=
      AnyZI.keys_gives_nil (ρ := Tryz.keys116_ren) { Tryz.keys116 with } Fence.wide _ trivial rfl B _ hB hc
    refine (AnyZI.sorted_in Tryz.sorted78 Fence.wide 5 trivial trivial trivial trivial rfl (by omega) (Tryz.sorts78 _) (enters_of Tryz.func111 (by kernel_rfl) rfl) 138 #[.pointer (some ⟨B, 0, none⟩)] trivial (enters_of Tryz.func138 (by kernel_rfl) rfl) _ 0 (Nat.zero_le _) (by omega) _ hseq).mono ?_
    rintro e w' ⟨v, ss, rfl, rfl, hrow, hnil, hb⟩
    obtain rfl : v = .slice none 0 0 := hnil.2 rfl
    exact ⟨rfl, hb⟩
end Go.Proofs
