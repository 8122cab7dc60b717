/- What the functions on bytes do: sums, frames, clones. -/
import Derived.Test.YtbmejbmkaoekgaaGreatDoorTypes
import Derived.Test.YtbmejbmkaoekgaaGreatDoorLaws
import Derived.Test.YtbmejbmkaoekgaaGreatDoorCrc
import Derived.Deep.QuietTactic
import Derived.BigQuiet
import Derived.WalkSpells
import Derived.Shelf.Bytes.SlSmallAll
namespace Go.Proofs.YtbmejbmkaoekgaaGreatDoor
open Go Go.RowKit
set_option linter.unusedVariables false
set_option linter.unusedSimpArgs false

theorem ret_u32 {a b : Int} (h : a = b) : Ending.returned (.int .u32 a) = .returned (.int .u32 b) := by rw [h]

theorem sum_gen {t8 : TypeId} (v : Value) (bs : List UInt8) (w : World) (hb : Bytes w t8 v bs) :
    Calls Tryz.prog 22 #[v] w fun e w' => e = .returned (.int .u32 (crc bs)) ∧ w = w' := by
  have hcells : Hid (∀ i (hi : i < bs.length), ∃ a c, v = .slice (some a) bs.length c ∧ a.block < w.heap.size ∧ w.cell? (a.add i) = some (bv bs[i])) := Lib.hid (fun i hi => hb.at_ hi)
  obtain ⟨A, c, rfl, hc, hm, hx⟩ := hb
  unfold maxLen at hm
  clear hx
  go_enter Tryz.func22, Tryz.ntmps22
  go_wp2
  go_loop [3, 8] (fun n i => ∃ k : Nat, k ≤ bs.length ∧ i = .int .i64 k ∧ n = .int .u32 (cfold 4294967295 (bs.take k) : Nat)) (fun _ i => bs.length - (intOf i).toNat)
  case atStart => exact ⟨0, by omega, rfl, rfl⟩
  case round =>
    obtain ⟨k, hk, rfl, rfl⟩ := hrel
    have hml := cfold_lt (c := 4294967295) (by decide) (bs.take k)
    by_cases hlt : k < bs.length
    · obtain ⟨a, c', hs, _, hcell⟩ := hcells.out k hlt
      injection hs with hs _ hcc; clear hcc
      subst hs
      unfold bv at hcell
      have HT := Lib.hid (cfold_take bs 4294967295 k hlt)
      generalize hg : cfold 4294967295 (bs.take k) = m at *
      clear hg
      have hbl := bs[k].toNat_lt
      go_wp2
      go_loop [3, 16] (fun n i => ∃ j : Nat, j ≤ 8 ∧ i = .int .i64 j ∧ n = .int .u32 (csteps j (m ^^^ bs[k].toNat) : Nat)) (fun _ i => 8 - (intOf i).toNat)
      case atStart => exact ⟨0, by omega, rfl, by rw [bits_xor m _ hml (by omega)]; rfl⟩
      case round =>
        obtain ⟨j, hj, rfl, rfl⟩ := hrel
        have hsl := csteps_lt j (xor_byte_lt hml bs[k])
        have HG := Lib.hid (go_cstep (csteps j (m ^^^ bs[k].toNat)) hsl)
        by_cases hj8 : j < 8
        · go_wp2
          go_round
          case rel => exact ⟨j + 1, by omega, by go_num, by rw [HG.out]; rfl⟩
          case measure => simp [intOf]; omega
        · have : j = 8 := by omega
          subst this
          go_wp2
          go_round
          case rel => exact ⟨k + 1, by omega, by go_num, by rw [HT.out]; rfl⟩
          case measure => simp [intOf]; omega
    · have hsg : IntKind.u32.signed = false := rfl
      have hmx : IntKind.u32.max = 4294967295 := rfl
      go_wp2
      go_ret
      refine ⟨?_, rfl⟩
      have hkl : k = bs.length := by omega
      subst hkl
      rw [List.take_length] at hml ⊢
      refine ret_u32 ?_
      have := bits_xor 4294967295 _ (by decide) hml
      rw [show ((4294967295 : Nat) : Int) = 4294967295 from rfl] at this
      rw [Nat.xor_comm] at this
      exact this

/-- A number as four bytes. -/
def fourB (n : Nat) : List UInt8 := [UInt8.ofNat (n / 16777216), UInt8.ofNat (n / 65536), UInt8.ofNat (n / 256), UInt8.ofNat n]

theorem bv_ofNat (n : Nat) : bv (UInt8.ofNat n) = .int .u8 ((n : Int) % 256) := by
  unfold bv; rw [UInt8.toNat_ofNat']; congr 1

theorem Bytes.lit (w : World) (t8 : TypeId) (cs : Array Value) (bs : List UInt8) (h : cs.toList = bs.map bv) (hl : bs.length ≤ maxLen) (n : Nat) (hn : n = bs.length) :
    Bytes (w.alloc (.cells cs t8)) t8 (.slice (some ⟨w.heap.size, 0, none⟩) n n) bs := by
  subst hn
  refine ⟨_, _, rfl, Nat.le_refl _, hl, fun _ => ⟨_, _, _, _, rfl, heap_alloc_new w _, fun i b hi => ?_⟩⟩
  have : (bs.map bv)[i]? = some (bv b) := by rw [List.getElem?_map, hi]; rfl
  rw [← h] at this
  simpa using this

theorem four_any (n : Nat) (w : World) (h : n < 4294967296) :
    Calls Tryz.prog 48 #[.int .u32 n] w fun e w' => ∃ v, e = .returned v ∧ Bytes w' tByte v (fourB n) ∧ Keep No w w' := by
  go_enter Tryz.func48, Tryz.ntmps48
  go_wp2
  go_ret
  refine ⟨_, rfl, Bytes.lit w tByte _ _ ?_ (by simp [fourB, maxLen]) 4 (by simp [fourB]), (Keep.refl No w).alloc _⟩
  simp only [fourB, List.map_cons, List.map_nil, bv_ofNat]
  have e : ((n / 16777216 : Nat) : Int) % 256 = (n : Int) / 16777216 := by omega
  rw [e]
  simp

def Fresh (w w' : World) (e : Ending) (bs : List UInt8) : Prop := ∃ v, e = .returned v ∧ w'.ownsRow w.heap.size tByte 1 v bs.length (bs.map bv) ∧ Keep No w w'

theorem one_bv (bs : List UInt8) : ∀ y ∈ bs.map bv, y.oneCell' = true := by
  intro y hy; obtain ⟨b, _, rfl⟩ := List.mem_map.1 hy; rfl

theorem clone_gen {t8 : TypeId} (v : Value) (bs : List UInt8) (w : World) (hb : Bytes w t8 v bs) (hl : bs.length ≤ 140737488355328) :
    Calls Tryz.prog 30 #[v] w fun e w' => Fresh w w' e bs := by
  have hs := hb.shows
  obtain ⟨A, c, rfl, hc, hm, hx⟩ := hb
  unfold maxLen at hm
  clear hx
  have q : ∀ (w : World) (a : Option Addr) (n c n' c' : Nat), (binOp .eql 31 (.slice a n c) (.slice none n' c')).run Tryz.prog w = .ok (.bool a.isNone) w := fun w a n c n' c' => Lib.run_eql_slice_nil w _ _ a n c n' c' uBytes
  rcases A with _ | a
  · have h0 : bs = [] := by
      obtain ⟨A, c', he, hlen, h⟩ := hs
      injection he with he _ _
      rcases Nat.eq_zero_or_pos bs.length with h0 | h0
      · exact List.eq_nil_of_length_eq_zero h0
      · obtain ⟨a, ha, _⟩ := h h0; rw [← he] at ha; cases ha
    subst h0
    clear hs
    go_enter Tryz.func30, Tryz.ntmps30
    go_wp2
    go_ret
    exact ⟨_, rfl, World.ownsRow_nil _ _ _ _, Keep.refl No w⟩
  · have hs' := Lib.hid hs
    clear hs
    go_enter Tryz.func30, Tryz.ntmps30
    go_wp2_with (at_builtin; refine wpList_append_shows _ rfl _ _ 31 rfl w.heap.size tByte (.int .u8 0) 1 uBytes iByte rfl _ 0 [] rfl (World.ownsRow_made w #[] 0 (Nat.le_refl _) (Nat.zero_le _) rfl) _ bs.length (bs.map bv) rfl ?h1 (one_bv bs) ?h2 ?h3 ?h4 ?_)
    case h1 =>
      obtain ⟨A, c', he, hl', hh⟩ := hs'.out
      exact ⟨A, c', he, hl', fun h0 => by
        obtain ⟨a', ha, hc'⟩ := hh h0
        exact ⟨a', ha, fun j x hx => Lib.cell?_alloc_some _ (hc' j x hx)⟩⟩
    case h2 => simp [maxLen]; omega
    case h3 => omega
    case h4 => simp
    intro v' w1 hown hgrow hnil _
    go_wp2
    go_ret
    exact ⟨v', rfl, by simpa using hown, ((Keep.refl No w).alloc _).trans (Keep.of_grown hgrow) (fun b hb hlt => by simp [Value.ownBlock] at hb; omega)⟩

theorem sclone_gen {t8 : TypeId} (v : Value) (bs : List UInt8) (w : World) (hb : Bytes w t8 v bs) (hl : bs.length ≤ 140737488355328) :
    Calls Tryz.prog 33 #[v] w fun e w' => Fresh w w' e bs := by
  have hs := hb.shows
  obtain ⟨A, c, rfl, hc, hm, hx⟩ := hb
  unfold maxLen at hm
  clear hx
  have q : ∀ (w : World) (a : Option Addr) (n c n' c' : Nat), (binOp .eql 31 (.slice a n c) (.slice none n' c')).run Tryz.prog w = .ok (.bool a.isNone) w := fun w a n c n' c' => Lib.run_eql_slice_nil w _ _ a n c n' c' uBytes
  rcases A with _ | a
  · have h0 : bs = [] := by
      obtain ⟨A, c', he, hlen, h⟩ := hs
      injection he with he _ _
      rcases Nat.eq_zero_or_pos bs.length with h0 | h0
      · exact List.eq_nil_of_length_eq_zero h0
      · obtain ⟨a, ha, _⟩ := h h0; rw [← he] at ha; cases ha
    subst h0
    clear hs
    go_enter Tryz.func33, Tryz.ntmps33
    go_wp2
    go_ret
    exact ⟨_, rfl, World.ownsRow_nil _ _ _ _, Keep.refl No w⟩
  · have hs' := Lib.hid hs
    clear hs
    go_enter Tryz.func33, Tryz.ntmps33
    go_wp2_with (at_builtin; refine wpList_append_shows _ rfl _ _ 31 rfl w.heap.size tByte (.int .u8 0) 1 uBytes iByte rfl _ 0 [] rfl (World.ownsRow_made w #[] 0 (Nat.le_refl _) (Nat.zero_le _) rfl) _ bs.length (bs.map bv) rfl ?h1 (one_bv bs) ?h2 ?h3 ?h4 ?_)
    case h1 =>
      obtain ⟨A, c', he, hl', hh⟩ := hs'.out
      exact ⟨A, c', he, hl', fun h0 => by
        obtain ⟨a', ha, hc'⟩ := hh h0
        exact ⟨a', ha, fun j x hx => Lib.cell?_alloc_some _ (hc' j x hx)⟩⟩
    case h2 => simp [maxLen]; omega
    case h3 => omega
    case h4 => simp
    intro v' w1 hown hgrow hnil _
    go_wp2
    go_ret
    exact ⟨v', rfl, by simpa using hown, ((Keep.refl No w).alloc _).trans (Keep.of_grown hgrow) (fun b hb hlt => by simp [Value.ownBlock] at hb; omega)⟩

section
variable {w : World} {v : Value} {bs : List UInt8}
theorem Bytes.cells {t8 : TypeId} (hb : Bytes w t8 v bs) : ∃ A c, v = .slice A bs.length c ∧ (0 < bs.length → ∃ g off, A = some ⟨g, off, none⟩ ∧ ∀ i, i < bs.length → w.cell? ⟨g, off + i, none⟩ = some (.int .u8 ((bs.map (fun b => (b.toNat : Int))).getD i 0))) := by
  obtain ⟨A, c, rfl, hc, hm, hx⟩ := hb
  refine ⟨A, c, rfl, fun h0 => ?_⟩
  obtain ⟨g, off, cs, fz, rfl, hg, hi⟩ := hx h0
  refine ⟨g, off, rfl, fun i hil => ?_⟩
  have := hi i _ (List.getElem?_eq_getElem hil)
  simp [World.cell?, hg, this, bv, List.getD, List.getElem?_eq_getElem hil]

theorem Bytes.str {t8 : TypeId} (hb : Bytes w t8 v bs) : (convert 31 9 v).run Tryz.prog w = .ok (.string ⟨bs.toArray⟩) w := by
  obtain ⟨A, c, rfl, h⟩ := hb.cells
  rcases Nat.eq_zero_or_pos bs.length with h0 | h0
  · obtain rfl : bs = [] := List.eq_nil_of_length_eq_zero h0
    exact run_convert_bytes_zero w _ _ uBytes uByte A c _ uStr
  · obtain ⟨g, off, rfl, hc⟩ := h h0
    rw [run_convert_bytes_arg w _ _ uBytes uByte g off bs.length c _ (by simp) hc _ uStr]
    have e : strOfNums (bs.map (fun b => (b.toNat : Int))) = ⟨bs.toArray⟩ := by
      unfold strOfNums
      rw [List.map_map]
      have : ((fun n : Int => UInt8.ofNat n.toNat) ∘ fun b : UInt8 => (b.toNat : Int)) = id := by
        funext b; simp
      rw [this, List.map_id]
    rw [e]

end

theorem toList_mk (bs : List UInt8) : (ByteArray.mk bs.toArray).toList = bs := by
  rw [ByteArray.toList_eq]

theorem equal_gen {t8 t9 : TypeId} (u v : Value) (xs ys : List UInt8) (w : World) (ha : Bytes w t8 u xs) (hb : Bytes w t9 v ys) :
    Calls Tryz.prog 87 #[u, v] w fun e w' => e = .returned (.bool (xs == ys)) ∧ w = w' := by
  have h1 := ha.str
  have h2 := hb.str
  clear ha hb
  go_enter Tryz.func87, Tryz.ntmps87
  go_wp2
  go_ret
  refine ⟨?_, rfl⟩
  have := toList_mk xs
  have := toList_mk ys
  simp [*]

theorem grow_zero (w : World) :
    Calls Tryz.prog 64 #[.slice none 0 0, .int .i64 0] w fun e w' => e = .returned (.slice none 0 0) ∧ w = w' := by
  go_enter Tryz.func64, Tryz.ntmps64
  go_wp2
  go_ret
  exact ⟨rfl, rfl⟩

theorem grow_some (n : Nat) (w : World) (h0 : 0 < n) (h1 : n ≤ 140737488355328) :
    Calls Tryz.prog 64 #[.slice none 0 0, .int .i64 n] w fun e w' => ∃ v, e = .returned v ∧ w'.ownsRow w.heap.size tByte 1 v 0 [] ∧ w.grownBy w' none := by
  go_enter Tryz.func64, Tryz.ntmps64
  go_wp2_with (at_builtin; refine wpList_append_zeros_new _ rfl _ _ 31 3 rfl tByte (.int .u8 0) 1 uBytes uInt iByte rfl rfl n rfl h0 ?h2 ?h3 ?_)
  case h2 => simp [maxLen]; omega
  case h3 => omega
  intro cap w1 hown hcap hgrow
  have hc0 : n ≤ cap := hcap
  go_wp2
  go_ret
  exact ⟨_, rfl, hown, hgrow⟩

theorem sum_any (v : Value) (bs : List UInt8) (w : World) (hb : Bytes w tByte v bs) :
    Calls Tryz.prog 22 #[v] w fun e w' => e = .returned (.int .u32 (crc bs)) ∧ w = w' := sum_gen v bs w hb
theorem clone_any (v : Value) (bs : List UInt8) (w : World) (hb : Bytes w tByte v bs) (hl : bs.length ≤ 140737488355328) :
    Calls Tryz.prog 30 #[v] w fun e w' => Fresh w w' e bs := clone_gen v bs w hb hl
theorem sclone_any (v : Value) (bs : List UInt8) (w : World) (hb : Bytes w tByte v bs) (hl : bs.length ≤ 140737488355328) :
    Calls Tryz.prog 33 #[v] w fun e w' => Fresh w w' e bs := sclone_gen v bs w hb hl
theorem equal_any (u v : Value) (xs ys : List UInt8) (w : World) (ha : Bytes w tByte u xs) (hb : Bytes w tByte v ys) :
    Calls Tryz.prog 87 #[u, v] w fun e w' => e = .returned (.bool (xs == ys)) ∧ w = w' := equal_gen u v xs ys w ha hb
end Go.Proofs.YtbmejbmkaoekgaaGreatDoor
