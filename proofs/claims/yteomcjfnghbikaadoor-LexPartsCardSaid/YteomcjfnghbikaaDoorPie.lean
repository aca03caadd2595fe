/- Texts of few pieces: Pieces. -/
import Derived.Test.YteomcjfnghbikaaDoorLexU
import Derived.Test.YteomcjfnghbikaaDoorByI
namespace Go.Proofs.YteomcjfnghbikaaDoor
open Go.RowKit

def pieZ : List ByteArray := [⟨#[118, 97, 114, 115, 32]⟩, ⟨#[120, 32]⟩, ⟨#[121]⟩, ⟨#[59, 32]⟩, ⟨#[100, 111, 109, 97, 105, 110, 32]⟩, ⟨#[50]⟩, ⟨#[116, 104, 114, 101, 97, 100, 32]⟩, ⟨#[123]⟩, ⟨#[125]⟩, ⟨#[114, 48]⟩, ⟨#[32, 61, 32]⟩, ⟨#[114, 49]⟩, ⟨#[102, 101, 110, 99, 101]⟩, ⟨#[115, 102, 101, 110, 99, 101, 59]⟩, ⟨#[99, 97, 115]⟩, ⟨#[40]⟩, ⟨#[41]⟩, ⟨#[44]⟩, ⟨#[108, 111, 99, 107, 32, 120, 59]⟩, ⟨#[117, 110, 108, 111, 99, 107, 32]⟩, ⟨#[97, 115, 115, 101, 114, 116, 32]⟩, ⟨#[105, 102, 32]⟩, ⟨#[101, 108, 115, 101, 32]⟩, ⟨#[119, 104, 105, 108, 101, 32]⟩, ⟨#[61, 61]⟩, ⟨#[33, 61]⟩, ⟨#[60]⟩, ⟨#[43]⟩, ⟨#[48]⟩, ⟨#[49]⟩, ⟨#[10]⟩, ⟨#[38]⟩, ⟨#[48, 48, 55]⟩, ⟨#[49, 50, 51, 52, 53, 54, 55]⟩, ⟨#[88]⟩, ⟨#[114, 57]⟩, ⟨#[45]⟩]
/-- The text that the numbers mean. -/
def pieL (cs : List Nat) : List UInt8 := (cs.take 20).flatMap fun c => (pieZ.getD (c % 37) ByteArray.empty).data.toList

theorem pie_len : ∀ j, j < 37 → (pieZ.getD j ByteArray.empty).size ≤ 7 := by decide
theorem take_step {cs : List Nat} {k : Nat} (hk : k < cs.length) (h20 : k < 20) (f : Nat → List UInt8) : ((cs.take 20).take (k + 1)).flatMap f = ((cs.take 20).take k).flatMap f ++ f cs[k] := by
  have hlt : k < (cs.take 20).length := by rw [List.length_take]; omega
  rw [List.take_succ_eq_append_getElem hlt, List.flatMap_append]
  simp

theorem app_list (s z : ByteArray) : (s ++ z).data.toList = s.data.toList ++ z.data.toList := by simp [ByteArray.data_append]

def PiePost (cs : List Nat) (w : World) (e : Ending) (w' : World) : Prop := ∃ s : ByteArray, e = .returned (.string s) ∧ s.data.toList = pieL cs ∧ s.size ≤ 140 ∧ Below w.heap.size w w'

set_option maxRecDepth 100000 in
set_option maxHeartbeats 8000000 in
theorem pieces_any (a : Option Addr) (n cap : Nat) (cs : List Nat) (w : World) (hl : ByIn w (In_ w) a n cap cs) :
    Calls Tryd.prog 10 #[.slice a n cap] w (PiePost cs w) := by
  obtain ⟨zk, hzk⟩ : ∃ zk : Nat → ByteArray, zk = fun j => pieZ.getD j ByteArray.empty := ⟨_, rfl⟩
  have hc : ∀ j : Nat, j < 37 → (w.alloc (.cells (pieZ.map Value.string).toArray 9)).cell? ⟨w.heap.size, j, none⟩ = some (.string (zk j)) := fun j hj => by
    have := row_cell w pieZ 9 j hj
    rw [Nat.zero_add] at this
    rw [this, hzk]
  have hz7 : ∀ j, j < 37 → (zk j).size ≤ 7 := by rw [hzk]; exact pie_len
  have hspec : pieL cs = (cs.take 20).flatMap fun c => (zk (c % 37)).data.toList := by unfold pieL; rw [hzk]
  have hB : Below w.heap.size w (w.alloc (.cells (pieZ.map Value.string).toArray 9)) := (Below.refl _ w).alloc (Nat.le_refl _) _
  have hn := hl.1
  subst hn
  clear hzk
  simp only [pieZ, List.map_cons, List.map_nil] at hc hB
  go_enter Tryd.func10, Tryd.ntmps10
  go_wp2_with fail
  have hl1 := (Kp.of hB).bytes hl
  generalize World.alloc w _ = W0 at hc hB hl1 ⊢
  have Hl := hid hl1
  clear hl hl1
  go_loopw [4, 5] (fun v i wr => ∃ (k : Nat) (s : ByteArray), k ≤ cs.length ∧ k ≤ 20 ∧ v = .string s ∧ i = .int .i64 k ∧ Hid (s.data.toList = ((cs.take 20).take k).flatMap fun c => (zk (c % 37)).data.toList) ∧ s.size ≤ 7 * k ∧ W0 = wr) (fun _ i _ => cs.length - (intOf i).toNat)
  case atStart => exact ⟨0, ⟨#[]⟩, Nat.zero_le _, Nat.zero_le _, rfl, rfl, by simp [Hid], by decide, rfl⟩
  case round =>
    obtain ⟨k, s, hk, hk20, rfl, rfl, hs, hsz, hw⟩ := hrel
    subst hw
    by_cases hgo : k < cs.length ∧ k < 20
    · obtain ⟨hlt, h20⟩ := hgo
      obtain ⟨b, off, rfl, hb, hcell⟩ := Hl.out.at_ k hlt
      have hstep := take_step hlt h20 (fun c => (zk (c % 37)).data.toList)
      have h256 : cs[k] < 256 := Hl.out.2.1 _ (List.getElem_mem hlt)
      generalize cs[k] = c at hcell hstep h256
      have hm : c % 37 < 37 := Nat.mod_lt _ (by decide)
      have hck := hc _ hm
      have hzz := hz7 _ hm
      have k0 : (0 : Int) ≤ k := by omega
      have k1 : (k : Int) < cs.length := by omega
      have k2 : (k : Int) < 20 := by omega
      have d1 : decide ((k : Int) < cs.length) = true := decide_eq_true k1
      have d2 : decide ((k : Int) < 20) = true := decide_eq_true k2
      have hmI : ((c % 37 : Nat) : Int) = (c : Int) % 37 := by omega
      have htm : (c : Int).tmod 37 = ((c % 37 : Nat) : Int) := by rw [Int.tmod_eq_emod_of_nonneg (by omega)]; omega
      generalize c % 37 = m at hstep hm hck hzz htm hmI
      have m0 : (0 : Int) ≤ m := by omega
      have m1 : (m : Int) < 37 := by omega
      have hbl := hb.lt
      have hsmall : s.size ≤ 1000 := by omega
      have hz1 : (zk m).size ≤ 1000 := by omega
      generalize zk m = z at hstep hck hzz hz1
      have c0 : (0 : Int) ≤ c := by omega
      have c1 : (c : Int) < 256 := by omega
      clear hc hspec hz7 hmI
      go_wp2_with fail
      refine ⟨⟨k + 1, s ++ z, hlt, h20, rfl, by simp, ?_, by rw [ByteArray.size_append]; omega, trivial⟩, by simp [intOf]; omega⟩
      show _ = _
      rw [app_list, hstep, hs.out]
    · have hfin : Hid (PiePost cs w (.returned (.string s)) W0) := by
        refine ⟨s, rfl, ?_, by omega, hB⟩
        rw [hs.out, hspec, List.take_of_length_le]
        rw [List.length_take]
        omega
      clear hspec hc
      by_cases hk2 : k < cs.length
      · obtain rfl : k = 20 := by omega
        have d1 : decide ((20 : Int) < cs.length) = true := decide_eq_true (by omega)
        have d1' : (20 : Int) < cs.length := by omega
        go_wp2_with fail
        go_ret
        exact hfin.out
      · obtain rfl : k = cs.length := by omega
        have d1 : decide ((cs.length : Int) < cs.length) = false := decide_eq_false (by omega)
        go_wp2_with fail
        go_ret
        exact hfin.out

set_option maxHeartbeats 4000000 in
theorem lexSmall_walk (a : Option Addr) (n cap : Nat) (cs : List Nat) (w : World) (hv : Vars w) (hl : ByIn w (In_ w) a n cap cs) :
    Calls Tryd.prog 4 #[.slice a n cap] w fun e w' => e = .returned (.bool true) ∧ Below w.heap.size w w' := by
  have h1 := awake_any w hv
  go_enter Tryd.func4, Tryd.ntmps4
  go_wp2_with (first
    | (go_at_call 8; refine h1.mono ?_; rintro e w1 ⟨rfl, hB1⟩
       have hv1 := hv.next hB1)
    | (go_at_call 10; refine (pieces_any a n cap cs _ ((Kp.of hB1).bytes hl)).mono ?_; rintro e w2 ⟨s, rfl, _, _, hB2⟩
       have hv2 := hv1.next hB2
       have hB12 := hB1.trans (hB2.mono hB1.size))
    | (go_at_call 9; refine (same_law s _ hv2).mono ?_; rintro e w3 ⟨rfl, hB3⟩
       have hB13 := hB12.trans (hB3.mono hB12.size))
    | fail)
  go_ret
  exact ⟨rfl, hB13⟩
end Go.Proofs.YteomcjfnghbikaaDoor
