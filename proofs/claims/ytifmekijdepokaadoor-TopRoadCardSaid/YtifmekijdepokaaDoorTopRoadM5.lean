/- Laws and contracts that the proof of TopRoad uses, part 5. -/
import Derived.Test.YtifmekijdepokaaDoorTopRoadM4
import Derived.Test.YtifmekijdepokaaDoorTopRoadM1
import Derived.Laws.EntriesVeiled
import Derived.Test.YtifmekijdepokaaDoorTopRoadM3
import Derived.Test.YtifmekijdepokaaDoorProg
import Derived.Maps.OwnOps
import Derived.Maps.Views
import Derived.Deep.RegionHeld3
import Derived.Deep.RegionLaw
namespace Go.Proofs.YtifmekijdepokaaDoor
open Go.RowKit

/- Contract: tight of package games, for whatever function it is called with. -/

/-- All rising lists that go on from a beginning. -/
def cmbs (N : Nat) : Nat → Nat → List Nat → List (List Nat)
  | 0, _, pre => [pre]
  | m + 1, fr, pre => (List.range' fr (N - fr)).flatMap fun s => cmbs N m (s + 1) (pre ++ [s])
/-- .. up to the number i. -/
def cmbTo (N m fr : Nat) (pre : List Nat) (i : Nat) : List (List Nat) := (List.range' fr (i - fr)).flatMap fun s => cmbs N m (s + 1) (pre ++ [s])
theorem cmbs_eq (N m fr : Nat) (pre : List Nat) : cmbs N (m + 1) fr pre = cmbTo N m fr pre N := rfl
theorem cmbTo_succ {N m fr : Nat} {pre : List Nat} {i : Nat} (h : fr ≤ i) : cmbTo N m fr pre (i + 1) = cmbTo N m fr pre i ++ cmbs N m (i + 1) (pre ++ [i]) := by
  unfold cmbTo
  rw [show i + 1 - fr = (i - fr) + 1 from by omega, List.range'_1_concat, List.flatMap_append, show fr + (i - fr) = i from by omega]
  simp
theorem cmbTo_le (N m fr : Nat) (pre : List Nat) (i j : Nat) (h : i ≤ j) : cmbTo N m fr pre i <+: cmbTo N m fr pre j := by
  unfold cmbTo
  have e : List.range' fr (j - fr) = List.range' fr (i - fr) ++ List.range' (fr + (i - fr)) (j - fr - (i - fr)) := by
    rw [List.range'_append_1]
    congr 1
    omega
  rw [e, List.flatMap_append]
  exact List.prefix_append _ _
/-- The sets that are chosen, in order. -/
def cmb (N k : Nat) : List (List Nat) := cmbs N k 1 []

/-- What tight works on. -/
structure TX where
  B : Nat
  A0 : Option Addr
  N : Nat
  cap0 : Nat
  k : Nat
  K : FuncId
  caps : Array Value
  S : List Nat
def TX.gcaps (X : TX) : Array Value := #[.pointer (some ⟨X.B + 3, 0, none⟩), .pointer (some ⟨X.B + 1, 0, none⟩), .pointer (some ⟨X.B + 2, 0, none⟩), .pointer (some ⟨X.B, 0, none⟩), .pointer (some ⟨X.B + 4, 0, none⟩)]
/-- The fixed parts of memory. -/
structure TX.fix (X : TX) (w : World) : Prop where
  size : X.B + 5 ≤ w.heap.size
  bc : Blk w X.B 64 #[.slice X.A0 X.N X.cap0]
  bk : Blk w (X.B + 1) 3 #[.int .i64 X.k]
  bm : Blk w (X.B + 2) 58 #[.func (.func X.K) #[] X.caps]
  bg : Blk w (X.B + 4) 71 #[.func (.func 62) #[] X.gcaps]
/-- The sets so far. -/
def TX.pre (X : TX) (pre : List Nat) (w : World) : Prop := ∃ A k, Blk w (X.B + 3) 22 #[.slice A pre.length k] ∧ w.ownsRow (X.B + 5) 3 1 (.slice A pre.length k) pre.length (nats pre) ∧ pre.length ≤ k ∧ k ≤ 9223372036854775807

theorem TX.fix.kept {X : TX} {w w' : World} (h : X.fix w) (hS : ∀ x ∈ X.S, x < X.B) (hk : Kept (X.B + 5) ((X.B + 3) :: X.S) w w') : X.fix w' := by
  have k : ∀ (g : Nat) (t : TypeId) (cs : Array Value), Blk w g t cs → X.B ≤ g → g < X.B + 5 → g ≠ X.B + 3 → Blk w' g t cs := by
    intro g t cs hb h1 h2 h3
    refine hb.kept hk h2 ?_
    intro hm
    rcases List.mem_cons.1 hm with e | e
    · exact h3 e
    · have := hS g e; omega
  exact ⟨Nat.le_trans h.size hk.size, k _ _ _ h.bc (by omega) (by omega) (by omega), k _ _ _ h.bk (by omega) (by omega) (by omega), k _ _ _ h.bm (by omega) (by omega) (by omega), k _ _ _ h.bg (by omega) (by omega) (by omega)⟩

/-- What a call of the function must leave. -/
def MorePost (Inv : Nat → World → Prop) (Done : World → Prop) (S : List Nat) (t : Nat) (w : World) (e : Ending) (w' : World) : Prop :=
  Kept w.heap.size S w w' ∧ ((e = .returned (.bool true) ∧ Inv (t + 1) w') ∨ (e = .returned (.bool false) ∧ Done w'))
/-- What the inner function leaves. -/
def GrowPost (X : TX) (Inv : Nat → World → Prop) (Done : World → Prop) (pre : List Nat) (t len : Nat) (w : World) (e : Ending) (w' : World) : Prop :=
  Kept (X.B + 5) ((X.B + 3) :: X.S) w w' ∧ ((e = .returned (.bool true) ∧ Inv (t + len) w' ∧ X.pre pre w') ∨ (e = .returned (.bool false) ∧ Done w'))

set_option maxRecDepth 100000 in
set_option maxHeartbeats 800000 in
theorem tight1_any (X : TX) (Inv : Nat → World → Prop) (Done : World → Prop) (hS : ∀ x ∈ X.S, x < X.B) (hK : EntF X.K) (hN : X.N ≤ 16) (hk : 1 ≤ X.k ∧ X.k ≤ 4)
    (hkeep : ∀ t w1 w2, Inv t w1 → Below X.B w1 w2 → Inv t w2) (L : List (List Nat))
    (hcall : ∀ t w' A c sets, L[t]? = some sets → Inv t w' → Ints w' A (sets.map Int.ofNat) → X.k ≤ c → c ≤ 9223372036854775807 → X.B ≤ w'.heap.size → Calls Tryd.prog X.K (#[.slice A X.k c] ++ X.caps) w' (MorePost Inv Done X.S t w'))
    (m : Nat) : ∀ (fr : Nat) (pre : List Nat) (t : Nat) (w : World), pre.length + m = X.k → 1 ≤ fr → fr ≤ 16 → X.fix w → X.pre pre w → Inv t w → (∀ j s, (cmbs X.N m fr pre)[j]? = some s → L[t + j]? = some s) →
    Calls Tryd.prog 62 (#[.int .i64 fr] ++ X.gcaps) w (GrowPost X Inv Done pre t (cmbs X.N m fr pre).length w) := by
  unfold EntF at hK
  have HC := Lib.hid (And.intro hS (And.intro hkeep hcall))
  clear hS hkeep hcall
  induction m with
  | zero =>
    intro fr pre t w hpl hf1 hf16 hf hp hI hL
    obtain ⟨A, kc, hbo, hown, hk1, hk2⟩ := hp
    have hpk : pre.length = X.k := by omega
    rw [hpk] at hbo hown hk1
    have hl0 := hL 0 pre rfl
    have hInts : Ints w A (pre.map Int.ofNat) := by
      have := At.of_own hown
      unfold Ints
      rw [show (pre.map Int.ofNat).map (Value.int .i64) = nats pre from by simp [nats]]
      exact this
    have o1 := hbo.at1.1
    have o2 := hf.bk.at1.1
    have o3 := hf.bm.at1.1
    have hcl := HC.out.2.2 t w A kc pre hl0 hI hInts hk1 hk2 (by have := hf.size; omega)
    have H := Lib.hid (And.intro hcl (And.intro hf (And.intro hbo (And.intro hown (And.intro hk1 (And.intro hk2 hpk))))))
    clear hcl hf hbo hown hk1 hk2 hpk hl0 hInts hI hL hpl
    have e1 : ((X.k : Int) == (X.k : Int)) = true := by simp
    unfold TX.gcaps
    go_enter Tryd.func62, Tryd.ntmps62
    go_wp2_with fail
    refine H.out.1.mono ?_
    rintro e w' ⟨hkp, hres⟩
    obtain ⟨_, hf, hbo, hown, hk1, hk2, hpk⟩ := H.out
    have hkw : Kept (X.B + 5) ((X.B + 3) :: X.S) w w' := hkp.mono hf.size (fun x hx => .inl (List.mem_cons_of_mem _ hx))
    rcases hres with ⟨rfl, hI⟩ | ⟨rfl, hD⟩
    · have hpre : X.pre pre w' := by
        refine ⟨A, kc, ?_, ?_, by rw [hpk]; exact hk1, hk2⟩
        · rw [hpk]
          exact hbo.kept hkp hbo.lt (fun hm => by have := HC.out.1 _ hm; omega)
        · rw [hpk]
          exact own_kept hown fun g h1 h2 => hkp.block g h2 (fun hm => by have := HC.out.1 _ hm; omega)
      have HF := Lib.hid (And.intro hkw (And.intro hI hpre))
      clear hkp hI hpre hkw hf hbo hown
      go_wp2_with fail
      go_ret
      exact ⟨HF.out.1, .inl ⟨rfl, HF.out.2.1, HF.out.2.2⟩⟩
    · have HF := Lib.hid (And.intro hkw hD)
      clear hkp hD hkw hf hbo hown
      go_wp2_with fail
      go_ret
      exact ⟨HF.out.1, .inr ⟨rfl, HF.out.2⟩⟩
  | succ m ih =>
    intro fr pre t w hpl hf1 hf16 hf hp hI hL
    have IH := Lib.hid ih
    clear ih
    obtain ⟨A, kc, hbo, hown, hk1, hk2⟩ := hp
    have o1 := hbo.at1.1
    have o2 := hf.bk.at1.1
    have hne : ((pre.length : Int) == (X.k : Int)) = false := by rw [beq_eq_false_iff_ne]; omega
    have H := Lib.hid (And.intro hf (And.intro hbo (And.intro hown (And.intro hpl (And.intro hI hL)))))
    clear hf hbo hown hpl hI hL
    unfold TX.gcaps
    go_enter Tryd.func62, Tryd.ntmps62
    go_wp2_with fail
    go_loopw [8] (fun sv wr => ∃ s : Nat, fr ≤ s ∧ (s ≤ X.N ∨ s = fr) ∧ sv = .int .i64 s ∧ Kept (X.B + 5) ((X.B + 3) :: X.S) w wr ∧ Inv (t + (cmbTo X.N m fr pre s).length) wr ∧ X.pre pre wr) (fun sv _ => 17 - (intOf sv).toNat)
    case atStart =>
      exact ⟨fr, Nat.le_refl _, .inr rfl, rfl, Kept.refl _ _ _, by simpa [cmbTo] using H.out.2.2.2.2.1, ⟨A, kc, H.out.2.1, H.out.2.2.1, hk1, hk2⟩⟩
    case round =>
      obtain ⟨s, hfs, hsN, rfl, hkw, hI, hp⟩ := hrel
      obtain ⟨wo, rfl⟩ : ∃ wo : World, wo = wr := ⟨_, rfl⟩
      have hf2 := H.out.1.kept HC.out.1 hkw
      obtain ⟨A2, k2, hbo2, hown2, hk21, hk22⟩ := hp
      have q0 := hf2.bc.at1.1
      have q1 := hbo2.at1.1
      have q2 := hbo2.at1.2
      have HR := Lib.hid (And.intro hkw (And.intro hI (And.intro hbo2 (And.intro hown2 hf2))))
      have hbase := hf2.size
      clear hkw hI hbo2 hown2 hf2
      by_cases hlt : s < X.N
      · have l1 : (s : Int) < (X.N : Int) := by omega
        have hpl4 : pre.length ≤ 4 := by have := H.out.2.2.2.1; omega
        go_wp2_with (at_builtin; refine app1 sty_int rfl _ _ rfl (X.B + 5) A2 pre.length k2 (nats pre) #[.int .i64 (s : Int)] rfl (by simp [Value.oneCell']) rfl HR.out.2.2.2.1 rfl (by omega) hbase ?_)
        intro A3 k3 w3 hown3 _ hbl3 hk31 hk32
        have hbo3 : Blk w3 (X.B + 3) 22 #[.slice A2 pre.length k2] := HR.out.2.2.1.below hbl3 (by omega)
        obtain ⟨s1, s2⟩ := hbo3.at1
        have hbo4 := hbo3.set_ 0 (.slice A3 (pre.length + 1) k3)
        have K4 : Kept (X.B + 5) ((X.B + 3) :: X.S) wo (w3.setCell ⟨X.B + 3, 0, none⟩ (.slice A3 (pre.length + 1) k3)) := (Kept.of_below hbl3 _).setCell (.inl (by simp)) _
        have hB4 : Below X.B wo (w3.setCell ⟨X.B + 3, 0, none⟩ (.slice A3 (pre.length + 1) k3)) := (hbl3.mono (by omega)).setCell (by show X.B ≤ X.B + 3; omega) _
        have hf4 := HR.out.2.2.2.2.kept HC.out.1 K4
        obtain ⟨g1, g2⟩ := hf4.bg.at1
        have hpre : X.pre (pre ++ [s]) (w3.setCell ⟨X.B + 3, 0, none⟩ (.slice A3 (pre.length + 1) k3)) := by
          refine ⟨A3, k3, ?_, ?_, by simp; omega, hk32⟩
          · simpa using hbo4
          · rw [nats_snoc, List.length_append]
            exact own_setCell hown3 (by show X.B + 3 < X.B + 5; omega) _
        have hI4 := HC.out.2.1 _ _ _ HR.out.2.1 hB4
        have H4 := Lib.hid (And.intro hf4 (And.intro (HR.out.1.trans K4) (And.intro hI4 hpre)))
        unfold TX.gcaps at g1
        clear hown3 hbl3 hbo3 hbo4 K4 hB4 hf4 hpre hI4
        go_wp2_with fail
        refine (IH.out (s + 1) (pre ++ [s]) (t + (cmbTo X.N m fr pre s).length) _ (by simp; have := H.out.2.2.2.1; omega) (by omega) (by omega) H4.out.1 H4.out.2.2.2 H4.out.2.2.1 ?hL).mono ?_
        case hL =>
          intro j st hj
          rw [Nat.add_assoc]
          refine H.out.2.2.2.2.2 _ st ?_
          obtain ⟨T, hT⟩ := cmbTo_le X.N m fr pre (s + 1) X.N (by omega)
          rw [cmbs_eq, ← hT, cmbTo_succ hfs, List.append_assoc, List.getElem?_append_right (by omega), Nat.add_sub_cancel_left, List.getElem?_append_left (List.getElem?_eq_some_iff.1 hj).1]
          exact hj
        rintro e w5 ⟨hk5, hres⟩
        rcases hres with ⟨rfl, hI5, hp5⟩ | ⟨rfl, hD5⟩
        · obtain ⟨A6, k6, hbo6, hown6, hk61, hk62⟩ := hp5
          rw [List.length_append, List.length_singleton] at hbo6 hown6 hk61
          rw [nats_snoc] at hown6
          obtain ⟨t1, t2⟩ := hbo6.at1
          have H6 := Lib.hid (And.intro (H4.out.2.1.trans hk5) (And.intro hI5 (And.intro (own_pop hown6) hbo6)))
          clear hk5 hI5 hbo6 hown6
          go_wp2_with fail
          go_roundw
          case rel =>
            refine ⟨s + 1, by omega, .inl (by omega), by go_num, H6.out.1.setCell (.inl (by simp)) _, ?_, ⟨A6, k6, ?_, ?_, by omega, hk62⟩⟩
            · rw [cmbTo_succ hfs, List.length_append, ← Nat.add_assoc]
              exact HC.out.2.1 _ _ _ H6.out.2.1 ((Below.refl _ _).setCell (by show X.B ≤ X.B + 3; omega) _)
            · exact H6.out.2.2.2.set_ 0 _
            · exact own_setCell H6.out.2.2.1 (by show X.B + 3 < X.B + 5; omega) _
          case measure => simp [intOf]; omega
        · have H6 := Lib.hid (And.intro (H4.out.2.1.trans hk5) hD5)
          clear hk5 hD5
          go_wp2_with fail
          go_ret
          exact ⟨H6.out.1, .inr ⟨rfl, H6.out.2⟩⟩
      · have hT : cmbTo X.N m fr pre s = cmbs X.N (m + 1) fr pre := by
          rw [cmbs_eq]
          unfold cmbTo
          congr 2
          omega
        have HF : Hid (Kept (X.B + 5) ((X.B + 3) :: X.S) w wo ∧ Inv (t + (cmbs X.N (m + 1) fr pre).length) wo ∧ X.pre pre wo) := Lib.hid ⟨HR.out.1, by rw [← hT]; exact HR.out.2.1, ⟨A2, k2, HR.out.2.2.1, HR.out.2.2.2.1, hk21, hk22⟩⟩
        clear hT
        go_wp2_with fail
        go_ret
        exact ⟨HF.out.1, .inl ⟨rfl, HF.out.2.1, HF.out.2.2⟩⟩

/-- What tight leaves. -/
def TightPost (Inv : Nat → World → Prop) (Done : World → Prop) (S : List Nat) (len : Nat) (w : World) (e : Ending) (w' : World) : Prop :=
  e = .returned (.tuple #[]) ∧ Kept w.heap.size S w w' ∧ (Inv len w' ∨ Done w')

set_option maxRecDepth 100000 in
set_option maxHeartbeats 800000 in
theorem tight_any (A0 : Option Addr) (N cap0 k : Nat) (K : FuncId) (caps : Array Value) (S : List Nat) (w : World) (Inv : Nat → World → Prop) (Done : World → Prop) (hS : ∀ x ∈ S, x < w.heap.size) (hK : EntF K) (hN : N ≤ 16) (hk : 1 ≤ k ∧ k ≤ 4)
    (hst : Inv 0 w) (hkeep : ∀ t w1 w2, Inv t w1 → Below w.heap.size w1 w2 → Inv t w2)
    (hcall : ∀ t w' A c sets, (cmb N k)[t]? = some sets → Inv t w' → Ints w' A (sets.map Int.ofNat) → k ≤ c → c ≤ 9223372036854775807 → w.heap.size ≤ w'.heap.size → Calls Tryd.prog K (#[.slice A k c] ++ caps) w' (MorePost Inv Done S t w')) :
    Calls Tryd.prog 38 #[.slice A0 N cap0, .int .i64 k, .func (.func K) #[] caps] w (TightPost Inv Done S (cmb N k).length w) := by
  have H := Lib.hid (And.intro hS (And.intro hst (And.intro hkeep hcall)))
  clear hS hst hkeep hcall
  obtain ⟨X, hX⟩ : ∃ X : TX, X = { B := w.heap.size, A0 := A0, N := N, cap0 := cap0, k := k, K := K, caps := caps, S := S } := ⟨_, rfl⟩
  have HX := Lib.hid hX
  clear hX
  go_enter Tryd.func38, Tryd.ntmps38
  go_wp2_with fail
  have hX := HX.out
  subst hX
  obtain ⟨hS, hst, hkeep, hcall⟩ := H.out
  have K5 : ∀ o1 o2 o3 o4 o5, Below w.heap.size w (((((w.alloc o1).alloc o2).alloc o3).alloc o4).alloc o5) := fun o1 o2 o3 o4 o5 =>
    (((((Below.refl _ _).alloc (by go_size) _).alloc (by go_size) _).alloc (by go_size) _).alloc (by go_size) _).alloc (by go_size) _
  have h1 := fun w' => tight1_any { B := w.heap.size, A0 := A0, N := N, cap0 := cap0, k := k, K := K, caps := caps, S := S } Inv Done hS hK hN hk hkeep (cmb N k) (fun t w' A c sets h1 h2 h3 h4 h5 h6 => hcall t w' A c sets h1 h2 h3 h4 h5 h6) k 1 [] 0 w' (by simp) (by omega) (by omega)
  have ha : (#[Value.int .i64 ((1 : Nat) : Int)] ++ TX.gcaps { B := w.heap.size, A0 := A0, N := N, cap0 := cap0, k := k, K := K, caps := caps, S := S }) = #[.int .i64 1, .pointer (some ⟨w.heap.size + 3, 0, none⟩), .pointer (some ⟨w.heap.size + 1, 0, none⟩), .pointer (some ⟨w.heap.size + 2, 0, none⟩), .pointer (some ⟨w.heap.size, 0, none⟩), .pointer (some ⟨w.heap.size + 4, 0, none⟩)] := by simp [TX.gcaps]
  rw [ha] at h1
  simp only [Nat.add_assoc, Nat.reduceAdd]
  refine (h1 _ ?fix ?pre (hkeep 0 _ _ hst (K5 _ _ _ _ _)) (fun j s hj => by rw [Nat.zero_add]; exact hj)).mono ?_
  case fix =>
    exact {
      size := by simp
      bc := ((((Blk.new _ _ _ rfl).alloc _).alloc _).alloc _).alloc _
      bk := (((Blk.new _ _ _ (by simp)).alloc _).alloc _).alloc _
      bm := ((Blk.new _ _ _ (by simp)).alloc _).alloc _
      bg := Blk.new _ _ _ (by simp) }
  case pre => exact ⟨none, 0, (Blk.new _ _ _ (by simp)).alloc _, World.ownsRow_nil _ _ _ _, by simp, by omega⟩
  rintro e w' ⟨hk', hres⟩
  have hkw : Kept w.heap.size S w w' := (Kept.of_below (K5 _ _ _ _ _) _).trans (hk'.mono (by show w.heap.size ≤ w.heap.size + 5; omega) (fun x hx => by
    rcases List.mem_cons.1 hx with e | e
    · exact .inr (by rw [e]; show w.heap.size ≤ w.heap.size + 3; omega)
    · exact .inl e))
  rcases hres with ⟨rfl, hI, _⟩ | ⟨rfl, hD⟩
  · have HF := Lib.hid (And.intro hkw hI)
    clear hkw hI hk' K5 hS hst hkeep hcall
    go_wp2
    go_end0
    exact ⟨rfl, HF.out.1, .inl (by have := HF.out.2; rwa [Nat.zero_add] at this)⟩
  · have HF := Lib.hid (And.intro hkw hD)
    clear hkw hD hk' K5 hS hst hkeep hcall
    go_wp2
    go_end0
    exact ⟨rfl, HF.out.1, .inr HF.out.2⟩

/- Contract: Core of package games. -/

theorem cmbs_mem {N : Nat} : ∀ (m fr : Nat) (pre s : List Nat), s ∈ cmbs N m fr pre → ∃ t, s = pre ++ t ∧ t.length = m ∧ t.Pairwise (· < ·) ∧ ∀ x ∈ t, fr ≤ x ∧ x < N := by
  intro m
  induction m with
  | zero =>
    intro fr pre s h
    simp only [cmbs, List.mem_singleton] at h
    exact ⟨[], by simp [h], rfl, List.Pairwise.nil, fun x hx => by cases hx⟩
  | succ m ih =>
    intro fr pre s h
    simp only [cmbs, List.mem_flatMap] at h
    obtain ⟨a, ha, hs⟩ := h
    obtain ⟨t, rfl, htl, htp, htb⟩ := ih _ _ _ hs
    rw [List.mem_range'_1] at ha
    refine ⟨a :: t, by simp, by simp [htl], List.pairwise_cons.2 ⟨fun x hx => by have := htb x hx; omega, htp⟩, fun x hx => ?_⟩
    rcases List.mem_cons.1 hx with e | e
    · omega
    · have := htb x e; omega
theorem cmb_mem {N k : Nat} {s : List Nat} (h : s ∈ cmb N k) : s.length = k ∧ s.Pairwise (· < ·) ∧ ∀ x ∈ s, 1 ≤ x ∧ x < N := by
  obtain ⟨t, rfl, h1, h2, h3⟩ := cmbs_mem k 1 [] s h
  exact ⟨by simpa using h1, by simpa using h2, by simpa using h3⟩

/-- What Core answers. -/
def coreF (c : List Int) : Option (List Rat) := (cmb c.length (plr c)).findSome? (cand c (plr c))
theorem findSome_at {α β : Type} {f : α → Option β} {L : List α} {t : Nat} {x : α} {y : β} (hx : L[t]? = some x) (hn : ∀ s, s < t → ∀ z, L[s]? = some z → f z = none) (hy : f x = some y) : L.findSome? f = some y := by
  induction L generalizing t with
  | nil => simp at hx
  | cons a L ih =>
    cases t with
    | zero =>
      simp only [List.getElem?_cons_zero, Option.some.injEq] at hx
      subst hx
      simp [hy]
    | succ t =>
      have h0 := hn 0 (by omega) a rfl
      rw [List.findSome?_cons, h0]
      exact ih (by simpa using hx) (fun s hs z hz => hn (s + 1) (by omega) z (by simpa using hz))
theorem findSome_no {α β : Type} {f : α → Option β} {L : List α} (hn : ∀ s, s < L.length → ∀ z, L[s]? = some z → f z = none) : L.findSome? f = none := by
  rw [List.findSome?_eq_none_iff]
  intro x hx
  obtain ⟨s, hs⟩ := List.getElem?_of_mem hx
  exact hn s (List.getElem?_eq_some_iff.1 hs).1 x hs

/-- What Core leaves. -/
def CorePost (c : List Int) (w : World) (e : Ending) (w' : World) : Prop :=
  Below w.heap.size w w' ∧ ((valC c = false ∧ e = .returned (.tuple #[.slice none 0 0, .int .i64 2])) ∨ (valC c = true ∧ coreF c = none ∧ e = .returned (.tuple #[.slice none 0 0, .int .i64 4])) ∨
    (valC c = true ∧ ∃ qs A' c', coreF c = some qs ∧ e = .returned (.tuple #[.slice A' (plr c) c', .int .i64 0]) ∧ qs.length = plr c ∧ Fracs w' A' qs ∧ plr c ≤ c' ∧ c' ≤ 9223372036854775807))

/-- What holds between the calls of the function. -/
structure CoreI (c : List Int) (A0 : Option Addr) (N cap0 n Bc Bk Bf : Nat) (t : Nat) (w : World) : Prop where
  bc : Blk w Bc 22 #[.slice A0 N cap0]
  bk : Blk w Bk 64 #[.slice A0 N cap0]
  bf : Blk w Bf 35 #[.slice none 0 0]
  hc : Ints w A0 c
  lt : ∀ ad, A0 = some ad → ad.block < Bc
  no : ∀ s, s < t → ∀ z, (cmb N n)[s]? = some z → cand c n z = none
def CoreD (c : List Int) (n Bf : Nat) (w : World) : Prop := ∃ qs A' c', coreF c = some qs ∧ Blk w Bf 35 #[.slice A' n c'] ∧ qs.length = n ∧ Fracs w A' qs ∧ n ≤ c' ∧ c' ≤ 9223372036854775807

theorem entF_core1 : EntF 39 := entF_of Tryd.func39 (by kernel_rfl) (by kernel_rfl)

theorem ints_kept {B : Nat} {S : List Nat} {w w' : World} {A : Option Addr} {xs : List Int} (h : Ints w A xs) (hk : Kept B S w w') (hA : ∀ ad, A = some ad → ad.block < B ∧ ad.block ∉ S) : Ints w' A xs := by
  intro i v hv
  obtain ⟨ad, had, hc⟩ := h i v hv
  have := hA ad had
  exact ⟨ad, had, (hk.cell (by rw [add_block]; exact this.1) (by rw [add_block]; exact this.2)).trans hc⟩

set_option maxRecDepth 100000 in
set_option maxHeartbeats 3200000 in
theorem core_any (A0 : Option Addr) (N cap0 : Nat) (c : List Int) (w : World) (hl : c.length = N) (hN : N ≤ 9223372036854775807) (hc : Ints w A0 c) :
    Calls Tryd.prog 16 #[.slice A0 N cap0] w (CorePost c w) := by
  have qT : ∀ (w : World) (a : Option Addr) (n c n' c' : Nat), (binOp .eql 35 (.slice a n c) (.slice none n' c')).run Tryd.prog w = .ok (.bool a.isNone) w := fun w a n c n' c' => Lib.run_eql_slice_nil w _ _ a n c n' c' Tryd.underlying35
  have hb2 : ∀ o1 o2, Below w.heap.size w ((w.alloc o1).alloc o2) := fun o1 o2 => ((Below.refl _ _).alloc (Nat.le_refl _) _).alloc (by go_size) _
  have hB1 : Blk ((w.alloc (.cells #[.slice A0 N cap0] 22)).alloc (.cells #[.slice A0 N cap0] 64)) w.heap.size 22 #[.slice A0 N cap0] := (Blk.new _ _ _ rfl).alloc _
  have hB2 : Blk ((w.alloc (.cells #[.slice A0 N cap0] 22)).alloc (.cells #[.slice A0 N cap0] 64)) (w.heap.size + 1) 64 #[.slice A0 N cap0] := Blk.new _ _ _ (by simp)
  have had : ∀ ad, A0 = some ad → valC c = true → ad.block < w.heap.size := by
    intro ad had hv
    have h := plr_np hv
    obtain ⟨ad', h1, h2, _⟩ := hc.some_ (by omega)
    rw [had] at h1
    injection h1 with h1
    rw [h1]; exact h2
  have HAD0 := Lib.hid had
  clear had
  have H := Lib.hid (And.intro hl (And.intro hc (And.intro (hb2 (.cells #[.slice A0 N cap0] 22) (.cells #[.slice A0 N cap0] 64)) (And.intro hB1 hB2))))
  clear hl hc hb2 hB1 hB2
  go_enter Tryd.func16, Tryd.ntmps16
  go_wp2_with fail
  refine (valid_any A0 N cap0 c _ H.out.1 hN (H.out.2.1.below H.out.2.2.1)).mono ?_
  rintro e w1 ⟨rfl, hb1⟩
  obtain ⟨v, hv⟩ : ∃ v, v = valC c := ⟨_, rfl⟩
  rw [← hv]
  have hbl1 : Below w.heap.size w w1 := H.out.2.2.1.trans (hb1.mono (by simp; omega))
  have hk1 := H.out.2.2.2.1.below hb1 H.out.2.2.2.1.lt
  have hk2 := H.out.2.2.2.2.below hb1 H.out.2.2.2.2.lt
  have H1 := Lib.hid (And.intro hv (And.intro hbl1 (And.intro hk1 hk2)))
  have o1 := hk1.at1.1
  have o2 := hk2.at1.1
  have hz1 := hk2.lt
  clear hv hb1 hbl1 hk1 hk2
  cases v
  · go_wp2_with fail
    go_ret2
    exact ⟨H1.out.2.1, .inl ⟨H1.out.1.symm, rfl⟩⟩
  · have hvc := H1.out.1.symm
    obtain ⟨n, hn⟩ : ∃ n, n = plr c := ⟨_, rfl⟩
    have hnp := plr_np hvc
    rw [H.out.1, ← hn] at hnp
    have hn4 : 1 ≤ n ∧ n ≤ 4 := by omega
    have hN16 : N ≤ 16 := by omega
    have HAD := Lib.hid (fun ad had => HAD0.out ad had hvc)
    have HN := Lib.hid (And.intro hnp (And.intro hn hvc))
    clear hvc hnp hn
    go_wp2_with fail
    obtain ⟨w2, hw2⟩ : ∃ w2, w2 = w1.alloc (.cells #[.slice none 0 0] 35) := ⟨_, rfl⟩
    have hb12 : Below w1.heap.size w1 w2 := by rw [hw2]; exact (Below.refl _ _).alloc (Nat.le_refl _) _
    have hB3 : Blk w2 w1.heap.size 35 #[.slice none 0 0] := by rw [hw2]; exact Blk.new _ _ _ rfl
    have hk1 := H1.out.2.2.1.below hb12 H1.out.2.2.1.lt
    have hk2 := H1.out.2.2.2.below hb12 H1.out.2.2.2.lt
    have hw12 := H1.out.2.1.size
    have hbw2 : Below w.heap.size w w2 := H1.out.2.1.trans (hb12.mono hw12)
    have H2 := Lib.hid (And.intro hk1 (And.intro hk2 (And.intro hB3 hbw2)))
    have q2 := hk2.at1.1
    have hB3lt := hB3.lt
    rw [← hw2]
    clear hw2 hb12 hB3 hk1 hk2 hbw2 o1 o2
    refine wp_region_drew_tail 4 (by kernel_rfl) (by kernel_rfl) ?_
    simp only [List.take_succ_cons, List.take_zero, List.drop_succ_cons, List.drop_zero]
    repeat (go_big_quiet_step ((go_at_call 24; exact players_q _ _ _ _ _ _ HN.out.1)))
    refine wpQuiet_nil ?_
    rintro _ ⟨nq, rfl⟩
    have hst : CoreI c A0 N cap0 n w.heap.size (w.heap.size + 1) w1.heap.size 0 (w2.drewN nq) := ⟨H2.out.1.drewN _, H2.out.2.1.drewN _, H2.out.2.2.1.drewN _, H.out.2.1.below (below_drewN H2.out.2.2.2 _), HAD.out, fun s hs => by omega⟩
    have hwz : (w2.drewN nq).heap.size = w2.heap.size := rfl
    have HT := Lib.hid (tight_any A0 N cap0 n 39 #[.pointer (some ⟨w.heap.size, 0, none⟩), .pointer (some ⟨w.heap.size + 1, 0, none⟩), .pointer (some ⟨w1.heap.size, 0, none⟩)] [w1.heap.size] (w2.drewN nq) (CoreI c A0 N cap0 n w.heap.size (w.heap.size + 1) w1.heap.size) (CoreD c n w1.heap.size)
      (fun x hx => by rw [List.mem_singleton.1 hx]; exact hB3lt) entF_core1 hN16 hn4 hst
      (fun t wa wb h hb => ⟨h.bc.below hb (by rw [hwz]; omega), h.bk.below hb (by rw [hwz]; omega), h.bf.below hb (by rw [hwz]; omega), by
        intro i v hv
        obtain ⟨ad, had, hcell⟩ := h.hc i v hv
        have hlt := h.lt ad had
        exact ⟨ad, had, (hb.cell (by rw [add_block, hwz]; omega)).trans hcell⟩, h.lt, h.no⟩)
      (by
        intro t wa A cs sets hsets hI hA hcs hcs2 hwa
        have hm := cmb_mem (List.mem_of_getElem? hsets)
        refine (core1_any A0 N cap0 n c w.heap.size (w.heap.size + 1) w1.heap.size A cs sets wa hI.hc H.out.1 HN.out.2.2 HN.out.2.1.symm hm.1 (fun s hs => (hm.2.2 s hs).2) hA hI.bc hI.bk hI.bf).mono ?_
        rintro e wb ⟨hk, hres⟩
        refine ⟨hk, ?_⟩
        rcases hres with ⟨hno, he, hbf⟩ | ⟨qs, A', c', hs, he, hbf, h4, h5, h6, h7⟩
        · refine .inl ⟨he, ⟨hI.bc.kept hk hI.bc.lt (by simp; omega), hI.bk.kept hk hI.bk.lt (by simp; omega), hbf, ?_, hI.lt, ?_⟩⟩
          · exact ints_kept hI.hc hk fun ad had => by
              have hlt := hI.lt ad had
              exact ⟨by rw [hwz] at hwa; omega, by simp; omega⟩
          · intro s hs z hz
            rcases Nat.lt_succ_iff_lt_or_eq.1 hs with h | h
            · exact hI.no s h z hz
            · rw [h, hsets] at hz
              injection hz with hz
              rw [← hz]; exact hno
        · refine .inr ⟨he, qs, A', c', ?_, hbf, h4, h5, h6, h7⟩
          unfold coreF
          rw [H.out.1, ← HN.out.2.1]
          exact findSome_at hsets hI.no hs))
    clear hst hwz q2
    go_wp2_with fail
    refine HT.out.mono ?_
    rintro e w3 ⟨rfl, hk3, hres⟩
    have hwz : (w2.drewN nq).heap.size = w2.heap.size := rfl
    have hb3 : Below w.heap.size w w3 := by
      have h1 : Kept w.heap.size [] w (w2.drewN nq) := Kept.of_below (below_drewN H2.out.2.2.2 nq) _
      have h2 : Kept w.heap.size [] (w2.drewN nq) w3 := hk3.mono (by rw [hwz]; omega) (fun x hx => by rw [List.mem_singleton.1 hx]; exact .inr (by omega))
      exact (h1.trans h2).below
    have HB3 := Lib.hid hb3
    rcases hres with hI | ⟨qs, A', c', hs, hbf, h4, h5, h6, h7⟩
    · have HI := Lib.hid hI
      have f1 := hI.bf.at1.1
      have HF : Hid (coreF c = none) := Lib.hid (by
        unfold coreF
        rw [H.out.1, ← HN.out.2.1]
        exact findSome_no hI.no)
      clear hI hk3 hb3 hwz
      go_wp2_with fail
      go_ret2
      exact ⟨HB3.out, .inr (.inl ⟨HN.out.2.2, HF.out, rfl⟩)⟩
    · obtain ⟨aa, rfl⟩ : ∃ aa, A' = some aa := by
        obtain ⟨aa, h, _⟩ := h5.some_ (by omega)
        exact ⟨aa, h⟩
      have f1 := hbf.at1.1
      have HF := Lib.hid (And.intro hs (And.intro h4 (And.intro h5 hbf)))
      clear hs h4 h5 hbf hk3 hb3 hwz
      go_wp2_with fail
      go_ret2
      refine ⟨HB3.out, .inr (.inr ⟨HN.out.2.2, qs, some aa, c', HF.out.1, ?_, ?_, HF.out.2.2.1, ?_, h7⟩)⟩
      · rw [← HN.out.2.1]; rfl
      · rw [← HN.out.2.1]; exact HF.out.2.1
      · rw [← HN.out.2.1]; exact h6

/- If there are payments in the core, Core finds some. Plain Lean. -/

/-- A cost, as a fraction. -/
def cq (c : List Int) (s : Nat) : Rat := ((c.getD s 0 : Int) : Rat)
/-- Payments in the core. -/
def InC (c : List Int) (n : Nat) (x : Nat → Rat) : Prop := dotS n x (2 ^ n - 1) = cq c (2 ^ n - 1) ∧ ∀ s, s < 2 ^ n → dotS n x s ≤ cq c s
/-- The sets that pay what they cost. -/
def tgt (c : List Int) (n : Nat) (x : Nat → Rat) (s : Nat) : Bool := decide (dotS n x s = cq c s)
def tights (c : List Int) (n : Nat) (x : Nat → Rat) : List Nat := (List.range' 1 (2 ^ n - 1)).filter (tgt c n x)
def loose (c : List Int) (n : Nat) (x : Nat → Rat) : List Nat := (List.range' 1 (2 ^ n - 1)).filter fun s => !tgt c n x s

theorem exists_min (f : Nat → Rat) : ∀ L : List Nat, L ≠ [] → ∃ a ∈ L, ∀ b ∈ L, f a ≤ f b := by
  intro L
  induction L with
  | nil => intro h; exact absurd rfl h
  | cons a L ih =>
    intro _
    by_cases e : L = []
    · subst e
      exact ⟨a, List.mem_cons_self .., fun b hb => by rw [List.mem_singleton.1 hb]; exact Rat.le_refl⟩
    · obtain ⟨m, hm, hmin⟩ := ih e
      by_cases h : f a ≤ f m
      · refine ⟨a, List.mem_cons_self .., fun b hb => ?_⟩
        rcases List.mem_cons.1 hb with rfl | hb
        · exact Rat.le_refl
        · exact Rat.le_trans h (hmin b hb)
      · refine ⟨m, List.mem_cons_of_mem _ hm, fun b hb => ?_⟩
        rcases List.mem_cons.1 hb with rfl | hb
        · grind
        · exact hmin b hb
theorem filter_le_of {p q : Nat → Bool} {L : List Nat} (h : ∀ s ∈ L, q s = true → p s = true) : (L.filter q).length ≤ (L.filter p).length := by
  induction L with
  | nil => exact Nat.le_refl _
  | cons a L ih =>
    have h1 := ih fun s hs => h s (List.mem_cons_of_mem _ hs)
    have h2 := h a (List.mem_cons_self ..)
    rw [List.filter_cons, List.filter_cons]
    cases hq : q a
    · rw [if_neg (by decide)]
      split
      · rw [List.length_cons]; omega
      · exact h1
    · rw [if_pos rfl, h2 hq, if_pos rfl, List.length_cons, List.length_cons]; omega
theorem filter_lt_of {p q : Nat → Bool} {L : List Nat} (h : ∀ s ∈ L, q s = true → p s = true) {a : Nat} (ha : a ∈ L) (hp : p a = true) (hq : q a = false) : (L.filter q).length < (L.filter p).length := by
  induction L with
  | nil => cases ha
  | cons b L ih =>
    have h0 := filter_le_of (fun s hs => h s (List.mem_cons_of_mem b hs))
    have h2 := h b (List.mem_cons_self ..)
    rw [List.filter_cons, List.filter_cons]
    rcases List.mem_cons.1 ha with rfl | ha
    · rw [if_neg (by rw [hq]; decide), if_pos hp, List.length_cons]; omega
    · have h1 := ih (fun s hs => h s (List.mem_cons_of_mem _ hs)) ha
      cases hq : q b
      · rw [if_neg (by decide)]
        split
        · rw [List.length_cons]; omega
        · exact h1
      · rw [if_pos rfl, h2 hq, if_pos rfl, List.length_cons, List.length_cons]; omega
theorem bq_cases (s i : Nat) : bq s i = 0 ∨ bq s i = 1 := by
  unfold bq
  rcases bitI_cases s i with h | h <;> rw [h]
  · exact .inl (by simp)
  · exact .inr (by simp)
theorem bq_one {i j : Nat} : bq (2 ^ i) j = if i = j then 1 else 0 := by
  unfold bq bitI
  rw [Nat.testBit_two_pow]
  by_cases e : i = j
  · simp [e]
  · simp [e]
theorem bq_all {n i : Nat} (h : i < n) : bq (2 ^ n - 1) i = 1 := by
  unfold bq bitI
  rw [Nat.testBit_two_pow_sub_one, decide_eq_true h, if_pos rfl]
  simp
theorem dot_one {n i : Nat} (h : i < n) (d : Nat → Rat) : dotS n d (2 ^ i) = d i := by
  unfold dotS
  rw [sumQ_one h (fun j hj hne => by rw [bq_one, if_neg (fun e => hne e.symm)]; grind), bq_one, if_pos rfl]
  grind
theorem dot_all (n : Nat) (d : Nat → Rat) : dotS n d (2 ^ n - 1) = sumQ d n := by
  unfold dotS
  exact sumQ_congr fun i hi => by rw [bq_all hi]; grind
theorem dot_empty (n : Nat) (d : Nat → Rat) : dotS n d 0 = 0 := by
  unfold dotS
  exact sumQ_zero fun i _ => by simp [bq, bitI]
theorem mem_sets {n s : Nat} : s ∈ List.range' 1 (2 ^ n - 1) ↔ 1 ≤ s ∧ s < 2 ^ n := by
  rw [List.mem_range'_1]
  have := Nat.two_pow_pos n
  omega

/-- One step towards a corner. -/
theorem move {c : List Int} {n : Nat} {x : Nat → Rat} (hn : 1 ≤ n) (hx : InC c n x) (hs : ¬ Spn n (tights c n x)) : ∃ x', InC c n x' ∧ (loose c n x').length < (loose c n x).length := by
  obtain ⟨d, hd, i, hi, hdi⟩ : ∃ d : Nat → Rat, (∀ s ∈ tights c n x, dotS n d s = 0) ∧ ∃ i, i < n ∧ 0 < d i := by
    apply Classical.byContradiction
    intro hno
    apply hs
    intro d hd i hi
    apply Classical.byContradiction
    intro hne
    by_cases h0 : 0 < d i
    · exact hno ⟨d, hd, i, hi, h0⟩
    · refine hno ⟨fun j => 0 + (-1) * d j, fun s hs => ?_, i, hi, by dsimp only; grind⟩
      rw [dot_add n (fun _ => 0) d, hd s hs]
      have : dotS n (fun _ => (0 : Rat)) s = 0 := sumQ_zero fun i _ => by grind
      rw [this]; grind
  have hp : 2 ^ i ∈ (List.range' 1 (2 ^ n - 1)).filter fun s => decide (0 < dotS n d s) := by
    rw [List.mem_filter, mem_sets]
    refine ⟨⟨Nat.two_pow_pos i, Nat.pow_lt_pow_right (by decide) hi⟩, ?_⟩
    rw [dot_one hi]
    exact decide_eq_true hdi
  obtain ⟨m, hm, hmin⟩ := exists_min (fun s => (cq c s - dotS n x s) * (dotS n d s)⁻¹) _ (List.ne_nil_of_mem hp)
  rw [List.mem_filter, decide_eq_true_eq, mem_sets] at hm
  have htight : ∀ s, 1 ≤ s → s < 2 ^ n → dotS n x s = cq c s → dotS n d s = 0 := fun s h1 h2 h3 => hd s (List.mem_filter.2 ⟨mem_sets.2 ⟨h1, h2⟩, decide_eq_true h3⟩)
  obtain ⟨t, ht⟩ : ∃ t, t = (cq c m - dotS n x m) * (dotS n d m)⁻¹ := ⟨_, rfl⟩
  have hinv : ∀ s, 0 < dotS n d s → 0 ≤ (dotS n d s)⁻¹ ∧ dotS n d s * (dotS n d s)⁻¹ = 1 := fun s hs => ⟨Rat.le_of_lt (Rat.inv_pos.2 hs), Rat.mul_inv_cancel _ (fun e => by rw [e] at hs; exact absurd hs (by decide))⟩
  have hxm := hx.2 m hm.1.2
  have ht0 : 0 ≤ t := by
    rw [ht]
    exact Rat.mul_nonneg (by grind) (hinv m hm.2).1
  have hle : ∀ s, 1 ≤ s → s < 2 ^ n → dotS n x s + t * dotS n d s ≤ cq c s := by
    intro s h1 h2
    have hxs := hx.2 s h2
    by_cases h0 : 0 < dotS n d s
    · have h3 := hmin s (List.mem_filter.2 ⟨mem_sets.2 ⟨h1, h2⟩, decide_eq_true h0⟩)
      have h4 := Rat.mul_le_mul_of_nonneg_right h3 (Rat.le_of_lt h0)
      rw [← ht, Rat.mul_assoc, Rat.mul_comm (dotS n d s)⁻¹, (hinv s h0).2] at h4
      grind
    · have : t * dotS n d s ≤ 0 := by
        have h5 : 0 ≤ - dotS n d s := by grind
        have := Rat.mul_nonneg ht0 h5
        grind
      grind
  refine ⟨fun j => x j + t * d j, ⟨?_, fun s hs => ?_⟩, ?_⟩
  · rw [dot_add, htight _ (by have := Nat.pow_le_pow_right (show 0 < 2 by decide) hn; omega) (by have := Nat.two_pow_pos n; omega) hx.1, hx.1]
    grind
  · rw [dot_add]
    by_cases h1 : 1 ≤ s
    · exact hle s h1 hs
    · obtain rfl : s = 0 := by omega
      have := hx.2 0 hs
      rw [dot_empty] at this ⊢
      rw [dot_empty]
      grind
  · unfold loose
    refine filter_lt_of (a := m) (fun s hs h => ?_) (mem_sets.2 hm.1) ?_ ?_
    · rw [Bool.not_eq_true'] at h ⊢
      unfold tgt at h ⊢
      rw [decide_eq_false_iff_not] at h ⊢
      intro e
      apply h
      have := mem_sets.1 hs
      rw [dot_add, htight s this.1 this.2 e, e]
      grind
    · unfold tgt
      rw [Bool.not_eq_true', decide_eq_false_iff_not]
      intro e
      have := htight m hm.1.1 hm.1.2 e
      rw [this] at hm
      exact absurd hm.2 (by decide)
    · unfold tgt
      rw [Bool.not_eq_false', decide_eq_true_eq, dot_add, ht, Rat.mul_assoc, Rat.mul_comm (dotS n d m)⁻¹, (hinv m hm.2).2]
      grind
theorem corner {c : List Int} {n : Nat} (hn : 1 ≤ n) : ∀ (k : Nat) (x : Nat → Rat), (loose c n x).length ≤ k → InC c n x → ∃ x', InC c n x' ∧ Spn n (tights c n x') := by
  intro k
  induction k with
  | zero =>
    intro x hk hx
    refine ⟨x, hx, Classical.byContradiction fun h => ?_⟩
    obtain ⟨x', _, h2⟩ := move hn hx h
    omega
  | succ k ih =>
    intro x hk hx
    by_cases h : Spn n (tights c n x)
    · exact ⟨x, hx, h⟩
    · obtain ⟨x', h1, h2⟩ := move hn hx h
      exact ih x' (by omega) h1

/- Core finds payments exactly if there are some. Plain Lean. -/

theorem cmbs_of {N : Nat} : ∀ (m fr : Nat) (pre t : List Nat), t.length = m → t.Pairwise (· < ·) → (∀ x ∈ t, fr ≤ x ∧ x < N) → pre ++ t ∈ cmbs N m fr pre := by
  intro m
  induction m with
  | zero =>
    intro fr pre t hl _ _
    obtain rfl := List.length_eq_zero_iff.1 hl
    simp [cmbs]
  | succ m ih =>
    intro fr pre t hl hp hb
    cases t with
    | nil => cases hl
    | cons a t =>
      have ha := hb a (List.mem_cons_self ..)
      simp only [cmbs, List.mem_flatMap]
      refine ⟨a, by rw [List.mem_range'_1]; omega, ?_⟩
      have := ih (a + 1) (pre ++ [a]) t (by simpa using hl) (List.pairwise_cons.1 hp).2 fun x hx => ⟨(List.pairwise_cons.1 hp).1 x hx, (hb x (List.mem_cons_of_mem _ hx)).2⟩
      simpa using this
theorem cmb_of {N k : Nat} {s : List Nat} (hl : s.length = k) (hp : s.Pairwise (· < ·)) (hb : ∀ x ∈ s, 1 ≤ x ∧ x < N) : s ∈ cmb N k := cmbs_of k 1 [] s hl hp hb
theorem findSome_some {α β : Type} {f : α → Option β} {L : List α} {x : α} {y : β} (hx : x ∈ L) (hy : f x = some y) : ∃ z, L.findSome? f = some z := by
  cases h : L.findSome? f with
  | some z => exact ⟨z, rfl⟩
  | none =>
    have := List.findSome?_eq_none_iff.1 h x hx
    rw [this] at hy
    cases hy
theorem paysL_dot {qs : List Rat} {n : Nat} (hl : qs.length = n) (s : Nat) : paysL qs s = dotS n (fun i => qs.getD i 0) s := by
  have key : ∀ k, paysTo qs s k = sumQ (fun i => bq s i * qs.getD i 0) k := by
    intro k
    induction k with
    | zero => rfl
    | succ k ih =>
      rw [paysTo_succ, sumQ, ih]
      unfold bq bitI
      cases s.testBit k
      · simp only [Bool.false_eq_true, if_false]; simp; exact (Rat.add_zero _).symm
      · simp
  rw [show paysL qs s = paysTo qs s n from by rw [paysL, hl]; rfl]
  exact key n
theorem solQ_eq {x l : Int} (hl : l ≠ 0) : (l : Rat) * solQ x l = (x : Rat) := by
  have hq : (l : Rat) ≠ 0 := by simpa using hl
  unfold solQ
  rw [Rat.divInt_eq_div]
  by_cases h : l < 0
  · rw [if_pos h, show max l (-l) = -l from by omega, Rat.intCast_neg, Rat.intCast_neg]
    grind
  · rw [if_neg h, show max l (-l) = l from by omega]
    grind
theorem solQ_of {x l : Int} {y : Rat} (hl : l ≠ 0) (h : (l : Rat) * y + (x : Rat) * -1 = 0) : solQ x l = y := by
  have hq : (l : Rat) ≠ 0 := by simpa using hl
  have h1 := solQ_eq (x := x) hl
  have h2 : (l : Rat) * (solQ x l - y) = 0 := by grind
  rcases Rat.mul_eq_zero.1 h2 with h3 | h3
  · exact absurd h3 hq
  · grind
theorem solQ_den {x l : Int} (hl : l ≠ 0) (hb : l.natAbs ≤ 8) : ((solQ x l).den : Int) ≤ 8 := by
  unfold solQ
  have := divInt_den_le (a := if l < 0 then -x else x) (b := max l (-l)) (by omega)
  omega
theorem num_bd {q : Rat} {d m : Int} (hd : (q.den : Int) ≤ d) (hm : 0 ≤ m) (h1 : -(m : Rat) ≤ q) (h2 : q ≤ (m : Rat)) : -(m * d) ≤ q.num ∧ q.num ≤ m * d := by
  have hp := den_pos q
  have hdq : (0 : Rat) < ((q.den : Int) : Rat) := (Rat.intCast_lt_intCast (a := 0) (b := (q.den : Int))).2 hp
  have hd0 : ((q.den : Int) : Rat) ≠ 0 := fun e => by rw [e] at hdq; exact absurd hdq (by decide)
  have e2 : q * ((q.den : Int) : Rat) = (q.num : Rat) := by
    have e := Rat.num_divInt_den q
    rw [Rat.divInt_eq_div] at e
    have e3 : (q.num : Rat) / ((q.den : Int) : Rat) * ((q.den : Int) : Rat) = (q.num : Rat) := Rat.div_mul_cancel hd0
    rw [e] at e3
    exact e3
  have a1 := Rat.mul_le_mul_of_nonneg_right h1 (Rat.le_of_lt hdq)
  have a2 := Rat.mul_le_mul_of_nonneg_right h2 (Rat.le_of_lt hdq)
  rw [e2] at a1 a2
  have b1 : -(m * (q.den : Int)) ≤ q.num := by
    rw [← Rat.intCast_le_intCast, Rat.intCast_neg, Rat.intCast_mul]
    grind
  have b2 : q.num ≤ m * (q.den : Int) := by
    rw [← Rat.intCast_le_intCast, Rat.intCast_mul]
    exact a2
  have b3 : m * (q.den : Int) ≤ m * d := Int.mul_le_mul_of_nonneg_left hd hm
  omega
theorem sumQ_le {f : Nat → Rat} {a : Rat} : ∀ n : Nat, (∀ i, i < n → f i ≤ a) → sumQ f n ≤ (n : Rat) * a := by
  intro n
  induction n with
  | zero => intro _; simp [sumQ]
  | succ n ih =>
    intro h
    have h1 := ih fun i hi => h i (by omega)
    have h2 := h n (by omega)
    rw [sumQ, Rat.natCast_add]
    grind
/-- Payments in the core are small. -/
theorem inC_bd {c : List Int} {n : Nat} {x : Nat → Rat} (hcb : ∀ v ∈ c, 0 ≤ v ∧ v ≤ 1000) (hn4 : n ≤ 4) (h : InC c n x) {i : Nat} (hi : i < n) : -((4000 : Int) : Rat) ≤ x i ∧ x i ≤ ((4000 : Int) : Rat) := by
  have hc : ∀ s, (0 : Rat) ≤ cq c s ∧ cq c s ≤ 1000 := by
    intro s
    have := costs_get hcb s
    unfold cq
    have a := (Rat.intCast_le_intCast (a := 0) (b := c.getD s 0)).2 this.1
    have b := (Rat.intCast_le_intCast (a := c.getD s 0) (b := 1000)).2 this.2
    exact ⟨by simpa using a, by simpa using b⟩
  have hx : ∀ j, j < n → x j ≤ 1000 := by
    intro j hj
    have h1 := h.2 (2 ^ j) (Nat.pow_lt_pow_right (by decide) hj)
    rw [dot_one hj] at h1
    exact Rat.le_trans h1 (hc _).2
  have h1 := h.1
  rw [dot_all] at h1
  have e : sumQ x n = sumQ (fun j => (if j = i then x i else 0) + (if j = i then 0 else x j)) n := sumQ_congr fun j hj => by
    by_cases e : j = i
    · rw [if_pos e, if_pos e, e]; grind
    · rw [if_neg e, if_neg e]; grind
  rw [e, sumQ_add, sumQ_one hi (fun j hj hne => by rw [if_neg hne]), if_pos rfl] at h1
  have h2 := sumQ_le (f := fun j => if j = i then 0 else x j) (a := 1000) n fun j hj => by
    split
    · decide
    · exact hx j hj
  have h3 : (n : Rat) ≤ 4 := by
    have := (Rat.intCast_le_intCast (a := (n : Int)) (b := 4)).2 (by omega)
    rw [Rat.intCast_natCast] at this
    exact this
  have h4 := hx i hi
  have h5 := (hc (2 ^ n - 1)).1
  refine ⟨?_, ?_⟩
  · simp only [Rat.intCast_ofNat]
    grind
  · simp only [Rat.intCast_ofNat]
    grind
/-- The checks by whole numbers say that payments are in the core. -/
theorem ccB_in {c : List Int} {qs : List Rat} {n : Nat} (hv : valC c = true) (hn : plr c = n) (hl : qs.length = n) (hq : ∀ q ∈ qs, smallQ q) : ccB c (qs.map pr) = true ↔ InC c n (fun i => qs.getD i 0) := by
  unfold ccB coreI
  rw [hv, if_pos rfl, hn, Bool.and_eq_true, sumB_R hl hq, coreTo_R hl hq, decide_eq_true_eq, paysL_dot hl]
  refine and_congr Iff.rfl ?_
  unfold coreRTo
  rw [List.all_eq_true]
  constructor
  · intro h s hs
    have := h s (List.mem_range.2 hs)
    rw [Bool.not_eq_true', decide_eq_false_iff_not, paysL_dot hl, Rat.not_lt] at this
    exact this
  · intro h s hs
    rw [Bool.not_eq_true', decide_eq_false_iff_not, paysL_dot hl, Rat.not_lt]
    exact h s (List.mem_range.1 hs)
theorem entry_row {c : List Int} {n : Nat} {sets : List Nat} (hl : sets.length = n) {i : Nat} (hi : i < n) : (∀ j, j < n → entry (sysC c n sets) i j = bitI (sets.getD i 0) j) ∧ entry (sysC c n sets) i n = c.getD (sets.getD i 0) 0 := by
  obtain ⟨s, hs⟩ : ∃ s, sets[i]? = some s := ⟨_, List.getElem?_eq_getElem (by omega)⟩
  have e1 : sets.getD i 0 = s := by rw [List.getD_eq_getElem?_getD, hs]; rfl
  have e2 : (sysC c n sets).getD i [] = rowL n s (c.getD s 0) := by unfold sysC; rw [List.getD_eq_getElem?_getD, List.getElem?_map, hs]; rfl
  unfold entry
  rw [e2, e1]
  exact ⟨fun j hj => rowL_get n s _ j hj, rowL_last n s _⟩
/-- The last of rising sets is the set of all. -/
theorem last_all {n : Nat} {sets : List Nat} (hn : 1 ≤ n) (hl : sets.length = n) (hp : sets.Pairwise (· < ·)) (hm : 2 ^ n - 1 ∈ sets) (hb : ∀ x ∈ sets, x < 2 ^ n) : sets.getD (n - 1) 0 = 2 ^ n - 1 := by
  obtain ⟨j, hj, e⟩ := List.getElem_of_mem hm
  rw [List.getD_eq_getElem?_getD, List.getElem?_eq_getElem (by omega), Option.getD_some]
  by_cases h : j = n - 1
  · subst h; exact e
  · have h1 := List.pairwise_iff_getElem.1 hp j (n - 1) hj (by omega) (by omega)
    have h2 := hb _ (List.getElem_mem (show n - 1 < sets.length by omega))
    omega
theorem cand_some {c : List Int} {n : Nat} {x : Nat → Rat} {sets : List Nat} (hv : valC c = true) (hn : plr c = n) (hx : InC c n x) (hl : sets.length = n) (hp : sets.Pairwise (· < ·)) (hm : 2 ^ n - 1 ∈ sets) (hb : ∀ s ∈ sets, s < 2 ^ n) (ht : ∀ s ∈ sets, dotS n x s = cq c s) (hs : Spn n sets) : ∃ qs, cand c n sets = some qs := by
  have hpw := valC_pow hv
  rw [hn] at hpw
  have hcb := (valC_iff.1 hv).2.2
  have hf : Bits (entry (sysC c n sets)) n := fun i j hi hj => by
    rw [(entry_row hl hi).1 j hj]; exact bitI_cases _ _
  have hrow : ∀ (y : Nat → Rat) i, i < n → sumQ (fun j => (entry (sysC c n sets) i j : Rat) * y j) (n + 1) = dotS n y (sets.getD i 0) + cq c (sets.getD i 0) * y n := by
    intro y i hi
    rw [sumQ, (entry_row hl hi).2]
    congr 1
    exact sumQ_congr fun j hj => by rw [(entry_row hl hi).1 j hj]; rfl
  have hget : ∀ s ∈ sets, ∃ i, i < n ∧ sets.getD i 0 = s := by
    intro s hs
    obtain ⟨i, hi, e⟩ := List.getElem_of_mem hs
    exact ⟨i, by omega, by rw [List.getD_eq_getElem?_getD, List.getElem?_eq_getElem hi]; exact e⟩
  unfold cand
  rw [if_pos (last_all hpw.2.1 hl hp hm hb)]
  cases e : slvTo (entry (sysC c n sets)) n n with
  | none =>
    obtain ⟨y, h1, h2, j, hj, h3⟩ := slv_none hf hpw.2.2 e
    refine absurd (hs y (fun s hs => ?_) j hj) h3
    obtain ⟨i, hi, rfl⟩ := hget s hs
    have := h1 i hi
    rw [hrow y i hi, h2] at this
    grind
  | some r =>
    obtain ⟨h, l⟩ := r
    obtain ⟨h1, h2, h3⟩ := slv_some hf hpw.2.2 e
    have hy := (h3 (fun j => if j < n then x j else -1)).1 (fun i hi => by
      rw [hrow _ i hi]
      have e1 : dotS n (fun j => if j < n then x j else -1) (sets.getD i 0) = dotS n x (sets.getD i 0) := sumQ_congr fun j hj => by dsimp only; rw [if_pos hj]
      have hmem : sets.getD i 0 ∈ sets := by rw [List.getD_eq_getElem?_getD, List.getElem?_eq_getElem (by omega)]; exact List.getElem_mem _
      rw [e1, ht _ hmem]
      rw [if_neg (by omega)]
      grind)
    have hxi : ∀ i, i < n → solQ (h i n) l = x i := fun i hi => by
      have := hy i hi
      rw [if_pos hi, if_neg (by omega)] at this
      exact solQ_of h1 this
    have hsl : (solL h l n).length = n := by simp [solL]
    have hsm : ∀ q ∈ solL h l n, smallQ q := by
      intro q hq
      simp only [solL, List.mem_map, List.mem_range] at hq
      obtain ⟨i, hi, rfl⟩ := hq
      have hd := solQ_den (x := h i n) h1 h2
      have hb := inC_bd hcb hpw.2.2 hx hi
      rw [← hxi i hi] at hb
      have := num_bd hd (by decide) hb.1 hb.2
      unfold smallQ
      omega
    have hin : ccB c ((solL h l n).map pr) = true := by
      rw [ccB_in hv hn hsl hsm]
      have e1 : ∀ s, dotS n (fun i => (solL h l n).getD i 0) s = dotS n x s := fun s => sumQ_congr fun i hi => by
        dsimp only
        rw [← hxi i hi, List.getD_eq_getElem?_getD]
        simp [solL, hi]
      unfold InC
      simp only [e1]
      exact hx
    simp only [hin, if_true]
    exact ⟨_, rfl⟩
theorem core_some {c : List Int} {x : Nat → Rat} (hv : valC c = true) (hx : InC c (plr c) x) : ∃ qs, coreF c = some qs := by
  obtain ⟨n, hn⟩ : ∃ n, plr c = n := ⟨_, rfl⟩
  rw [hn] at hx
  have hpw := valC_pow hv
  rw [hn] at hpw
  obtain ⟨x', hx', hs⟩ := corner hpw.2.1 _ x (Nat.le_refl _) hx
  have hN : 2 ≤ 2 ^ n := Nat.pow_le_pow_right (show 0 < 2 by decide) hpw.2.1
  have hm : 2 ^ n - 1 ∈ tights c n x' := List.mem_filter.2 ⟨mem_sets.2 (by omega), decide_eq_true hx'.1⟩
  have hp : (tights c n x').Pairwise (· < ·) := (List.pairwise_lt_range').sublist List.filter_sublist
  have hle := spn_length hs
  obtain ⟨Q, h1, h2, h3, h4, h5⟩ := spn_shrink hpw.2.1 (fun i hi => bq_all hi) ((tights c n x').length - n) (tights c n x') (by omega) hp hm hs
  have hQ : ∀ s ∈ Q, (1 ≤ s ∧ s < 2 ^ n) ∧ dotS n x' s = cq c s := fun s hs => by
    have := List.mem_filter.1 (h5 s hs)
    exact ⟨mem_sets.1 this.1, of_decide_eq_true this.2⟩
  obtain ⟨qs, hqs⟩ := cand_some hv hn hx' h1 h2 h3 (fun s hs => (hQ s hs).1.2) (fun s hs => (hQ s hs).2) h4
  unfold coreF
  rw [hn, hpw.1]
  exact findSome_some (cmb_of h1 h2 fun s hs => (hQ s hs).1) hqs
theorem core_cc {c : List Int} {qs : List Rat} (h : coreF c = some qs) : ccB c (qs.map pr) = true ∧ qs.length = plr c := by
  unfold coreF at h
  obtain ⟨s, _, hs⟩ := List.exists_of_findSome?_eq_some h
  unfold cand at hs
  split at hs
  · split at hs
    · cases hs
    · split at hs
      · rename_i hcc
        injection hs with hs
        rw [← hs]
        exact ⟨hcc, by simp [solL]⟩
      · cases hs
  · cases hs

/- The first two sets that show that costs are not concave: plain Lean. -/

def badB (c : List Int) (a b : Nat) : Bool := decide (c.getD a 0 + c.getD b 0 < c.getD (a ||| b) 0 + c.getD (a &&& b) 0)
def concL (c : List Int) : Nat × Nat × Nat :=
  match (List.range (c.length * c.length)).find? (fun t => badB c (t / c.length) (t % c.length)) with
  | some t => (t / c.length, t % c.length, 0)
  | none => (0, 0, 4)
/-- No two sets before these show it. -/
def noneTo (c : List Int) (t : Nat) : Prop := ∀ s, s < t → badB c (s / c.length) (s % c.length) = false
theorem noneTo_zero (c : List Int) : noneTo c 0 := fun s h => by omega
theorem div_pos_eq {N a b : Nat} (hb : b < N) : (a * N + b) / N = a ∧ (a * N + b) % N = b := by
  constructor
  · rw [Nat.mul_comm, Nat.mul_add_div (by omega), Nat.div_eq_of_lt hb, Nat.add_zero]
  · rw [Nat.mul_comm, Nat.mul_add_mod, Nat.mod_eq_of_lt hb]
theorem noneTo_succ {c : List Int} {a b : Nat} (h : noneTo c (a * c.length + b)) (hb : b < c.length) (hn : badB c a b = false) : noneTo c (a * c.length + (b + 1)) := by
  intro s hs
  rcases Nat.lt_or_ge s (a * c.length + b) with h1 | h1
  · exact h s h1
  · obtain rfl : s = a * c.length + b := by omega
    obtain ⟨e1, e2⟩ := div_pos_eq (a := a) hb
    rw [e1, e2]; exact hn
theorem noneTo_row {c : List Int} {a : Nat} (h : noneTo c (a * c.length + c.length)) : noneTo c ((a + 1) * c.length) := by rwa [Nat.succ_mul]
theorem concL_hit {c : List Int} {a b : Nat} (h : noneTo c (a * c.length + b)) (ha : a < c.length) (hb : b < c.length) (hx : badB c a b = true) : concL c = (a, b, 0) := by
  obtain ⟨e1, e2⟩ := div_pos_eq (a := a) hb
  have hlt : a * c.length + b < c.length * c.length := by
    have : (a + 1) * c.length ≤ c.length * c.length := Nat.mul_le_mul_right _ ha
    rw [Nat.succ_mul] at this; omega
  have : (List.range (c.length * c.length)).find? (fun t => badB c (t / c.length) (t % c.length)) = some (a * c.length + b) := by
    rw [List.find?_range_eq_some]
    refine ⟨by rw [e1, e2]; exact hx, List.mem_range.2 hlt, fun j hj => by simp [h j hj]⟩
  unfold concL
  rw [this]
  simp only [e1, e2]
theorem concL_miss {c : List Int} (h : noneTo c (c.length * c.length)) : concL c = (0, 0, 4) := by
  have : (List.range (c.length * c.length)).find? (fun t => badB c (t / c.length) (t % c.length)) = none := by
    rw [List.find?_eq_none]
    intro t ht
    simp [h t (List.mem_range.1 ht)]
  unfold concL
  rw [this]
theorem and_lt {a b N : Nat} (h : a < N) : a &&& b < N := Nat.lt_of_le_of_lt Nat.and_le_left h

/- How many orders there are: plain Lean. -/
theorem flatMap_len {α β : Type} (f : α → List β) (b : Nat) (l : List α) (h : ∀ x ∈ l, (f x).length ≤ b) : (l.flatMap f).length ≤ l.length * b := by
  induction l with
  | nil => simp
  | cons x l ih =>
    have h1 := h x (by simp)
    have h2 := ih fun y hy => h y (by simp [hy])
    simp only [List.flatMap_cons, List.length_append, List.length_cons, Nat.add_mul, Nat.one_mul]
    omega
theorem ext_lenP (n m : Nat) : ∀ pre, (ext n m pre).length ≤ n ^ m := by
  induction m with
  | zero => intro pre; simp [ext]
  | succ m ih =>
    intro pre
    have := flatMap_len (fun i => if i ∈ pre then [] else ext n m (pre ++ [i])) (n ^ m) (List.range n) (fun i _ => by
      split
      · simp
      · exact ih _)
    rw [List.length_range] at this
    rw [Nat.pow_succ, Nat.mul_comm]
    exact this
theorem extTo_lenP (n m : Nat) (pre : List Nat) (i : Nat) : (extTo n m pre i).length ≤ i * n ^ m := by
  have := flatMap_len (fun i => if i ∈ pre then [] else ext n m (pre ++ [i])) (n ^ m) (List.range i) (fun i _ => by
    split
    · simp
    · exact ext_lenP n m _)
  rwa [List.length_range] at this
theorem pow_small {n m : Nat} (hn : n ≤ 4) (hm : m ≤ 4) : n ^ m ≤ 256 := by
  calc n ^ m ≤ 4 ^ m := Nat.pow_le_pow_left hn m
    _ ≤ 4 ^ 4 := Nat.pow_le_pow_right (by omega) hm
    _ = 256 := rfl
theorem ext_mem {n m : Nat} : ∀ {pre}, (∀ x ∈ pre, x < n) → ∀ os ∈ ext n m pre, os.length = pre.length + m ∧ ∀ x ∈ os, x < n := by
  induction m with
  | zero => intro pre hp os ho; simp [ext] at ho; subst ho; exact ⟨rfl, hp⟩
  | succ m ih =>
    intro pre hp os ho
    simp only [ext, List.mem_flatMap, List.mem_range] at ho
    obtain ⟨i, hi, ho⟩ := ho
    split at ho
    · cases ho
    · have := ih (pre := pre ++ [i]) (by intro x hx; simp at hx; rcases hx with hx | rfl; exact hp x hx; exact hi) os ho
      simp at this
      exact ⟨by omega, this.2⟩

/- When a list is an order of the players, by two ways: plain Lean. -/

/-- The reference's way: nobody twice. -/
def ordRgo (n : Nat) : Nat → List Int → Bool
  | _, [] => true
  | met, x :: l => if x < 0 ∨ (n : Int) ≤ x ∨ met / 2 ^ x.toNat % 2 = 1 then false else ordRgo n (met ||| 2 ^ x.toNat) l
def ordR (n : Nat) (l : List Int) : Bool := ordRgo n 0 l && decide (l.length = n)
/-- The program's way: all are met. -/
def ordGgo (n : Nat) : Nat → List Int → Bool
  | set, [] => decide (set = 2 ^ n - 1)
  | set, x :: l => if x < 0 ∨ (n : Int) ≤ x then false else ordGgo n (set ||| 2 ^ x.toNat) l
def ordG (n : Nat) (l : List Int) : Bool := ordGgo n 0 l && decide (l.length = n)

theorem ordRgo_mem {n : Nat} {l : List Int} : ∀ {met}, ordRgo n met l = true → ∀ x ∈ l, 0 ≤ x ∧ x < n := by
  induction l with
  | nil => intro _ _ x hx; cases hx
  | cons y l ih =>
    intro met h x hx
    rw [ordRgo] at h
    split at h
    · cases h
    · rcases List.mem_cons.1 hx with rfl | hx
      · omega
      · exact ih h x hx
theorem ordGgo_mem {n : Nat} {l : List Int} : ∀ {met}, ordGgo n met l = true → ∀ x ∈ l, 0 ≤ x ∧ x < n := by
  induction l with
  | nil => intro _ _ x hx; cases hx
  | cons y l ih =>
    intro met h x hx
    rw [ordGgo] at h
    split at h
    · cases h
    · rcases List.mem_cons.1 hx with rfl | hx
      · omega
      · exact ih h x hx

theorem nats_of {n : Nat} {l : List Int} (h : ∀ x ∈ l, 0 ≤ x ∧ x < n) : ∃ os : List Nat, l = os.map Int.ofNat ∧ ∀ x ∈ os, x < n := by
  refine ⟨l.map Int.toNat, ?_, ?_⟩
  · rw [List.map_map]
    conv => lhs; rw [← List.map_id l]
    apply List.map_congr_left
    intro x hx
    have := (h x hx).1
    show x = ((x.toNat : Nat) : Int)
    omega
  · intro x hx
    obtain ⟨y, hy, rfl⟩ := List.mem_map.1 hx
    have := h y hy
    omega

set_option maxRecDepth 100000 in
theorem ord1 : ∀ a, a < 1 → ordG 1 [(a : Nat)] = ordR 1 [(a : Nat)] := by decide
set_option maxRecDepth 100000 in
theorem ord2 : ∀ a, a < 2 → ∀ b, b < 2 → ordG 2 [((a : Nat) : Int), ((b : Nat) : Int)] = ordR 2 [((a : Nat) : Int), ((b : Nat) : Int)] := by decide
set_option maxRecDepth 100000 in
theorem ord3 : ∀ a, a < 3 → ∀ b, b < 3 → ∀ c, c < 3 → ordG 3 [((a : Nat) : Int), ((b : Nat) : Int), ((c : Nat) : Int)] = ordR 3 [((a : Nat) : Int), ((b : Nat) : Int), ((c : Nat) : Int)] := by decide
set_option maxRecDepth 100000 in
theorem ord4 : ∀ a, a < 4 → ∀ b, b < 4 → ∀ c, c < 4 → ∀ d, d < 4 → ordG 4 [((a : Nat) : Int), ((b : Nat) : Int), ((c : Nat) : Int), ((d : Nat) : Int)] = ordR 4 [((a : Nat) : Int), ((b : Nat) : Int), ((c : Nat) : Int), ((d : Nat) : Int)] := by decide

theorem ordG_eq {n : Nat} (h1 : 1 ≤ n) (h4 : n ≤ 4) (l : List Int) : ordG n l = ordR n l := by
  by_cases hl : l.length = n
  · by_cases hm : ∀ x ∈ l, 0 ≤ x ∧ x < n
    · obtain ⟨os, rfl, hos⟩ := nats_of hm
      rw [List.length_map] at hl
      subst hl
      match os, h1, h4 with
      | [a], _, _ => exact ord1 a (hos a (by simp))
      | [a, b], _, _ => exact ord2 a (hos a (by simp)) b (hos b (by simp))
      | [a, b, c], _, _ => exact ord3 a (hos a (by simp)) b (hos b (by simp)) c (hos c (by simp))
      | [a, b, c, d], _, _ => exact ord4 a (hos a (by simp)) b (hos b (by simp)) c (hos c (by simp)) d (hos d (by simp))
      | _ :: _ :: _ :: _ :: _ :: _, _, h => exact absurd h (by simp)
    · have e1 : ordGgo n 0 l = false := by
        cases h : ordGgo n 0 l
        · rfl
        · exact absurd (ordGgo_mem h) hm
      have e2 : ordRgo n 0 l = false := by
        cases h : ordRgo n 0 l
        · rfl
        · exact absurd (ordRgo_mem h) hm
      simp [ordG, ordR, e1, e2]
  · simp [ordG, ordR, hl]
theorem ordR_nats {n : Nat} {l : List Int} (h : ordR n l = true) : ∃ os : List Nat, l = os.map Int.ofNat ∧ (∀ x ∈ os, x < n) ∧ os.length = n := by
  unfold ordR at h
  rw [Bool.and_eq_true, decide_eq_true_eq] at h
  obtain ⟨os, rfl, hos⟩ := nats_of (ordRgo_mem h.1)
  exact ⟨os, rfl, hos, by simpa using h.2⟩

/- All orders level by level, and what an order's payments sum to: plain Lean. -/

/-- The orders one player longer than o. -/
def stepTo (o : List Nat) (i : Nat) : List (List Nat) := (List.range i).flatMap fun i => if i ∈ o then [] else [o ++ [i]]
def stepL (n : Nat) (M : List (List Nat)) : List (List Nat) := M.flatMap fun o => stepTo o n
def stepI (n : Nat) : Nat → List (List Nat) → List (List Nat)
  | 0, M => M
  | k + 1, M => stepL n (stepI n k M)
/-- All beginnings of orders with k players. -/
def lv (n k : Nat) : List (List Nat) := stepI n k [[]]
theorem lv_succ (n k : Nat) : lv n (k + 1) = stepL n (lv n k) := rfl
theorem stepTo_succ (o : List Nat) (i : Nat) : stepTo o (i + 1) = stepTo o i ++ (if i ∈ o then [] else [o ++ [i]]) := by simp [stepTo, List.range_succ]
theorem stepL_take {n : Nat} {M : List (List Nat)} {j : Nat} {o : List Nat} (h : M[j]? = some o) : stepL n (M.take (j + 1)) = stepL n (M.take j) ++ stepTo o n := by
  rw [List.take_add_one, h]; simp [stepL]
theorem stepI_comm (n k : Nat) (M : List (List Nat)) : stepI n (k + 1) M = stepI n k (stepL n M) := by
  induction k with
  | zero => rfl
  | succ k ih => show stepL n (stepI n (k + 1) M) = stepL n (stepI n k (stepL n M)); rw [ih]
theorem stepI_ext (n m : Nat) : ∀ M, stepI n m M = M.flatMap (ext n m) := by
  induction m with
  | zero =>
    intro M
    show M = M.flatMap fun pre => [pre]
    simp
  | succ m ih =>
    intro M
    rw [stepI_comm, ih]
    unfold stepL stepTo
    rw [List.flatMap_assoc]
    congr 1
    funext o
    rw [List.flatMap_assoc]
    show _ = (List.range n).flatMap _
    congr 1
    funext i
    split <;> simp
theorem lv_ext (n : Nat) : lv n n = ext n n [] := by
  unfold lv; rw [stepI_ext]; simp
theorem stepTo_len (o : List Nat) (i : Nat) : (stepTo o i).length ≤ i := by
  have := flatMap_len (fun i => if i ∈ o then [] else [o ++ [i]]) 1 (List.range i) (fun i _ => by split <;> simp)
  rwa [List.length_range, Nat.mul_one] at this
theorem stepL_len (n : Nat) (M : List (List Nat)) : (stepL n M).length ≤ M.length * n := flatMap_len _ _ _ fun o _ => stepTo_len o n
theorem lv_len (n k : Nat) : (lv n k).length ≤ n ^ k := by
  induction k with
  | zero => simp [lv, stepI]
  | succ k ih =>
    rw [lv_succ, Nat.pow_succ]
    exact Nat.le_trans (stepL_len _ _) (Nat.mul_le_mul_right _ ih)
theorem lv_mem {n k : Nat} : ∀ os ∈ lv n k, os.length = k ∧ ∀ x ∈ os, x < n := by
  induction k with
  | zero => intro os h; simp [lv, stepI] at h; subst h; simp
  | succ k ih =>
    intro os h
    rw [lv_succ] at h
    simp only [stepL, stepTo, List.mem_flatMap, List.mem_range] at h
    obtain ⟨o, ho, i, hi, h⟩ := h
    split at h
    · cases h
    · simp at h
      subst h
      have := ih o ho
      refine ⟨by simp [this.1], fun x hx => ?_⟩
      rcases List.mem_append.1 hx with hx | hx
      · exact this.2 x hx
      · simp at hx; omega

theorem sum_set {l : List Int} {i : Nat} {y x : Int} (h : l[i]? = some y) : (l.set i x).sum = l.sum - y + x := by
  induction l generalizing i with
  | nil => simp at h
  | cons a l ih =>
    cases i with
    | zero => simp at h; subst h; simp; omega
    | succ i => simp at h; have := ih h; simp [this]; omega
theorem join_sum (c : List Int) : ∀ (os : List Nat) (p : Nat × List Int), os.Nodup → (∀ x ∈ os, p.2[x]? = some 0) → (os.foldl (joinStep c) p).2.sum = p.2.sum + c.getD (os.foldl (joinStep c) p).1 0 - c.getD p.1 0 := by
  intro os
  induction os with
  | nil => intro p _ _; simp only [List.foldl_nil]; omega
  | cons x os ih =>
    intro p hn h
    rw [List.foldl_cons]
    have hn' := List.nodup_cons.1 hn
    have hx := h x (by simp)
    rw [ih (joinStep c p x) hn'.2 (fun y hy => by
      have hne : x ≠ y := fun e => hn'.1 (e ▸ hy)
      simp only [joinStep]
      rw [List.getElem?_set_ne hne]
      exact h y (by simp [hy]))]
    have : (joinStep c p x).2.sum = p.2.sum - 0 + (c.getD (joinStep c p x).1 0 - c.getD p.1 0) := sum_set hx
    rw [this]
    omega
/-- The set of an order's players. -/
def setOfO (os : List Nat) : Nat := os.foldl (fun s i => s ||| 2 ^ i) 0
theorem join_set (c : List Int) (os : List Nat) : ∀ p : Nat × List Int, (os.foldl (joinStep c) p).1 = os.foldl (fun s i => s ||| 2 ^ i) p.1 := by
  induction os with
  | nil => intro p; rfl
  | cons x os ih => intro p; rw [List.foldl_cons, List.foldl_cons, ih]; rfl
set_option maxRecDepth 100000 in
theorem ext_facts {n : Nat} (h1 : 1 ≤ n) (h4 : n ≤ 4) : ∀ os ∈ ext n n [], os.Nodup ∧ setOfO os = 2 ^ n - 1 ∧ ordG n (os.map Int.ofNat) = true := by
  match n, h1, h4 with
  | 1, _, _ => decide +kernel
  | 2, _, _ => decide +kernel
  | 3, _, _ => decide +kernel
  | 4, _, _ => decide +kernel
theorem joinL_sum {c : List Int} {n : Nat} (h1 : 1 ≤ n) (h4 : n ≤ 4) (h0 : c.getD 0 0 = 0) {os : List Nat} (ho : os ∈ ext n n []) : (joinL c os).sum = c.getD (2 ^ n - 1) 0 := by
  obtain ⟨hn, hs, _⟩ := ext_facts h1 h4 os ho
  have hm := ext_mem (n := n) (m := n) (pre := []) (by simp) os ho
  have hl : os.length = n := by simpa using hm.1
  have := join_sum c os (0, List.replicate os.length 0) hn (fun x hx => by
    have := hm.2 x hx
    rw [List.getElem?_replicate, if_pos (by omega)])
  rw [join_set] at this
  unfold joinL
  rw [this]
  show _ + c.getD (setOfO os) 0 - _ = _
  rw [hs, h0]
  simp
theorem take_sum_succ {l : List Int} {k : Nat} {x : Int} (h : l[k]? = some x) : (l.take (k + 1)).sum = (l.take k).sum + x := by
  rw [take_succ' h]; simp
theorem take_sum_bd {l : List Int} (h : ∀ y ∈ l, -1000 ≤ y ∧ y ≤ 1000) (k : Nat) : -(1000 * k) ≤ (l.take k).sum ∧ (l.take k).sum ≤ 1000 * k := by
  induction k with
  | zero => simp
  | succ k ih =>
    cases hx : l[k]? with
    | none =>
      have : l.take (k + 1) = l.take k := by rw [List.take_add_one, hx]; simp
      rw [this]; omega
    | some x => rw [take_sum_succ hx]; have := h x (List.mem_of_getElem? hx); omega

/- Where costs are concave, what players pay in any order is in the core, and so is the average. Plain Lean. -/

theorem concL_cases (c : List Int) : (∃ a b, concL c = (a, b, 0) ∧ a < c.length ∧ b < c.length ∧ badB c a b = true) ∨ (concL c = (0, 0, 4) ∧ ∀ a b, a < c.length → b < c.length → badB c a b = false) := by
  cases h : (List.range (c.length * c.length)).find? (fun t => badB c (t / c.length) (t % c.length)) with
  | some t =>
    refine .inl ⟨t / c.length, t % c.length, by unfold concL; rw [h], ?_, ?_, List.find?_some (p := fun t => badB c (t / c.length) (t % c.length)) h⟩
    · have := List.mem_range.1 (List.mem_of_find?_eq_some h)
      exact Nat.div_lt_of_lt_mul this
    · have := List.mem_range.1 (List.mem_of_find?_eq_some h)
      refine Nat.mod_lt _ ?_
      rcases Nat.eq_zero_or_pos c.length with e | e
      · rw [e] at this; omega
      · exact e
  | none =>
    refine .inr ⟨by unfold concL; rw [h], fun a b ha hb => ?_⟩
    have h1 := List.find?_eq_none.1 h (a * c.length + b) (List.mem_range.2 (by
      have : (a + 1) * c.length ≤ c.length * c.length := Nat.mul_le_mul_right _ ha
      rw [Nat.succ_mul] at this; omega))
    obtain ⟨e1, e2⟩ := div_pos_eq (a := a) hb
    rw [e1, e2] at h1
    cases hbb : badB c a b
    · rfl
    · exact absurd hbb h1
/-- No two sets show that costs are not concave. -/
def Conc (c : List Int) : Prop := ∀ a b, a < c.length → b < c.length → cq c (a ||| b) + cq c (a &&& b) ≤ cq c a + cq c b
theorem conc_of {c : List Int} (h : ∀ a b, a < c.length → b < c.length → badB c a b = false) : Conc c := by
  intro a b ha hb
  have h1 := h a b ha hb
  unfold badB at h1
  rw [decide_eq_false_iff_not] at h1
  unfold cq
  rw [← Rat.intCast_add, ← Rat.intCast_add, Rat.intCast_le_intCast]
  omega
/-- The payments so far, as fractions. -/
def payR (x : List Int) (i : Nat) : Rat := ((x.getD i 0 : Int) : Rat)
theorem dot_set {n i S : Nat} {x : List Int} (hi : i < n) (hl : x.length = n) (h0 : x[i]? = some 0) (v : Int) : dotS n (payR (x.set i v)) S = dotS n (payR x) S + bq S i * (v : Rat) := by
  have e : dotS n (payR (x.set i v)) S = sumQ (fun j => bq S j * payR x j + (if j = i then bq S i * (v : Rat) else 0)) n := by
    refine sumQ_congr fun j hj => ?_
    unfold payR
    by_cases e : j = i
    · subst e
      rw [if_pos rfl, List.getD_eq_getElem?_getD, List.getElem?_set_self (by omega), List.getD_eq_getElem?_getD, h0]
      simp only [Option.getD_some]
      grind
    · rw [if_neg e, List.getD_eq_getElem?_getD, List.getElem?_set_ne (fun h => e h.symm), ← List.getD_eq_getElem?_getD]
      grind
  rw [e, sumQ_add, sumQ_one (f := fun j => if j = i then bq S i * (v : Rat) else 0) hi (fun j _ hne => by rw [if_neg hne]), if_pos rfl]
  rfl
theorem and_or_in {S T i : Nat} (h : S.testBit i = true) : ((S &&& (T ||| 2 ^ i)) ||| T) = T ||| 2 ^ i ∧ ((S &&& (T ||| 2 ^ i)) &&& T) = S &&& T := by
  constructor
  · apply Nat.eq_of_testBit_eq
    intro j
    simp only [Nat.testBit_or, Nat.testBit_and, Nat.testBit_two_pow]
    by_cases e : i = j
    · subst e; simp [h]
    · simp [e]
  · apply Nat.eq_of_testBit_eq
    intro j
    simp only [Nat.testBit_or, Nat.testBit_and, Nat.testBit_two_pow]
    cases S.testBit j <;> cases T.testBit j <;> simp
theorem and_or_out {S T i : Nat} (h : S.testBit i = false) : (S &&& (T ||| 2 ^ i)) = S &&& T := by
  apply Nat.eq_of_testBit_eq
  intro j
  simp only [Nat.testBit_or, Nat.testBit_and, Nat.testBit_two_pow]
  by_cases e : i = j
  · subst e; simp [h]
  · simp [e]
theorem join_core {c : List Int} {n : Nat} (hN : c.length = 2 ^ n) (hc : Conc c) : ∀ (os : List Nat) (p : Nat × List Int), os.Nodup → (∀ x ∈ os, x < n) → (∀ x ∈ os, p.2[x]? = some 0) → p.1 < 2 ^ n → p.2.length = n →
    ((∀ S, S < 2 ^ n → dotS n (payR p.2) S ≤ cq c (S &&& p.1)) ∧ dotS n (payR p.2) (2 ^ n - 1) = cq c p.1) →
    ((∀ S, S < 2 ^ n → dotS n (payR (os.foldl (joinStep c) p).2) S ≤ cq c (S &&& (os.foldl (joinStep c) p).1)) ∧ dotS n (payR (os.foldl (joinStep c) p).2) (2 ^ n - 1) = cq c (os.foldl (joinStep c) p).1) := by
  intro os
  induction os with
  | nil => intro p _ _ _ _ _ h; exact h
  | cons i os ih =>
    intro p hd hlt h0 hT hl h
    have hd' := List.nodup_cons.1 hd
    have hi := hlt i (List.mem_cons_self ..)
    have hi0 := h0 i (List.mem_cons_self ..)
    have hT' : p.1 ||| 2 ^ i < 2 ^ n := or_pow_lt hT hi
    refine ih (joinStep c p i) hd'.2 (fun x hx => hlt x (List.mem_cons_of_mem _ hx)) (fun y hy => ?_) hT' (by simp [joinStep, hl]) ⟨fun S hS => ?_, ?_⟩
    · have hne : i ≠ y := fun e => hd'.1 (e ▸ hy)
      simp only [joinStep]
      rw [List.getElem?_set_ne hne]
      exact h0 y (List.mem_cons_of_mem _ hy)
    · have h1 := h.1 S hS
      simp only [joinStep]
      rw [dot_set hi hl hi0, Rat.intCast_sub]
      show dotS n (payR p.2) S + bq S i * (cq c (p.1 ||| 2 ^ i) - cq c p.1) ≤ cq c (S &&& (p.1 ||| 2 ^ i))
      unfold bq bitI
      cases hb : S.testBit i
      · rw [and_or_out hb]
        simp only [Bool.false_eq_true, if_false]
        have : ((((0 : Nat) : Int)) : Rat) = 0 := rfl
        rw [this]
        grind
      · obtain ⟨e1, e2⟩ := and_or_in (T := p.1) hb
        have h2 := hc (S &&& (p.1 ||| 2 ^ i)) p.1 (by rw [hN]; exact and_lt hS) (by rw [hN]; exact hT)
        rw [e1, e2] at h2
        simp only [if_true]
        have : ((((1 : Nat) : Int)) : Rat) = 1 := rfl
        rw [this]
        grind
    · simp only [joinStep]
      rw [dot_set hi hl hi0, Rat.intCast_sub, h.2, bq_all hi]
      show cq c p.1 + 1 * (cq c (p.1 ||| 2 ^ i) - cq c p.1) = cq c (p.1 ||| 2 ^ i)
      grind
/-- Whatever order: payments in the core. -/
theorem joinL_core {c : List Int} {n : Nat} (hN : c.length = 2 ^ n) (hc : Conc c) (h0 : c.getD 0 0 = 0) {os : List Nat} (hd : os.Nodup) (hlt : ∀ x ∈ os, x < n) (hl : os.length = n) (hs : setOfO os = 2 ^ n - 1) : InC c n (payR (joinL c os)) := by
  have hz : ∀ S, dotS n (payR (List.replicate os.length (0 : Int))) S = 0 := fun S => sumQ_zero fun j hj => by
    unfold payR
    rw [List.getD_eq_getElem?_getD, List.getElem?_replicate, if_pos (by omega)]
    simp
  have hc0 : cq c 0 = 0 := by unfold cq; rw [h0]; rfl
  have h := join_core hN hc os (0, List.replicate os.length 0) hd hlt (fun x hx => by
    have := hlt x hx
    rw [List.getElem?_replicate, if_pos (by omega)]) (Nat.two_pow_pos n) (by simp [hl]) ⟨fun S _ => by rw [hz, Nat.and_zero, hc0]; exact Rat.le_refl, by rw [hz, hc0]⟩
  rw [join_set] at h
  have e : (os.foldl (fun s i => s ||| 2 ^ i) (0, List.replicate os.length (0 : Int)).1) = 2 ^ n - 1 := hs
  rw [e] at h
  refine ⟨h.2, fun S hS => ?_⟩
  have h1 := h.1 S hS
  rwa [Nat.and_two_pow_sub_one_eq_mod, Nat.mod_eq_of_lt hS] at h1

/- Contract: slices.Equal of ints. -/

set_option maxHeartbeats 800000 in
theorem equal_any (A A' : Option Addr) (n n' cap cap' : Nat) (ps qs : List Int) (w : World) (hl : ps.length = n) (hl' : qs.length = n') (hm : n ≤ 9223372036854775807) (h : Ints w A ps) (h' : Ints w A' qs) :
    Calls Tryd.prog 9 #[.slice A n cap, .slice A' n' cap'] w fun e w' => e = .returned (.bool (eqB ps qs)) ∧ ∃ m, w' = w.drewN m := by
  by_cases hnn : n = n'
  · subst hnn
    by_cases h0 : n = 0
    · subst h0
      obtain rfl := List.eq_nil_of_length_eq_zero hl
      obtain rfl := List.eq_nil_of_length_eq_zero hl'
      go_enter Tryd.func9, Tryd.ntmps9
      go_wp2
      refine wp_loop_rounds 1 ?_
      rw [rounds_succ]
      go_wp2
      go_ret
      exact ⟨rfl, 0, rfl⟩
    · obtain ⟨ad, rfl, _, hc⟩ := h.some_ (by omega)
      obtain ⟨ad', rfl, _, hc'⟩ := h'.some_ (by omega)
      have H := Lib.hid (And.intro hl (And.intro hl' (And.intro hc hc')))
      clear hl hl' hc hc' h h'
      go_enter Tryd.func9, Tryd.ntmps9
      go_wp2
      go_loopw [13] (fun iv wr => ∃ k : Nat, k ≤ n ∧ iv = .int .i64 k ∧ ps.take k = qs.take k ∧ ∃ m, wr = w.drewN m) (fun iv _ => n - (intOf iv).toNat)
      case atStart => exact ⟨0, Nat.zero_le _, rfl, rfl, 0, rfl⟩
      case round =>
        obtain ⟨k, hk, rfl, ht, m, rfl⟩ := hrel
        have HT := Lib.hid ht
        clear ht
        obtain ⟨hl, hl', hc, hc'⟩ := H.out
        by_cases hlt : k < n
        · obtain ⟨p, hp⟩ : ∃ p, ps[k]? = some p := ⟨_, List.getElem?_eq_getElem (by omega)⟩
          obtain ⟨q, hq⟩ : ∃ q, qs[k]? = some q := ⟨_, List.getElem?_eq_getElem (by omega)⟩
          have c1 := hc k p hp
          have c2 := hc' k q hq
          have HP := Lib.hid (And.intro hp hq)
          clear hp hq hc hc' hl hl'
          by_cases he : p = q
          · subst he
            go_wp2_with fail
            go_quiet (fail)
            go_wp2_with fail
            go_roundw
            case rel => exact ⟨k + 1, by omega, by go_num, take_eq_succ HP.out.1 HP.out.2 HT.out, by first | exact ⟨_, rfl⟩ | exact ⟨_, World.drewN_drewN _ _ _⟩⟩
            case measure => simp [intOf]; omega
          · have hne : (p != q) = true := by simpa using he
            have HNE := Lib.hid he
            clear he
            go_wp2_with fail
            go_quiet (fail)
            go_wp2_with fail
            go_ret
            exact ⟨ret_bool (eqB_at HP.out.1 HP.out.2 HNE.out).symm, by first | exact ⟨_, rfl⟩ | exact ⟨_, World.drewN_drewN _ _ _⟩⟩
        · obtain rfl : k = n := by omega
          have HF : Hid (eqB ps qs = true) := Lib.hid (eqB_all hl hl' HT.out)
          clear hl hl' hc hc'
          go_wp2
          go_ret
          exact ⟨ret_bool HF.out.symm, m, rfl⟩
  · have HF : Hid (eqB ps qs = false) := Lib.hid (eqB_len (by omega))
    have hne : ((n : Int) != (n' : Int)) = true := by rw [bne_iff_ne]; omega
    clear hl hl' h h'
    go_enter Tryd.func9, Tryd.ntmps9
    go_wp2
    go_ret
    exact ⟨ret_bool HF.out.symm, 0, rfl⟩

/- Contracts: isOrder and Join of package games, IsOrder and Join of package corrodyref07. -/

theorem drop_cons {α : Type} {l : List α} {k : Nat} {x : α} (h : l[k]? = some x) : l.drop k = x :: l.drop (k + 1) := by
  obtain ⟨hk, he⟩ := List.getElem?_eq_some_iff.1 h
  rw [List.drop_eq_getElem_cons hk, he]
theorem ordRgo_bad {n met : Nat} {x : Int} {l : List Int} (h : x < 0 ∨ (n : Int) ≤ x) : ordRgo n met (x :: l) = false := by
  rw [ordRgo, if_pos (by omega)]
theorem ordRgo_met {n met y : Nat} {l : List Int} (h : met.testBit y = true) : ordRgo n met ((y : Int) :: l) = false := by
  rw [Nat.testBit_eq_decide_div_mod_eq] at h
  rw [ordRgo, if_pos (.inr (.inr (by simpa using h)))]
theorem ordRgo_on {n met y : Nat} {l : List Int} (hy : y < n) (h : met.testBit y = false) : ordRgo n met ((y : Int) :: l) = ordRgo n (met ||| 2 ^ y) l := by
  rw [Nat.testBit_eq_decide_div_mod_eq] at h
  have : ¬ met / 2 ^ y % 2 = 1 := by simpa using h
  rw [ordRgo, if_neg (by rintro (h | h | h) <;> first | omega | exact this (by simpa using h))]
  simp
theorem ordGgo_bad {n met : Nat} {x : Int} {l : List Int} (h : x < 0 ∨ (n : Int) ≤ x) : ordGgo n met (x :: l) = false := by
  rw [ordGgo, if_pos (by omega)]
theorem ordGgo_on {n met y : Nat} {l : List Int} (hy : y < n) : ordGgo n met ((y : Int) :: l) = ordGgo n (met ||| 2 ^ y) l := by
  rw [ordGgo, if_neg (by omega)]
  simp

theorem np_cases {n N : Nat} (h1 : 1 ≤ n) (h4 : n ≤ 4) (hN : N = 2 ^ n) : N = 2 ∧ n = 1 ∨ N = 4 ∧ n = 2 ∨ N = 8 ∧ n = 3 ∨ N = 16 ∧ n = 4 := by
  subst hN
  match n, h1, h4 with
  | 1, _, _ => simp
  | 2, _, _ => simp
  | 3, _, _ => simp
  | 4, _, _ => simp

/-- Join of an order. -/
def joinZ (c l : List Int) : List Int := joinL c (l.map Int.toNat)
theorem toNat_of {l : List Int} (os : List Nat) (h : l = os.map Int.ofNat) : l.map Int.toNat = os := by
  subst h
  rw [List.map_map]
  conv => rhs; rw [← List.map_id os]
  apply List.map_congr_left
  intro x _
  rfl


/- Contract: orders of package corrodyref07: the list of all orders that begin in some way. -/

def zs (L : List (List Nat)) : List (List Int) := L.map fun os => os.map Int.ofNat
theorem zs_length (L : List (List Nat)) : (zs L).length = L.length := by simp [zs]
theorem zs_append (L M : List (List Nat)) : zs (L ++ M) = zs L ++ zs M := by simp [zs]

/-- All rows lie from some block on. -/
def RowsLo (lo : Nat) (vs : List Value) : Prop := ∀ v ∈ vs, ∀ ad n c, v = .slice (some ad) n c → lo ≤ ad.block
/-- What orders leaves. -/
def OrdPost (lo b : Nat) (L : List (List Nat)) (w : World) (e : Ending) (w' : World) : Prop :=
  ∃ A' k' vs, e = .returned (.slice A' L.length k') ∧ w'.ownsRow w.heap.size 22 1 (.slice A' L.length k') L.length vs ∧ Rows w' b vs (zs L) ∧ RowsLo lo vs ∧ Below w.heap.size w w'

theorem has_take_succ {xs : List Int} {k : Nat} {x y : Int} (h : xs[k]? = some x) : has (xs.take (k + 1)) y = (has (xs.take k) y || x == y) := by
  rw [take_succ' h]
  unfold has
  rw [Bool.eq_iff_iff]
  simp only [List.mem_append, List.mem_singleton, decide_eq_true_eq, Bool.or_eq_true, beq_iff_eq]
  constructor
  · rintro (h | h); exact .inl h; exact .inr h.symm
  · rintro (h | h); exact .inl h; exact .inr h.symm

theorem row1_of_ints {w : World} {A : Option Addr} {cap b : Nat} {os : List Int} (hI : Ints w A os) (hc : os.length ≤ cap) (hm : cap ≤ 9223372036854775807) (hb : ∀ ad, A = some ad → ad.block < b) : Row1 w b (.slice A os.length cap) os :=
  ⟨A, cap, rfl, hc, hm, hI, fun ad h => .inl (hb ad h)⟩


/- Contract: Join of package corrodyref07. -/


/- Contract: Players of package corrodyref07: how many players costs have, 0 where they are not valid. -/


/- Contract: Shapley of package corrodyref07, of valid costs. -/

theorem zs_get {L : List (List Nat)} {j : Nat} {os : List Nat} (h : L[j]? = some os) : (zs L)[j]? = some (os.map Int.ofNat) := by simp [zs, h]
/-- A row of the list of orders, behind what leaves it alone. -/
theorem Row1.kept {w w' : World} {B b lo : Nat} {S : List Nat} {v : Value} {os : List Int} (h : Row1 w b v os) (hk : Kept B S w w') (hB : w.heap.size ≤ B) (hlo : ∀ ad n c, v = .slice (some ad) n c → lo ≤ ad.block) (hS : ∀ x ∈ S, x < lo) :
    ∃ A c, v = .slice A os.length c ∧ os.length ≤ c ∧ c ≤ 9223372036854775807 ∧ Ints w' A os := by
  obtain ⟨A, c, hv, h1, h2, h3, _⟩ := h
  refine ⟨A, c, hv, h1, h2, fun i u hu => ?_⟩
  obtain ⟨ad, hA, hc⟩ := h3 i u hu
  refine ⟨ad, hA, ?_⟩
  have hlt := lt_of_cell hc
  have := hlo ad _ _ (by rw [← hA]; exact hv)
  rw [hk.cell (by omega) (fun hm => by have := hS _ hm; rw [add_block] at this; omega)]
  exact hc


/- Contracts: the copies of the beginning of an argument that the statements of package corrodylaw07 make. -/


/- Contract: awake of package corrodylaw07: one player pays the cost. -/

theorem shap_05 : shapL [0, 5] 1 = [5] := by decide +kernel


/- GamesShapley returns true for every costs and every order: the walk. -/

theorem ordR_len {n : Nat} {l : List Int} (h : l.length ≠ n) : ordR n l = false := by
  unfold ordR; rw [decide_eq_false h, Bool.and_false]
theorem ord_take {n : Nat} (h1 : 1 ≤ n) (h4 : n ≤ 4) (l : List Int) : ordG n (l.take 18) = ordR n l := by
  rw [ordG_eq h1 h4]
  by_cases h : l.length ≤ 18
  · rw [take18 h]
  · rw [ordR_len (l := l) (by omega), ordR_len (by rw [List.length_take]; omega)]
theorem below_drewN' {B : Nat} {w w' : World} (h : Below B w w') (n : Nat) : Below B w (w'.drewN n) := below_drewN h n


/- Contracts: Concave of package games and of its reference. -/

def conc3 (c : List Int) : Value := .tuple #[.int .i64 ((concL c).1 : Nat), .int .i64 ((concL c).2.1 : Nat), .int .i64 ((concL c).2.2 : Nat)]


/- GamesConcave returns true for every slice of costs: the walk. -/


/- Inequalities that nothing fulfils: a sum of them says so. Plain Lean. -/

inductive Der (L : List ((Nat → Rat) × Rat)) : (Nat → Rat) → Rat → Prop
  | mem (p : (Nat → Rat) × Rat) : p ∈ L → Der L p.1 p.2
  | add {a a' : Nat → Rat} {b b' : Rat} : Der L a b → Der L a' b' → Der L (fun j => a j + a' j) (b + b')
  | mul {a : Nat → Rat} {b : Rat} (t : Rat) : 0 ≤ t → Der L a b → Der L (fun j => t * a j) (t * b)
/-- The left side. -/
def lhs (a x : Nat → Rat) (n : Nat) : Rat := sumQ (fun j => a j * x j) n
theorem min_at {β : Type} (f : β → Rat) : ∀ L : List β, L ≠ [] → ∃ a ∈ L, ∀ b ∈ L, f a ≤ f b := by
  intro L
  induction L with
  | nil => intro h; exact absurd rfl h
  | cons a L ih =>
    intro _
    by_cases e : L = []
    · subst e
      exact ⟨a, List.mem_cons_self .., fun b hb => by rw [List.mem_singleton.1 hb]; exact Rat.le_refl⟩
    · obtain ⟨m, hm, hmin⟩ := ih e
      by_cases h : f a ≤ f m
      · refine ⟨a, List.mem_cons_self .., fun b hb => ?_⟩
        rcases List.mem_cons.1 hb with rfl | hb
        · exact Rat.le_refl
        · exact Rat.le_trans h (hmin b hb)
      · refine ⟨m, List.mem_cons_of_mem _ hm, fun b hb => ?_⟩
        rcases List.mem_cons.1 hb with rfl | hb
        · grind
        · exact hmin b hb
theorem fm_le {P Q p2 q2 lp lq ip iq : Rat} (hp : P * ip = 1) (hq : Q * iq = 1) (h1 : 0 ≤ ip) (h2 : 0 ≤ iq) (h : Q * lp + P * lq ≤ Q * p2 + P * q2) : (lq - q2) * iq ≤ (p2 - lp) * ip := by
  have h3 : 0 ≤ ((Q * p2 + P * q2) - (Q * lp + P * lq)) * (ip * iq) := Rat.mul_nonneg (by grind) (Rat.mul_nonneg h1 h2)
  have e : ((Q * p2 + P * q2) - (Q * lp + P * lq)) * (ip * iq) = (p2 - lp) * ip - (lq - q2) * iq := by grind
  rw [e] at h3
  generalize (p2 - lp) * ip = u at h3 ⊢
  generalize (lq - q2) * iq = v at h3 ⊢
  grind
theorem fm_up {P ip t r : Rat} (e1 : P * ip = 1) (h : t * P ≤ r * ip * P) : P * t ≤ r := by
  have e : r * ip * P = r := by grind
  rw [e, Rat.mul_comm] at h
  exact h
theorem fm_down {P ip t r : Rat} (e1 : P * ip = 1) (h : r * ip * P ≤ t * P) : r ≤ P * t := by
  have e : r * ip * P = r := by grind
  rw [e, Rat.mul_comm t] at h
  exact h
/-- Two inequalities without the last unknown. -/
def mix (n : Nat) (p q : (Nat → Rat) × Rat) : (Nat → Rat) × Rat := (fun j => -(q.1 n) * p.1 j + p.1 n * q.1 j, -(q.1 n) * p.2 + p.1 n * q.2)
def less1 (n : Nat) (L : List ((Nat → Rat) × Rat)) : List ((Nat → Rat) × Rat) := L.filter (fun p => decide (p.1 n = 0)) ++ (L.filter fun p => decide (0 < p.1 n)).flatMap fun p => (L.filter fun q => decide (q.1 n < 0)).map (mix n p)
theorem less1_mem {n : Nat} {L : List ((Nat → Rat) × Rat)} {r : (Nat → Rat) × Rat} : r ∈ less1 n L ↔ (r ∈ L ∧ r.1 n = 0) ∨ ∃ p q, p ∈ L ∧ 0 < p.1 n ∧ q ∈ L ∧ q.1 n < 0 ∧ r = mix n p q := by
  unfold less1
  rw [List.mem_append, List.mem_filter, List.mem_flatMap]
  simp only [decide_eq_true_eq, List.mem_filter, List.mem_map]
  constructor
  · rintro (h | ⟨p, ⟨h1, h2⟩, q, ⟨h3, h4⟩, rfl⟩)
    · exact .inl h
    · exact .inr ⟨p, q, h1, h2, h3, h4, rfl⟩
  · rintro (h | ⟨p, q, h1, h2, h3, h4, rfl⟩)
    · exact .inl h
    · exact .inr ⟨p, ⟨h1, h2⟩, q, ⟨h3, h4⟩, rfl⟩
theorem less1_der {n : Nat} {L : List ((Nat → Rat) × Rat)} {a : Nat → Rat} {b : Rat} (h : Der (less1 n L) a b) : Der L a b ∧ a n = 0 := by
  induction h with
  | mem r hr =>
    rcases less1_mem.1 hr with ⟨h1, h2⟩ | ⟨p, q, h1, h2, h3, h4, rfl⟩
    · exact ⟨.mem r h1, h2⟩
    · refine ⟨.add (.mul _ (by grind) (.mem p h1)) (.mul _ (Rat.le_of_lt h2) (.mem q h3)), ?_⟩
      unfold mix
      grind
  | add _ _ ih1 ih2 => exact ⟨.add ih1.1 ih2.1, by dsimp only; rw [ih1.2, ih2.2]; grind⟩
  | mul t ht _ ih => exact ⟨.mul t ht ih.1, by dsimp only; rw [ih.2]; grind⟩
theorem farkas : ∀ (n : Nat) (L : List ((Nat → Rat) × Rat)), (∃ x, ∀ p ∈ L, lhs p.1 x n ≤ p.2) ∨ ∃ a b, Der L a b ∧ (∀ j, j < n → a j = 0) ∧ b < 0 := by
  intro n
  induction n with
  | zero =>
    intro L
    by_cases h : ∀ p ∈ L, 0 ≤ p.2
    · exact .inl ⟨fun _ => 0, fun p hp => h p hp⟩
    · have : ∃ p, p ∈ L ∧ ¬ 0 ≤ p.2 := Classical.byContradiction fun hno => h fun p hp => Classical.byContradiction fun h2 => hno ⟨p, hp, h2⟩
      obtain ⟨p, hp, hn⟩ := this
      exact .inr ⟨_, _, .mem p hp, fun j hj => by omega, by grind⟩
  | succ n ih =>
    intro L
    rcases ih (less1 n L) with ⟨x, hx⟩ | ⟨a, b, h1, h2, h3⟩
    · refine .inl ?_
      have hbd : ∀ p q, p ∈ L → 0 < p.1 n → q ∈ L → q.1 n < 0 → (lhs q.1 x n - q.2) * (-(q.1 n))⁻¹ ≤ (p.2 - lhs p.1 x n) * (p.1 n)⁻¹ := by
        intro p q hp hp0 hq hq0
        have h := hx _ (less1_mem.2 (.inr ⟨p, q, hp, hp0, hq, hq0, rfl⟩))
        have e : lhs (mix n p q).1 x n = -(q.1 n) * lhs p.1 x n + p.1 n * lhs q.1 x n := by
          unfold lhs mix
          rw [← sumQ_mul, ← sumQ_mul, ← sumQ_add]
          exact sumQ_congr fun j _ => by grind
        rw [e] at h
        unfold mix at h
        have hq1 : 0 < -(q.1 n) := by grind
        have i1 := Rat.inv_pos.2 hp0
        have i2 := Rat.inv_pos.2 hq1
        have e1 : p.1 n * (p.1 n)⁻¹ = 1 := Rat.mul_inv_cancel _ (by grind)
        have e2 : -(q.1 n) * (-(q.1 n))⁻¹ = 1 := Rat.mul_inv_cancel _ (by grind)
        exact fm_le e1 e2 (Rat.le_of_lt i1) (Rat.le_of_lt i2) h
      have ht : ∃ t : Rat, (∀ p ∈ L, 0 < p.1 n → t ≤ (p.2 - lhs p.1 x n) * (p.1 n)⁻¹) ∧ ∀ q ∈ L, q.1 n < 0 → (lhs q.1 x n - q.2) * (-(q.1 n))⁻¹ ≤ t := by
        by_cases e : L.filter (fun p => decide (0 < p.1 n)) = []
        · have hnp : ∀ p ∈ L, ¬ 0 < p.1 n := by
            intro p hp h
            have := List.filter_eq_nil_iff.1 e p hp
            simp [h] at this
          by_cases e2 : L = []
          · exact ⟨0, (fun p hp => by rw [e2] at hp; cases hp), fun p hp => by rw [e2] at hp; cases hp⟩
          · obtain ⟨m, hm, hmin⟩ := min_at (fun q : (Nat → Rat) × Rat => -((lhs q.1 x n - q.2) * (-(q.1 n))⁻¹)) L e2
            exact ⟨(lhs m.1 x n - m.2) * (-(m.1 n))⁻¹, fun p hp h => absurd h (hnp p hp), fun q hq _ => by have := hmin q hq; grind⟩
        · obtain ⟨m, hm, hmin⟩ := min_at (fun p : (Nat → Rat) × Rat => (p.2 - lhs p.1 x n) * (p.1 n)⁻¹) _ e
          rw [List.mem_filter, decide_eq_true_eq] at hm
          exact ⟨(m.2 - lhs m.1 x n) * (m.1 n)⁻¹, fun p hp h => hmin p (List.mem_filter.2 ⟨hp, decide_eq_true h⟩), fun q hq h => hbd m q hm.1 hm.2 hq h⟩
      obtain ⟨t, ht1, ht2⟩ := ht
      refine ⟨fun j => if j < n then x j else t, fun p hp => ?_⟩
      have e : lhs p.1 (fun j => if j < n then x j else t) (n + 1) = lhs p.1 x n + p.1 n * t := by
        unfold lhs
        rw [sumQ]
        congr 1
        · exact sumQ_congr fun j hj => by dsimp only; rw [if_pos hj]
        · dsimp only; rw [if_neg (by omega)]
      rw [e]
      by_cases c1 : 0 < p.1 n
      · have h1 := Rat.mul_le_mul_of_nonneg_right (ht1 p hp c1) (Rat.le_of_lt c1)
        have e1 : p.1 n * (p.1 n)⁻¹ = 1 := Rat.mul_inv_cancel _ (by grind)
        have h2 := fm_up e1 h1
        generalize p.1 n * t = u at h2 ⊢
        grind
      · by_cases c2 : p.1 n < 0
        · have h1 := Rat.mul_le_mul_of_nonneg_right (ht2 p hp c2) (show 0 ≤ -(p.1 n) by grind)
          have e2 : -(p.1 n) * (-(p.1 n))⁻¹ = 1 := Rat.mul_inv_cancel _ (by grind)
          have h2 := fm_down e2 h1
          rw [Rat.neg_mul] at h2
          generalize p.1 n * t = u at h2 ⊢
          grind
        · have e0 : p.1 n = 0 := by grind
          have := hx p (less1_mem.2 (.inl ⟨hp, e0⟩))
          rw [e0]
          grind
    · have h4 := less1_der h1
      refine .inr ⟨a, b, h4.1, fun j hj => ?_, h3⟩
      by_cases e : j = n
      · rw [e]; exact h4.2
      · exact h2 j (by omega)

/- Where no payments are in the core, sets that stand alone refute the costs. Plain Lean. -/

/-- Shares of sets, all together 1 for each player, that cost less than all together. -/
structure Bal (c : List Int) (n : Nat) (P : List Nat) (m : Nat → Rat) : Prop where
  pos : ∀ s ∈ P, 0 ≤ m s
  one : ∀ i, i < n → colS m P i = 1
  cost : sumL (fun s => m s * cq c s) P < cq c (2 ^ n - 1)
theorem cq_pos {c : List Int} (hcb : ∀ v ∈ c, 0 ≤ v ∧ v ≤ 1000) (s : Nat) : 0 ≤ cq c s := by
  have := costs_get hcb s
  exact (Rat.intCast_le_intCast (a := 0) (b := c.getD s 0)).2 this.1
theorem sumL_nonneg {f : Nat → Rat} {P : List Nat} (h : ∀ s ∈ P, 0 ≤ f s) : 0 ≤ sumL f P := by
  have := sumL_le (f := fun _ => 0) h
  rwa [sumL_zero (fun _ _ => rfl)] at this
theorem sumL_one {f : Nat → Rat} {P : List Nat} {a : Nat} (hd : P.Nodup) (ha : a ∈ P) (h : ∀ s ∈ P, s ≠ a → f s = 0) : sumL f P = f a := by
  rw [sumL_erase f ha, sumL_zero fun s hs => h s (List.mem_of_mem_erase hs) (fun e => by rw [e] at hs; exact hd.not_mem_erase hs)]
  grind
/-- The inequalities of the core. -/
def ineqs (c : List Int) (n : Nat) : List ((Nat → Rat) × Rat) := (fun j => -(bq (2 ^ n - 1) j), -(cq c (2 ^ n - 1))) :: (List.range (2 ^ n)).map fun s => (bq s, cq c s)
theorem der_sum {c : List Int} {n : Nat} {a : Nat → Rat} {b : Rat} (h : Der (ineqs c n) a b) : ∃ (m : Nat → Rat) (t : Rat), (∀ s, 0 ≤ m s) ∧ 0 ≤ t ∧ (∀ j, a j = colS m (List.range (2 ^ n)) j - t * bq (2 ^ n - 1) j) ∧ b = sumL (fun s => m s * cq c s) (List.range (2 ^ n)) - t * cq c (2 ^ n - 1) := by
  induction h with
  | mem p hp =>
    unfold ineqs at hp
    rcases List.mem_cons.1 hp with rfl | hp
    · refine ⟨fun _ => 0, 1, fun _ => Rat.le_refl, by decide, fun j => ?_, ?_⟩
      · dsimp only [colS]
        rw [sumL_zero fun s _ => by grind]; grind
      · dsimp only
        rw [sumL_zero fun s _ => by grind]; grind
    · obtain ⟨s, hs, rfl⟩ := List.mem_map.1 hp
      refine ⟨fun r => if r = s then 1 else 0, 0, fun r => by dsimp only; split <;> decide, Rat.le_refl, fun j => ?_, ?_⟩
      · unfold colS
        dsimp only
        rw [sumL_one (f := fun r => (if r = s then 1 else 0) * bq r j) List.nodup_range hs (fun r _ hne => by rw [if_neg hne]; grind), if_pos rfl]; grind
      · dsimp only
        rw [sumL_one (f := fun r => (if r = s then 1 else 0) * cq c r) List.nodup_range hs (fun r _ hne => by rw [if_neg hne]; grind), if_pos rfl]; grind
  | add _ _ ih1 ih2 =>
    obtain ⟨m, t, h1, h2, h3, h4⟩ := ih1
    obtain ⟨m', t', g1, g2, g3, g4⟩ := ih2
    refine ⟨fun s => m s + m' s, t + t', fun s => by have := h1 s; have := g1 s; dsimp only; grind, by grind, fun j => ?_, ?_⟩
    · have e : colS (fun s => m s + m' s) (List.range (2 ^ n)) j = colS m (List.range (2 ^ n)) j + colS m' (List.range (2 ^ n)) j := by
        unfold colS
        rw [← sumL_add]
        exact sumL_congr fun s _ => by grind
      rw [e]
      have := h3 j
      have := g3 j
      grind
    · have e : sumL (fun s => (m s + m' s) * cq c s) (List.range (2 ^ n)) = sumL (fun s => m s * cq c s) (List.range (2 ^ n)) + sumL (fun s => m' s * cq c s) (List.range (2 ^ n)) := by
        rw [← sumL_add]
        exact sumL_congr fun s _ => by grind
      rw [e]
      grind
  | mul u hu _ ih =>
    obtain ⟨m, t, h1, h2, h3, h4⟩ := ih
    refine ⟨fun s => u * m s, u * t, fun s => Rat.mul_nonneg hu (h1 s), Rat.mul_nonneg hu h2, fun j => ?_, ?_⟩
    · have e : colS (fun s => u * m s) (List.range (2 ^ n)) j = u * colS m (List.range (2 ^ n)) j := by
        unfold colS
        rw [← sumL_mul]
        exact sumL_congr fun s _ => by grind
      rw [e]
      have := h3 j
      grind
    · have e : sumL (fun s => (u * m s) * cq c s) (List.range (2 ^ n)) = u * sumL (fun s => m s * cq c s) (List.range (2 ^ n)) := by
        rw [← sumL_mul]
        exact sumL_congr fun s _ => by grind
      rw [e]
      grind
/-- Either payments are in the core, or sets have shares that refute. -/
theorem either {c : List Int} (n : Nat) (hcb : ∀ v ∈ c, 0 ≤ v ∧ v ≤ 1000) : (∃ x, InC c n x) ∨ ∃ m, Bal c n (List.range' 1 (2 ^ n - 1)) m := by
  have hp2 := Nat.two_pow_pos n
  have hL : ∀ (a x : Nat → Rat), lhs a x n = sumQ (fun j => a j * x j) n := fun _ _ => rfl
  rcases farkas n (ineqs c n) with ⟨x, hx⟩ | ⟨a, b, h1, h2, h3⟩
  · refine .inl ⟨x, ?_⟩
    have hs : ∀ s, s < 2 ^ n → dotS n x s ≤ cq c s := fun s hs => hx (bq s, cq c s) (List.mem_cons_of_mem _ (List.mem_map.2 ⟨s, List.mem_range.2 hs, rfl⟩))
    refine ⟨?_, hs⟩
    have h1 := hs (2 ^ n - 1) (by omega)
    have h2 := hx _ (List.mem_cons_self ..)
    have e : lhs (fun j => -(bq (2 ^ n - 1) j)) x n = -(dotS n x (2 ^ n - 1)) := by
      unfold lhs dotS
      rw [show -(sumQ (fun i => bq (2 ^ n - 1) i * x i) n) = (-1) * sumQ (fun i => bq (2 ^ n - 1) i * x i) n from by grind, ← sumQ_mul]
      exact sumQ_congr fun j _ => by grind
    dsimp only at h2
    rw [e] at h2
    grind
  · refine .inr ?_
    obtain ⟨m, t, g1, g2, g3, g4⟩ := der_sum h1
    have hcost : 0 ≤ sumL (fun s => m s * cq c s) (List.range (2 ^ n)) := sumL_nonneg fun s _ => Rat.mul_nonneg (g1 s) (cq_pos hcb s)
    have htp : 0 < t := by
      by_cases e : t = 0
      · rw [e] at g4; grind
      · grind
    have hti : t * t⁻¹ = 1 := Rat.mul_inv_cancel _ (by grind)
    have hti0 := Rat.le_of_lt (Rat.inv_pos.2 htp)
    have hsplit : ∀ f : Nat → Rat, sumL f (List.range (2 ^ n)) = f 0 + sumL f (List.range' 1 (2 ^ n - 1)) := by
      intro f
      rw [List.range_eq_range', show 2 ^ n = (2 ^ n - 1) + 1 from by omega, List.range'_succ]
      rfl
    refine ⟨fun s => t⁻¹ * m s, fun s _ => Rat.mul_nonneg hti0 (g1 s), fun i hi => ?_, ?_⟩
    · have e := g3 i
      rw [h2 i hi, bq_all hi] at e
      unfold colS at e ⊢
      rw [hsplit, show bq 0 i = 0 from by simp [bq, bitI]] at e
      have e2 : sumL (fun s => t⁻¹ * m s * bq s i) (List.range' 1 (2 ^ n - 1)) = t⁻¹ * sumL (fun s => m s * bq s i) (List.range' 1 (2 ^ n - 1)) := by
        rw [← sumL_mul]
        exact sumL_congr fun s _ => by grind
      rw [e2]
      grind
    · rw [hsplit] at g4
      have e2 : sumL (fun s => t⁻¹ * m s * cq c s) (List.range' 1 (2 ^ n - 1)) = t⁻¹ * sumL (fun s => m s * cq c s) (List.range' 1 (2 ^ n - 1)) := by
        rw [← sumL_mul]
        exact sumL_congr fun s _ => by grind
      rw [e2]
      have h5 := Rat.mul_nonneg (g1 0) (cq_pos hcb 0)
      have h6 : sumL (fun s => m s * cq c s) (List.range' 1 (2 ^ n - 1)) < t * cq c (2 ^ n - 1) := by
        generalize sumL (fun s => m s * cq c s) (List.range' 1 (2 ^ n - 1)) = u at *
        generalize t * cq c (2 ^ n - 1) = v at *
        generalize m 0 * cq c 0 = w at *
        grind
      have h7 := Rat.mul_lt_mul_of_pos_left h6 (Rat.inv_pos.2 htp)
      rw [← Rat.mul_assoc, Rat.mul_comm t⁻¹ t, hti, Rat.one_mul] at h7
      exact h7
/-- No shares but 0 cancel. -/
def Ind (n : Nat) (P : List Nat) : Prop := ∀ m : Nat → Rat, (∀ i, i < n → colS m P i = 0) → ∀ s ∈ P, m s = 0
theorem has_bit {n s : Nat} (h1 : 1 ≤ s) (h2 : s < 2 ^ n) : ∃ i, i < n ∧ bq s i = 1 := by
  apply Classical.byContradiction
  intro h
  have hz : ∀ i, s.testBit i = false := by
    intro i
    cases hb : s.testBit i
    · rfl
    · refine absurd ⟨i, ?_, by unfold bq bitI; rw [hb]; simp⟩ h
      apply Classical.byContradiction
      intro hi
      rw [Nat.testBit_lt_two_pow (Nat.lt_of_lt_of_le h2 (Nat.pow_le_pow_right (by decide) (by omega)))] at hb
      cases hb
  have : s = 0 := Nat.eq_of_testBit_eq fun i => by rw [hz i]; simp
  omega
theorem col_add (m d : Nat → Rat) (t : Rat) (P : List Nat) (i : Nat) : colS (fun s => m s + t * d s) P i = colS m P i + t * colS d P i := by
  unfold colS
  rw [← sumL_mul, ← sumL_add]
  exact sumL_congr fun s _ => by grind
/-- One set less. -/
theorem bal_less {c : List Int} {n : Nat} {P : List Nat} {m : Nat → Rat} (hb : Bal c n P m) (hp : ∀ s ∈ P, 1 ≤ s ∧ s < 2 ^ n) (hi : ¬ Ind n P) : ∃ s m', s ∈ P ∧ Bal c n (P.erase s) m' := by
  obtain ⟨d, hd, hcost, s0, hs0, hne⟩ : ∃ d : Nat → Rat, (∀ i, i < n → colS d P i = 0) ∧ sumL (fun s => d s * cq c s) P ≤ 0 ∧ ∃ s ∈ P, d s ≠ 0 := by
    apply Classical.byContradiction
    intro hno
    apply hi
    intro d hd s hs
    apply Classical.byContradiction
    intro hne
    by_cases h0 : sumL (fun s => d s * cq c s) P ≤ 0
    · exact hno ⟨d, hd, h0, s, hs, hne⟩
    · refine hno ⟨fun s => (-1) * d s, fun i hi => ?_, ?_, s, hs, by dsimp only; grind⟩
      · have e : colS (fun s => (-1) * d s) P i = (-1) * colS d P i := by
          unfold colS
          rw [← sumL_mul]
          exact sumL_congr fun s _ => by grind
        rw [e, hd i hi]; grind
      · have e : sumL (fun s => (-1) * d s * cq c s) P = (-1) * sumL (fun s => d s * cq c s) P := by
          rw [← sumL_mul]
          exact sumL_congr fun s _ => by grind
        rw [e]; grind
  have hneg : ∃ s ∈ P, d s < 0 := by
    apply Classical.byContradiction
    intro hno
    have hnn : ∀ s ∈ P, 0 ≤ d s := fun s hs => by
      apply Classical.byContradiction
      intro h; exact hno ⟨s, hs, by grind⟩
    obtain ⟨i, hi, hb1⟩ := has_bit (hp s0 hs0).1 (hp s0 hs0).2
    have e := hd i hi
    unfold colS at e
    rw [sumL_erase _ hs0, hb1] at e
    have h1 := sumL_nonneg (f := fun s => d s * bq s i) (P := P.erase s0) fun s hs => Rat.mul_nonneg (hnn s (List.mem_of_mem_erase hs)) (by rcases bq_cases s i with h | h <;> rw [h] <;> decide)
    have h2 := hnn s0 hs0
    grind
  obtain ⟨s1, hs1, hd1⟩ := hneg
  obtain ⟨r, hr, hmin⟩ := min_at (fun s => m s * (-(d s))⁻¹) (P.filter fun s => decide (d s < 0)) (List.ne_nil_of_mem (List.mem_filter.2 ⟨hs1, decide_eq_true hd1⟩))
  rw [List.mem_filter, decide_eq_true_eq] at hr
  obtain ⟨t, ht⟩ : ∃ t, t = m r * (-(d r))⁻¹ := ⟨_, rfl⟩
  have hinv : ∀ s, d s < 0 → 0 ≤ (-(d s))⁻¹ ∧ -(d s) * (-(d s))⁻¹ = 1 := fun s hs => ⟨Rat.le_of_lt (Rat.inv_pos.2 (by grind)), Rat.mul_inv_cancel _ (by grind)⟩
  have ht0 : 0 ≤ t := by rw [ht]; exact Rat.mul_nonneg (hb.pos r hr.1) (hinv r hr.2).1
  have hpos : ∀ s ∈ P, 0 ≤ m s + t * d s := by
    intro s hs
    have hm := hb.pos s hs
    by_cases h : d s < 0
    · have h1 := hmin s (List.mem_filter.2 ⟨hs, decide_eq_true h⟩)
      rw [← ht] at h1
      have h2 := Rat.mul_le_mul_of_nonneg_right h1 (show 0 ≤ -(d s) by grind)
      have h3 := fm_up (t := t) (r := m s) (hinv s h).2 h2
      rw [Rat.neg_mul, Rat.mul_comm] at h3
      generalize t * d s = u at h3 ⊢
      grind
    · have h1 := Rat.mul_nonneg ht0 (show 0 ≤ d s by grind)
      generalize t * d s = u at h1 ⊢
      grind
  have hz : m r + t * d r = 0 := by
    have := (hinv r hr.2).2
    rw [ht]; grind
  have hdrop : ∀ f : Nat → Rat, sumL (fun s => (m s + t * d s) * f s) (P.erase r) = sumL (fun s => (m s + t * d s) * f s) P := by
    intro f
    rw [sumL_erase _ hr.1, hz]; grind
  refine ⟨r, fun s => m s + t * d s, hr.1, fun s hs => hpos s (List.mem_of_mem_erase hs), fun i hi => ?_, ?_⟩
  · have e := col_add m d t P i
    rw [hb.one i hi, hd i hi] at e
    unfold colS at e ⊢
    rw [hdrop, e]; grind
  · rw [hdrop]
    have e : sumL (fun s => (m s + t * d s) * cq c s) P = sumL (fun s => m s * cq c s) P + t * sumL (fun s => d s * cq c s) P := by
      rw [← sumL_mul, ← sumL_add]
      exact sumL_congr fun s _ => by grind
    rw [e]
    have h1 := hb.cost
    have h2 := Rat.mul_nonneg ht0 (show 0 ≤ -(sumL (fun s => d s * cq c s) P) by grind)
    rw [Rat.mul_neg] at h2
    generalize t * sumL (fun s => d s * cq c s) P = u at h2 ⊢
    grind
theorem bal_ind {c : List Int} {n : Nat} : ∀ (k : Nat) (P : List Nat) (m : Nat → Rat), P.length ≤ k → P.Nodup → (∀ s ∈ P, 1 ≤ s ∧ s < 2 ^ n) → Bal c n P m → ∃ Q m', Q.Nodup ∧ (∀ s ∈ Q, 1 ≤ s ∧ s < 2 ^ n) ∧ Bal c n Q m' ∧ Ind n Q := by
  intro k
  induction k with
  | zero =>
    intro P m hk hd hp hb
    obtain rfl := List.length_eq_zero_iff.1 (Nat.le_zero.1 hk)
    exact ⟨[], m, hd, hp, hb, fun _ _ s hs => by cases hs⟩
  | succ k ih =>
    intro P m hk hd hp hb
    by_cases hi : Ind n P
    · exact ⟨P, m, hd, hp, hb, hi⟩
    · obtain ⟨s, m', hs, hb'⟩ := bal_less hb hp hi
      refine ih (P.erase s) m' ?_ (hd.sublist List.erase_sublist) (fun x hx => hp x (List.mem_of_mem_erase hx)) hb'
      rw [List.length_erase_of_mem hs]
      omega
theorem ind_length {n : Nat} {P : List Nat} (hd : P.Nodup) (h : Ind n P) : P.length ≤ n := by
  apply Classical.byContradiction
  intro h1
  obtain ⟨m, ⟨s, hs, hne⟩, hz⟩ := null_sets (n := n) hd (by omega)
  exact hne (h m hz s hs)
/-- One set more. -/
theorem bal_more {c : List Int} {n : Nat} : ∀ (k : Nat) (P : List Nat) (m : Nat → Rat), P.length + k = n → P.Nodup → (∀ s ∈ P, 1 ≤ s ∧ s < 2 ^ n) → Bal c n P m → Ind n P → (∀ s, s ∉ P → m s = 0) → ∃ Q m', Q.length = n ∧ Q.Nodup ∧ (∀ s ∈ Q, 1 ≤ s ∧ s < 2 ^ n) ∧ Bal c n Q m' ∧ Ind n Q := by
  intro k
  induction k with
  | zero => intro P m hk hd hp hb hi _; exact ⟨P, m, by omega, hd, hp, hb, hi⟩
  | succ k ih =>
    intro P m hk hd hp hb hi hz
    obtain ⟨d, ⟨i, hin, hne⟩, hdz⟩ := null_dir (n := n) (P := P) (by omega)
    have hnm : 2 ^ i ∉ P := by
      intro h
      have := hdz _ h
      rw [dot_one hin] at this
      exact hne this
    have hm0 := hz _ hnm
    refine ih (2 ^ i :: P) m (by rw [List.length_cons]; omega) (List.nodup_cons.2 ⟨hnm, hd⟩) (fun s hs => ?_) ⟨fun s hs => ?_, fun j hj => ?_, ?_⟩ (fun e he => ?_) (fun s hs => hz s fun h => hs (List.mem_cons_of_mem _ h))
    · rcases List.mem_cons.1 hs with rfl | hs
      · exact ⟨Nat.two_pow_pos i, Nat.pow_lt_pow_right (by decide) hin⟩
      · exact hp s hs
    · rcases List.mem_cons.1 hs with rfl | hs
      · rw [hm0]; exact Rat.le_refl
      · exact hb.pos s hs
    · have := hb.one j hj
      unfold colS at this ⊢
      rw [sumL, hm0, this]; grind
    · have := hb.cost
      rw [sumL, hm0]; grind
    · have h1 := dot_col n d e (2 ^ i :: P)
      rw [sumQ_zero (fun j hj => by rw [he j hj]; grind), sumL, sumL_zero (fun s hs => by rw [hdz s hs]; grind), dot_one hin] at h1
      have h2 : e (2 ^ i) = 0 := by
        have : e (2 ^ i) * d i = 0 := by grind
        rcases Rat.mul_eq_zero.1 this with h | h
        · exact h
        · exact absurd h hne
      have h3 := hi e fun j hj => by
        have := he j hj
        unfold colS at this ⊢
        rw [sumL, h2] at this
        grind
      intro s hs
      rcases List.mem_cons.1 hs with rfl | hs
      · exact h2
      · exact h3 s hs
/-- The sets in order. -/
theorem bal_sorted {c : List Int} {n : Nat} (hcb : ∀ v ∈ c, 0 ≤ v ∧ v ≤ 1000) (hno : ¬ ∃ x, InC c n x) : ∃ Q m, Q.length = n ∧ Q.Pairwise (· < ·) ∧ (∀ s ∈ Q, 1 ≤ s ∧ s < 2 ^ n) ∧ Bal c n Q m ∧ Ind n Q := by
  rcases either n hcb with h | ⟨m0, h0⟩
  · exact absurd h hno
  · obtain ⟨P, m1, h1, h2, h3, h4⟩ := bal_ind _ _ m0 (Nat.le_refl _) ((List.pairwise_lt_range').imp (fun h => Nat.ne_of_lt h)) (fun s hs => mem_sets.1 hs) h0
    have hcong : ∀ f : Nat → Rat, sumL (fun s => (if s ∈ P then m1 s else 0) * f s) P = sumL (fun s => m1 s * f s) P := fun f => sumL_congr fun s hs => by rw [if_pos hs]
    have hb : Bal c n P (fun s => if s ∈ P then m1 s else 0) := ⟨fun s hs => by rw [if_pos hs]; exact h3.pos s hs, fun i hi => by unfold colS; rw [hcong]; exact h3.one i hi, by rw [hcong]; exact h3.cost⟩
    obtain ⟨P2, m2, g1, g2, g3, g4, g5⟩ := bal_more (n - P.length) P _ (by have := ind_length h1 h4; omega) h1 h2 hb h4 (fun s hs => by rw [if_neg hs])
    have hQp : ((List.range' 1 (2 ^ n - 1)).filter fun s => decide (s ∈ P2)).Pairwise (· < ·) := (List.pairwise_lt_range').sublist List.filter_sublist
    have hperm : ((List.range' 1 (2 ^ n - 1)).filter fun s => decide (s ∈ P2)).Perm P2 := by
      rw [List.perm_ext_iff_of_nodup (hQp.imp (fun h => Nat.ne_of_lt h)) g2]
      intro s
      rw [List.mem_filter, decide_eq_true_eq, mem_sets]
      exact ⟨fun h => h.2, fun h => ⟨g3 s h, h⟩⟩
    refine ⟨_, m2, by rw [hperm.length_eq, g1], hQp, fun s hs => g3 s (hperm.mem_iff.1 hs), ⟨fun s hs => g4.pos s (hperm.mem_iff.1 hs), fun i hi => ?_, ?_⟩, fun m hm s hs => g5 m (fun i hi => ?_) s (hperm.mem_iff.1 hs)⟩
    · have := g4.one i hi
      unfold colS at this ⊢
      rw [sumL_perm hperm]; exact this
    · rw [sumL_perm hperm]; exact g4.cost
    · have := hm i hi
      unfold colS at this ⊢
      rw [sumL_perm hperm] at this; exact this

/- Contract: positive of package games. -/


/- Collections that refute costs, by whole numbers and by fractions: plain Lean. -/

/-- A set with a share. -/
abbrev Pt := Int × Int × Int
def pt (ts : List Pt) (k : Nat) : Pt := ts.getD k (0, 0, 1)
/-- shareDen. -/
def SD : Int := 27720
def ptN (t : Pt) : Int := t.2.1 * (SD / t.2.2)
def prev (ts : List Pt) (k : Nat) : List Int := (ts.take k).map (·.1)
def goodI (N : Nat) (pv : List Int) (t : Pt) : Bool := scB 12 t.2.1 t.2.2 && decide (1 ≤ t.2.1) && decide (1 ≤ t.1) && decide (t.1 < N) && !decide (t.1 ∈ pv)
def goodR (N : Nat) (pv : List Int) (t : Pt) : Bool := goodI N pv t && decide (t.2.1 ≤ t.2.2)
def goodTo (N : Nat) (ts : List Pt) (k : Nat) : Bool := (List.range k).all fun j => goodI N (prev ts j) (pt ts j)
def goodRTo (N : Nat) (ts : List Pt) (k : Nat) : Bool := (List.range k).all fun j => goodR N (prev ts j) (pt ts j)
def tI (c : List Int) (ts : List Pt) : Nat → Int
  | 0 => 0
  | k + 1 => tI c ts k + ptN (pt ts k) * c.getD (pt ts k).1.toNat 0
def sI (ts : List Pt) (i : Nat) : Nat → Int
  | 0 => 0
  | k + 1 => sI ts i k + ptN (pt ts k) * (if (pt ts k).1.toNat.testBit i then 1 else 0)
def onesI (ts : List Pt) (n : Nat) : Bool := (List.range n).all fun i => decide (sI ts i ts.length = 27720)
def refI (c : List Int) (ts : List Pt) (n : Nat) : Bool := decide (ts.length < 2 ^ n) && goodTo (2 ^ n) ts ts.length && onesI ts n && decide (tI c ts ts.length < c.getD (2 ^ n - 1) 0 * 27720)
def refR (c : List Int) (ts : List Pt) (n : Nat) : Bool := goodRTo (2 ^ n) ts ts.length && onesI ts n && decide (tI c ts ts.length < c.getD (2 ^ n - 1) 0 * 27720)

theorem goodTo_succ (N : Nat) (ts : List Pt) (k : Nat) : goodTo N ts (k + 1) = (goodTo N ts k && goodI N (prev ts k) (pt ts k)) := by simp [goodTo, List.range_succ]
theorem goodRTo_succ (N : Nat) (ts : List Pt) (k : Nat) : goodRTo N ts (k + 1) = (goodRTo N ts k && goodR N (prev ts k) (pt ts k)) := by simp [goodRTo, List.range_succ]
theorem goodTo_stop {N : Nat} {ts : List Pt} {k m : Nat} (h : k < m) (hb : goodI N (prev ts k) (pt ts k) = false) : goodTo N ts m = false := by
  unfold goodTo
  rw [List.all_eq_false]
  exact ⟨k, by simpa using h, by simp [hb]⟩
theorem goodRTo_stop {N : Nat} {ts : List Pt} {k m : Nat} (h : k < m) (hb : goodR N (prev ts k) (pt ts k) = false) : goodRTo N ts m = false := by
  unfold goodRTo
  rw [List.all_eq_false]
  exact ⟨k, by simpa using h, by simp [hb]⟩
theorem goodTo_at {N : Nat} {ts : List Pt} {k j : Nat} (h : goodTo N ts k = true) (hj : j < k) : goodI N (prev ts j) (pt ts j) = true := by
  unfold goodTo at h
  rw [List.all_eq_true] at h
  exact h j (by simpa using hj)
theorem goodI_iff {N : Nat} {pv : List Int} {t : Pt} : goodI N pv t = true ↔ scB 12 t.2.1 t.2.2 = true ∧ 1 ≤ t.2.1 ∧ 1 ≤ t.1 ∧ t.1 < N ∧ t.1 ∉ pv := by
  simp only [goodI, Bool.and_eq_true, decide_eq_true_eq, Bool.not_eq_true', decide_eq_false_iff_not, and_assoc]
theorem goodRTo_goodTo {N : Nat} {ts : List Pt} (m : Nat) (h : goodRTo N ts m = true) : goodTo N ts m = true := by
  unfold goodRTo at h
  rw [List.all_eq_true] at h
  unfold goodTo
  rw [List.all_eq_true]
  intro j hj
  have := h j hj
  unfold goodR at this
  rw [Bool.and_eq_true] at this
  exact this.1
theorem pt_get {ts : List Pt} {k : Nat} {t : Pt} (h : ts[k]? = some t) : pt ts k = t := by unfold pt; rw [List.getD_eq_getElem?_getD, h]; rfl
theorem prev_succ {ts : List Pt} {k : Nat} {t : Pt} (h : ts[k]? = some t) : prev ts (k + 1) = prev ts k ++ [t.1] := by
  unfold prev; rw [List.take_add_one, h]; simp

/-- Different numbers below N are at most N. -/
theorem nodup_len (N : Nat) : ∀ l : List Int, l.Nodup → (∀ x ∈ l, 0 ≤ x ∧ x < N) → l.length ≤ N := by
  induction N with
  | zero =>
    intro l _ h
    cases l with
    | nil => simp
    | cons x l => have := h x (by simp); omega
  | succ N ih =>
    intro l hn h
    have h1 := ih (l.filter (fun x => decide (x ≠ (N : Int)))) (hn.filter _) (fun x hx => by
      rw [List.mem_filter, decide_eq_true_eq] at hx
      have := h x hx.1
      omega)
    suffices hs : ∀ l : List Int, l.Nodup → l.length ≤ (l.filter (fun x => decide (x ≠ (N : Int)))).length + 1 by
      have := hs l hn; omega
    clear h1 h hn ih
    intro l
    induction l with
    | nil => simp
    | cons x l ih =>
      intro hn
      obtain ⟨hx, hl⟩ := List.nodup_cons.1 hn
      by_cases he : x = (N : Int)
      · have hf : l.filter (fun x => decide (x ≠ (N : Int))) = l := by
          rw [List.filter_eq_self]
          intro y hy
          rw [decide_eq_true_eq]
          rintro rfl
          exact hx (he ▸ hy)
        rw [List.filter_cons_of_neg (by simp [he]), hf]
        simp
      · rw [List.filter_cons_of_pos (by simp [he])]
        have := ih hl
        simp only [List.length_cons]
        omega
theorem good_nodup {N : Nat} {ts : List Pt} (m : Nat) (hm : m ≤ ts.length) (h : goodTo N ts m = true) : (prev ts m).Nodup ∧ ∀ x ∈ prev ts m, 1 ≤ x ∧ x < N := by
  induction m with
  | zero => simp [prev]
  | succ m ih =>
    rw [goodTo_succ, Bool.and_eq_true] at h
    obtain ⟨h1, h2⟩ := ih (by omega) h.1
    have hg : ts[m]? = some ts[m] := List.getElem?_eq_getElem (by omega)
    have hp := goodI_iff.1 h.2
    rw [pt_get hg] at hp
    rw [prev_succ hg]
    refine ⟨?_, ?_⟩
    · rw [List.nodup_append]
      refine ⟨h1, by simp, fun a ha b hb => ?_⟩
      simp only [List.mem_singleton] at hb
      subst hb
      rintro rfl
      exact hp.2.2.2.2 ha
    · intro x hx
      rcases List.mem_append.1 hx with hx | hx
      · exact h2 x hx
      · simp only [List.mem_singleton] at hx
        subst hx
        exact ⟨hp.2.2.1, hp.2.2.2.1⟩
theorem good_len {N : Nat} {ts : List Pt} (hN : 1 ≤ N) {m : Nat} (hm : m ≤ ts.length) (h : goodTo N ts m = true) : m < N := by
  obtain ⟨h1, h2⟩ := good_nodup m hm h
  have h3 := nodup_len (N - 1) ((prev ts m).map (fun x => x - 1)) (by
    rw [List.Nodup, List.pairwise_map]
    exact h1.imp fun hab he => hab (by omega)) (by
    intro x hx
    obtain ⟨y, hy, rfl⟩ := List.mem_map.1 hx
    have := h2 y hy
    omega)
  simp only [List.length_map, prev, List.length_take] at h3
  omega

theorem SD_dvd {b : Int} (h1 : 1 ≤ b) (h2 : b ≤ 12) : b ∣ SD := by
  obtain ⟨n, rfl⟩ := Int.eq_ofNat_of_zero_le (show 0 ≤ b by omega)
  have h : ∀ n : Nat, n < 13 → 1 ≤ n → (n : Int) ∣ SD := by decide +kernel
  exact h n (by omega) (by omega)
theorem ptN_eq {b : Int} (h1 : 1 ≤ b) (h2 : b ≤ 12) : ∃ k, SD = b * k ∧ SD / b = k ∧ 1 ≤ k := by
  obtain ⟨k, hk⟩ := SD_dvd h1 h2
  have e : SD / b = k := by rw [hk, Int.mul_ediv_cancel_left _ (by omega)]
  refine ⟨k, hk, e, ?_⟩
  rcases Int.lt_or_le k 1 with h | h
  · have : b * k ≤ 0 := Int.mul_nonpos_of_nonneg_of_nonpos (by omega) (by omega)
    have : SD = 27720 := rfl
    omega
  · exact h
theorem ptN_pos {t : Pt} {N : Nat} {pv : List Int} (h : goodI N pv t = true) : 1 ≤ ptN t ∧ ptN t ≤ 2772000000 := by
  obtain ⟨hs, h1, _⟩ := goodI_iff.1 h
  obtain ⟨g1, g2, g3, g4, _⟩ := scB_iff.1 hs
  obtain ⟨k, hk, e, hk1⟩ := ptN_eq g1 g2
  have hkS : k ≤ SD := by rw [← e]; exact Int.ediv_le_self _ (by decide)
  have eS : SD = 27720 := rfl
  unfold ptN
  rw [e]
  have hm := mul_bd (m := 100000) (n := 27720) (by omega) g3 (show 0 ≤ k by omega) (by omega)
  have : 1 * 1 ≤ t.2.1 * k := Int.mul_le_mul h1 hk1 (by omega) (by omega)
  omega
/-- A share of at most one. -/
theorem ptN_le {t : Pt} {N : Nat} {pv : List Int} (h : goodI N pv t = true) : ptN t ≤ 27720 ↔ t.2.1 ≤ t.2.2 := by
  obtain ⟨hs, h1, _⟩ := goodI_iff.1 h
  obtain ⟨g1, g2, g3, g4, _⟩ := scB_iff.1 hs
  obtain ⟨k, hk, e, hk1⟩ := ptN_eq g1 g2
  have eS : (27720 : Int) = t.2.2 * k := hk
  unfold ptN
  rw [e, eS]
  constructor
  · intro h
    exact Int.le_of_mul_le_mul_right h (by omega)
  · intro h
    exact Int.mul_le_mul_of_nonneg_right h (by omega)
theorem sI_mono {N : Nat} {ts : List Pt} {i : Nat} {m : Nat} (h : goodTo N ts m = true) : ∀ j, j ≤ m → 0 ≤ sI ts i j ∧ ∀ k, k < j → (pt ts k).1.toNat.testBit i = true → ptN (pt ts k) ≤ sI ts i j := by
  intro j
  induction j with
  | zero => intro _; exact ⟨by simp [sI], fun k hk => by omega⟩
  | succ j ih =>
    intro hj
    obtain ⟨h1, h2⟩ := ih (by omega)
    have hp := ptN_pos (goodTo_at h (show j < m by omega))
    simp only [sI]
    refine ⟨by split <;> omega, fun k hk hb => ?_⟩
    by_cases hkj : k = j
    · subst hkj
      rw [if_pos hb]; omega
    · have := h2 k (by omega) hb
      split <;> omega
theorem bit_exists {s n : Nat} (h1 : 1 ≤ s) (h2 : s < 2 ^ n) : ∃ i, i < n ∧ s.testBit i = true := by
  refine Decidable.byContradiction fun h => ?_
  have h0 : s = 0 := by
    apply Nat.eq_of_testBit_eq
    intro i
    rw [Nat.zero_testBit]
    by_cases hi : i < n
    · rw [← Bool.not_eq_true]
      exact fun hb => h ⟨i, hi, hb⟩
    · exact Nat.testBit_lt_two_pow (Nat.lt_of_lt_of_le h2 (Nat.pow_le_pow_right (by omega) (by omega)))
  omega
theorem ref_good {ts : List Pt} {n : Nat} (hg : goodTo (2 ^ n) ts ts.length = true) (ho : onesI ts n = true) : goodRTo (2 ^ n) ts ts.length = true := by
  unfold goodRTo
  rw [List.all_eq_true]
  intro j hj
  rw [List.mem_range] at hj
  have hp := goodTo_at hg hj
  unfold goodR
  rw [hp, Bool.true_and, decide_eq_true_eq, ← ptN_le hp]
  have hi := goodI_iff.1 hp
  obtain ⟨i, hin, hb⟩ := bit_exists (s := (pt ts j).1.toNat) (n := n) (by omega) (by omega)
  have h1 := (sI_mono (i := i) hg ts.length (Nat.le_refl _)).2 j hj hb
  unfold onesI at ho
  rw [List.all_eq_true] at ho
  have := ho i (by simpa using hin)
  rw [decide_eq_true_eq] at this
  omega
theorem refI_refR {c : List Int} {ts : List Pt} {n : Nat} : refI c ts n = refR c ts n := by
  rw [Bool.eq_iff_iff]
  unfold refI refR
  simp only [Bool.and_eq_true, decide_eq_true_eq]
  constructor
  · rintro ⟨⟨⟨_, h2⟩, h3⟩, h4⟩
    exact ⟨⟨ref_good h2 h3, h3⟩, h4⟩
  · rintro ⟨⟨h2, h3⟩, h4⟩
    have hg := goodRTo_goodTo _ h2
    exact ⟨⟨⟨good_len (Nat.pos_of_neZero _) (Nat.le_refl _) hg, hg⟩, h3⟩, h4⟩
theorem refI_take {c : List Int} {ts : List Pt} {n : Nat} (hn : n ≤ 4) : refI c (ts.take 18) n = refR c ts n := by
  by_cases h : ts.length ≤ 18
  · rw [List.take_of_length_le h, refI_refR]
  · have hp : 2 ^ n ≤ 16 := by have := Nat.pow_le_pow_right (show 0 < 2 by omega) hn; simpa using this
    have e1 : refI c (ts.take 18) n = false := by
      unfold refI
      rw [decide_eq_false (by rw [List.length_take]; omega)]; rfl
    have e2 : refR c ts n = false := by
      rw [← Bool.not_eq_true]
      intro hr
      unfold refR at hr
      simp only [Bool.and_eq_true, decide_eq_true_eq] at hr
      have := good_len (Nat.pos_of_neZero _) (Nat.le_refl _) (goodRTo_goodTo _ hr.1.1)
      omega
    rw [e1, e2]

/- Slices of sets with shares. -/

/-- The cells of a row of sets with shares. -/
def tcells (ts : List Pt) : List Value := ts.flatMap fun t => [.int .i64 t.1, .int .i64 t.2.1, .int .i64 t.2.2]
theorem tcells_length (ts : List Pt) : (tcells ts).length = ts.length * 3 := by
  induction ts with
  | nil => rfl
  | cons t ts ih => simp only [tcells, List.flatMap_cons, List.length_append, List.length_cons, List.length_nil] at ih ⊢; omega
theorem tcells_snoc (ts : List Pt) (t : Pt) : tcells (ts ++ [t]) = tcells ts ++ [.int .i64 t.1, .int .i64 t.2.1, .int .i64 t.2.2] := by simp [tcells]
theorem tcells_at (ts : List Pt) (k : Nat) (t : Pt) (h : ts[k]? = some t) : (tcells ts)[k * 3]? = some (.int .i64 t.1) ∧ (tcells ts)[k * 3 + 1]? = some (.int .i64 t.2.1) ∧ (tcells ts)[k * 3 + 2]? = some (.int .i64 t.2.2) := by
  induction ts generalizing k with
  | nil => simp at h
  | cons t' ts ih =>
    cases k with
    | zero => simp at h; subst h; simp [tcells]
    | succ k =>
      have := ih k (by simpa using h)
      have e1 : (k + 1) * 3 = k * 3 + 1 + 1 + 1 := by omega
      rw [e1]
      simpa [tcells] using this
/-- The slice at A reads as these sets with shares. -/
def Tps (w : World) (A : Option Addr) (ts : List Pt) : Prop := At w A (tcells ts)
theorem Tps.some_ {w : World} {A : Option Addr} {ts : List Pt} (h : Tps w A ts) (hn : 0 < ts.length) : ∃ ad, A = some ad ∧ ad.block < w.heap.size ∧ ∀ i t, ts[i]? = some t → w.cell? (ad.add (i * 3)) = some (.int .i64 t.1) ∧ w.cell? ⟨(ad.add (i * 3)).block, (ad.add (i * 3)).off + 1, none⟩ = some (.int .i64 t.2.1) ∧ w.cell? ⟨(ad.add (i * 3)).block, (ad.add (i * 3)).off + 2, none⟩ = some (.int .i64 t.2.2) := by
  obtain ⟨ad, e, hb, hc⟩ := At.some_ h (by rw [tcells_length]; omega)
  refine ⟨ad, e, hb, fun i t ht => ?_⟩
  obtain ⟨h1, h2, h3⟩ := tcells_at ts i t ht
  refine ⟨hc _ _ h1, ?_, ?_⟩
  · have h4 := hc _ _ h2
    rw [← add_add] at h4
    exact h4
  · have h4 := hc _ _ h3
    rw [← add_add] at h4
    exact h4
theorem Tps.below {w w' : World} {A : Option Addr} {ts : List Pt} (h : Tps w A ts) (hb : Below w.heap.size w w') : Tps w' A ts := At.below h hb

/- A set of ints as a map to bools that the call makes; slices.ContainsFunc with the test of CheckRefute. -/

theorem keyI : Maps.Keyed Tryd.prog 3 := Maps.int_keyed Tryd.underlying3
theorem zeroB (w : World) : (zeroValue 4).run Tryd.prog w = .ok (.bool false) w := by kernel_rfl
/-- Block b is a map that holds true just for these numbers. -/
def SeenM (w : World) (b n : Nat) (S : List Int) : Prop :=
  ∃ D : DataW Unit, w.ownsMap Tryd.prog 3 (plainElem Tryd.prog 4) b n D ∧ Maps.IsMap D ∧ ∀ x : Int, D.atKey (.int .i64 x) (.lit (.bool false)) = .lit (.bool (decide (x ∈ S)))
theorem SeenM.made (w : World) : SeenM (w.alloc (.map #[] 0)) w.heap.size 0 [] :=
  ⟨_, World.ownsMap_made w Tryd.prog 3 _, Maps.isMap_empty, fun x => by simp [DataW.atKey]⟩
theorem SeenM.lt {w : World} {b n : Nat} {S : List Int} (h : SeenM w b n S) : b < w.heap.size := by obtain ⟨D, h, _⟩ := h; exact h.lt
theorem SeenM.kept {w w' : World} {b n : Nat} {S : List Int} (h : SeenM w b n S) (hb : w'.heap[b]? = w.heap[b]?) : SeenM w' b n S := by
  obtain ⟨D, ⟨es, clock, hm, F, hs, hD⟩, h2, h3⟩ := h
  exact ⟨D, ⟨es, clock, hb.trans hm, F, hs, hD⟩, h2, h3⟩
theorem SeenM.below {w w' : World} {b n B : Nat} {S : List Int} (h : SeenM w b n S) (hb : Below B w w') (hlt : b < B) : SeenM w' b n S := h.kept (hb.block b hlt)
theorem wfI {x : Int} (h1 : -9223372036854775808 ≤ x) (h2 : x ≤ 9223372036854775807) : (Lit.int .i64 x).wf = true := WalkArith.wf_i64 (by omega)
/-- What IndexFunc leaves. -/
def FnePost (xs : List Int) (w : World) (e : Ending) (w' : World) : Prop := ∃ r : Int, e = .returned (.int .i64 r) ∧ w = w' ∧ -1 ≤ r ∧ decide (0 ≤ r) = !xs.all (fun x => x == 27720)

/- Contract: CheckRefute of package games. -/

def sRow (ts : List Pt) (k n : Nat) : List Int := (List.range n).map fun i => sI ts i k
def sMix (ts : List Pt) (k j n : Nat) : List Int := (List.range n).map fun i => if i < j then sI ts i (k + 1) else sI ts i k
theorem sRow_length (ts : List Pt) (k n : Nat) : (sRow ts k n).length = n := by simp [sRow]
theorem sMix_length (ts : List Pt) (k j n : Nat) : (sMix ts k j n).length = n := by simp [sMix]
theorem sRow_zero (ts : List Pt) (n : Nat) : sRow ts 0 n = List.replicate n 0 := by
  apply List.ext_getElem?
  intro i
  simp only [sRow, List.getElem?_map, List.getElem?_replicate]
  by_cases h : i < n <;> simp [h, sI]
theorem sMix_zero (ts : List Pt) (k n : Nat) : sMix ts k 0 n = sRow ts k n := by simp [sMix, sRow]
theorem sMix_full (ts : List Pt) (k n : Nat) : sMix ts k n n = sRow ts (k + 1) n := by
  unfold sMix sRow
  apply List.map_congr_left
  intro s hs
  rw [List.mem_range] at hs
  rw [if_pos hs]
theorem sMix_get {ts : List Pt} {k j n : Nat} (h : j < n) : (sMix ts k j n)[j]? = some (sI ts j k) := by simp [sMix, h]
theorem sMix_succ {ts : List Pt} {k j n : Nat} (h : j < n) : sMix ts k (j + 1) n = (sMix ts k j n).set j (sI ts j (k + 1)) := by
  apply List.ext_getElem?
  intro i
  rw [List.getElem?_set]
  by_cases hij : j = i
  · subst hij
    rw [if_pos rfl, if_pos (by rw [sMix_length]; exact h)]
    simp [sMix, h]
  · rw [if_neg hij]
    simp only [sMix, List.getElem?_map]
    by_cases hi : i < n
    · simp only [List.getElem?_range hi, Option.map_some]
      congr 1
      by_cases h1 : i < j
      · rw [if_pos h1, if_pos (by omega)]
      · rw [if_neg h1, if_neg (by omega)]
    · simp [hi]
theorem ones_row (ts : List Pt) (n : Nat) : (sRow ts ts.length n).all (fun x => x == 27720) = onesI ts n := by
  unfold sRow onesI
  rw [List.all_map]
  congr 1
theorem sI_bd {N : Nat} {ts : List Pt} (i : Nat) {k : Nat} (h : goodTo N ts k = true) : 0 ≤ sI ts i k ∧ sI ts i k ≤ 2772000000 * (k : Int) := by
  induction k with
  | zero => simp [sI]
  | succ k ih =>
    rw [goodTo_succ, Bool.and_eq_true] at h
    have h1 := ih h.1
    have h2 := ptN_pos h.2
    have e : (2772000000 : Int) * ((k + 1 : Nat) : Int) = 2772000000 * (k : Int) + 2772000000 := by omega
    rw [e]
    simp only [sI]
    split <;> omega
theorem nz_bd {v z : Int} (hv : 1 ≤ v ∧ v ≤ 2772000000) (hz : 0 ≤ z ∧ z ≤ 1000) : 0 ≤ v * z ∧ v * z ≤ 2772000000000 := by
  have h1 := mul_bd (a := v) (b := z) (m := 2772000000) (n := 1000) (by omega) hv.2 hz.1 hz.2
  have h2 : 0 ≤ v * z := Int.mul_nonneg (by omega) hz.1
  omega
theorem tI_bd {c : List Int} (hcb : ∀ x ∈ c, 0 ≤ x ∧ x ≤ 1000) {N : Nat} {ts : List Pt} {k : Nat} (h : goodTo N ts k = true) : 0 ≤ tI c ts k ∧ tI c ts k ≤ 2772000000000 * (k : Int) := by
  induction k with
  | zero => simp [tI]
  | succ k ih =>
    rw [goodTo_succ, Bool.and_eq_true] at h
    have h1 := ih h.1
    have h2 := nz_bd (ptN_pos h.2) (costs_get hcb (pt ts k).1.toNat)
    have e : (2772000000000 : Int) * ((k + 1 : Nat) : Int) = 2772000000000 * (k : Int) + 2772000000000 := by omega
    rw [e]
    simp only [tI]
    omega
theorem np_cases2 {n N : Nat} (h1 : 1 ≤ n) (h4 : n ≤ 4) (hN : N = 2 ^ n) : N = 2 ∧ n = 1 ∨ N = 4 ∧ n = 2 ∨ N = 8 ∧ n = 3 ∨ N = 16 ∧ n = 4 := by
  subst hN
  match n, h1, h4 with
  | 1, _, _ => simp
  | 2, _, _ => simp
  | 3, _, _ => simp
  | 4, _, _ => simp
/-- What CheckRefute answers. -/
def crB (c : List Int) (ts : List Pt) : Bool := if valC c then refI c ts (plr c) else false
theorem refI_bad {c : List Int} {ts : List Pt} {n k : Nat} (h : k < ts.length) (hb : goodI (2 ^ n) (prev ts k) (pt ts k) = false) : refI c ts n = false := by
  unfold refI
  rw [goodTo_stop h hb, Bool.and_false, Bool.false_and, Bool.false_and]


/- Contract: the function that Refute of package games calls for each choice of sets. -/

/-- A player as the row of a system. -/
def colL (sets : List Nat) (i : Nat) : List Int := sets.map (fun s => bitI s i) ++ [1]
/-- The system of a choice of sets: each player is in sets whose shares sum to 1. -/
def sysR (n : Nat) (sets : List Nat) : List (List Int) := (List.range n).map (colL sets)
theorem colL_length (sets : List Nat) (i : Nat) : (colL sets i).length = sets.length + 1 := by simp [colL]
/-- The sets with shares that are not 0. -/
def tsTo (h : Nat → Nat → Int) (l : Int) (n : Nat) (sets : List Nat) : Nat → List Pt
  | 0 => []
  | i + 1 => tsTo h l n sets i ++ if h i n = 0 then [] else [(((sets.getD i 0 : Nat) : Int), (solQ (h i n) l).num, ((solQ (h i n) l).den : Int))]
/-- The collection of a choice of sets, if it refutes. -/
def candR (c : List Int) (n : Nat) (sets : List Nat) : Option (List Pt) :=
  match slvTo (entry (sysR n sets)) n n with
  | none => none
  | some (h, l) => if crB c (tsTo h l n sets n) then some (tsTo h l n sets n) else none

theorem sysR_bd (n : Nat) (sets : List Nat) (hl : sets.length = n) : BdM 1 1000 (entry (sysR n sets)) n := by
  have e : ∀ i, i < n → (sysR n sets).getD i [] = colL sets i := by
    intro i hi
    unfold sysR; rw [List.getD_eq_getElem?_getD]; simp [hi]
  refine ⟨fun i j hi hj => ?_, fun i hi => ?_⟩
  · unfold entry
    rw [e i hi]
    unfold colL
    rw [List.getD_eq_getElem?_getD, List.getElem?_append_left (by simpa using by omega), List.getElem?_map, List.getElem?_eq_getElem (by omega)]
    simp only [Option.map_some, Option.getD_some]
    rcases bitI_cases (sets[j]'(by omega)) i with h | h <;> rw [h] <;> decide
  · unfold entry
    rw [e i hi]
    unfold colL
    rw [List.getD_eq_getElem?_getD, List.getElem?_append_right (by simp; omega)]
    simp [hl]
theorem make_sys (n : Nat) (hn : n ≤ 1000000) (w : World) : (Instr.makeSlice 80 (.int .i64 n) (.int .i64 n)).run Tryd.prog w = .ok (.slice (some ⟨w.heap.size, 0, none⟩) n n) (w.alloc (.cells (Array.replicate n (Value.slice none 0 0)) 22)) := by
  obtain ⟨i0, hi, hz0, hz1, hz2⟩ := info_parts info_ints
  have hr := run_make (P := Tryd.prog) w 80 22 i0 (.slice none 0 0) Tryd.underlying80 hi hz0 .i64 .i64 n n (by omega) (by omega) (by rw [hz2]; omega) (by omega)
  simp only [Int.toNat_natCast, hz1] at hr
  rw [hr]
  have e : madeCells (Value.slice none 0 0).cells (n * 1) = Array.replicate n (Value.slice none 0 0) := by
    apply Array.ext'
    show (madeCells #[Value.slice none 0 0] (n * 1)).toList = _
    rw [toList_madeCells_one]; simp
  rw [e]
theorem ORows.belowB {w w' : World} {base b : Nat} {vs : List Value} {L : List (List Int)} (h : ORows w base vs L) (hlt : ∀ (i : Nat) (a : Addr) (n c : Nat), vs[i]? = some (.slice (some a) n c) → a.block < b) (hb : Below b w w') : ORows w' base vs L := by
  refine ⟨h.1, fun j os hj => ?_, h.2.2⟩
  obtain ⟨A, c, h1, h2⟩ := h.2.1 j os hj
  refine ⟨A, c, h1, h2.1, ?_⟩
  rcases h2.2 with h0 | ⟨g, cap, cur, hv, a1, a2, a3⟩
  · exact .inl h0
  · refine .inr ⟨g, cap, cur, hv, a1, ?_, a3⟩
    injection hv with e1 e2 e3
    have := hlt j ⟨g, 0, none⟩ os.length c (by rw [h1, e1])
    exact (hb.block g this).trans a2
theorem ORows.setC {w : World} {base g : Nat} {vs : List Value} {L : List (List Int)} {cs : Array Value} (h : ORows w base vs L) (hg : Blk w g 22 cs) (i : Nat) (v : Value) : ORows (w.setCell ⟨g, i, none⟩ v) base vs L := by
  refine ⟨h.1, fun j os hj => ?_, h.2.2⟩
  obtain ⟨A, c, h1, h2⟩ := h.2.1 j os hj
  refine ⟨A, c, h1, h2.1, ?_⟩
  rcases h2.2 with h0 | ⟨g', cap, cur, hv, a1, a2, a3⟩
  · exact .inl h0
  · refine .inr ⟨g', cap, cur, hv, a1, ?_, a3⟩
    have hne : g' ≠ g := by
      rintro rfl
      unfold Blk at hg
      rw [hg] at a2
      injection a2 with a2
      injection a2 with _ a2 _
      exact absurd a2 (by decide)
    exact (Below.heap_setCell w _ v g' hne).trans a2
theorem own_setC {w : World} {base g : Nat} {v' : Value} {n : Nat} {xs : List Value} {cs : Array Value} (h : w.ownsRow base 3 1 v' n xs) (hg : Blk w g 22 cs) (i : Nat) (v : Value) : (w.setCell ⟨g, i, none⟩ v).ownsRow base 3 1 v' n xs := by
  refine ⟨h.1, ?_⟩
  rcases h.2 with h0 | ⟨g', cap, cur, hv, a1, a2, a3⟩
  · exact .inl h0
  · refine .inr ⟨g', cap, cur, hv, a1, ?_, a3⟩
    have hne : g' ≠ g := by
      rintro rfl
      unfold Blk at hg
      rw [hg] at a2
      injection a2 with a2
      injection a2 with _ a2 _
      exact absurd a2 (by decide)
    exact (Below.heap_setCell w _ v g' hne).trans a2

/-- The rows while they are made: those up to i are done, row i holds so far D, the later ones nothing. -/
structure MkR (w0 w : World) (g n i b : Nat) (sets : List Nat) (vs : List Value) (D : Value) : Prop where
  len : vs.length = n
  blk : Blk w g 22 vs.toArray
  at_ : vs[i]? = some D
  done : ORows w w0.heap.size (vs.take i) ((List.range i).map (colL sets))
  rest : ∀ a, i < a → a < n → vs[a]? = some (.slice none 0 0)
  lt : ∀ (j : Nat) (a : Addr) (n c : Nat), (vs.take i)[j]? = some (.slice (some a) n c) → a.block < b
  gb : g < b
  below : Below w0.heap.size w0 w
  wb : b ≤ w.heap.size
theorem MkR.step {w0 w w' : World} {g n i b : Nat} {sets : List Nat} {vs : List Value} {D D' : Value} (h : MkR w0 w g n i b sets vs D) (hi : i < n) (hg0 : w0.heap.size ≤ g) (hb : Below b w w') : MkR w0 (w'.setCell ⟨g, i, none⟩ D') g n i b sets (vs.set i D') D' := by
  have hB := h.blk.below hb h.gb
  refine ⟨by rw [List.length_set]; exact h.len, ?_, ?_, ?_, fun a h1 h2 => ?_, ?_, h.gb, ?_, ?_⟩
  · have := hB.set_ i D'
    rw [List.setIfInBounds_toArray] at this
    exact this
  · rw [List.getElem?_set_self (by rw [h.len]; exact hi)]
  · rw [List.take_set_of_le (Nat.le_refl i)]
    exact (h.done.belowB h.lt hb).setC hB i D'
  · rw [List.getElem?_set_ne (by omega)]; exact h.rest a h1 h2
  · rw [List.take_set_of_le (Nat.le_refl i)]; exact h.lt
  · exact (h.below.trans (hb.mono (by have := h.below.size; have := h.gb; omega))).setCell hg0 _
  · have := hb.size; have := h.wb; simp [World.setCell]; omega

/- Contract: the function that Refute of package games calls for each choice of sets: the walk. -/

/-- Between two rows. -/
structure OutR (w0 w : World) (g n i : Nat) (sets : List Nat) (vs : List Value) : Prop where
  len : vs.length = n
  blk : Blk w g 22 vs.toArray
  done : ORows w w0.heap.size (vs.take i) ((List.range i).map (colL sets))
  rest : ∀ a, i ≤ a → a < n → vs[a]? = some (.slice none 0 0)
  below : Below w0.heap.size w0 w
theorem OutR.start {w0 w : World} {g n i : Nat} {sets : List Nat} {vs : List Value} (h : OutR w0 w g n i sets vs) (hi : i < n) : MkR w0 w g n i w.heap.size sets vs (.slice none 0 0) :=
  ⟨h.len, h.blk, h.rest i (Nat.le_refl _) hi, h.done, fun a h1 h2 => h.rest a (by omega) h2, h.done.lt, h.blk.lt, h.below, Nat.le_refl _⟩
theorem MkR.fin {w0 w : World} {g n i b : Nat} {sets : List Nat} {vs : List Value} {D : Option Addr} {c : Nat} (h : MkR w0 w g n i b sets vs (.slice D (sets.length + 1) c)) (hw : w0.heap.size ≤ b) (hown : w.ownsRow b 3 1 (.slice D (sets.length + 1) c) (sets.length + 1) ((colL sets i).map (Value.int .i64))) :
    OutR w0 w g n (i + 1) sets vs := by
  refine ⟨h.len, h.blk, ?_, fun a h1 h2 => h.rest a (by omega) h2, h.below⟩
  have e : vs.take (i + 1) = vs.take i ++ [.slice D (colL sets i).length c] := by rw [List.take_add_one, h.at_, colL_length]; rfl
  have e2 : (List.range (i + 1)).map (colL sets) = (List.range i).map (colL sets) ++ [colL sets i] := by rw [List.range_succ, List.map_append]; rfl
  rw [e, e2]
  exact h.done.snoc hw (by rw [colL_length]; exact hown) h.lt

theorem OutR.all {w0 w : World} {g n : Nat} {sets : List Nat} {vs : List Value} (h : OutR w0 w g n n sets vs) (hn : n ≤ 4) (hsl : sets.length = n) (hg : w0.heap.size ≤ g) : ∃ R C, Mtx w g n R C (entry (sysR n sets)) ∧ ∀ i, i < n → w0.heap.size ≤ R i := by
  have hd := h.done
  rw [List.take_of_length_le (by rw [h.len]; exact Nat.le_refl _)] at hd
  have ho : w.ownsRow w0.heap.size 22 1 (.slice (some ⟨g, 0, none⟩) n n) n vs :=
    ⟨by rw [h.len, Nat.mul_one], .inr ⟨g, n, vs.toArray, rfl, hg, h.blk, Nat.le_refl _, by unfold maxLen; omega, by simp [h.len], by rw [Nat.mul_one, List.take_of_length_le (by simp [h.len])]⟩⟩
  obtain ⟨R, C, hM, _, hR⟩ := mtx_of ho hd (by simp) (fun r hr => by
    obtain ⟨i, _, rfl⟩ := List.mem_map.1 hr
    rw [colL_length, hsl])
  exact ⟨R, C, hM, hR⟩
theorem tsTo_mem {h : Nat → Nat → Int} {l : Int} {n : Nat} {sets : List Nat} : ∀ {k : Nat} {t : Pt}, t ∈ tsTo h l n sets k → ∃ i, i < k ∧ h i n ≠ 0 ∧ t = (((sets.getD i 0 : Nat) : Int), (solQ (h i n) l).num, ((solQ (h i n) l).den : Int)) := by
  intro k
  induction k with
  | zero => intro t ht; cases ht
  | succ k ih =>
    intro t ht
    simp only [tsTo, List.mem_append] at ht
    rcases ht with ht | ht
    · obtain ⟨i, h1, h2⟩ := ih ht
      exact ⟨i, by omega, h2⟩
    · by_cases h0 : h k n = 0
      · rw [if_pos h0] at ht; cases ht
      · rw [if_neg h0, List.mem_singleton] at ht
        exact ⟨k, by omega, h0, ht⟩
theorem tsTo_len (h : Nat → Nat → Int) (l : Int) (n : Nat) (sets : List Nat) (k : Nat) : (tsTo h l n sets k).length ≤ k := by
  induction k with
  | zero => exact Nat.le_refl _
  | succ k ih =>
    simp only [tsTo, List.length_append]
    split <;> simp <;> omega
theorem solQ_bd {x l : Int} (hx : -100000000 ≤ x ∧ x ≤ 100000000) (hl0 : l ≠ 0) (hl : -100000000 ≤ l ∧ l ≤ 100000000) : -100000000 ≤ (solQ x l).num ∧ (solQ x l).num ≤ 100000000 ∧ 0 < ((solQ x l).den : Int) ∧ ((solQ x l).den : Int) ≤ 100000000 := by
  have hm : 0 < max l (-l) ∧ max l (-l) ≤ 100000000 := by omega
  have hx2 : -100000000 ≤ (if l < 0 then -x else x) ∧ (if l < 0 then -x else x) ≤ 100000000 := by split <;> omega
  have h1 := divInt_bd hm.1 hx2.1 hx2.2
  have h2 := divInt_den_le (a := if l < 0 then -x else x) hm.1
  have h3 := den_pos (solQ x l)
  unfold solQ at h3 ⊢
  exact ⟨h1.1, h1.2, h3, by omega⟩
theorem crB_nil {c : List Int} (hn : 1 ≤ plr c) : crB c [] = false := by
  unfold crB
  split
  · unfold refI onesI
    have : (List.range (plr c)).all (fun i => decide (sI [] i ([] : List Pt).length = 27720)) = false := by
      rw [List.all_eq_false]
      exact ⟨0, List.mem_range.2 hn, by simp [sI]⟩
    rw [this]
    simp
  · rfl


/- Contract: Refute of package games. -/

/-- What Refute finds. -/
def refF (c : List Int) : Option (List Pt) := (cmb c.length (plr c)).findSome? (candR c (plr c))

/-- What Refute leaves. -/
def RefutePost (c : List Int) (w : World) (e : Ending) (w' : World) : Prop :=
  Below w.heap.size w w' ∧ ((valC c = false ∧ e = .returned (.tuple #[.slice none 0 0, .int .i64 2])) ∨ (valC c = true ∧ (coreF c).isSome = true ∧ e = .returned (.tuple #[.slice none 0 0, .int .i64 4])) ∨
    (valC c = true ∧ coreF c = none ∧ refF c = none ∧ e = .returned (.tuple #[.slice none 0 0, .int .i64 0])) ∨
    (valC c = true ∧ coreF c = none ∧ ∃ ts A' k c', refF c = some ts ∧ e = .returned (.tuple #[.slice A' k c', .int .i64 0]) ∧ ts.length = k ∧ Tps w' A' ts ∧ k ≤ c' ∧ c' ≤ 9223372036854775807))

end Go.Proofs.YtifmekijdepokaaDoor
