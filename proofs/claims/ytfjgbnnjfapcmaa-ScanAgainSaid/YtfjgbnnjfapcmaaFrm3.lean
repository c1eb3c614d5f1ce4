/- Contracts of frame.Put, Size, vivariumref14.Bytes. -/
import Derived.Test.YtfjgbnnjfapcmaaFrm1
import Derived.Test.YtfjgbnnjfapcmaaCmdB
import Derived.Test.YtfjgbnnjfapcmaaCrc1
import Derived.Test.YtfjgbnnjfapcmaaArgs
import Derived.OwnWalk
import Derived.Deep.RegionHeld3
import Derived.Test.YtfjgbnnjfapcmaaCmdS
import Derived.Test.YtfjgbnnjfapcmaaCmdI
namespace Go.Proofs.Ytfjgbnnjfapcmaa
open Go.RowKit
set_option maxRecDepth 100000
set_option linter.unusedVariables false
set_option linter.unusedSimpArgs false

def cmdsB (l : List Cmd) (k : Nat) : List UInt8 := (l.take k).flatMap bytesC
theorem cmdsB_next {l : List Cmd} {k : Nat} {x : Cmd} (hx : l[k]? = some x) : cmdsB l (k + 1) = cmdsB l k ++ bytesC x := by
  unfold cmdsB
  rw [List.take_add_one, hx, List.flatMap_append]
  simp
/-- What stands ahead of the sum. -/
def fronB (l : List Cmd) (k : Nat) : List UInt8 := leB (word (l.length : Nat)) 1 ++ cmdsB l k
def frameB (l : List Cmd) : List UInt8 := fronB l l.length ++ leB (word (crcOf (fronB l l.length) : Nat)) 4
theorem fronB_next {l : List Cmd} {k : Nat} {x : Cmd} (hx : l[k]? = some x) : fronB l (k + 1) = fronB l k ++ bytesC x := by unfold fronB; rw [cmdsB_next hx, List.append_assoc]
theorem bytesC_len (x : Cmd) : (bytesC x).length ≤ x.l.length + 60 := by
  unfold bytesC
  (repeat' split) <;> simp [leB_len] <;> omega
theorem cmdsB_len {l : List Cmd} (h : ∀ x ∈ l, x.l.length ≤ 64) (k : Nat) : (cmdsB l k).length ≤ l.length * 124 := by
  have key : ∀ m : List Cmd, (∀ x ∈ m, x.l.length ≤ 64) → (m.flatMap bytesC).length ≤ m.length * 124 := by
    intro m
    induction m with
    | nil => intro _; simp
    | cons x m ih =>
      intro hm
      have h1 := ih (fun y hy => hm y (List.mem_cons_of_mem _ hy))
      have h2 := bytesC_len x
      have h3 := hm x (List.mem_cons_self ..)
      rw [List.flatMap_cons, List.length_append, List.length_cons]
      omega
  have h1 := key (l.take k) (fun x hx => h x (List.mem_of_mem_take hx))
  have h2 : (l.take k).length ≤ l.length := List.length_take_le' _ _
  unfold cmdsB
  omega
theorem firstE_0 : ∀ {l : List Cmd}, firstE l = 0 → ∀ x ∈ l, checkC x = 0
  | [], _, x, hx => by simp at hx
  | y :: l, h, x, hx => by
    rw [firstE] at h
    split at h
    · rename_i h2; exact absurd h h2
    · rename_i h2
      rcases List.mem_cons.1 hx with rfl | hx
      · exact Classical.not_not.1 h2
      · exact firstE_0 h x hx
theorem checkC_0 {x : Cmd} (h : checkC x = 0) : knownC x.do_ = true ∧ x.l.length ≤ 64 := by
  unfold checkC at h
  split at h
  · cases h
  · rename_i h2
    split at h
    · cases h
    · exact ⟨by simpa using h2, by omega⟩
theorem checksF_0 {l : List Cmd} (h : checksF l = 0) : l.length ≤ 64 ∧ ∀ x ∈ l, knownC x.do_ = true ∧ x.l.length ≤ 64 := by
  unfold checksF at h
  split at h
  · cases h
  · exact ⟨by omega, fun x hx => checkC_0 (firstE_0 h x hx)⟩
theorem fronB_len {l : List Cmd} (h : checksF l = 0) (k : Nat) : (fronB l k).length ≤ 8000 := by
  obtain ⟨h1, h2⟩ := checksF_0 h
  have := cmdsB_len (fun x hx => (h2 x hx).2) k
  unfold fronB
  rw [List.length_append, leB_len]
  omega
/-- One slice of bytes, as a literal. -/
theorem bys_lit1 (e : TypeId) {W : World} {F : Nat → Prop} {u : Value} {l : List UInt8} (h : By W F u l) : Bys (W.alloc (.cells #[u] e)) (fun _ => True) (.slice (some ⟨W.heap.size, 0, none⟩) 1 1) [l] :=
  ⟨[u], (Sl.lit W e [u] (by unfold maxLen; simp)).mono (fun _ _ _ => trivial), fun i r hr => by
    match i, hr with
    | 0, hr =>
      obtain rfl : l = r := by simpa using hr
      exact ⟨u, rfl, (h.mono (fun _ _ _ => trivial)).keep ((Keep.refl (fun _ => False) W).alloc _) (fun _ _ _ h => h)⟩⟩
/-- Bytes and an error that a call hands back. -/
def FPost (w : World) (r : List UInt8 × Int) (e : Ending) (w' : World) : Prop := ∃ A n c, e = .returned (.tuple #[.slice A n c, .int .i64 r.2]) ∧ By w' (fun _ => True) (.slice A n c) r.1 ∧ n = r.1.length ∧ Below w.heap.size w w'
def putF (l : List Cmd) : List UInt8 × Int := if checksF l = 0 then (frameB l, 0) else ([], checksF l)
end Go.Proofs.Ytfjgbnnjfapcmaa
namespace Go.Proofs.Ytfjgbnnjfapcmaa
open Go.RowKit
set_option maxRecDepth 100000
set_option linter.unusedVariables false
set_option linter.unusedSimpArgs false

set_option maxHeartbeats 8000000 in
theorem rfbytes_any (l : List Cmd) (v : Value) (F : Nat → Prop) (w : World) (h : NS cmN w F v l) (hz : checksF l = 0) :
    Calls Try.prog 23 #[v] w (BytesPost w (frameB l)) := by
  have HA := Lib.hid h
  obtain ⟨A, c, rfl, -, -⟩ := h.form
  clear h
  obtain ⟨hl64, hall⟩ := checksF_0 hz
  have FL := Lib.hid (fun k => fronB_len hz k)
  have FN := Lib.hid (fun k x (hx : l[k]? = some x) => fronB_next hx)
  have F0 := Lib.hid (show fronB l 0 = leB (word (l.length : Nat)) 1 by unfold fronB cmdsB; simp)
  have XS := Lib.hid (fun k x (hx : l[k]? = some x) => (hall x (List.mem_of_getElem? hx)).2)
  have FB := Lib.hid (show frameB l = fronB l l.length ++ leB (word (crcOf (fronB l l.length) : Nat)) 4 from rfl)
  have P0 := Lib.hid (fun W => refNumZ 1 (l.length : Int) 1 rfl (by omega) W)
  rw [← F0.out] at P0
  generalize frameB l = fb at *
  generalize fronB l = fr at *
  generalize hn : l.length = n at *
  clear hn hz hall
  go_enter Try.func23, Try.ntmps23
  go_wp2_with fail
  with_reducible refine (P0.out _).mono ?_
  rintro e w2 ⟨A2, n2, c2, rfl, hy, hb⟩
  have K2 := Lib.hid (Keep.of_below' hb)
  have Y2 := Lib.hid hy
  clear hb hy P0
  go_wp2
  go_loopw [3, 4] (fun t i wr => ∃ (k q d : Nat) (B : Option Addr), k ≤ n ∧ i = .int .i64 k ∧ t = .slice B q d ∧ Hid (Ob wr w.heap.size (.slice B q d) (fr k) ∧ Keep (fun _ => False) w wr)) (fun _ i _ => n - (intOf i).toNat)
  case atStart => exact ⟨0, n2, c2, A2, by omega, rfl, rfl, Lib.hid ⟨Y2.out, K2.out⟩⟩
  case round =>
    obtain ⟨k, q, d, B, hk, rfl, rfl, ht⟩ := hrel
    by_cases hlt : k < n
    · have hi : (k : Int) < (n : Int) := by omega
      have h00 : (0 : Int) ≤ (k : Int) := by omega
      obtain ⟨b, off, x, A1, c1, rfl, -, hx, hin, hcs⟩ := cmAt (HA.out.same ht.out.2) hlt
      obtain ⟨y0, y1, y2, y3, y4, y5⟩ := cells_at6 hcs
      have hx64 := XS.out k x hx
      have PC := Lib.hid (fun W (hk2 : Keep (fun _ => False) wr W) => rcbytes_any x _ _ W (hin.keep hk2 (fun _ _ _ h => h)) (by omega))
      have bl := bytesC_len x
      have FNk := Lib.hid (FN.out k x hx)
      have FLk := FL.out k
      unfold cmdV at PC
      generalize bytesC x = bx at *
      have bl2 : bx.length ≤ 200 := by omega
      clear hx hin hcs bl hx64
      go_wp2_with fail
      with_reducible refine (PC.out _ (by exact Keep.refl _ _)).mono ?_
      rintro e w3 ⟨A3, n3, c3, rfl, hy, hb⟩
      have O3 := Lib.hid (ht.out.1.same (Keep.of_below' hb))
      have K3 := Lib.hid (ht.out.2.trans (Keep.of_below' hb) (fun _ _ h => h))
      have hs3 := K3.out.size
      clear hb PC y0 y1 y2 y3 y4 y5
      go_wp2_with (at_builtin; refine wpList_app rfl _ _ rfl w.heap.size _ (fr k) rfl O3.out _ _ bx rfl hy ?c1 ?c2 ?_)
      case c1 => omega
      case c2 => omega
      intro A4 n4 c4 w4 ho hk4
      rw [← FNk.out] at ho
      have NT := Lib.hid (And.intro ho (show Keep (fun _ => False) w w4 from K3.out.trans hk4 (fun b hb e => by have := (O3.out.ownB_ b e).1; omega)))
      clear ho hk4 hy
      go_wp2
      go_roundw
      case rel => exact ⟨k + 1, n4, c4, A4, by omega, by first | rfl | go_num, rfl, NT⟩
      case measure => simp [intOf]; omega
    · have hi : ¬ (k : Int) < (n : Int) := by omega
      obtain rfl : k = n := by omega
      have CO := Lib.hid (fun W (hk2 : Keep (fun _ => False) wr W) => rcrc (fr k) _ _ W (ht.out.1.by_.keep hk2 (fun _ _ _ h => h)))
      have hcl := crcOf_lt (fr k)
      have PN := Lib.hid (fun W => refNumZ 4 (crcOf (fr k) : Nat) 4 rfl (by omega) W)
      have FLk := FL.out k
      have FBL := Lib.hid FB.out
      generalize crcOf (fr k) = cz at *
      have pw : IntKind.i64.wrap (cz : Int) = cz := IntWalk.i64_in _ (by omega)
      go_wp2_with fail
      with_reducible refine (CO.out wr (Keep.refl _ _)).mono ?_
      rintro e w3 ⟨rfl, rfl⟩
      go_wp2_with fail
      with_reducible refine (PN.out _).mono ?_
      rintro e w4 ⟨A4, n4, c4, rfl, hy, hb⟩
      have O3 := Lib.hid (ht.out.1.same (Keep.of_below' hb))
      have K3 := Lib.hid (ht.out.2.trans (Keep.of_below' hb) (fun _ _ h => h))
      have hs3 := K3.out.size
      have hl4 : (leB (word (cz : Nat)) 4).length = 4 := leB_len _ _
      have HL4 := Lib.hid hl4
      clear hb PN CO hl4
      go_wp2_with (at_builtin; refine wpList_app rfl _ _ rfl w.heap.size _ (fr k) rfl O3.out _ _ (leB (word (cz : Nat)) 4) rfl hy.by_ ?c3 ?c4 ?_)
      case c3 => have := HL4.out; omega
      case c4 => omega
      intro A5 n5 c5 w5 ho hk5
      rw [← FBL.out] at ho
      have NT := Lib.hid (And.intro ho (show Keep (fun _ => False) w w5 from K3.out.trans hk5 (fun b hb e => by have := (O3.out.ownB_ b e).1; omega)))
      clear ho hk5 hy
      go_wp2
      go_ret
      exact ⟨A5, n5, c5, rfl, NT.out.1.by_, NT.out.2.to_below'⟩
end Go.Proofs.Ytfjgbnnjfapcmaa
namespace Go.Proofs.Ytfjgbnnjfapcmaa
open Go.RowKit
set_option maxRecDepth 100000
set_option linter.unusedVariables false
set_option linter.unusedSimpArgs false

/-- So many commands from a place on. -/
def readN (b : List UInt8) : Nat → Int → List Cmd → List Cmd × Int × Int
  | 0, a, acc => (acc, a, 0)
  | n + 1, a, acc => if (refP b a).2.2 ≠ 0 then ([], 0, (refP b a).2.2) else readN b n (refP b a).2.1 (acc ++ [(refP b a).1])
/-- What stands ahead of the sum. -/
def inB (b : List UInt8) : List UInt8 := b.take (b.length - 4)
def endF (b : List UInt8) (r : List Cmd × Int × Int) : List Cmd × Int := if r.2.2 ≠ 0 then ([], r.2.2) else if r.2.1 = b.length then (r.1, 0) else ([], 11)
/-- What frame.Get answers. -/
def getFr (b : List UInt8) : List Cmd × Int :=
  if b.length < 5 then ([], 12)
  else if leB (word (crcOf (inB b) : Nat)) 4 = b.drop (b.length - 4) then (if 64 < byteZ (inB b) 0 then ([], 13) else endF (inB b) (readN (inB b) (byteZ (inB b) 0).toNat 1 []))
  else ([], 11)
theorem readN_next {b : List UInt8} {a : Nat} (h : (refP b a).2.2 = 0) : ∃ k : Nat, (refP b a).2.1 = k ∧ a ≤ k ∧ k ≤ b.length := by
  obtain ⟨h0, h1, h2, _⟩ := bytes_refP h
  exact ⟨(refP b a).2.1.toNat, by omega, by omega, by omega⟩
/-- Commands and an error that a call hands back. -/
def GfPost (w : World) (r : List Cmd × Int) (e : Ending) (w' : World) : Prop := ∃ A c, e = .returned (.tuple #[.slice A r.1.length c, .int .i64 r.2]) ∧ NS cmN w' (fun _ => True) (.slice A r.1.length c) r.1 ∧ Below w.heap.size w w'
set_option maxHeartbeats 8000000 in
theorem rfget_any (b : List UInt8) (v : Value) (F : Nat → Prop) (w : World) (hv : By w F v b) (hn : b.length ≤ 1000000000) :
    Calls Try.prog 37 #[v] w (GfPost w (getFr b)) := by
  obtain ⟨i0, hi0, hz0, hz1, hz2⟩ := info_parts info_cmd
  have HV := Lib.hid hv
  obtain ⟨A, c, rfl, hbc, hcm, hnil, hrd⟩ := id hv
  by_cases h5 : b.length < 5
  · rw [show getFr b = ([], 12) by unfold getFr; rw [if_pos h5]]
    have h1 : (b.length : Int) < 5 := by omega
    clear hv HV hrd
    generalize b.length = n at *
    go_enter Try.func37, Try.ntmps37
    go_wp2
    go_ret2
    exact ⟨none, 0, rfl, NS.nil _ _ _, Below.refl _ _⟩
  have h1 : ¬ (b.length : Int) < 5 := by omega
  obtain ⟨gb, go, rfl, -, q1⟩ := hrd.at_ (show 0 < b.length * 1 by omega)
  obtain ⟨m, hm⟩ : ∃ m, b.length = m + 4 := ⟨b.length - 4, by omega⟩
  have em : (b.length : Int) - 4 = (m : Int) := by omega
  have il : (inB b).length = m := by unfold inB; rw [List.length_take]; omega
  have Hi := Lib.hid (show By w F (.slice (some ⟨gb, go, none⟩) m c) (inB b) from by
    have := hv.piece (A' := some ⟨gb, go, none⟩) (lo := 0) (m := m) (c' := c) (by omega) (fun _ x hx => by rw [hx]; rfl) (by omega) (by omega) (fun hh => by cases hh)
    rw [List.drop_zero] at this
    unfold inB
    rwa [show b.length - 4 = m by omega])
  have Ht := Lib.hid (show By w F (.slice (some ⟨gb, go + m, none⟩) 4 (c - m)) (b.drop m) from by
    have := hv.tail (a := m) (by omega)
    rw [if_neg (by omega), Option.map_some, addr_add, show b.length - m = 4 by omega] at this
    exact this)
  have b0 := bv_at (l := inB b) (k := 0) (by omega)
  have cb0 : w.cell? ⟨gb, go, none⟩ = some (.int .u8 (byteZ (inB b) 0)) := by
    obtain ⟨A', c', e, -, -, -, hrd2⟩ := Hi.out
    injection e with e1 e2 e3
    obtain ⟨gb', go', e4, -, q2⟩ := hrd2.at_ (show 0 < (inB b).length * 1 by omega)
    rw [← e1] at e4
    injection e4 with e4
    injection e4 with e5 e6
    subst e5 e6
    have := q2 0 _ b0.1
    rw [Nat.add_zero] at this
    exact this
  have hz0' := byteZ_bd (inB b) 0
  have GE : getFr b = if leB (word (crcOf (inB b) : Nat)) 4 = b.drop m then (if 64 < byteZ (inB b) 0 then ([], 13) else endF (inB b) (readN (inB b) (byteZ (inB b) 0).toNat 1 [])) else ([], 11) := by
    unfold getFr
    rw [if_neg h5, show b.length - 4 = m by omega]
  obtain ⟨r, hr⟩ : ∃ r, r = getFr b := ⟨_, rfl⟩
  rw [← hr]
  rw [GE] at hr
  have CO := Lib.hid (fun W (hk : Keep (fun _ => False) w W) => rcrc (inB b) _ _ W (Hi.out.keep hk (fun _ _ _ h => h)))
  have hcl := crcOf_lt (inB b)
  have PN := Lib.hid (fun W => refNumZ 4 (crcOf (inB b) : Nat) 4 rfl (by omega) W)
  have SM := Lib.hid (fun W a Fa (ha : By W Fa a (leB (word (crcOf (inB b) : Nat)) 4)) (hk : Keep (fun _ => False) w W) => same_any _ _ a _ Fa _ W ha (Ht.out.keep hk (fun _ _ _ h => h)))
  have GT := Lib.hid (fun W (hk : Keep (fun _ => False) w W) (a : Nat) (ha : a ≤ m) => rget_any (inB b) _ (fun k => F k ∧ k < w.heap.size) (a : Int) W ((Hi.out.mono (G := fun k => F k ∧ k < w.heap.size) (fun k hk h => ⟨h, hk⟩)).keep hk (fun _ _ _ h => h)) (by omega) (by omega) (by omega))
  have NX := Lib.hid (fun (a : Nat) (h : (refP (inB b) (a : Int)).2.2 = 0) => readN_next h)
  rw [il] at NX
  obtain ⟨nn, hnn⟩ : ∃ nn : Nat, byteZ (inB b) 0 = nn := ⟨(byteZ (inB b) 0).toNat, by omega⟩
  rw [hnn] at cb0 hr hz0'
  rw [Int.toNat_natCast] at hr
  obtain ⟨S, hS⟩ : ∃ S : Bool, S = decide (leB (word (crcOf (inB b) : Nat)) 4 = b.drop m) := ⟨_, rfl⟩
  rw [← hS] at SM
  have RA := Lib.hid (show S = true → ¬ 64 < (nn : Int) → r = endF (inB b) (readN (inB b) nn 1 []) from fun h1 h2 => by rw [hr, if_pos (of_decide_eq_true (by rw [← hS]; exact h1)), if_neg h2])
  have RB := Lib.hid (show S = true → 64 < (nn : Int) → r = ([], 13) from fun h1 h2 => by rw [hr, if_pos (of_decide_eq_true (by rw [← hS]; exact h1)), if_pos h2])
  have RC := Lib.hid (show S = false → r = ([], 11) from fun h1 => by rw [hr, if_neg (of_decide_eq_false (by rw [← hS]; exact h1))])
  have EF := Lib.hid (show ∀ x, endF (inB b) x = if x.2.2 ≠ 0 then ([], x.2.2) else if x.2.1 = (m : Int) then (x.1, 0) else ([], 11) from fun x => by unfold endF; rw [il])
  have R0 := Lib.hid (show ∀ (a : Int) (acc : List Cmd), readN (inB b) 0 a acc = (acc, a, 0) from fun a acc => rfl)
  have RN := Lib.hid (show ∀ (n : Nat) (a : Int) (acc : List Cmd), readN (inB b) (n + 1) a acc = if (refP (inB b) a).2.2 ≠ 0 then ([], 0, (refP (inB b) a).2.2) else readN (inB b) n (refP (inB b) a).2.1 (acc ++ [(refP (inB b) a).1]) from fun n a acc => rfl)
  generalize readN (inB b) = rdn at *
  generalize endF (inB b) = ef at *
  generalize refP (inB b) = rp at *
  generalize crcOf (inB b) = cz at *
  have pw : IntKind.i64.wrap (cz : Int) = cz := IntWalk.i64_in _ (by omega)
  have pw2 : IntKind.i64.wrap (nn : Int) = nn := IntWalk.i64_in _ (by omega)
  have HM := Lib.hid hm
  have hm1 : 1 ≤ m := by omega
  have hm9 : m ≤ 1000000000 := by omega
  have m0 : (0 : Int) ≤ (m : Int) := by omega
  have m1 : (0 : Int) < (m : Int) := by omega
  have m2 : (m : Int) ≤ (b.length : Int) := by omega
  have m3 : (m : Int) ≤ (c : Int) := by omega
  have bm : b.length - m = 4 := by omega
  have nnz : (0 : Int) ≤ (nn : Int) := by omega
  have hcne : ¬ c = m := by omega
  have hwm : IntKind.i64.wrap (m : Int) = (m : Int) := IntWalk.i64_in _ (by omega)
  have hw4 : IntKind.i64.wrap ((b.length : Int) - 4) = (m : Int) := by rw [em]; exact IntWalk.i64_in _ (by omega)
  have m2n : m ≤ b.length := by omega
  have m3n : m ≤ c := by omega
  have hcnm : c - m ≠ 0 := by omega
  clear hv hrd hnil q1 b0 hS GE hr il Ht hm hnn h5
  generalize b.length = n at *
  go_enter Try.func37, Try.ntmps37
  go_upto_region 4 with fail
  cases S
  · have RE := Lib.hid (RC.out rfl)
    go_region_held3 (fun W' => Keep (fun _ => False) w W') (exact (by repeat first | (with_reducible assumption) | (with_reducible exact Keep.refl _ _) | (with_reducible refine Keep.alloc ?_ _) | (with_reducible refine Keep.drew ?_) | (with_reducible refine Keep.drewN ?_ _) | (with_reducible refine Keep.setCell ?_ (.inl (by first | omega | (simp; done) | (simp; omega) | fail)) _))) (first
      | (go_at_call 48; (with_reducible refine (CO.out _ (by exact (by repeat first | (with_reducible assumption) | (with_reducible exact Keep.refl _ _) | (with_reducible refine Keep.alloc ?_ _) | (with_reducible refine Keep.drew ?_) | (with_reducible refine Keep.drewN ?_ _) | (with_reducible refine Keep.setCell ?_ (.inl (by first | omega | (simp; done) | (simp; omega) | fail)) _)))).mono ?_); rintro e w3 ⟨rfl, rfl⟩)
      | (go_at_call 46; (with_reducible refine (PN.out _).mono ?_); rintro e w4 ⟨A4, n4, c4, rfl, hy4, hb4⟩; have hk4 : Keep (fun _ => False) w w4 := Keep.trans (T := fun _ => False) (by exact (by repeat first | (with_reducible assumption) | (with_reducible exact Keep.refl _ _) | (with_reducible refine Keep.alloc ?_ _) | (with_reducible refine Keep.drew ?_) | (with_reducible refine Keep.drewN ?_ _) | (with_reducible refine Keep.setCell ?_ (.inl (by first | omega | (simp; done) | (simp; omega) | fail)) _))) (Keep.of_below' hb4) (fun _ _ h => h))
      | (go_at_call 14; (with_reducible refine (SM.out _ _ _ (hy4.by_.keep (S := fun _ => False) (by repeat first | (with_reducible assumption) | (with_reducible exact Keep.refl _ _) | (with_reducible refine Keep.alloc ?_ _) | (with_reducible refine Keep.drew ?_) | (with_reducible refine Keep.drewN ?_ _) | (with_reducible refine Keep.setCell ?_ (.inl (by first | omega | (simp; done) | (simp; omega) | fail)) _)) (fun _ _ _ h => h)) (by exact (by repeat first | (with_reducible assumption) | (with_reducible exact Keep.refl _ _) | (with_reducible refine Keep.alloc ?_ _) | (with_reducible refine Keep.drew ?_) | (with_reducible refine Keep.drewN ?_ _) | (with_reducible refine Keep.setCell ?_ (.inl (by first | omega | (simp; done) | (simp; omega) | fail)) _)))).mono ?_); rintro e w5 ⟨rfl, rfl⟩)
      | fail)
    go_wp2
    go_ret2
    rw [RE.out]
    exact ⟨none, 0, rfl, NS.nil _ _ _, hk4.to_below'⟩
  · have RA1 := Lib.hid (RA.out rfl)
    have RB1 := Lib.hid (RB.out rfl)
    clear RA RB RC
    go_region_held3 (fun W' => Keep (fun _ => False) w W') (exact (by repeat first | (with_reducible assumption) | (with_reducible exact Keep.refl _ _) | (with_reducible refine Keep.alloc ?_ _) | (with_reducible refine Keep.drew ?_) | (with_reducible refine Keep.drewN ?_ _) | (with_reducible refine Keep.setCell ?_ (.inl (by first | omega | (simp; done) | (simp; omega) | fail)) _))) (first
      | (go_at_call 48; (with_reducible refine (CO.out _ (by exact (by repeat first | (with_reducible assumption) | (with_reducible exact Keep.refl _ _) | (with_reducible refine Keep.alloc ?_ _) | (with_reducible refine Keep.drew ?_) | (with_reducible refine Keep.drewN ?_ _) | (with_reducible refine Keep.setCell ?_ (.inl (by first | omega | (simp; done) | (simp; omega) | fail)) _)))).mono ?_); rintro e w3 ⟨rfl, rfl⟩)
      | (go_at_call 46; (with_reducible refine (PN.out _).mono ?_); rintro e w4 ⟨A4, n4, c4, rfl, hy4, hb4⟩; have hk4 : Keep (fun _ => False) w w4 := Keep.trans (T := fun _ => False) (by exact (by repeat first | (with_reducible assumption) | (with_reducible exact Keep.refl _ _) | (with_reducible refine Keep.alloc ?_ _) | (with_reducible refine Keep.drew ?_) | (with_reducible refine Keep.drewN ?_ _) | (with_reducible refine Keep.setCell ?_ (.inl (by first | omega | (simp; done) | (simp; omega) | fail)) _))) (Keep.of_below' hb4) (fun _ _ h => h))
      | (go_at_call 14; (with_reducible refine (SM.out _ _ _ (hy4.by_.keep (S := fun _ => False) (by repeat first | (with_reducible assumption) | (with_reducible exact Keep.refl _ _) | (with_reducible refine Keep.alloc ?_ _) | (with_reducible refine Keep.drew ?_) | (with_reducible refine Keep.drewN ?_ _) | (with_reducible refine Keep.setCell ?_ (.inl (by first | omega | (simp; done) | (simp; omega) | fail)) _)) (fun _ _ _ h => h)) (by exact (by repeat first | (with_reducible assumption) | (with_reducible exact Keep.refl _ _) | (with_reducible refine Keep.alloc ?_ _) | (with_reducible refine Keep.drew ?_) | (with_reducible refine Keep.drewN ?_ _) | (with_reducible refine Keep.setCell ?_ (.inl (by first | omega | (simp; done) | (simp; omega) | fail)) _)))).mono ?_); rintro e w5 ⟨rfl, rfl⟩)
      | fail)
    go_upto_region 6 with fail
    refine wp_world (S := fun Z => Keep (fun _ => False) w Z) (by exact (by repeat first | (with_reducible assumption) | (with_reducible exact Keep.refl _ _) | (with_reducible refine Keep.alloc ?_ _) | (with_reducible refine Keep.drew ?_) | (with_reducible refine Keep.drewN ?_ _) | (with_reducible refine Keep.setCell ?_ (.inl (by first | omega | (simp; done) | (simp; omega) | fail)) _))) ?_
    intro Z hZ
    have KZ := Lib.hid hZ
    have cz0 : Z.cell? ⟨gb, go, none⟩ = some (.int .u8 (nn : Nat)) := hZ.cell (fun h => h) cb0
    have CB := Lib.hid (fun W (hk : Keep (fun _ => False) w W) => hk.cell (fun h => h) cb0)
    clear hZ hk4 hb4 hy4 cb0 CO PN SM
    by_cases h64 : 64 < (nn : Int)
    · have RE := Lib.hid (RB1.out h64)
      go_wp2
      go_ret2
      rw [RE.out]
      exact ⟨none, 0, rfl, NS.nil _ _ _, KZ.out.to_below'⟩
    have RE := Lib.hid (RA1.out (by omega))
    clear RA1 RB1
    go_wp2
    go_loopw [5, 6, 7] (fun t at_ i wr => ∃ (k q a d : Nat) (B : Option Addr) (acc : List Cmd), k ≤ nn ∧ i = .int .i64 k ∧ at_ = .int .i64 (a : Nat) ∧ a ≤ m ∧ q ≤ k ∧ t = .slice B q d ∧ Hid (NB cmN w.heap.size 83 wr (.slice B q d) acc ∧ acc.length = q ∧ r = ef (rdn (nn - k) (a : Nat) acc) ∧ Keep (fun _ => False) w wr)) (fun _ _ i _ => nn - (intOf i).toNat)
    case atStart => exact ⟨0, 0, 1, 0, none, [], by omega, rfl, rfl, hm1, Nat.le_refl _, rfl, Lib.hid ⟨NB.nil _ _ _ _, rfl, RE.out, KZ.out⟩⟩
    case round =>
      obtain ⟨k, q, a, d, B, acc, hk, rfl, rfl, ham, hqk, rfl, ht⟩ := hrel
      have cz0 := CB.out wr ht.out.2.2.2
      by_cases hlt : k < nn
      · have hi : (k : Int) < (nn : Int) := by omega
        have hq9 : q ≤ 70 := by omega
        obtain ⟨f, hf⟩ : ∃ f, nn - k = f + 1 := ⟨nn - k - 1, by omega⟩
        have RG := Lib.hid (show r = ef (rdn (f + 1) (a : Nat) acc) by rw [← hf]; exact ht.out.2.2.1)
        rw [RN.out] at RG
        have K1 := GT.out _ ht.out.2.2.2 a ham
        have NX1 := Lib.hid (NX.out a)
        have HF := Lib.hid (show f = nn - (k + 1) by omega)
        generalize rp (a : Int) = one at *
        obtain ⟨x, nx, er⟩ := one
        unfold RGPost cmdV at K1
        go_wp2_with fail
        with_reducible refine K1.mono ?_
        rintro e w1 ⟨A1, n1, c1, rfl, hy, hb⟩
        have en : n1 = x.l.length := by obtain ⟨_, _, e2, _⟩ := id hy; injection e2
        subst en
        have hs1 := hb.size
        have HM := Lib.hid (hy.mono (G := fun b => ownB (.slice B q d) ≠ some b) (fun b _ h e => by have := ht.out.1.own_lt e; omega))
        have HN := Lib.hid (ht.out.1.same (Keep.of_below' hb))
        have KW := Lib.hid (ht.out.2.2.2.trans (Keep.of_below' hb) (fun _ _ h => h))
        have NQ := Lib.hid ht.out.2.1
        clear K1 hy hb hs1 ht hf cz0
        go_upto_region 14 with fail
        refine wp_world (S := fun Z => Z.heap[w1.heap.size]? = some (.cells #[.int .i64 x.do_, .bool x.loc, .int .i64 x.idx, .int .i64 x.gen, .int .i64 x.comp, .slice A1 x.l.length c1] 83 (0, 0)) ∧ Keep (fun _ => False) w1 Z) ⟨heap_alloc_new w1 _, (Keep.refl _ w1).alloc _⟩ ?_
        intro Z2 hZ2
        have HZ := Lib.hid hZ2
        clear hZ2
        generalize w1.heap.size = P at *
        obtain ⟨x0, x1, x2, x3, x4, x5, xf⟩ := cells6 HZ.out.1
        by_cases he : er = 0
        · have e2 : (er != 0) = false := by simp [he]
          have NX2 := NX1.out he
          obtain ⟨j, hj, hj1, hj2⟩ := NX2
          have hj : nx = (j : Int) := hj
          subst hj
          have RG2 := Lib.hid (show r = ef (rdn f (j : Int) (acc ++ [x])) by rw [RG.out, if_neg (by simp [he])])
          have HN2 := Lib.hid (HN.out.same HZ.out.2)
          have HM2 := Lib.hid (HM.out.keep HZ.out.2 (fun _ _ _ h => h))
          have hzz := (KW.out.trans HZ.out.2 (fun _ _ h => h)).size
          clear NX1 HN HM he RG hj1
          go_wp2_with (at_builtin; refine wpList_push rfl _ _ _ rfl cmN w.heap.size 83 i0 _ 64 Try.underlying48 hi0 hz0 hz1 hz2 rfl _ acc q NQ.out rfl (HN2.out.same ((Keep.refl _ Z2).alloc _)) Z2.heap.size 1 x (.slice A1 x.l.length c1) rfl (lit_cells Z2 _ _) (HM2.out.keep ((Keep.refl (fun _ => False) Z2).alloc _) (fun _ _ _ h => h)) ?c1 ?c2 ?c3 ?_)
          case c1 => unfold maxLen; omega
          case c2 => omega
          case c3 => first | omega | (simp; omega)
          intro A5 c5 w5 hp hk5
          have NT := Lib.hid (And.intro hp (And.intro (show (acc ++ [x]).length = q + 1 by rw [List.length_append, NQ.out]; rfl) (And.intro (show r = ef (rdn (nn - (k + 1)) (j : Int) (acc ++ [x])) by rw [← HF.out]; exact RG2.out) (show Keep (fun _ => False) w w5 from ((KW.out.trans HZ.out.2 (fun _ _ h => h)).alloc _).trans hk5 (fun b hb e => by have := HN2.out.own_lt e; omega)))))
          clear hp hk5
          go_wp2
          go_roundw
          case rel => exact ⟨k + 1, q + 1, j, c5, A5, acc ++ [x], by omega, by first | rfl | go_num, rfl, hj2, by omega, rfl, NT⟩
          case measure => simp [intOf]; omega
        · have e2 : (er != 0) = true := by simp [he]
          have RG2 := Lib.hid (show r = ([], er) by rw [RG.out, if_pos he, EF.out, if_pos he])
          clear he
          go_wp2
          go_ret2
          rw [RG2.out]
          exact ⟨none, 0, rfl, NS.nil _ _ _, (KW.out.trans HZ.out.2 (fun _ _ h => h)).to_below'⟩
      · have hi : ¬ (k : Int) < (nn : Int) := by omega
        have RG := Lib.hid (show r = ef (acc, (a : Int), 0) by have := ht.out.2.2.1; rw [show nn - k = 0 by omega, R0.out] at this; exact this)
        have NQ := Lib.hid ht.out.2.1
        by_cases hae : a = m
        · have e3 : ¬ (a : Int) < (m : Int) := by omega
          have RG2 := Lib.hid (show r = (acc, 0) by rw [RG.out, EF.out, if_neg (by simp), if_pos (by show (a : Int) = m; omega)])
          clear hae
          go_wp2
          go_ret2
          rw [RG2.out]
          exact ⟨B, d, by rw [NQ.out]; rfl, by rw [NQ.out]; exact ht.out.1.ns, ht.out.2.2.2.to_below'⟩
        · have e3 : (a : Int) < (m : Int) := by omega
          have RG2 := Lib.hid (show r = ([], 11) by rw [RG.out, EF.out, if_neg (by simp), if_neg (by show ¬ (a : Int) = m; omega)])
          clear hae
          go_wp2
          go_ret2
          rw [RG2.out]
          exact ⟨none, 0, rfl, NS.nil _ _ _, ht.out.2.2.2.to_below'⟩
end Go.Proofs.Ytfjgbnnjfapcmaa
namespace Go.Proofs.Ytfjgbnnjfapcmaa
open Go.RowKit
set_option maxRecDepth 100000
set_option linter.unusedVariables false

theorem refL_knownC {l : List UInt8} (h : (refL l).2.2 = 0) : knownC (refL l).1.do_ = true := by
  have b0 := byteZ_bd l 0
  unfold refL at h ⊢
  by_cases h0 : l.length = 0
  · rw [if_pos h0] at h; cases h
  rw [if_neg h0] at h ⊢
  by_cases h3 : 3 < byteZ l 0
  · rw [if_pos h3] at h; cases h
  rw [if_neg h3] at h ⊢
  by_cases hz : byteZ l 0 = 0
  · rw [if_pos hz]; rfl
  rw [if_neg hz] at h ⊢
  by_cases h1 : l.length = 1
  · rw [if_pos h1] at h; cases h
  rw [if_neg h1] at h ⊢
  by_cases h4 : 1 < byteZ l 1
  · rw [if_pos h4] at h; cases h
  rw [if_neg h4] at h ⊢
  generalize decide (byteZ l 1 = 1) = loc at *
  unfold refRest at h ⊢
  (repeat' split at h) <;> first | (cases h; done) | skip
  all_goals (repeat' split) <;> first | rfl | (exfalso; omega) | skip
  all_goals contradiction
theorem refP_known {b : List UInt8} {a : Int} (h : (refP b a).2.2 = 0) : checkC (refP b a).1 = 0 := by
  obtain ⟨_, _, _, _, h4⟩ := bytes_refP h
  have kn : knownC (refP b a).1.do_ = true := by
    unfold refP at h ⊢
    split at h
    · cases h
    rename_i hat
    rw [if_neg hat]
    split at h
    · rename_i h2; exact absurd h h2
    rename_i h2
    rw [if_neg h2]
    exact refL_knownC (Classical.not_not.1 h2)
  unfold checkC
  rw [if_neg (by rw [kn]; decide), if_neg (by omega)]
theorem readN_law (b : List UInt8) : ∀ (n a : Nat) (acc r : List Cmd) (j : Int), a ≤ b.length → readN b n (a : Nat) acc = (r, j, 0) →
    ∃ (l : List Cmd) (k : Nat), r = acc ++ l ∧ l.length = n ∧ j = k ∧ a ≤ k ∧ k ≤ b.length ∧ l.flatMap bytesC = pieceOf b a (k - a) ∧ ∀ x ∈ l, checkC x = 0
  | 0, a, acc, r, j, ha, h => by
    injection h with h1 h2
    injection h2 with h2 _
    exact ⟨[], a, by rw [List.append_nil, h1], rfl, h2.symm, Nat.le_refl _, ha, by rw [Nat.sub_self]; rfl, fun x hx => by simp at hx⟩
  | n + 1, a, acc, r, j, ha, h => by
    rw [readN] at h
    split at h
    · rename_i h2
      injection h with _ h
      injection h with _ h
      exact absurd h h2
    · rename_i h2
      have h0 := Classical.not_not.1 h2
      obtain ⟨k, e1, e2, e3⟩ := readN_next h0
      obtain ⟨_, _, _, e4, _⟩ := bytes_refP h0
      rw [e1] at h
      obtain ⟨l, k2, g1, g2, g3, g4, g5, g6, g7⟩ := readN_law b n k _ r j e3 h
      refine ⟨(refP b a).1 :: l, k2, by rw [g1, List.append_assoc]; rfl, by rw [List.length_cons, g2], g3, by omega, g5, ?_, fun x hx => ?_⟩
      · rw [List.flatMap_cons, g6, e4, e1, Int.toNat_natCast, show ((k : Int) - (a : Int)).toNat = k - a by omega, show k2 - a = (k - a) + (k2 - k) by omega, piece_join, show a + (k - a) = k by omega]
        rfl
      · rcases List.mem_cons.1 hx with rfl | hx
        · exact refP_known h0
        · exact g7 x hx
theorem firstE_of : ∀ {l : List Cmd}, (∀ x ∈ l, checkC x = 0) → firstE l = 0
  | [], _ => rfl
  | x :: l, h => by
    rw [firstE, if_neg (by rw [h x (List.mem_cons_self ..)]; simp)]
    exact firstE_of (fun y hy => h y (List.mem_cons_of_mem _ hy))
theorem checksF_of {l : List Cmd} (hl : l.length ≤ 64) (h : ∀ x ∈ l, checkC x = 0) : checksF l = 0 := by
  unfold checksF
  rw [if_neg (by omega)]
  exact firstE_of h
/-- What was got, put again. -/
theorem put_get (b : List UInt8) (h : (getFr b).2 = 0) : putF (getFr b).1 = (b, 0) := by
  unfold getFr at h ⊢
  by_cases h5 : b.length < 5
  · rw [if_pos h5] at h; cases h
  rw [if_neg h5] at h ⊢
  by_cases hs : leB (word (crcOf (inB b) : Nat)) 4 = b.drop (b.length - 4)
  case neg => rw [if_neg hs] at h; cases h
  rw [if_pos hs] at h ⊢
  by_cases h64 : 64 < byteZ (inB b) 0
  · rw [if_pos h64] at h; cases h
  rw [if_neg h64] at h ⊢
  have hb := byteZ_bd (inB b) 0
  obtain ⟨n, hn⟩ : ∃ n : Nat, byteZ (inB b) 0 = n := ⟨(byteZ (inB b) 0).toNat, by omega⟩
  have il : (inB b).length = b.length - 4 := by unfold inB; rw [List.length_take]; omega
  have hb1 : leB (word (byteZ (inB b) 0)) 1 = pieceOf (inB b) 0 1 := byte_wire (by omega)
  rw [hn, Int.toNat_natCast] at h ⊢
  rw [hn] at hb1
  obtain ⟨⟨r, j, e⟩, hr⟩ : ∃ x, x = readN (inB b) n 1 [] := ⟨_, rfl⟩
  rw [← hr] at h ⊢
  unfold endF at h ⊢
  simp only at h ⊢
  by_cases he : e = 0
  case neg => rw [if_pos he] at h; exact absurd h he
  subst he
  rw [if_neg (by simp)] at h ⊢
  by_cases hj : j = ((inB b).length : Nat)
  case neg => rw [if_neg hj] at h; cases h
  rw [if_pos hj]
  obtain ⟨l, k, g1, g2, g3, g4, g5, g6, g7⟩ := readN_law (inB b) n 1 [] r j (by omega) (by rw [show ((1 : Nat) : Int) = 1 from rfl, ← hr])
  have hk : k = (inB b).length := by omega
  rw [List.nil_append] at g1
  subst g1
  have c0 : checksF r = 0 := checksF_of (by omega) g7
  unfold putF
  rw [if_pos c0]
  have hf : fronB r r.length = inB b := by
    unfold fronB cmdsB
    rw [List.take_length, g6, g2, hb1, hk, ← piece_join, show 1 + ((inB b).length - 1) = (inB b).length by omega]
    unfold pieceOf
    rw [List.drop_zero, List.take_length]
  unfold frameB
  rw [hf, hs]
  unfold inB
  rw [List.take_append_drop]
theorem readN_put (b : List UInt8) : ∀ (l : List Cmd) (pre post : List UInt8) (acc : List Cmd), b = pre ++ (l.flatMap bytesC ++ post) → (∀ x ∈ l, (knownC x.do_ = true ∧ x.l.length ≤ 64) ∧ rngC x) →
    readN b l.length (pre.length : Nat) acc = (acc ++ l.map plainC, ((pre.length + (l.flatMap bytesC).length : Nat) : Int), 0)
  | [], pre, post, acc, hb, h => by simp [readN]
  | x :: l, pre, post, acc, hb, h => by
    obtain ⟨⟨h1, h2⟩, h3⟩ := h x (List.mem_cons_self ..)
    have e : b = pre ++ (bytesC x ++ (l.flatMap bytesC ++ post)) := by rw [hb, List.flatMap_cons, List.append_assoc]
    have hp := refP_post (b := pre) (l.flatMap bytesC ++ post) h1 h2 h3
    rw [← e] at hp
    have ih := readN_put b l (pre ++ bytesC x) post (acc ++ [plainC x]) (by rw [e, List.append_assoc]) (fun y hy => h y (List.mem_cons_of_mem _ hy))
    rw [List.length_cons, readN, hp, if_neg (by simp)]
    simp only
    rw [ih, List.map_cons, List.append_assoc, List.flatMap_cons, List.length_append, List.length_append, Nat.add_assoc]
    rfl
/-- What was put, got again. -/
theorem get_put (l : List Cmd) (hc : checksF l = 0) (hr : ∀ x ∈ l, rngC x) : getFr (frameB l) = (l.map plainC, 0) := by
  obtain ⟨h64, hall⟩ := checksF_0 hc
  have fl : (frameB l).length = (fronB l l.length).length + 4 := by unfold frameB; rw [List.length_append, leB_len]
  have f1 : (fronB l l.length).length = 1 + (l.flatMap bytesC).length := by unfold fronB cmdsB; rw [List.length_append, leB_len, List.take_length]
  have il : inB (frameB l) = fronB l l.length := by
    unfold inB
    rw [fl, show (fronB l l.length).length + 4 - 4 = (fronB l l.length).length by omega]
    unfold frameB
    exact List.take_left' rfl
  have hs : leB (word (crcOf (inB (frameB l)) : Nat)) 4 = (frameB l).drop ((frameB l).length - 4) := by
    rw [il, fl, show (fronB l l.length).length + 4 - 4 = (fronB l l.length).length by omega]
    unfold frameB
    rw [List.drop_left' rfl]
  have hby : byteZ (fronB l l.length) 0 = (l.length : Nat) := by
    have h1 : byteZ (fronB l l.length) 0 = getZ (fronB l l.length) 0 1 := by rw [← getZ1 (by omega)]; rfl
    rw [h1]
    have hp : pieceOf (fronB l l.length) 0 1 = leB (word (l.length : Nat)) 1 := by unfold fronB; exact piece_here _ _ (by rw [leB_len])
    have h0 : getOk (fronB l l.length) 0 1 = true := getOk_yes (k := 0) (by rw [w1]; omega)
    unfold getZ
    rw [if_pos h0, w1]
    rw [show (0 : Int).toNat = 0 from rfl, hp, getN_leB]
    unfold wrap64 word
    rw [show (256 : Nat) ^ 1 = 256 from rfl]
    omega
  unfold getFr
  rw [if_neg (by omega), if_pos hs, il, hby, if_neg (by omega), Int.toNat_natCast]
  have := readN_put (fronB l l.length) l (leB (word (l.length : Nat)) 1) [] [] (by unfold fronB cmdsB; rw [List.take_length, List.append_nil]) (fun x hx => ⟨hall x hx, hr x hx⟩)
  rw [leB_len] at this
  rw [show ((1 : Nat) : Int) = 1 from rfl] at this
  rw [this]
  unfold endF
  simp only
  rw [if_neg (by simp), if_pos (by rw [f1]), List.nil_append]
end Go.Proofs.Ytfjgbnnjfapcmaa
