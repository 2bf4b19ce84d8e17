/- What Read of package console answers. -/
import Derived.Test.YtgeaebcchjmmjaaDoorCWords
import Derived.Test.YtgeaebcchjmmjaaDoorOpOf3
namespace Go.Proofs.YtgeaebcchjmmjaaDoor
open Go.RowKit Go.Lib
def ba (l : List UInt8) : ByteArray := ⟨l.toArray⟩
theorem ba_data (x : ByteArray) : ba x.data.toList = x := rfl
/-- What the words behind a kind make of a line. -/
def rOut : Option (List Int × List UInt8) → List Int × List UInt8 × Nat
  | none => ([], [], 3)
  | some (ns, t) => if ofE ns (ba t) = 0 then (ns, t, 0) else ([], [], 3)
/-- What a line is: its numbers, its text, an error. -/
def readS (s : List UInt8) : List Int × List UInt8 × Nat :=
  match wdsL s with
  | [] => ([], [], 9)
  | w0 :: rest => if kindN (ba w0) = 0 then ([], [], 9) else rOut (wordsP [(kindN (ba w0) : Int)] rest)
theorem readS_at {s w0 : List UInt8} {rest : List (List UInt8)} (h : wdsL s = w0 :: rest) : readS s = if kindN (ba w0) = 0 then ([], [], 9) else rOut (wordsP [(kindN (ba w0) : Int)] rest) := by
  unfold readS
  rw [h]
theorem ints_of_own {w : World} {B : Nat} {v : Value} {ns : List Int} (h : w.ownsRow B 3 1 v ns.length (ints ns)) (hi : ∀ n ∈ ns, InI n) (hl : ns.length ≤ 9223372036854775807) : IntsAt w v ns := by
  refine ⟨hi, hl, ?_⟩
  have hc := fun g hg => h.cells (g := g) hg
  rcases h.2 with ⟨rfl, h0⟩ | ⟨g, cap, cur, rfl, _, _, hn, _⟩
  · exact .inl ⟨List.eq_nil_of_length_eq_zero h0, none, 0, rfl⟩
  · refine .inr ⟨g, 0, cap, rfl, hn, fun j n hj => ?_⟩
    have := hc g rfl j (.int .i64 n) (by simp [ints, hj])
    unfold Addr.add at this
    split at this
    · rename_i h0; subst h0; exact this
    · exact this
/-- A row of numbers that the call has made. -/
def ReadOwn (B : Nat) (W : World) (v : Value) (ns : List Int) : Prop := W.ownsRow B 3 1 v ns.length (ints ns) ∧ (∀ n ∈ ns, InI n) ∧ ns.length ≤ 9223372036854775807
theorem ReadOwn.ints {B : Nat} {W : World} {v : Value} {ns : List Int} (h : ReadOwn B W v ns) : IntsAt W v ns := ints_of_own h.1 h.2.1 h.2.2
theorem nilOwn (B : Nat) (w : World) : ReadOwn B w (.slice none 0 0) [] := ⟨World.ownsRow_nil _ _ _ _, fun _ h => (by cases h), by simp⟩
def ReadEnd (r : List Int × List UInt8 × Nat) (w : World) (e : Ending) (w' : World) : Prop :=
  ∃ v, e = .returned (.tuple #[.agg #[v, .string (ba r.2.1)], .int .i64 r.2.2]) ∧ ReadOwn w.heap.size w' v r.1 ∧ Below w.heap.size w w'
theorem split_cells (s : ByteArray) : dls (splitB ⟨#[32]⟩ 0 (countB s ⟨#[32]⟩) s) = wdsL s.data.toList := by
  unfold dls
  rw [splitB_data, ← split_wds]
  rfl
theorem kindN_le (s : ByteArray) : kindN s ≤ 24 := by
  unfold kindN
  have : ∀ k, findO s k ≤ 24 := fun k => by
    induction k with
    | zero => exact Nat.zero_le _
    | succ k ih => rw [findO]; split <;> omega
  exact this 24
theorem nilInts (w : World) : IntsAt w (.slice none 0 0) [] := ⟨fun _ h => (by cases h), by simp, .inl ⟨rfl, none, 0, rfl⟩⟩
set_option maxRecDepth 100000 in
set_option maxHeartbeats 4000000 in
theorem consoleRead_any (s : ByteArray) (hs : s.size ≤ 900) (w : World) (henv : CEnv w) : Calls Tryd.prog 22 #[.string s] w (ReadEnd (readS s.data.toList) w) := by
  have hcnt : countB s ⟨#[32]⟩ ≤ s.size := countB_le ⟨#[32]⟩ (by decide) s.size s (Nat.le_refl _)
  have hall := splitB_all ⟨#[32]⟩ (by decide) 0 _ s rfl
  have hdl := split_cells s
  obtain ⟨ws, hws⟩ : ∃ ws, splitB ⟨#[32]⟩ 0 (countB s ⟨#[32]⟩) s = ws := ⟨_, rfl⟩
  have henv2 := henv
  obtain ⟨_, _, _, ⟨m, hm⟩, h9⟩ := henv2
  have HSP : Hid (∀ W : World, W.cell? ⟨1, 0, none⟩ = some (.int .i64 m) → Calls Tryd.prog 49 #[.string s, .string ⟨#[32]⟩] W fun e w' => ∃ g, e = .returned (.slice (some ⟨g, 0, none⟩) ws.length ws.length) ∧ W.heap.size ≤ g ∧ g < w'.heap.size ∧ (∀ (j : Nat) x, ws[j]? = some x → w'.cell? ⟨g, j, none⟩ = some (.string x)) ∧ Below W.heap.size W w') := Lib.hid (fun W hW => (Tryd.strings_Split s ⟨#[32]⟩ m W (by omega) hW (by decide)).mono (by
    rintro e w' ⟨he, hw⟩
    rw [hws] at hw hall
    rw [he, hw, hall]
    refine ⟨W.heap.size, rfl, Nat.le_refl _, by simp, fun j x hj => ?_, (Below.refl _ _).alloc (Nat.le_refl _) _⟩
    rw [bk_cell (bk_new W _) j]
    simp [hj]))
  rw [hws] at hall hdl
  have hsz : ∀ x ∈ ws, x.size ≤ 1000 := by
    intro x hx
    have h1 : x.data.toList ∈ wdsL s.data.toList := by rw [← hdl]; exact List.mem_map.2 ⟨x, hx, rfl⟩
    have h2 : ∀ (l w : List UInt8), w ∈ wdsL l → w.length ≤ l.length := by
      intro l
      induction l with
      | nil => intro w hw; simp [wdsL] at hw; subst hw; simp
      | cons c l ih =>
        intro w hw
        rw [wdsL] at hw
        split at hw
        · rcases List.mem_cons.1 hw with rfl | hw
          · simp
          · have := ih w hw; simp; omega
        · split at hw
          · rename_i e; exact absurd e (wdsL_ne l)
          · rename_i h t e
            rcases List.mem_cons.1 hw with rfl | hw
            · have := ih h (by rw [e]; exact List.mem_cons_self ..); simp; omega
            · have := ih w (by rw [e]; exact List.mem_cons_of_mem _ hw); simp; omega
    have h3 := h2 _ _ h1
    have h4 : x.data.toList.length = x.size := rfl
    have h5 : s.data.toList.length = s.size := rfl
    omega
  cases ws with
  | nil => simp at hall
  | cons x rest =>
    have hrl : rest.length ≤ 900 := by simp at hall; omega
    have HRD := Lib.hid (readS_at (s := s.data.toList) (w0 := x.data.toList) (rest := dls rest) hdl.symm)
    rw [ba_data] at HRD
    have HE := Lib.hid henv
    have HS := Lib.hid hsz
    have HK := Lib.hid (fun W => opKind_any x W)
    have hkl := kindN_le x
    generalize kindN x = kd at *
    clear hall hdl hws hcnt henv hsz
    obtain ⟨r, hr⟩ : ∃ r, readS s.data.toList = r := ⟨_, rfl⟩
    rw [hr] at HRD
    rw [hr]
    clear hr
    go_enter Tryd.func22, Tryd.ntmps22
    have hmb : (w.alloc (.cells #[.slice none 0 0, .string ⟨#[]⟩] 42)).cell? ⟨1, 0, none⟩ = some (.int .i64 m) := cell_below (blw_alloc (Below.refl _ _) _) hm
    have hz0 := bk_new w (.cells #[.slice none 0 0, .string ⟨#[]⟩] 42)
    have HZ := Lib.hid hz0
    have HMB := Lib.hid hmb
    clear hz0 hmb hm
    go_wp2_with fail
    refine (HSP.out _ HMB.out).mono ?_
    rintro e w1 ⟨g, rfl, hg1, hg2, hcs, hb1⟩
    have hz1 := bk_below HZ.out hb1
    have HB1 := Lib.hid (blw_then (blw_alloc (Below.refl w.heap.size w) _) hb1)
    have hc0 := hcs 0 x rfl
    have HCS := Lib.hid hcs
    have hlen0 : (0 : Int) < ((x :: rest).length : Int) := by rw [List.length_cons]; omega
    clear hcs hb1 HMB HSP
    go_wp2_with fail
    refine (HK.out _).mono ?_
    rintro e w2 ⟨rfl, hb2⟩
    have hz2 := bk_below hz1 hb2
    have HZ2 := Lib.hid hz2
    obtain ⟨c0, c1, cf⟩ := cells2 hz2
    have hB2 := Lib.hid (blw_then HB1.out hb2)
    have hsz2 := hb2.size
    have hsz1 := HB1.out.size
    have HW2 := Lib.hid (fun (j : Nat) y (hj : (x :: rest)[j]? = some y) => bw_cell hb2 (a := ⟨g, j, none⟩) hg2 (HCS.out j y hj))
    clear hz1 hz2 hb2 hc0
    by_cases hk0 : kd = 0
    · subst hk0
      have e : r = ([], [], 9) := by rw [HRD.out, if_pos rfl]
      subst e
      go_wp2
      refine bodyPost_ret (v := .tuple #[.agg #[.slice none 0 0, .string ⟨#[]⟩], .int .i64 9]) (res42 rfl rfl rfl (store2 HZ2.out)) rfl ?_
      exact ⟨_, rfl, nilOwn _ _, bel2 hB2.out (Nat.le_refl _) _ _⟩
    · have hk1 : ((kd : Int) == 0) = false := by rw [beq_eq_false_iff_ne]; omega
      have HRD2 := Lib.hid (HRD.out.trans (if_neg hk0))
      clear HRD hk0
      have hown : (w2.alloc (.cells #[.int .i64 (kd : Int)] 3)).ownsRow w2.heap.size 3 1 (.slice (some ⟨w2.heap.size, 0, none⟩) 1 1) 1 (ints [(kd : Int)]) := World.ownsRow_lit _ _ _ (Nat.le_refl _) (by decide) rfl
      have hkin : ∀ n ∈ [(kd : Int)], InI n := by intro n hn; rw [List.mem_singleton.1 hn]; constructor <;> omega
      have hce : CEnv (w2.alloc (.cells #[.int .i64 (kd : Int)] 3)) := (HE.out.blw hB2.out).blw (blw_alloc (Below.refl _ _) _)
      obtain ⟨rr, hrr⟩ : ∃ rr, wordsP [(kd : Int)] (dls rest) = rr := ⟨_, rfl⟩
      have HWD : Hid (∀ (o cap : Nat), (rest = [] ∨ o = 1) → Calls Tryd.prog 51 #[.agg #[.slice (some ⟨w2.heap.size, 0, none⟩) 1 1, .string ⟨#[]⟩], .slice (some ⟨g, o, none⟩) rest.length cap] (w2.alloc (.cells #[.int .i64 (kd : Int)] 3)) (WordsEnd w2.heap.size (1 + rest.length) rr (w2.alloc (.cells #[.int .i64 (kd : Int)] 3)))) := Lib.hid (fun o cap ho => by
        rw [← hrr]
        exact words_any w2.heap.size g o cap rest _ [(kd : Int)] (w2.alloc (.cells #[.int .i64 (kd : Int)] 3)) hce (by omega) (by simp) (by omega) (fun j y hj => by
          rcases ho with rfl | rfl
          · simp at hj
          · have := cell_below (blw_alloc (Below.refl w2.heap.size w2) (.cells #[.int .i64 (kd : Int)] 3)) (HW2.out (j + 1) y (by simpa using hj))
            rwa [Nat.add_comm 1 j]) hown (Nat.zero_lt_one) hkin (by simp; omega) (fun y hy => HS.out y (List.mem_cons_of_mem _ hy)))
      have HR3 : Hid (r = rOut rr) := Lib.hid (by rw [HRD2.out, hrr])
      clear hown hkin hce hrr HRD2
      cases rest with
      | nil =>
        have hlen1 : (([x] : List ByteArray).length : Int) = 1 := rfl
        have HWD2 := Lib.hid (HWD.out 0 0 (.inl rfl))
        clear HWD
        go_wp2_with fail
        refine (HWD2.out).mono ?_
        clear hlen0 HS HCS HW2 HWD2
        rintro e w3 ⟨v, ns, t, b, rfl, hown, hb3, hin, hpos, hlen, hts, hres⟩
        obtain ⟨q, cp, rfl⟩ := own_slice hown hpos
        have hia := Lib.hid (ints_of_own hown hin (by simp at hlen hrl ⊢; omega))
        have hsz3 : w2.heap.size + 1 ≤ w3.heap.size := by have := hb3.size; simpa using this
        have hB3 := Lib.hid (blw_then hB2.out (bw_then ((Below.refl w2.heap.size w2).alloc (Nat.le_refl _) _) hb3))
        have HOF := Lib.hid (fun W (hW : IntsAt W (.slice (some ⟨q, 0, none⟩) ns.length cp) ns) => opOf_any (v := .slice (some ⟨q, 0, none⟩) ns.length cp) (ns := ns) t (w := W) hW (by omega))
        have hz3 := Lib.hid (bw_block (bw_then ((Below.refl w2.heap.size w2).alloc (Nat.le_refl _) _) hb3) (bk_lt HZ2.out) HZ2.out)
        have HOW := Lib.hid hown
        have HIN := Lib.hid hin
        have HLN : Hid (ns.length ≤ 9223372036854775807) := Lib.hid hia.out.2.1
        clear hown hb3 hlen1 hin hrl hlen
        obtain ⟨n, hn⟩ : ∃ n, ofE ns t = n := ⟨_, rfl⟩
        rw [hn] at HOF
        have HN := Lib.hid hn
        clear hn c0 c1 cf
        go_wp2_with fail
        refine (HOF.out _ (hia.out.below (blw_alloc (Below.refl _ _) _))).mono ?_
        rintro e w4 ⟨ov, rfl, ⟨oa, ob, oc, od, os, rfl⟩, hb4⟩
        have hz4 := bk_below (bk_alloc hz3.out _) hb4
        have HZ4 := Lib.hid hz4
        have HB4 := Lib.hid (blw_then (blw_alloc hB3.out _) hb4)
        have hia4 := Lib.hid ((hia.out.below (blw_alloc (Below.refl _ _) _)).below hb4)
        obtain ⟨c0, c1, cf⟩ := cells2 hz4
        have hy4 := bk_below (bk_new w3 (.cells #[.slice (some ⟨q, 0, none⟩) ns.length cp, .string t] 42)) hb4
        obtain ⟨e0, e1, ef⟩ := cells2 hy4
        have hsz4 : w3.heap.size + 1 ≤ w4.heap.size := by have := hb4.size; simpa using this
        have hwz : w.heap.size < w4.heap.size := by omega
        have hwz3 : w3.heap.size < w4.heap.size := by omega
        have HO4 := Lib.hid (own_below (HOW.out.alloc _) hb4)
        clear hz4 hy4 hb4
        rcases hres with ⟨rfl, hrr⟩ | ⟨rfl, hrr⟩
        · subst hrr
          by_cases hn0 : n = 0
          · subst hn0
            have e : r = (ns, t.data.toList, 0) := by
              rw [HR3.out]
              show (if ofE ns (ba t.data.toList) = 0 then _ else _) = _
              rw [ba_data, HN.out, if_pos rfl]
            subst e
            clear HR3
            go_wp2
            refine bodyPost_ret (v := .tuple #[.agg #[.slice (some ⟨q, 0, none⟩) ns.length cp, .string t], .int .i64 0]) (res42 rfl rfl rfl (bk_alloc (store2 HZ4.out) _)) rfl ?_
            exact ⟨_, rfl, ⟨own_less ((out2 HO4.out HZ4.out _ _).alloc _) (Nat.le_trans hsz1 hsz2), HIN.out, HLN.out⟩, blw_alloc (bel2 HB4.out (Nat.le_refl _) _ _) _⟩
          · have hn1 : ((n : Int) != 0) = true := by rw [bne_iff_ne]; omega
            have hn2 : ((n : Int) == 0) = false := by rw [beq_eq_false_iff_ne]; omega
            have e : r = ([], [], 3) := by
              rw [HR3.out]
              show (if ofE ns (ba t.data.toList) = 0 then _ else _) = _
              rw [ba_data, HN.out, if_neg hn0]
            subst e
            clear HR3 hn0
            go_wp2
            refine bodyPost_ret (v := .tuple #[.agg #[.slice none 0 0, .string ⟨#[]⟩], .int .i64 3]) (res42 rfl rfl rfl (bk_alloc (store2 HZ4.out) _)) rfl ?_
            exact ⟨_, rfl, nilOwn _ _, blw_alloc (bel2 HB4.out (Nat.le_refl _) _ _) _⟩
        · subst hrr
          have e : r = ([], [], 3) := HR3.out
          subst e
          clear HR3
          go_wp2
          refine bodyPost_ret (v := .tuple #[.agg #[.slice none 0 0, .string ⟨#[]⟩], .int .i64 3]) (res42 rfl rfl rfl (bk_alloc (store2 HZ4.out) _)) rfl ?_
          exact ⟨_, rfl, nilOwn _ _, blw_alloc (bel2 HB4.out (Nat.le_refl _) _ _) _⟩
      | cons y rest =>
        have hlen1 : ((x :: y :: rest).length : Int) = ((y :: rest).length : Int) + 1 := by simp
        have hlen2 : (x :: y :: rest).length ≠ 1 := by simp
        have HWD2 := Lib.hid (HWD.out 1 (y :: rest).length (.inr rfl))
        clear HWD
        go_wp2_with fail
        refine (HWD2.out).mono ?_
        clear hlen0 HS HCS HW2 HWD2
        rintro e w3 ⟨v, ns, t, b, rfl, hown, hb3, hin, hpos, hlen, hts, hres⟩
        obtain ⟨q, cp, rfl⟩ := own_slice hown hpos
        have hia := Lib.hid (ints_of_own hown hin (by simp at hlen hrl ⊢; omega))
        have hsz3 : w2.heap.size + 1 ≤ w3.heap.size := by have := hb3.size; simpa using this
        have hB3 := Lib.hid (blw_then hB2.out (bw_then ((Below.refl w2.heap.size w2).alloc (Nat.le_refl _) _) hb3))
        have HOF := Lib.hid (fun W (hW : IntsAt W (.slice (some ⟨q, 0, none⟩) ns.length cp) ns) => opOf_any (v := .slice (some ⟨q, 0, none⟩) ns.length cp) (ns := ns) t (w := W) hW (by omega))
        have hz3 := Lib.hid (bw_block (bw_then ((Below.refl w2.heap.size w2).alloc (Nat.le_refl _) _) hb3) (bk_lt HZ2.out) HZ2.out)
        have HOW := Lib.hid hown
        have HIN := Lib.hid hin
        have HLN : Hid (ns.length ≤ 9223372036854775807) := Lib.hid hia.out.2.1
        clear hown hb3 hlen1 hin hrl hlen
        obtain ⟨n, hn⟩ : ∃ n, ofE ns t = n := ⟨_, rfl⟩
        rw [hn] at HOF
        have HN := Lib.hid hn
        clear hn c0 c1 cf
        go_wp2_with fail
        refine (HOF.out _ (hia.out.below (blw_alloc (Below.refl _ _) _))).mono ?_
        rintro e w4 ⟨ov, rfl, ⟨oa, ob, oc, od, os, rfl⟩, hb4⟩
        have hz4 := bk_below (bk_alloc hz3.out _) hb4
        have HZ4 := Lib.hid hz4
        have HB4 := Lib.hid (blw_then (blw_alloc hB3.out _) hb4)
        have hia4 := Lib.hid ((hia.out.below (blw_alloc (Below.refl _ _) _)).below hb4)
        obtain ⟨c0, c1, cf⟩ := cells2 hz4
        have hy4 := bk_below (bk_new w3 (.cells #[.slice (some ⟨q, 0, none⟩) ns.length cp, .string t] 42)) hb4
        obtain ⟨e0, e1, ef⟩ := cells2 hy4
        have hsz4 : w3.heap.size + 1 ≤ w4.heap.size := by have := hb4.size; simpa using this
        have hwz : w.heap.size < w4.heap.size := by omega
        have hwz3 : w3.heap.size < w4.heap.size := by omega
        have HO4 := Lib.hid (own_below (HOW.out.alloc _) hb4)
        clear hz4 hy4 hb4
        rcases hres with ⟨rfl, hrr⟩ | ⟨rfl, hrr⟩
        · subst hrr
          by_cases hn0 : n = 0
          · subst hn0
            have e : r = (ns, t.data.toList, 0) := by
              rw [HR3.out]
              show (if ofE ns (ba t.data.toList) = 0 then _ else _) = _
              rw [ba_data, HN.out, if_pos rfl]
            subst e
            clear HR3
            go_wp2
            refine bodyPost_ret (v := .tuple #[.agg #[.slice (some ⟨q, 0, none⟩) ns.length cp, .string t], .int .i64 0]) (res42 rfl rfl rfl (bk_alloc (store2 HZ4.out) _)) rfl ?_
            exact ⟨_, rfl, ⟨own_less ((out2 HO4.out HZ4.out _ _).alloc _) (Nat.le_trans hsz1 hsz2), HIN.out, HLN.out⟩, blw_alloc (bel2 HB4.out (Nat.le_refl _) _ _) _⟩
          · have hn1 : ((n : Int) != 0) = true := by rw [bne_iff_ne]; omega
            have hn2 : ((n : Int) == 0) = false := by rw [beq_eq_false_iff_ne]; omega
            have e : r = ([], [], 3) := by
              rw [HR3.out]
              show (if ofE ns (ba t.data.toList) = 0 then _ else _) = _
              rw [ba_data, HN.out, if_neg hn0]
            subst e
            clear HR3 hn0
            go_wp2
            refine bodyPost_ret (v := .tuple #[.agg #[.slice none 0 0, .string ⟨#[]⟩], .int .i64 3]) (res42 rfl rfl rfl (bk_alloc (store2 HZ4.out) _)) rfl ?_
            exact ⟨_, rfl, nilOwn _ _, blw_alloc (bel2 HB4.out (Nat.le_refl _) _ _) _⟩
        · subst hrr
          have e : r = ([], [], 3) := HR3.out
          subst e
          clear HR3
          go_wp2
          refine bodyPost_ret (v := .tuple #[.agg #[.slice none 0 0, .string ⟨#[]⟩], .int .i64 3]) (res42 rfl rfl rfl (bk_alloc (store2 HZ4.out) _)) rfl ?_
          exact ⟨_, rfl, nilOwn _ _, blw_alloc (bel2 HB4.out (Nat.le_refl _) _ _) _⟩
end Go.Proofs.YtgeaebcchjmmjaaDoor
