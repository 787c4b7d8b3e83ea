import PyProof.Rows.All
import Wide.All
import OpenK.AllK
import Wide.FinOn
import Open.SpecLaws
import KE.OsGo
import HandS.ForMost
import HandS.Walk
import HandS.Spec
import PySem.Challenge.RW_abacusways_s02_school
set_option Elab.async false
set_option linter.all false
set_option maxRecDepth 100000
set_option maxHeartbeats 4000000
namespace Ab
open PySem PySem.Spec PyProof.Rows L2
open PySem.W (Codec)
/-! ### bytes_of -/
def codes (z : Str) : List Int := z.cps.toList.map fun c => ((c : Nat) : Int)
def top (i : Nat) : Stmt := PySem.Challenge.pw_abacusways_s02_school.main.body.getD i (.Pass ⟨0, 0, 0, 0⟩)
abbrev sBytes : Stmt := top 1
abbrev sSchool : Stmt := top 9
def spBytes : Sp := fun vs H Q _ => ∃ z : Str, vs = [.str z] ∧ z.cps.size ≤ 5000 ∧ ∀ H' p, Same H H' → H' p = some (.lst ((codes z).map V.int)) → Q (.ref p) H'
def tx0 : Str := Str.ofString "set a 0\nwhile a<B\nadd [A+a] at C+a\nset a a+1\nend\n"
def tx1 : Str := Str.ofString "set a 0\nwhile a<B\nset b 0\nwhile b<D\nadd [A+a]*[C+b] at E+a+b\nset b b+1\nend\nset a a+1\nend\n"
def tx2 : Str := Str.ofString "set a 0\nset b 0\nwhile b<D\nif [C+b]>0\nset a 1\nend\nset b b+1\nend\nif a=0\nfail\nend\nset a B\nwhile a>0\nset a a-1\nset b 1\nwhile b=1\nset c B-a\nif c<D\nset c D\nend\nset d 0\nwhile c>0 and d=0\nset c c-1\nset e 0\nif c<B-a\nset e [A+a+c]\nend\nset f 0\nif c<D\nset f [C+c]\nend\nif e>f\nset d 1\nend\nif e<f\nset d 2\nend\nend\nif d=2\nset b 0\nelse\nset c 0\nwhile c<D\nif [C+c]>0\ntake [C+c] at A+a+c\nend\nset c c+1\nend\nadd 1 at E+a\nend\nend\nend\n"
def tx3 : Str := Str.ofString "set h 0\nwhile h+h<B\nset h h+1\nend\nset a h\nwhile a>0\nset a a-1\nset b 1\nwhile b=1\nadd 1 at G+a\nset c B-a\nif c<h+1\nset c h+1\nend\nset d 0\nwhile c>0 and d=0\nset c c-1\nset e 0\nif c<B-a\nset e [A+a+c]\nend\nset f 0\nif c<h+1\nset f [G+c]\nend\nif e>f\nset d 1\nend\nif e<f\nset d 2\nend\nend\nif d=2\ntake 1 at G+a\nset b 0\nelse\nset c 0\nwhile c<h+1\nif [G+c]>0\ntake [G+c] at A+a+c\nend\nset c c+1\nend\nadd 1 at G+a\nadd 1 at E+a\nend\nend\nend\n"
def txs : List Str := [tx0, tx1, tx2, tx3]
theorem tx_small : txs.all (fun z => decide (z.cps.size ≤ 5000)) = true := by decide +kernel
theorem tx_codes : txs.map codes = Na.school.map fun m => MvNeutral.ints (Mv.natsOf (Na.Method.text m)) := by decide +kernel
/-- what is answered -/
def school (k : Int) : List Int := match txs[k.toNat]? with
  | none => [-1]
  | some z => 0 :: codes z
theorem school_is (k : Int) (h : 0 ≤ k) : PyYqacda.school k = school k := by
  show MvNeutral.told (match Na.school[k.toNat]? with | none => Mv.Answer.refused 1 | some p => .nums (Mv.natsOf (Na.Method.text p))) = school k
  have e := congrArg (fun l => l[k.toNat]?) tx_codes
  simp only [List.getElem?_map] at e
  unfold school
  cases h1 : txs[k.toNat]? with
  | none =>
    rw [h1] at e
    cases h2 : Na.school[k.toNat]? with
    | none => rfl
    | some p => rw [h2] at e; cases e
  | some z =>
    rw [h1] at e
    cases h2 : Na.school[k.toNat]? with
    | none => rw [h2] at e; cases e
    | some p =>
      rw [h2] at e
      have e2 := Option.some.inj e
      exact (congrArg (fun l => (0 : Int) :: l) e2).symm
def spSchool (K : PySem.W.Frag) : Sp := fun vs H Q _ => ∃ k : Int, vs = [.int k] ∧ 0 ≤ k ∧ ∀ H' p, H' p = some (.lst ((school k).map V.int)) → Q (.ref p) H'
def GI (mg : Str → Option Value) (x : Str) (n : Int) : Prop := ∃ t, mg x = some (.int n t)
theorem pe_gi {X : Cx} {x : Str} {n : Int} {pos : Pos} (h : GI X.mg x n) (hg : Gl X x := by rfl) (hd : (x == ("__debug__" : Str)) = false := by decide) : PE X (.Name x pos) (tC (.int n)) := by
  obtain ⟨t, e⟩ := h
  exact pe_glob (v := .int n) hg e ⟨t, rfl⟩ hd
theorem pe_gr {X : Cx} {x : Str} {a : Addr} {pos : Pos} (h : X.mg x = some (.ref a)) (hg : Gl X x := by rfl) (hd : (x == ("__debug__" : Str)) = false := by decide) : PE X (.Name x pos) (tC (.ref a)) :=
  pe_glob (v := .ref a) hg h rfl hd
structure Txt (K : PySem.W.Frag) (mg : Str → Option Value) (fB aT : Addr) : Prop where
  gB : mg "bytes_of" = some (.ref fB)
  kB : PySem.W.keepIn K (.ref fB) = true
  gT : mg "TEXTS" = some (.ref aT)
  tT : ∀ H, SqT K H aT (txs.map V.str)
  bad : GI mg "BAD_CALL" (-1)
  len : mg "len" = none
  ord : mg "ord" = none
section
variable {P : Program} {w : World} {K : PySem.W.Frag} {mg : Str → Option Value} {base : Heap} {fB aT : Addr}
theorem scB : FnScope ["word", "sign"] ["word"] (defScope sBytes) := ⟨rfl, rfl, rfl, by decide +kernel, rfl, by decide +kernel, by decide +kernel⟩
theorem codes_take {z : Str} {i c : Nat} (h : z.cps[i]? = some c) : ((codes z).take (i + 1)).map V.int = ((codes z).take i).map V.int ++ [.int (c : Int)] := by
  have e : (codes z)[i]? = some (c : Int) := by
    unfold codes
    rw [List.getElem?_map]
    have : z.cps.toList[i]? = some c := by simpa using h
    rw [this]; rfl
  rw [List.take_add_one, e, List.map_append]
  rfl
theorem ok_bytes {f : Addr} {fd : FuncData} (F : Fun K "bytes_of" "bytes_of" sBytes f fd) (hord : mg "ord" = none) : FnOk P w K mg base CX0 1 f fd ["word"] spBytes := by
  refine F.ok scB (fun vs H Q E h => ?_) (fun cdv A outer s H vs Q E hr h => ?_)
  · obtain ⟨z, rfl, _⟩ := h
    rfl
  · obtain ⟨z, rfl, hz, k⟩ := h
    refine ⟨_, pss_one (ps_ret (pe_lc (own := [("sign", 1)]) (g := gName 1) (tt := tYes) rfl scB.nd (pi_str (pv 0)) (blkOk_by (N := ["word", "sign"]) (sc := defScope sBytes) (by decide +kernel)) (fun _ _ _ _ _ => pg_name (i := 1) scB.nd rfl (Or.inl rfl)) (fun _ _ _ _ _ => pts_nil)
      (fun _ _ _ _ _ => pe_callB call_ord (by rfl) hord (by decide +kernel) (pa_cons (pv 1) pa_nil)))), ?_⟩
    refine ⟨_, rfl, z, rfl, fun D hD => ?_⟩
    refine lc_it (walk_str (z := z)) (fun i H' => Same H H' ∧ H' D = some (.lst (((codes z).take i).map V.int))) ⟨fun b o e => by rw [upd_ne (ne_of_none e hD)]; exact e, upd_same⟩ (fun _ _ _ _ => trivial) ?_ ?_
    · rintro i x H1 H2 hi ⟨s1, h1⟩ ⟨rfl, c, hc, rfl⟩
      refine ⟨rfl, ?_⟩
      refine ⟨_, rfl, ⟨#[c]⟩, rfl, rfl, _, h1, ?_, fun b o e => ?_, ?_⟩
      · rw [List.length_map, List.length_take]
        have : (codes z).length = z.cps.size := by unfold codes; simp
        exact Nat.lt_of_le_of_lt (Nat.min_le_left _ _) (Nat.lt_of_lt_of_le hi (Nat.le_trans hz (by decide)))
      · rw [upd_ne (ne_of_none e hD)]
        exact s1 b o e
      · rw [upd_same, codes_take hc]
        rfl
    · rintro H1 ⟨s1, h1⟩
      refine k H1 D s1 ?_
      rw [h1]
      have : z.cps.size = (codes z).length := by unfold codes; simp
      rw [this, List.take_length]
theorem scS : FnScope ["k"] ["k"] (defScope sSchool) := ⟨rfl, rfl, rfl, by decide +kernel, rfl, by decide +kernel, by decide +kernel⟩
theorem ok_school {f : Addr} {fd fdB : FuncData} (F : Fun K "school" "school" sSchool f fd) (T : Txt K mg fB aT) (FB : Fun K "bytes_of" "bytes_of" sBytes fB fdB) (bB : Binds K fdB ["word"] []) : FnOk P w K mg base CX0 3 f fd ["k"] (spSchool K) := by
  have GB : FnOk P w K mg base CX0 1 fB fdB ["word"] spBytes := ok_bytes FB T.ord
  refine F.ok scS (fun vs H Q E h => ?_) (fun cdv A outer s H vs Q E hr h => ?_)
  · obtain ⟨z, rfl, _⟩ := h
    rfl
  · obtain ⟨n, rfl, hn, k⟩ := h
    have hr1 : Room 1 _ := hr.mono (by decide)
    refine ⟨_, pss_cons (ps_if (pt_cmpR op_ge (pv 0) (pe_callB call_len_seq (by rfl) T.len PySem.boot_len (pa_cons (pe_gr T.gT) pa_nil)) (nomark _)) (pss_one (ps_ret (pe_lst (pa_cons (pe_gi T.bad) pa_nil)))) pss_nil)
      (pss_one (ps_ret (pe_op op_cat (pe_lst (pa_cons pe_int pa_nil)) (pe_call GB hr1 rfl T.gB T.kB bB .nil pass0 (pa_cons (pe_ix ix_tup (pe_gr T.gT) (pv 0) (fun _ _ => rfl)) pa_nil))))), ?_⟩
    refine ⟨_, rfl, aT, _, rfl, .inr (T.tT _), _, _, rfl, rfl, _, rfl, ?_⟩
    have hlen : (txs.map V.str).length = 4 := rfl
    refine ite2 (fun c => ?_) (fun c => ?_)
    · have c : (4 : Int) ≤ n := of_decide_eq_true c
      refine ⟨by show 1 ≤ sizeLine; decide, fun p hp => k _ p ?_⟩
      have e : txs[n.toNat]? = none := List.getElem?_eq_none (by show 4 ≤ _; omega)
      unfold school
      rw [e]
      exact upd_same
    · have c : ¬ (4 : Int) ≤ n := fun q => c (decide_eq_true q)
      refine ⟨by show 1 ≤ sizeLine; decide, fun p hp => ?_⟩
      obtain ⟨j, rfl⟩ : ∃ j : Nat, n = (j : Int) := ⟨n.toNat, by omega⟩
      have hj : j < 4 := by omega
      obtain ⟨z, hz⟩ : ∃ z, txs[j]? = some z := ⟨txs[j]'hj, List.getElem?_eq_getElem hj⟩
      have hv : (txs.map V.str)[j]? = some (.str z) := by rw [List.getElem?_map, hz]; rfl
      have hsz : z.cps.size ≤ 5000 := of_decide_eq_true (List.all_eq_true.mp tx_small z (List.mem_of_getElem? hz))
      refine ⟨_, rfl, aT, _, _, _, rfl, rfl, T.tT _, atI_nat hv, ?_⟩
      refine ⟨z, rfl, hsz, fun H1 q s1 hq => ?_⟩
      have hpq : p ≠ q := fun e => by
        subst e
        have := s1 p _ upd_same
        rw [hq] at this
        have e2 := HO.lst.inj (Option.some.inj this)
        have e3 := congrArg List.length e2
        have hz0 : ∀ w ∈ txs, (codes w).length ≠ 1 := by
          intro w hw
          have := List.all_eq_true.mp (show txs.all (fun w => decide ((codes w).length ≠ 1)) = true by decide +kernel) w hw
          exact of_decide_eq_true this
        rw [List.length_map] at e3
        exact hz0 z (List.mem_of_getElem? hz) e3
      refine ⟨p, q, _, _, rfl, rfl, s1 p _ upd_same, hq, ?_, fun r hr2 => ?_⟩
      · show 1 + ((codes z).map V.int).length ≤ sizeLine
        have : (codes z).length = z.cps.size := by unfold codes; simp
        rw [List.length_map, this]
        exact Nat.le_trans (Nat.add_le_add_left hsz 1) (by decide)
      · refine k _ r ?_
        rw [upd_same]
        unfold school
        rw [show ((j : Int)).toNat = j from Int.toNat_natCast j, hz]
        rfl
theorem all_mk {P : Program} {w : World} {K : PySem.W.Frag} {h : Heap} {mg : Str → Option Value} {fa f1 f2 aT : Addr} (X : K.In h) (G : h.Ns mainGlobals mg) (hfa : mg "school" = some (.ref fa))
    {od1 an1 od2 an2 od3 : Option Addr} {sl1 sl2 sl3 : Array (Option Value)} {oc1 kV1 dc1 pm1 cd1 ct1 oc2 kV2 dc2 pm2 cd2 ct2 : Value} {n3 : Nat} {t1 t2 t3 t4 t5 : Tok}
    (a1 : PySem.W.nsIn K mainGlobals "bytes_of" = some (some (.ref f1))) (l1 : K.lookup f1 = some ⟨oc1, od1, .func (PySem.W.fnOf "bytes_of" "bytes_of" (defArgs sBytes) (defBody sBytes) (defScope sBytes) .none kV1 dc1 pm1 an1 cd1 ct1), sl1⟩) (c1 : PySem.W.codeIn K cd1 "bytes_of" = true) (k1 : PySem.W.keepIn K (.ref f1) = true)
    (a2 : PySem.W.nsIn K mainGlobals "school" = some (some (.ref f2))) (l2 : K.lookup f2 = some ⟨oc2, od2, .func (PySem.W.fnOf "school" "school" (defArgs sSchool) (defBody sSchool) (defScope sSchool) .none kV2 dc2 pm2 an2 cd2 ct2), sl2⟩) (c2 : PySem.W.codeIn K cd2 "school" = true) (k2 : PySem.W.keepIn K (.ref f2) = true)
    (aTx : PySem.W.nsIn K mainGlobals "TEXTS" = some (some (.ref aT))) (lT : K.lookup aT = some ⟨.type "tuple", od3, .seq #[.str tx0 t1, .str tx1 t2, .str tx2 t3, .str tx3 t4] n3, sl3⟩)
    (aB : PySem.W.nsIn K mainGlobals "BAD_CALL" = some (some (.int (-1) t5))) (zL : PySem.W.nsIn K mainGlobals "len" = some none) (zO : PySem.W.nsIn K mainGlobals "ord" = some none) :
    ∃ fd : FuncData, (∀ (s : Shared) (us : List Value), us.length = (["k"] : List Str).length → BindsTo s fd ⟨us, []⟩ ((["k"] : List Str).zip us)) ∧ ∀ base : Heap, K.In base → base.Ns mainGlobals mg → FnOk P w K mg base CX0 3 fa fd ["k"] (spSchool K) := by
  have e := hfa.symm.trans (PySem.W.mg_of X G a2)
  cases e
  have T : Txt K mg f1 aT := ⟨PySem.W.mg_of X G a1, k1, PySem.W.mg_of X G aTx, fun H => .inr ⟨_, _, _, lT, rfl, rfl, (show 4 ≤ sizeLine by decide), .cons ⟨_, rfl⟩ (.cons ⟨_, rfl⟩ (.cons ⟨_, rfl⟩ (.cons ⟨_, rfl⟩ .nil)))⟩, ⟨_, PySem.W.mg_of X G aB⟩, PySem.W.mg_none_of X G zL, PySem.W.mg_none_of X G zO⟩
  have F1 := fun_mk (st := sBytes) l1 c1 k1
  have F2 := fun_mk (st := sSchool) l2 c2 k2
  have b1 := F1.binds (ps := ["word"]) fun _ _ _ _ _ _ us hl => match us, hl with | [_], _ => rfl
  exact ⟨PySem.W.fnOf "school" "school" (defArgs sSchool) (defBody sSchool) (defScope sSchool) .none kV2 dc2 pm2 an2 cd2 ct2, fun s us hu => match us, hu with | [_], _ => .of_eq rfl, fun base _ _ => ok_school F2 T F1 b1⟩
end
end Ab
open PySem PySem.W PyProof.Rows
set_option maxRecDepth 100000 in
set_option maxHeartbeats 8000000 in
theorem PySem.Challenge.cw_abacusways_s02_school_holds : PySem.Challenge.rw_abacusways_s02_school.Holds := by
  w_on; k_headS; (case hw => exact ⟨[.int 0], by decide +kernel, by decide +kernel⟩)
  k_fillS
  refine L2.walk_specK (r := PySem.Challenge.rw_abacusways_s02_school) (k := 3) (CX := L2.CX0) (ps := ["k"]) (sp := Ab.spSchool) (by decide +kernel) rfl rfl ⟨rfl, by decide, by decide⟩ (fun w h Y => PySem.W.kIn_of Y) ?F ?S (fun _ _ _ _ z => z)
  case F =>
    intro w mg fa h Y KX G hmg
    refine' Ab.all_mk KX G hmg ?a1 ?l1 ?c1 ?k1 ?a2 ?l2 ?c2 ?k2 ?aTx ?lT ?aB ?zL ?zO
    (case a1 => k_is); (case l1 => k_is); (case c1 => k_is); (case k1 => k_is)
    (case a2 => k_is); (case l2 => k_is); (case c2 => k_is); (case k2 => k_is)
    (case aTx => k_is); (case lT => k_is); (case aB => k_is); (case zL => k_is); (case zO => k_is)
  case S =>
    intro K H xs a hO hwi hask hx
    cases hx with
    | cons h1 h2 =>
      cases h2
      cases h1
      have hb : (Codec.int 0 4294967295).within a.1 = true := (Bool.and_eq_true_iff.mp hwi).1
      have h0 : 0 ≤ a.1 := by
        have z : (decide ((0 : Int) ≤ a.1) && decide (a.1 ≤ (4294967295 : Int))) = true := hb
        exact of_decide_eq_true (Bool.and_eq_true_iff.mp z).1
      refine ⟨a.1, rfl, h0, fun H' p hp => ?_⟩
      rw [← Ab.school_is a.1 h0] at hp
      exact .lst (L2.SqL.of hp) (L2.dw_ints _)
#print axioms PySem.Challenge.cw_abacusways_s02_school_holds
