/- Definitions of a ghost evaluator over the translated code; nothing is proved here. No conditions. -/
import Derived.Orders
import Derived.Scope
import Derived.KernelRfl
namespace Go.Ev

/-- Binary numerals: names of ghost blocks, of slots, of functions. -/
inductive Pos where
  | h
  | o (p : Pos)
  | i (p : Pos)

noncomputable section

def q0 : Pos := .h
def q1 : Pos := (.o .h)
def q2 : Pos := (.i .h)
def q3 : Pos := (.o (.o .h))
def q4 : Pos := (.i (.o .h))
def q5 : Pos := (.o (.i .h))
def q6 : Pos := (.i (.i .h))
def q7 : Pos := (.o (.o (.o .h)))
def q8 : Pos := (.i (.o (.o .h)))
def q9 : Pos := (.o (.i (.o .h)))
def q10 : Pos := (.i (.i (.o .h)))
def q11 : Pos := (.o (.o (.i .h)))
def q12 : Pos := (.i (.o (.i .h)))
def q13 : Pos := (.o (.i (.i .h)))
def q14 : Pos := (.i (.i (.i .h)))
def q15 : Pos := (.o (.o (.o (.o .h))))
def q16 : Pos := (.i (.o (.o (.o .h))))
def q17 : Pos := (.o (.i (.o (.o .h))))
def q18 : Pos := (.i (.i (.o (.o .h))))
def q19 : Pos := (.o (.o (.i (.o .h))))
def q20 : Pos := (.i (.o (.i (.o .h))))
def q21 : Pos := (.o (.i (.i (.o .h))))
def q22 : Pos := (.i (.i (.i (.o .h))))
def q23 : Pos := (.o (.o (.o (.i .h))))
def q24 : Pos := (.i (.o (.o (.i .h))))
def q25 : Pos := (.o (.i (.o (.i .h))))
def q26 : Pos := (.i (.i (.o (.i .h))))
def q27 : Pos := (.o (.o (.i (.i .h))))
def q28 : Pos := (.i (.o (.i (.i .h))))
def q29 : Pos := (.o (.i (.i (.i .h))))
def q30 : Pos := (.i (.i (.i (.i .h))))
def q31 : Pos := (.o (.o (.o (.o (.o .h)))))
def q32 : Pos := (.i (.o (.o (.o (.o .h)))))
def q33 : Pos := (.o (.i (.o (.o (.o .h)))))
def q34 : Pos := (.i (.i (.o (.o (.o .h)))))
def q35 : Pos := (.o (.o (.i (.o (.o .h)))))
def q36 : Pos := (.i (.o (.i (.o (.o .h)))))
def q37 : Pos := (.o (.i (.i (.o (.o .h)))))
def q38 : Pos := (.i (.i (.i (.o (.o .h)))))
def q39 : Pos := (.o (.o (.o (.i (.o .h)))))
def q40 : Pos := (.i (.o (.o (.i (.o .h)))))
def q41 : Pos := (.o (.i (.o (.i (.o .h)))))
def q42 : Pos := (.i (.i (.o (.i (.o .h)))))
def q43 : Pos := (.o (.o (.i (.i (.o .h)))))
def q44 : Pos := (.i (.o (.i (.i (.o .h)))))
def q45 : Pos := (.o (.i (.i (.i (.o .h)))))
def q46 : Pos := (.i (.i (.i (.i (.o .h)))))
def q47 : Pos := (.o (.o (.o (.o (.i .h)))))
def q48 : Pos := (.i (.o (.o (.o (.i .h)))))
def q49 : Pos := (.o (.i (.o (.o (.i .h)))))
def q50 : Pos := (.i (.i (.o (.o (.i .h)))))
def q51 : Pos := (.o (.o (.i (.o (.i .h)))))
def q52 : Pos := (.i (.o (.i (.o (.i .h)))))
def q53 : Pos := (.o (.i (.i (.o (.i .h)))))
def q54 : Pos := (.i (.i (.i (.o (.i .h)))))
def q55 : Pos := (.o (.o (.o (.i (.i .h)))))
def q56 : Pos := (.i (.o (.o (.i (.i .h)))))
def q57 : Pos := (.o (.i (.o (.i (.i .h)))))
def q58 : Pos := (.i (.i (.o (.i (.i .h)))))
def q59 : Pos := (.o (.o (.i (.i (.i .h)))))
def q60 : Pos := (.i (.o (.i (.i (.i .h)))))
def q61 : Pos := (.o (.i (.i (.i (.i .h)))))
def q62 : Pos := (.i (.i (.i (.i (.i .h)))))
def q63 : Pos := (.o (.o (.o (.o (.o (.o .h))))))
def q64 : Pos := (.i (.o (.o (.o (.o (.o .h))))))
def q65 : Pos := (.o (.i (.o (.o (.o (.o .h))))))
def q66 : Pos := (.i (.i (.o (.o (.o (.o .h))))))
def q67 : Pos := (.o (.o (.i (.o (.o (.o .h))))))
def q68 : Pos := (.i (.o (.i (.o (.o (.o .h))))))
def q69 : Pos := (.o (.i (.i (.o (.o (.o .h))))))
def q70 : Pos := (.i (.i (.i (.o (.o (.o .h))))))
def q71 : Pos := (.o (.o (.o (.i (.o (.o .h))))))
def q72 : Pos := (.i (.o (.o (.i (.o (.o .h))))))
def q73 : Pos := (.o (.i (.o (.i (.o (.o .h))))))
def q74 : Pos := (.i (.i (.o (.i (.o (.o .h))))))
def q75 : Pos := (.o (.o (.i (.i (.o (.o .h))))))
def q76 : Pos := (.i (.o (.i (.i (.o (.o .h))))))
def q77 : Pos := (.o (.i (.i (.i (.o (.o .h))))))
def q78 : Pos := (.i (.i (.i (.i (.o (.o .h))))))
def q79 : Pos := (.o (.o (.o (.o (.i (.o .h))))))
def q80 : Pos := (.i (.o (.o (.o (.i (.o .h))))))
def q81 : Pos := (.o (.i (.o (.o (.i (.o .h))))))
def q82 : Pos := (.i (.i (.o (.o (.i (.o .h))))))
def q83 : Pos := (.o (.o (.i (.o (.i (.o .h))))))
def q84 : Pos := (.i (.o (.i (.o (.i (.o .h))))))
def q85 : Pos := (.o (.i (.i (.o (.i (.o .h))))))
def q86 : Pos := (.i (.i (.i (.o (.i (.o .h))))))
def q87 : Pos := (.o (.o (.o (.i (.i (.o .h))))))
def q88 : Pos := (.i (.o (.o (.i (.i (.o .h))))))
def q89 : Pos := (.o (.i (.o (.i (.i (.o .h))))))
def q90 : Pos := (.i (.i (.o (.i (.i (.o .h))))))
def q91 : Pos := (.o (.o (.i (.i (.i (.o .h))))))
def q92 : Pos := (.i (.o (.i (.i (.i (.o .h))))))
def q93 : Pos := (.o (.i (.i (.i (.i (.o .h))))))
def q94 : Pos := (.i (.i (.i (.i (.i (.o .h))))))
def q95 : Pos := (.o (.o (.o (.o (.o (.i .h))))))
def q96 : Pos := (.i (.o (.o (.o (.o (.i .h))))))
def q97 : Pos := (.o (.i (.o (.o (.o (.i .h))))))
def q98 : Pos := (.i (.i (.o (.o (.o (.i .h))))))
def q99 : Pos := (.o (.o (.i (.o (.o (.i .h))))))
def q100 : Pos := (.i (.o (.i (.o (.o (.i .h))))))
def q101 : Pos := (.o (.i (.i (.o (.o (.i .h))))))
def q102 : Pos := (.i (.i (.i (.o (.o (.i .h))))))
def q103 : Pos := (.o (.o (.o (.i (.o (.i .h))))))
def q104 : Pos := (.i (.o (.o (.i (.o (.i .h))))))
def q105 : Pos := (.o (.i (.o (.i (.o (.i .h))))))
def q106 : Pos := (.i (.i (.o (.i (.o (.i .h))))))
def q107 : Pos := (.o (.o (.i (.i (.o (.i .h))))))
def q108 : Pos := (.i (.o (.i (.i (.o (.i .h))))))
def q109 : Pos := (.o (.i (.i (.i (.o (.i .h))))))
def q110 : Pos := (.i (.i (.i (.i (.o (.i .h))))))
def q111 : Pos := (.o (.o (.o (.o (.i (.i .h))))))
def q112 : Pos := (.i (.o (.o (.o (.i (.i .h))))))
def q113 : Pos := (.o (.i (.o (.o (.i (.i .h))))))
def q114 : Pos := (.i (.i (.o (.o (.i (.i .h))))))
def q115 : Pos := (.o (.o (.i (.o (.i (.i .h))))))
def q116 : Pos := (.i (.o (.i (.o (.i (.i .h))))))
def q117 : Pos := (.o (.i (.i (.o (.i (.i .h))))))
def q118 : Pos := (.i (.i (.i (.o (.i (.i .h))))))
def q119 : Pos := (.o (.o (.o (.i (.i (.i .h))))))
def q120 : Pos := (.i (.o (.o (.i (.i (.i .h))))))
def q121 : Pos := (.o (.i (.o (.i (.i (.i .h))))))
def q122 : Pos := (.i (.i (.o (.i (.i (.i .h))))))
def q123 : Pos := (.o (.o (.i (.i (.i (.i .h))))))
def q124 : Pos := (.i (.o (.i (.i (.i (.i .h))))))
def q125 : Pos := (.o (.i (.i (.i (.i (.i .h))))))
def q126 : Pos := (.i (.i (.i (.i (.i (.i .h))))))
def q127 : Pos := (.o (.o (.o (.o (.o (.o (.o .h)))))))
def q128 : Pos := (.i (.o (.o (.o (.o (.o (.o .h)))))))
def q129 : Pos := (.o (.i (.o (.o (.o (.o (.o .h)))))))
def q130 : Pos := (.i (.i (.o (.o (.o (.o (.o .h)))))))
def q131 : Pos := (.o (.o (.i (.o (.o (.o (.o .h)))))))
def q132 : Pos := (.i (.o (.i (.o (.o (.o (.o .h)))))))
def q133 : Pos := (.o (.i (.i (.o (.o (.o (.o .h)))))))
def q134 : Pos := (.i (.i (.i (.o (.o (.o (.o .h)))))))
def q135 : Pos := (.o (.o (.o (.i (.o (.o (.o .h)))))))
def q136 : Pos := (.i (.o (.o (.i (.o (.o (.o .h)))))))
def q137 : Pos := (.o (.i (.o (.i (.o (.o (.o .h)))))))
def q138 : Pos := (.i (.i (.o (.i (.o (.o (.o .h)))))))
def q139 : Pos := (.o (.o (.i (.i (.o (.o (.o .h)))))))
def q140 : Pos := (.i (.o (.i (.i (.o (.o (.o .h)))))))
def q141 : Pos := (.o (.i (.i (.i (.o (.o (.o .h)))))))
def q142 : Pos := (.i (.i (.i (.i (.o (.o (.o .h)))))))
def q143 : Pos := (.o (.o (.o (.o (.i (.o (.o .h)))))))
def q144 : Pos := (.i (.o (.o (.o (.i (.o (.o .h)))))))
def q145 : Pos := (.o (.i (.o (.o (.i (.o (.o .h)))))))
def q146 : Pos := (.i (.i (.o (.o (.i (.o (.o .h)))))))
def q147 : Pos := (.o (.o (.i (.o (.i (.o (.o .h)))))))
def q148 : Pos := (.i (.o (.i (.o (.i (.o (.o .h)))))))
def q149 : Pos := (.o (.i (.i (.o (.i (.o (.o .h)))))))
def q150 : Pos := (.i (.i (.i (.o (.i (.o (.o .h)))))))
def q151 : Pos := (.o (.o (.o (.i (.i (.o (.o .h)))))))
def q152 : Pos := (.i (.o (.o (.i (.i (.o (.o .h)))))))
def q153 : Pos := (.o (.i (.o (.i (.i (.o (.o .h)))))))
def q154 : Pos := (.i (.i (.o (.i (.i (.o (.o .h)))))))
def q155 : Pos := (.o (.o (.i (.i (.i (.o (.o .h)))))))
def q156 : Pos := (.i (.o (.i (.i (.i (.o (.o .h)))))))
def q157 : Pos := (.o (.i (.i (.i (.i (.o (.o .h)))))))
def q158 : Pos := (.i (.i (.i (.i (.i (.o (.o .h)))))))
def q159 : Pos := (.o (.o (.o (.o (.o (.i (.o .h)))))))
def q160 : Pos := (.i (.o (.o (.o (.o (.i (.o .h)))))))
def q161 : Pos := (.o (.i (.o (.o (.o (.i (.o .h)))))))
def q162 : Pos := (.i (.i (.o (.o (.o (.i (.o .h)))))))
def q163 : Pos := (.o (.o (.i (.o (.o (.i (.o .h)))))))
def q164 : Pos := (.i (.o (.i (.o (.o (.i (.o .h)))))))
def q165 : Pos := (.o (.i (.i (.o (.o (.i (.o .h)))))))
def q166 : Pos := (.i (.i (.i (.o (.o (.i (.o .h)))))))
def q167 : Pos := (.o (.o (.o (.i (.o (.i (.o .h)))))))
def q168 : Pos := (.i (.o (.o (.i (.o (.i (.o .h)))))))
def q169 : Pos := (.o (.i (.o (.i (.o (.i (.o .h)))))))
def q170 : Pos := (.i (.i (.o (.i (.o (.i (.o .h)))))))
def q171 : Pos := (.o (.o (.i (.i (.o (.i (.o .h)))))))
def q172 : Pos := (.i (.o (.i (.i (.o (.i (.o .h)))))))
def q173 : Pos := (.o (.i (.i (.i (.o (.i (.o .h)))))))
def q174 : Pos := (.i (.i (.i (.i (.o (.i (.o .h)))))))
def q175 : Pos := (.o (.o (.o (.o (.i (.i (.o .h)))))))
def q176 : Pos := (.i (.o (.o (.o (.i (.i (.o .h)))))))
def q177 : Pos := (.o (.i (.o (.o (.i (.i (.o .h)))))))
def q178 : Pos := (.i (.i (.o (.o (.i (.i (.o .h)))))))
def q179 : Pos := (.o (.o (.i (.o (.i (.i (.o .h)))))))
def q180 : Pos := (.i (.o (.i (.o (.i (.i (.o .h)))))))
def q181 : Pos := (.o (.i (.i (.o (.i (.i (.o .h)))))))
def q182 : Pos := (.i (.i (.i (.o (.i (.i (.o .h)))))))
def q183 : Pos := (.o (.o (.o (.i (.i (.i (.o .h)))))))
def q184 : Pos := (.i (.o (.o (.i (.i (.i (.o .h)))))))
def q185 : Pos := (.o (.i (.o (.i (.i (.i (.o .h)))))))
def q186 : Pos := (.i (.i (.o (.i (.i (.i (.o .h)))))))
def q187 : Pos := (.o (.o (.i (.i (.i (.i (.o .h)))))))
def q188 : Pos := (.i (.o (.i (.i (.i (.i (.o .h)))))))
def q189 : Pos := (.o (.i (.i (.i (.i (.i (.o .h)))))))
def q190 : Pos := (.i (.i (.i (.i (.i (.i (.o .h)))))))
def q191 : Pos := (.o (.o (.o (.o (.o (.o (.i .h)))))))
def q192 : Pos := (.i (.o (.o (.o (.o (.o (.i .h)))))))
def q193 : Pos := (.o (.i (.o (.o (.o (.o (.i .h)))))))
def q194 : Pos := (.i (.i (.o (.o (.o (.o (.i .h)))))))
def q195 : Pos := (.o (.o (.i (.o (.o (.o (.i .h)))))))
def q196 : Pos := (.i (.o (.i (.o (.o (.o (.i .h)))))))
def q197 : Pos := (.o (.i (.i (.o (.o (.o (.i .h)))))))
def q198 : Pos := (.i (.i (.i (.o (.o (.o (.i .h)))))))
def q199 : Pos := (.o (.o (.o (.i (.o (.o (.i .h)))))))
def q200 : Pos := (.i (.o (.o (.i (.o (.o (.i .h)))))))
def q201 : Pos := (.o (.i (.o (.i (.o (.o (.i .h)))))))
def q202 : Pos := (.i (.i (.o (.i (.o (.o (.i .h)))))))
def q203 : Pos := (.o (.o (.i (.i (.o (.o (.i .h)))))))
def q204 : Pos := (.i (.o (.i (.i (.o (.o (.i .h)))))))
def q205 : Pos := (.o (.i (.i (.i (.o (.o (.i .h)))))))
def q206 : Pos := (.i (.i (.i (.i (.o (.o (.i .h)))))))
def q207 : Pos := (.o (.o (.o (.o (.i (.o (.i .h)))))))
def q208 : Pos := (.i (.o (.o (.o (.i (.o (.i .h)))))))
def q209 : Pos := (.o (.i (.o (.o (.i (.o (.i .h)))))))
def q210 : Pos := (.i (.i (.o (.o (.i (.o (.i .h)))))))
def q211 : Pos := (.o (.o (.i (.o (.i (.o (.i .h)))))))
def q212 : Pos := (.i (.o (.i (.o (.i (.o (.i .h)))))))
def q213 : Pos := (.o (.i (.i (.o (.i (.o (.i .h)))))))
def q214 : Pos := (.i (.i (.i (.o (.i (.o (.i .h)))))))
def q215 : Pos := (.o (.o (.o (.i (.i (.o (.i .h)))))))
def q216 : Pos := (.i (.o (.o (.i (.i (.o (.i .h)))))))
def q217 : Pos := (.o (.i (.o (.i (.i (.o (.i .h)))))))
def q218 : Pos := (.i (.i (.o (.i (.i (.o (.i .h)))))))
def q219 : Pos := (.o (.o (.i (.i (.i (.o (.i .h)))))))
def q220 : Pos := (.i (.o (.i (.i (.i (.o (.i .h)))))))
def q221 : Pos := (.o (.i (.i (.i (.i (.o (.i .h)))))))
def q222 : Pos := (.i (.i (.i (.i (.i (.o (.i .h)))))))
def q223 : Pos := (.o (.o (.o (.o (.o (.i (.i .h)))))))
def q224 : Pos := (.i (.o (.o (.o (.o (.i (.i .h)))))))
def q225 : Pos := (.o (.i (.o (.o (.o (.i (.i .h)))))))
def q226 : Pos := (.i (.i (.o (.o (.o (.i (.i .h)))))))
def q227 : Pos := (.o (.o (.i (.o (.o (.i (.i .h)))))))
def q228 : Pos := (.i (.o (.i (.o (.o (.i (.i .h)))))))
def q229 : Pos := (.o (.i (.i (.o (.o (.i (.i .h)))))))
def q230 : Pos := (.i (.i (.i (.o (.o (.i (.i .h)))))))
def q231 : Pos := (.o (.o (.o (.i (.o (.i (.i .h)))))))
def q232 : Pos := (.i (.o (.o (.i (.o (.i (.i .h)))))))
def q233 : Pos := (.o (.i (.o (.i (.o (.i (.i .h)))))))
def q234 : Pos := (.i (.i (.o (.i (.o (.i (.i .h)))))))
def q235 : Pos := (.o (.o (.i (.i (.o (.i (.i .h)))))))
def q236 : Pos := (.i (.o (.i (.i (.o (.i (.i .h)))))))
def q237 : Pos := (.o (.i (.i (.i (.o (.i (.i .h)))))))
def q238 : Pos := (.i (.i (.i (.i (.o (.i (.i .h)))))))
def q239 : Pos := (.o (.o (.o (.o (.i (.i (.i .h)))))))
def q240 : Pos := (.i (.o (.o (.o (.i (.i (.i .h)))))))
def q241 : Pos := (.o (.i (.o (.o (.i (.i (.i .h)))))))
def q242 : Pos := (.i (.i (.o (.o (.i (.i (.i .h)))))))
def q243 : Pos := (.o (.o (.i (.o (.i (.i (.i .h)))))))
def q244 : Pos := (.i (.o (.i (.o (.i (.i (.i .h)))))))
def q245 : Pos := (.o (.i (.i (.o (.i (.i (.i .h)))))))
def q246 : Pos := (.i (.i (.i (.o (.i (.i (.i .h)))))))
def q247 : Pos := (.o (.o (.o (.i (.i (.i (.i .h)))))))
def q248 : Pos := (.i (.o (.o (.i (.i (.i (.i .h)))))))
def q249 : Pos := (.o (.i (.o (.i (.i (.i (.i .h)))))))
def q250 : Pos := (.i (.i (.o (.i (.i (.i (.i .h)))))))
def q251 : Pos := (.o (.o (.i (.i (.i (.i (.i .h)))))))
def q252 : Pos := (.i (.o (.i (.i (.i (.i (.i .h)))))))
def q253 : Pos := (.o (.i (.i (.i (.i (.i (.i .h)))))))
def q254 : Pos := (.i (.i (.i (.i (.i (.i (.i .h)))))))
def q255 : Pos := (.o (.o (.o (.o (.o (.o (.o (.o .h))))))))
def q256 : Pos := (.i (.o (.o (.o (.o (.o (.o (.o .h))))))))
def q257 : Pos := (.o (.i (.o (.o (.o (.o (.o (.o .h))))))))
def q258 : Pos := (.i (.i (.o (.o (.o (.o (.o (.o .h))))))))
def q259 : Pos := (.o (.o (.i (.o (.o (.o (.o (.o .h))))))))
def q260 : Pos := (.i (.o (.i (.o (.o (.o (.o (.o .h))))))))
def q261 : Pos := (.o (.i (.i (.o (.o (.o (.o (.o .h))))))))
def q262 : Pos := (.i (.i (.i (.o (.o (.o (.o (.o .h))))))))
def q263 : Pos := (.o (.o (.o (.i (.o (.o (.o (.o .h))))))))
def q264 : Pos := (.i (.o (.o (.i (.o (.o (.o (.o .h))))))))
def q265 : Pos := (.o (.i (.o (.i (.o (.o (.o (.o .h))))))))
def q266 : Pos := (.i (.i (.o (.i (.o (.o (.o (.o .h))))))))
def q267 : Pos := (.o (.o (.i (.i (.o (.o (.o (.o .h))))))))
def q268 : Pos := (.i (.o (.i (.i (.o (.o (.o (.o .h))))))))
def q269 : Pos := (.o (.i (.i (.i (.o (.o (.o (.o .h))))))))
def q270 : Pos := (.i (.i (.i (.i (.o (.o (.o (.o .h))))))))
def q271 : Pos := (.o (.o (.o (.o (.i (.o (.o (.o .h))))))))
def q272 : Pos := (.i (.o (.o (.o (.i (.o (.o (.o .h))))))))
def q273 : Pos := (.o (.i (.o (.o (.i (.o (.o (.o .h))))))))
def q274 : Pos := (.i (.i (.o (.o (.i (.o (.o (.o .h))))))))
def q275 : Pos := (.o (.o (.i (.o (.i (.o (.o (.o .h))))))))
def q276 : Pos := (.i (.o (.i (.o (.i (.o (.o (.o .h))))))))
def q277 : Pos := (.o (.i (.i (.o (.i (.o (.o (.o .h))))))))
def q278 : Pos := (.i (.i (.i (.o (.i (.o (.o (.o .h))))))))
def q279 : Pos := (.o (.o (.o (.i (.i (.o (.o (.o .h))))))))
def q280 : Pos := (.i (.o (.o (.i (.i (.o (.o (.o .h))))))))
def q281 : Pos := (.o (.i (.o (.i (.i (.o (.o (.o .h))))))))
def q282 : Pos := (.i (.i (.o (.i (.i (.o (.o (.o .h))))))))
def q283 : Pos := (.o (.o (.i (.i (.i (.o (.o (.o .h))))))))
def q284 : Pos := (.i (.o (.i (.i (.i (.o (.o (.o .h))))))))
def q285 : Pos := (.o (.i (.i (.i (.i (.o (.o (.o .h))))))))
def q286 : Pos := (.i (.i (.i (.i (.i (.o (.o (.o .h))))))))
def q287 : Pos := (.o (.o (.o (.o (.o (.i (.o (.o .h))))))))
def q288 : Pos := (.i (.o (.o (.o (.o (.i (.o (.o .h))))))))
def q289 : Pos := (.o (.i (.o (.o (.o (.i (.o (.o .h))))))))
def q290 : Pos := (.i (.i (.o (.o (.o (.i (.o (.o .h))))))))
def q291 : Pos := (.o (.o (.i (.o (.o (.i (.o (.o .h))))))))
def q292 : Pos := (.i (.o (.i (.o (.o (.i (.o (.o .h))))))))
def q293 : Pos := (.o (.i (.i (.o (.o (.i (.o (.o .h))))))))
def q294 : Pos := (.i (.i (.i (.o (.o (.i (.o (.o .h))))))))
def q295 : Pos := (.o (.o (.o (.i (.o (.i (.o (.o .h))))))))
def q296 : Pos := (.i (.o (.o (.i (.o (.i (.o (.o .h))))))))
def q297 : Pos := (.o (.i (.o (.i (.o (.i (.o (.o .h))))))))
def q298 : Pos := (.i (.i (.o (.i (.o (.i (.o (.o .h))))))))
def q299 : Pos := (.o (.o (.i (.i (.o (.i (.o (.o .h))))))))
def q300 : Pos := (.i (.o (.i (.i (.o (.i (.o (.o .h))))))))
def q301 : Pos := (.o (.i (.i (.i (.o (.i (.o (.o .h))))))))
def q302 : Pos := (.i (.i (.i (.i (.o (.i (.o (.o .h))))))))
def q303 : Pos := (.o (.o (.o (.o (.i (.i (.o (.o .h))))))))
def q304 : Pos := (.i (.o (.o (.o (.i (.i (.o (.o .h))))))))
def q305 : Pos := (.o (.i (.o (.o (.i (.i (.o (.o .h))))))))
def q306 : Pos := (.i (.i (.o (.o (.i (.i (.o (.o .h))))))))
def q307 : Pos := (.o (.o (.i (.o (.i (.i (.o (.o .h))))))))
def q308 : Pos := (.i (.o (.i (.o (.i (.i (.o (.o .h))))))))
def q309 : Pos := (.o (.i (.i (.o (.i (.i (.o (.o .h))))))))
def q310 : Pos := (.i (.i (.i (.o (.i (.i (.o (.o .h))))))))
def q311 : Pos := (.o (.o (.o (.i (.i (.i (.o (.o .h))))))))
def q312 : Pos := (.i (.o (.o (.i (.i (.i (.o (.o .h))))))))
def q313 : Pos := (.o (.i (.o (.i (.i (.i (.o (.o .h))))))))
def q314 : Pos := (.i (.i (.o (.i (.i (.i (.o (.o .h))))))))
def q315 : Pos := (.o (.o (.i (.i (.i (.i (.o (.o .h))))))))
def q316 : Pos := (.i (.o (.i (.i (.i (.i (.o (.o .h))))))))
def q317 : Pos := (.o (.i (.i (.i (.i (.i (.o (.o .h))))))))
def q318 : Pos := (.i (.i (.i (.i (.i (.i (.o (.o .h))))))))
def q319 : Pos := (.o (.o (.o (.o (.o (.o (.i (.o .h))))))))
def q320 : Pos := (.i (.o (.o (.o (.o (.o (.i (.o .h))))))))
def q321 : Pos := (.o (.i (.o (.o (.o (.o (.i (.o .h))))))))
def q322 : Pos := (.i (.i (.o (.o (.o (.o (.i (.o .h))))))))
def q323 : Pos := (.o (.o (.i (.o (.o (.o (.i (.o .h))))))))
def q324 : Pos := (.i (.o (.i (.o (.o (.o (.i (.o .h))))))))
def q325 : Pos := (.o (.i (.i (.o (.o (.o (.i (.o .h))))))))
def q326 : Pos := (.i (.i (.i (.o (.o (.o (.i (.o .h))))))))
def q327 : Pos := (.o (.o (.o (.i (.o (.o (.i (.o .h))))))))
def q328 : Pos := (.i (.o (.o (.i (.o (.o (.i (.o .h))))))))
def q329 : Pos := (.o (.i (.o (.i (.o (.o (.i (.o .h))))))))
def q330 : Pos := (.i (.i (.o (.i (.o (.o (.i (.o .h))))))))
def q331 : Pos := (.o (.o (.i (.i (.o (.o (.i (.o .h))))))))
def q332 : Pos := (.i (.o (.i (.i (.o (.o (.i (.o .h))))))))
def q333 : Pos := (.o (.i (.i (.i (.o (.o (.i (.o .h))))))))
def q334 : Pos := (.i (.i (.i (.i (.o (.o (.i (.o .h))))))))
def q335 : Pos := (.o (.o (.o (.o (.i (.o (.i (.o .h))))))))
def q336 : Pos := (.i (.o (.o (.o (.i (.o (.i (.o .h))))))))
def q337 : Pos := (.o (.i (.o (.o (.i (.o (.i (.o .h))))))))
def q338 : Pos := (.i (.i (.o (.o (.i (.o (.i (.o .h))))))))
def q339 : Pos := (.o (.o (.i (.o (.i (.o (.i (.o .h))))))))
def q340 : Pos := (.i (.o (.i (.o (.i (.o (.i (.o .h))))))))
def q341 : Pos := (.o (.i (.i (.o (.i (.o (.i (.o .h))))))))
def q342 : Pos := (.i (.i (.i (.o (.i (.o (.i (.o .h))))))))
def q343 : Pos := (.o (.o (.o (.i (.i (.o (.i (.o .h))))))))
def q344 : Pos := (.i (.o (.o (.i (.i (.o (.i (.o .h))))))))
def q345 : Pos := (.o (.i (.o (.i (.i (.o (.i (.o .h))))))))
def q346 : Pos := (.i (.i (.o (.i (.i (.o (.i (.o .h))))))))
def q347 : Pos := (.o (.o (.i (.i (.i (.o (.i (.o .h))))))))
def q348 : Pos := (.i (.o (.i (.i (.i (.o (.i (.o .h))))))))
def q349 : Pos := (.o (.i (.i (.i (.i (.o (.i (.o .h))))))))
def q350 : Pos := (.i (.i (.i (.i (.i (.o (.i (.o .h))))))))
def q351 : Pos := (.o (.o (.o (.o (.o (.i (.i (.o .h))))))))
def q352 : Pos := (.i (.o (.o (.o (.o (.i (.i (.o .h))))))))
def q353 : Pos := (.o (.i (.o (.o (.o (.i (.i (.o .h))))))))
def q354 : Pos := (.i (.i (.o (.o (.o (.i (.i (.o .h))))))))
def q355 : Pos := (.o (.o (.i (.o (.o (.i (.i (.o .h))))))))
def q356 : Pos := (.i (.o (.i (.o (.o (.i (.i (.o .h))))))))
def q357 : Pos := (.o (.i (.i (.o (.o (.i (.i (.o .h))))))))
def q358 : Pos := (.i (.i (.i (.o (.o (.i (.i (.o .h))))))))
def q359 : Pos := (.o (.o (.o (.i (.o (.i (.i (.o .h))))))))
def q360 : Pos := (.i (.o (.o (.i (.o (.i (.i (.o .h))))))))
def q361 : Pos := (.o (.i (.o (.i (.o (.i (.i (.o .h))))))))
def q362 : Pos := (.i (.i (.o (.i (.o (.i (.i (.o .h))))))))
def q363 : Pos := (.o (.o (.i (.i (.o (.i (.i (.o .h))))))))
def q364 : Pos := (.i (.o (.i (.i (.o (.i (.i (.o .h))))))))
def q365 : Pos := (.o (.i (.i (.i (.o (.i (.i (.o .h))))))))
def q366 : Pos := (.i (.i (.i (.i (.o (.i (.i (.o .h))))))))
def q367 : Pos := (.o (.o (.o (.o (.i (.i (.i (.o .h))))))))
def q368 : Pos := (.i (.o (.o (.o (.i (.i (.i (.o .h))))))))
def q369 : Pos := (.o (.i (.o (.o (.i (.i (.i (.o .h))))))))
def q370 : Pos := (.i (.i (.o (.o (.i (.i (.i (.o .h))))))))
def q371 : Pos := (.o (.o (.i (.o (.i (.i (.i (.o .h))))))))
def q372 : Pos := (.i (.o (.i (.o (.i (.i (.i (.o .h))))))))
def q373 : Pos := (.o (.i (.i (.o (.i (.i (.i (.o .h))))))))
def q374 : Pos := (.i (.i (.i (.o (.i (.i (.i (.o .h))))))))
def q375 : Pos := (.o (.o (.o (.i (.i (.i (.i (.o .h))))))))
def q376 : Pos := (.i (.o (.o (.i (.i (.i (.i (.o .h))))))))
def q377 : Pos := (.o (.i (.o (.i (.i (.i (.i (.o .h))))))))
def q378 : Pos := (.i (.i (.o (.i (.i (.i (.i (.o .h))))))))
def q379 : Pos := (.o (.o (.i (.i (.i (.i (.i (.o .h))))))))
def q380 : Pos := (.i (.o (.i (.i (.i (.i (.i (.o .h))))))))
def q381 : Pos := (.o (.i (.i (.i (.i (.i (.i (.o .h))))))))
def q382 : Pos := (.i (.i (.i (.i (.i (.i (.i (.o .h))))))))
def q383 : Pos := (.o (.o (.o (.o (.o (.o (.o (.i .h))))))))
def q384 : Pos := (.i (.o (.o (.o (.o (.o (.o (.i .h))))))))
def q385 : Pos := (.o (.i (.o (.o (.o (.o (.o (.i .h))))))))
def q386 : Pos := (.i (.i (.o (.o (.o (.o (.o (.i .h))))))))
def q387 : Pos := (.o (.o (.i (.o (.o (.o (.o (.i .h))))))))
def q388 : Pos := (.i (.o (.i (.o (.o (.o (.o (.i .h))))))))
def q389 : Pos := (.o (.i (.i (.o (.o (.o (.o (.i .h))))))))
def q390 : Pos := (.i (.i (.i (.o (.o (.o (.o (.i .h))))))))
def q391 : Pos := (.o (.o (.o (.i (.o (.o (.o (.i .h))))))))
def q392 : Pos := (.i (.o (.o (.i (.o (.o (.o (.i .h))))))))
def q393 : Pos := (.o (.i (.o (.i (.o (.o (.o (.i .h))))))))
def q394 : Pos := (.i (.i (.o (.i (.o (.o (.o (.i .h))))))))
def q395 : Pos := (.o (.o (.i (.i (.o (.o (.o (.i .h))))))))
def q396 : Pos := (.i (.o (.i (.i (.o (.o (.o (.i .h))))))))
def q397 : Pos := (.o (.i (.i (.i (.o (.o (.o (.i .h))))))))
def q398 : Pos := (.i (.i (.i (.i (.o (.o (.o (.i .h))))))))
def q399 : Pos := (.o (.o (.o (.o (.i (.o (.o (.i .h))))))))
def q400 : Pos := (.i (.o (.o (.o (.i (.o (.o (.i .h))))))))
def q401 : Pos := (.o (.i (.o (.o (.i (.o (.o (.i .h))))))))
def q402 : Pos := (.i (.i (.o (.o (.i (.o (.o (.i .h))))))))
def q403 : Pos := (.o (.o (.i (.o (.i (.o (.o (.i .h))))))))
def q404 : Pos := (.i (.o (.i (.o (.i (.o (.o (.i .h))))))))
def q405 : Pos := (.o (.i (.i (.o (.i (.o (.o (.i .h))))))))
def q406 : Pos := (.i (.i (.i (.o (.i (.o (.o (.i .h))))))))
def q407 : Pos := (.o (.o (.o (.i (.i (.o (.o (.i .h))))))))
def q408 : Pos := (.i (.o (.o (.i (.i (.o (.o (.i .h))))))))
def q409 : Pos := (.o (.i (.o (.i (.i (.o (.o (.i .h))))))))
def q410 : Pos := (.i (.i (.o (.i (.i (.o (.o (.i .h))))))))
def q411 : Pos := (.o (.o (.i (.i (.i (.o (.o (.i .h))))))))
def q412 : Pos := (.i (.o (.i (.i (.i (.o (.o (.i .h))))))))
def q413 : Pos := (.o (.i (.i (.i (.i (.o (.o (.i .h))))))))
def q414 : Pos := (.i (.i (.i (.i (.i (.o (.o (.i .h))))))))
def q415 : Pos := (.o (.o (.o (.o (.o (.i (.o (.i .h))))))))
def q416 : Pos := (.i (.o (.o (.o (.o (.i (.o (.i .h))))))))
def q417 : Pos := (.o (.i (.o (.o (.o (.i (.o (.i .h))))))))
def q418 : Pos := (.i (.i (.o (.o (.o (.i (.o (.i .h))))))))
def q419 : Pos := (.o (.o (.i (.o (.o (.i (.o (.i .h))))))))
def q420 : Pos := (.i (.o (.i (.o (.o (.i (.o (.i .h))))))))
def q421 : Pos := (.o (.i (.i (.o (.o (.i (.o (.i .h))))))))
def q422 : Pos := (.i (.i (.i (.o (.o (.i (.o (.i .h))))))))
def q423 : Pos := (.o (.o (.o (.i (.o (.i (.o (.i .h))))))))
def q424 : Pos := (.i (.o (.o (.i (.o (.i (.o (.i .h))))))))
def q425 : Pos := (.o (.i (.o (.i (.o (.i (.o (.i .h))))))))
def q426 : Pos := (.i (.i (.o (.i (.o (.i (.o (.i .h))))))))
def q427 : Pos := (.o (.o (.i (.i (.o (.i (.o (.i .h))))))))
def q428 : Pos := (.i (.o (.i (.i (.o (.i (.o (.i .h))))))))
def q429 : Pos := (.o (.i (.i (.i (.o (.i (.o (.i .h))))))))
def Pos.nat : Pos → Nat
  | .h => 1
  | .o p => 2 * p.nat
  | .i p => 2 * p.nat + 1

def Pos.succ : Pos → Pos
  | .h => .o .h
  | .o p => .i p
  | .i p => .o p.succ

/-- The numeral of n + 1. -/
def Pos.of : Nat → Pos
  | 0 => .h
  | n + 1 => (Pos.of n).succ

inductive Tr (α : Type) where
  | leaf
  | node (l : Tr α) (v : α) (r : Tr α)

def Tr.get {α : Type} (d : α) (p : Pos) : Tr α → α :=
  Pos.rec (motive := fun _ => Tr α → α)
    (fun t => Tr.casesOn (motive := fun _ => α) t d (fun _ v _ => v))
    (fun _ ih t => Tr.casesOn (motive := fun _ => α) t d (fun l _ _ => ih l))
    (fun _ ih t => Tr.casesOn (motive := fun _ => α) t d (fun _ _ r => ih r)) p

def Tr.setK {α β : Type} (d : α) (v : α) (p : Pos) : Tr α → (Tr α → β) → β :=
  Pos.rec (motive := fun _ => Tr α → (Tr α → β) → β)
    (fun t k => Tr.casesOn (motive := fun _ => β) t (k (.node .leaf v .leaf)) (fun l _ r => k (.node l v r)))
    (fun _ ih t k => Tr.casesOn (motive := fun _ => β) t (ih .leaf fun l => k (.node l d .leaf)) (fun l x r => ih l fun l => k (.node l x r)))
    (fun _ ih t k => Tr.casesOn (motive := fun _ => β) t (ih .leaf fun r => k (.node .leaf d r)) (fun l x r => ih r fun r => k (.node l x r))) p

/-- Ghost values. -/
inductive GV where
  | bad
  | bool (b : Bool)
  | int (k : IntKind) (z : Int)
  | str (len n : Nat)
  | nilp
  | ptr (p : Pos) (o : Nat)
  | nils
  | sle
  | sl (p : Pos) (o len cap e : Nat)
  | nilf
  | fn (f : Pos) (caps : List GV)
  | nilc
  | chn (p : Pos)
  | agg (l : List GV)
  | tup (l : List GV)
  deriving Inhabited

/-- Ghost blocks: rows of cells; rows of numbers packed into one number; channels. -/
inductive GObj where
  | gone
  | cells (l : List GV) (sz : Nat) (ro : Bool)
  | pk (k : IntKind) (w len n : Nat) (ro : Bool)
  | chan (cap : Nat) (buf : List GV)

structure Heap where
  t : Tr GObj
  nx : Pos

inductive Out where
  | st (e : Nat) (fr : Tr GV) (h : Heap)
  | val (v : GV) (h : Heap)

abbrev R := Option Out

def obind {α β : Type} (x : Option α) (k : α → Option β) : Option β := Option.casesOn (motive := fun _ => Option β) x none k

/-- n, reckoned before k goes on. -/
def force {β : Type} (n : Nat) (k : Nat → β) : β := Nat.casesOn (motive := fun _ => β) n (k 0) (fun p => k (Nat.succ p))
def forceI {β : Type} (z : Int) (k : Int → β) : β :=
  Int.casesOn (motive := fun _ => β) z (fun n => force n fun n => k (.ofNat n)) (fun n => force n fun n => k (.negSucc n))

def ifb {β : Type} (b : Bool) (x y : β) : β := Bool.casesOn (motive := fun _ => β) b y x

def ikN (k : IntKind) : Nat := IntKind.casesOn (motive := fun _ => Nat) k 0 1 2 3 4 5 6 7
def ikEq (a b : IntKind) : Bool := Nat.beq (ikN a) (ikN b)
/-- Below this number wrap changes nothing. -/
def lim (k : IntKind) : Nat := IntKind.casesOn (motive := fun _ => Nat) k 128 32768 2147483648 9223372036854775808 256 65536 4294967296 18446744073709551616
def wrapF (k : IntKind) (z : Int) : Int :=
  Int.casesOn (motive := fun _ => Int) z (fun n => ifb (Nat.blt n (lim k)) (.ofNat n) (k.wrap (.ofNat n))) (fun n => k.wrap (.negSucc n))

def ieq (x y : Int) : Bool :=
  Int.casesOn (motive := fun _ => Bool) x (fun a => Int.casesOn (motive := fun _ => Bool) y (fun b => Nat.beq a b) (fun _ => false))
    (fun a => Int.casesOn (motive := fun _ => Bool) y (fun _ => false) (fun b => Nat.beq a b))
def ilt (x y : Int) : Bool :=
  Int.casesOn (motive := fun _ => Bool) x (fun a => Int.casesOn (motive := fun _ => Bool) y (fun b => Nat.blt a b) (fun _ => false))
    (fun a => Int.casesOn (motive := fun _ => Bool) y (fun _ => true) (fun b => Nat.blt b a))

def GV.asInt {β : Type} (v : GV) (f : IntKind → Int → Option β) : Option β := match v with | .int k z => f k z | _ => none
def GV.asBool {β : Type} (v : GV) (f : Bool → Option β) : Option β := match v with | .bool b => f b | _ => none
def GV.asPtr {β : Type} (v : GV) (f : Pos → Nat → Option β) : Option β := match v with | .ptr p o => f p o | _ => none
/-- A natural number, as an index or a length. -/
def GV.asNat {β : Type} (v : GV) (f : Nat → Option β) : Option β := match v with | .int _ z => Int.casesOn (motive := fun _ => Option β) z f (fun _ => none) | _ => none

def mkI (k : IntKind) (z : Int) : Option GV := forceI z fun z => some (.int k z)
def mkB (b : Bool) : Option GV := ifb b (some (.bool true)) (some (.bool false))

def addF (x y : Int) : Int := Int.casesOn (motive := fun _ => Int) x (fun a => Int.casesOn (motive := fun _ => Int) y (fun b => .ofNat (Nat.add a b)) (fun b => x + .negSucc b)) (fun a => .negSucc a + y)
def subF (x y : Int) : Int := Int.casesOn (motive := fun _ => Int) x (fun a => Int.casesOn (motive := fun _ => Int) y (fun b => ifb (Nat.ble b a) (.ofNat (Nat.sub a b)) (x - y)) (fun b => x - .negSucc b)) (fun a => .negSucc a - y)
def mulF (x y : Int) : Int := Int.casesOn (motive := fun _ => Int) x (fun a => Int.casesOn (motive := fun _ => Int) y (fun b => .ofNat (Nat.mul a b)) (fun b => x * .negSucc b)) (fun a => .negSucc a * y)
def quoF (x y : Int) : Int := Int.casesOn (motive := fun _ => Int) x (fun a => Int.casesOn (motive := fun _ => Int) y (fun b => .ofNat (Nat.div a b)) (fun b => x.tdiv (.negSucc b))) (fun a => (Int.negSucc a).tdiv y)
def remF (x y : Int) : Int := Int.casesOn (motive := fun _ => Int) x (fun a => Int.casesOn (motive := fun _ => Int) y (fun b => .ofNat (Nat.mod a b)) (fun b => x.tmod (.negSucc b))) (fun a => (Int.negSucc a).tmod y)

/-- A bit operation as the model has it. -/
def bitsM (op : BinOp) (k : IntKind) (x y : Int) : Int :=
  match op with
  | .and => k.wrap (BitVec.ofInt k.bits x &&& BitVec.ofInt k.bits y).toNat
  | .or => k.wrap (BitVec.ofInt k.bits x ||| BitVec.ofInt k.bits y).toNat
  | .xor => k.wrap (BitVec.ofInt k.bits x ^^^ BitVec.ofInt k.bits y).toNat
  | _ => k.wrap (BitVec.ofInt k.bits x &&& ~~~BitVec.ofInt k.bits y).toNat
def bitsF (op : BinOp) (f : Nat → Nat → Nat) (k : IntKind) (x y : Int) : Int :=
  Int.casesOn (motive := fun _ => Int) x
    (fun a => Int.casesOn (motive := fun _ => Int) y
      (fun b => ifb (Nat.blt a (lim k)) (ifb (Nat.blt b (lim k)) (wrapF k (.ofNat (f a b))) (bitsM op k x y)) (bitsM op k x y))
      (fun b => bitsM op k x (.negSucc b)))
    (fun a => bitsM op k (.negSucc a) y)

def shlF (k : IntKind) (x : Int) (n : Nat) : Int := wrapF k (mulF x (.ofNat (Nat.pow 2 n)))
def shrF (x : Int) (n : Nat) : Int := Int.casesOn (motive := fun _ => Int) x (fun a => .ofNat (Nat.div a (Nat.pow 2 n))) (fun a => (Int.negSucc a).fdiv (2 ^ n))

/-- Two numbers of one kind. -/
def int2 {β : Type} (a b : GV) (f : IntKind → Int → Int → Option β) : Option β :=
  a.asInt fun k x => b.asInt fun k' y => ifb (ikEq k k') (f k x y) none

def pAdd (a b : GV) : Option GV := int2 a b fun k x y => mkI k (wrapF k (addF x y))
def pSub (a b : GV) : Option GV := int2 a b fun k x y => mkI k (wrapF k (subF x y))
def pMul (a b : GV) : Option GV := int2 a b fun k x y => mkI k (wrapF k (mulF x y))
def pQuo (a b : GV) : Option GV := int2 a b fun k x y => ifb (ieq y (.ofNat 0)) none (mkI k (wrapF k (quoF x y)))
def pRem (a b : GV) : Option GV := int2 a b fun k x y => ifb (ieq y (.ofNat 0)) none (mkI k (remF x y))
def pAnd (a b : GV) : Option GV := int2 a b fun k x y => mkI k (bitsF .and Nat.land k x y)
def pOr (a b : GV) : Option GV := int2 a b fun k x y => mkI k (bitsF .or Nat.lor k x y)
def pXor (a b : GV) : Option GV := int2 a b fun k x y => mkI k (bitsF .xor Nat.xor k x y)
def pAndNot (a b : GV) : Option GV := int2 a b fun k x y => mkI k (bitsM .andNot k x y)
def pShl (a b : GV) : Option GV := a.asInt fun k x => b.asNat fun y => mkI k (shlF k x (ifb (Nat.ble y k.bits) y k.bits))
def pShr (a b : GV) : Option GV := a.asInt fun k x => b.asNat fun y => mkI k (shrF x (ifb (Nat.ble y k.bits) y k.bits))
def pLss (a b : GV) : Option GV := int2 a b fun _ x y => mkB (ilt x y)
def pGtr (a b : GV) : Option GV := int2 a b fun _ x y => mkB (ilt y x)
def pLeq (a b : GV) : Option GV := int2 a b fun _ x y => mkB (!ilt y x)
def pGeq (a b : GV) : Option GV := int2 a b fun _ x y => mkB (!ilt x y)

/-- Equality of two numbers, of two texts. -/
def eqI (a b : GV) : Option Bool :=
  match a, b with
  | .int k x, .int k' y => ifb (ikEq k k') (some (ieq x y)) none
  | .str l n, .str l' n' => some (ifb (Nat.beq l l') (Nat.beq n n') false)
  | _, _ => none
def eqB (a b : GV) : Option Bool :=
  match a, b with
  | .bool x, .bool y => some (ifb x y (!y))
  | _, _ => none
/-- Equality of two cells of a kind: 0 truth values, 1 numbers, 2 texts. -/
def eqK (k : Nat) (a b : GV) : Option Bool :=
  match a, b with
  | .int i x, .int i' y => ifb (Nat.beq k 1) (ifb (ikEq i i') (some (ieq x y)) none) none
  | .bool x, .bool y => ifb (Nat.beq k 0) (some (ifb x y (!y))) none
  | .str l n, .str l' n' => ifb (Nat.beq k 2) (some (ifb (Nat.beq l l') (Nat.beq n n') false)) none
  | _, _ => none
/-- Against nil: c is 0 for pointers, 1 for slices, 2 for functions. -/
def eqN (c : Nat) (a b : GV) : Option Bool :=
  match a, b with
  | .nilp, .nilp => ifb (Nat.beq c 0) (some true) none
  | .ptr _ _, .nilp => ifb (Nat.beq c 0) (some false) none
  | .nilp, .ptr _ _ => ifb (Nat.beq c 0) (some false) none
  | .nils, .nils => ifb (Nat.beq c 1) (some true) none
  | .sl .., .nils => ifb (Nat.beq c 1) (some false) none
  | .sle, .nils => ifb (Nat.beq c 1) (some false) none
  | .nils, .sl .. => ifb (Nat.beq c 1) (some false) none
  | .nils, .sle => ifb (Nat.beq c 1) (some false) none
  | .nilf, .nilf => ifb (Nat.beq c 2) (some true) none
  | .fn .., .nilf => ifb (Nat.beq c 2) (some false) none
  | .nilf, .fn .. => ifb (Nat.beq c 2) (some false) none
  | _, _ => none
def len3 : List Nat → List GV → List GV → Bool
  | [], [], [] => true
  | _ :: ks, _ :: as, _ :: bs => len3 ks as bs
  | _, _, _ => false
/-- Cell by cell. -/
def eqL : List Nat → List GV → List GV → Option Bool
  | [], [], [] => some true
  | k :: ks, a :: as, b :: bs => obind (eqK k a b) fun t => ifb t (eqL ks as bs) (ifb (len3 ks as bs) (some false) none)
  | _, _, _ => none
def pEql (a b : GV) : Option GV := obind (eqI a b) fun t => mkB t
def pNeq (a b : GV) : Option GV := obind (eqI a b) fun t => mkB (!t)
def pEqlB (a b : GV) : Option GV := obind (eqB a b) fun t => mkB t
def pNeqB (a b : GV) : Option GV := obind (eqB a b) fun t => mkB (!t)
def pEqlN (c : Nat) (a b : GV) : Option GV := obind (eqN c a b) fun t => mkB t
def pNeqN (c : Nat) (a b : GV) : Option GV := obind (eqN c a b) fun t => mkB (!t)
def GV.asAgg {β : Type} (v : GV) (f : List GV → Option β) : Option β := match v with | .agg l => f l | _ => none
def pEqlA (ks : List Nat) (a b : GV) : Option GV := a.asAgg fun l => b.asAgg fun l' => obind (eqL ks l l') fun t => mkB t
def pNeqA (ks : List Nat) (a b : GV) : Option GV := a.asAgg fun l => b.asAgg fun l' => obind (eqL ks l l') fun t => mkB (!t)

def pNot (a : GV) : Option GV := a.asBool fun b => ifb b (some (.bool false)) (some (.bool true))
def pNeg (a : GV) : Option GV := a.asInt fun k x => mkI k (wrapF k (subF (.ofNat 0) x))
def pCpl (a : GV) : Option GV := a.asInt fun k x => mkI k (bitsM .xor k (if k.signed then -1 else k.max) x)
def pConv (k : IntKind) (a : GV) : Option GV := a.asInt fun _ x => mkI k (wrapF k x)
def pMin (a b : GV) : Option GV := int2 a b fun k x y => ifb (ilt y x) (some (.int k y)) (some (.int k x))
def pMax (a b : GV) : Option GV := int2 a b fun k x y => ifb (ilt x y) (some (.int k y)) (some (.int k x))

def pPick (c a b : GV) : Option GV := c.asBool fun t => ifb t (some a) (some b)
def pNilck (x : GV) : Option GV := match x with | .ptr p o => some (.ptr p o) | .fn f cs => some (.fn f cs) | _ => none
def pFa (off : Nat) (x : GV) : Option GV := x.asPtr fun p o => force (Nat.add o off) fun o => some (.ptr p o)

def lget (i : Nat) (l : List GV) : GV :=
  List.rec (motive := fun _ => Nat → GV) (fun _ => .bad) (fun x _ ih i => Nat.casesOn (motive := fun _ => GV) i x ih) l i
/-- A list, its rows reckoned before k goes on. -/
def forceL {β : Type} (l : List GV) (k : List GV → β) : β :=
  List.rec (motive := fun _ => (List GV → β) → β) (fun k => k []) (fun x _ ih k => ih fun l => k (x :: l)) l k

def pFld (agg : Bool) (off n : Nat) (x : GV) : Option GV := x.asAgg fun l =>
  ifb (Nat.ble (Nat.add off n) l.length) (ifb agg (forceL ((l.drop off).take n) fun l => some (.agg l)) (some (lget off l))) none
def pIdxS (sz : Nat) (x i : GV) : Option GV :=
  match x with
  | .sl p o len _ _ => i.asNat fun i => ifb (Nat.blt i len) (force (Nat.add o (Nat.mul i sz)) fun o => some (.ptr p o)) none
  | _ => none
def pIdxA (len sz : Nat) (x i : GV) : Option GV :=
  x.asPtr fun p o => i.asNat fun i => ifb (Nat.blt i len) (force (Nat.add o (Nat.mul i sz)) fun o => some (.ptr p o)) none
def pIdxStr (x i : GV) : Option GV :=
  match x with
  | .str len n => i.asNat fun i => ifb (Nat.blt i len) (force (Nat.mod (Nat.div n (Nat.pow 256 i)) 256) fun z => some (.int .u8 (.ofNat z))) none
  | _ => none
def pIdxG (agg : Bool) (len sz : Nat) (x i : GV) : Option GV := i.asNat fun i => ifb (Nat.blt i len) (pFld agg (Nat.mul i sz) sz x) none
def pExt (i : Nat) (x : GV) : Option GV := match x with | .tup l => ifb (Nat.blt i l.length) (some (lget i l)) none | _ => none
def pLenS (x : GV) : Option GV := match x with | .sl _ _ len _ _ => some (.int .i64 (.ofNat len)) | .nils => some (.int .i64 (.ofNat 0)) | .sle => some (.int .i64 (.ofNat 0)) | _ => none
def pLenStr (x : GV) : Option GV := match x with | .str len _ => some (.int .i64 (.ofNat len)) | _ => none

def oNat {β : Type} (v : Option GV) (d : Nat) (f : Nat → Option β) : Option β := Option.casesOn (motive := fun _ => Option β) v (f d) fun v => v.asNat f
/-- A slice of a slice: e is 0 or sz. -/
def pSlS (sz : Nat) (lo hi mx : Option GV) (x : GV) : Option GV :=
  match x with
  | .nils => oNat lo 0 fun l => oNat hi 0 fun h => oNat mx 0 fun m => ifb (Nat.beq (Nat.add l (Nat.add h m)) 0) (some .nils) none
  | .sle => oNat lo 0 fun l => oNat hi 0 fun h => ifb (mx.isNone) (ifb (Nat.beq (Nat.add l h) 0) (some .sle) none) none
  | .sl p o len cap e => oNat mx cap fun m => oNat hi len fun h => oNat lo 0 fun l =>
    ifb (Nat.ble m cap) (ifb (Nat.ble h m) (ifb (Nat.ble l h)
      (ifb (mx.isSome || Nat.beq e 0)
        (ifb (Nat.beq m l) (some (.sl p o 0 0 0)) (force (Nat.add o (Nat.mul l sz)) fun o => force (Nat.sub h l) fun n => force (Nat.sub m l) fun c => some (.sl p o n c 0)))
        (ifb (Nat.beq e sz)
          (ifb (Nat.beq m l) (ifb (Nat.beq l 0) (some (.sl p o 0 0 e)) (some .sle)) (force (Nat.add o (Nat.mul l sz)) fun o => force (Nat.sub h l) fun n => force (Nat.sub m l) fun c => some (.sl p o n c e)))
          none)) none) none) none
  | _ => none
def pSlA (n sz : Nat) (lo hi mx : Option GV) (x : GV) : Option GV :=
  x.asPtr fun p o => oNat mx n fun m => oNat hi n fun h => oNat lo 0 fun l =>
    ifb (Nat.ble m n) (ifb (Nat.ble h m) (ifb (Nat.ble l h)
      (ifb (Nat.beq m l) (some (.sl p o 0 0 0)) (force (Nat.add o (Nat.mul l sz)) fun o => force (Nat.sub h l) fun n => force (Nat.sub m l) fun c => some (.sl p o n c 0))) none) none) none

def GV.cells (v : GV) : Option (List GV) := match v with | .agg l => some l | .bad => none | .tup _ => none | v => some [v]
/-- Parts laid into zero cells. -/
def fillL (z : List GV) : List (Nat × Nat × GV) → Option (List GV)
  | [] => some z
  | (o, n, v) :: ps => obind v.cells fun c => ifb (Nat.beq c.length n) (ifb (Nat.ble (Nat.add o n) z.length) (forceL (z.take o ++ c ++ z.drop (Nat.add o n)) fun z => fillL z ps) none) none
def pBuild (z : List GV) (ps : List (Nat × Nat × GV)) : Option GV := obind (fillL z ps) fun l => some (.agg l)

/-! Blocks. -/
/-- Element i of packed numbers of w bits. -/
def pget (w n i : Nat) : Nat := Nat.mod (Nat.shiftRight n (Nat.mul w i)) (Nat.pow 2 w)
def pset (w n i v : Nat) : Nat := Nat.xor n (Nat.shiftLeft (Nat.xor (pget w n i) v) (Nat.mul w i))
def psub (w n o len : Nat) : Nat := Nat.mod (Nat.shiftRight n (Nat.mul w o)) (Nat.pow 2 (Nat.mul w len))
def pcat (w n len m : Nat) : Nat := Nat.lor (Nat.mod n (Nat.pow 2 (Nat.mul w len))) (Nat.shiftLeft m (Nat.mul w len))
def pspl (w n o len m : Nat) : Nat := Nat.xor n (Nat.shiftLeft (Nat.xor (psub w n o len) (Nat.mod m (Nat.pow 2 (Nat.mul w len)))) (Nat.mul w o))

/-- Rows of cells taken out of a block. -/
inductive Cs where
  | l (l : List GV)
  | pk (k : IntKind) (w len n : Nat)

def lset (i : Nat) (v : GV) (l : List GV) (f : List GV → Option GObj) : Option GObj :=
  List.rec (motive := fun _ => Nat → (List GV → Option GObj) → Option GObj) (fun _ _ => none)
    (fun x xs ih i f => Nat.casesOn (motive := fun _ => Option GObj) i (f (v :: xs)) fun i => ih i fun l => f (x :: l)) l i f

/-- No undefined value, no tuple. -/
def GV.isA (v : GV) : Bool := match v with | .bad => false | .tup _ => false | _ => true
def GV.cell (v : GV) : Bool := match v with | .bad => false | .agg _ => false | .tup _ => false | _ => true

def objGet (i : Nat) (b : GObj) : Option GV :=
  match b with
  | .cells l _ _ => ifb (Nat.blt i l.length) (some (lget i l)) none
  | .pk k w len n _ => ifb (Nat.blt i len) (force (pget w n i) fun z => some (.int k (.ofNat z))) none
  | _ => none
def objSet (i : Nat) (v : GV) (b : GObj) : Option GObj :=
  match b with
  | .cells l sz ro => ifb ro none (ifb v.cell (lset i v l fun l => some (.cells l sz ro)) none)
  | .pk k w len n ro => ifb ro none (ifb (Nat.blt i len) (v.asInt fun k' z => ifb (ikEq k k') (Int.casesOn (motive := fun _ => Option GObj) z (fun z => ifb (Nat.blt z (Nat.pow 2 w)) (force (pset w n i z) fun n => some (.pk k w len n ro)) none) (fun _ => none)) none) none)
  | _ => none
def objSub (o n : Nat) (b : GObj) : Option Cs :=
  match b with
  | .cells l _ _ => ifb (Nat.ble (Nat.add o n) l.length) (forceL ((l.drop o).take n) fun l => some (.l l)) none
  | .pk k w len m _ => ifb (Nat.ble (Nat.add o n) len) (force (psub w m o n) fun m => some (.pk k w n m)) none
  | _ => none
def csLen : Cs → Nat
  | .l l => l.length
  | .pk _ _ len _ => len
def unpack (k : IntKind) (w n : Nat) : Nat → Nat → List GV
  | _, 0 => []
  | i, len + 1 => .int k (.ofNat (pget w n i)) :: unpack k w n (i + 1) len
def csList : Cs → List GV
  | .l l => l
  | .pk k w len n => unpack k w n 0 len
/-- Numbers packed: the first lowest. -/
def pack (k : IntKind) (w : Nat) : List GV → Nat → (Nat → Option Nat) → Option Nat
  | [], _, f => f 0
  | v :: l, i, f => v.asInt fun k' z => ifb (ikEq k k') (Int.casesOn (motive := fun _ => Option Nat) z
      (fun z => ifb (Nat.blt z (Nat.pow 2 w)) (pack k w l (i + 1) fun m => force (Nat.lor z (Nat.shiftLeft m w)) f) none) (fun _ => none)) none
/-- Packed, if the elements are numbers of this kind. -/
def csPack (k : IntKind) (w : Nat) (c : Cs) : Option Cs :=
  match c with
  | .l l => obind (pack k w l 0 some) fun m => force l.length fun n => some (.pk k w n m)
  | .pk k' w' len n => ifb (ikEq k k') (ifb (Nat.beq w w') (some (.pk k' w' len n)) none) none
def csCat (a b : Cs) : Option Cs :=
  match a, b with
  | .pk k w len n, .pk k' w' len' n' => ifb (ikEq k k') (ifb (Nat.beq w w') (force (pcat w n len n') fun m => force (Nat.add len len') fun l => some (.pk k w l m)) none) none
  | a, b => forceL (csList a ++ csList b) fun l => some (.l l)
def objSpl (o : Nat) (c : Cs) (b : GObj) : Option GObj :=
  match b with
  | .cells l sz ro => ifb ro none (forceL (csList c) fun c => ifb (Nat.ble (Nat.add o c.length) l.length) (forceL (l.take o ++ (c ++ l.drop (Nat.add o c.length))) fun l => some (.cells l sz ro)) none)
  | .pk k w len n ro => ifb ro none (obind (csPack k w c) fun c => match c with
      | .pk _ _ m x => ifb (Nat.ble (Nat.add o m) len) (force (pspl w n o m x) fun n => some (.pk k w len n ro)) none
      | _ => none)
  | _ => none
def csObj (sz : Nat) : Cs → Option GObj
  | .l l => some (.cells l sz false)
  | .pk k w len n => ifb (Nat.beq sz 1) (some (.pk k w len n false)) none

def hget (p : Pos) (h : Heap) : GObj := Heap.casesOn (motive := fun _ => GObj) h fun t _ => Tr.get .gone p t
def hset (p : Pos) (b : GObj) (h : Heap) : Option Heap := Heap.casesOn (motive := fun _ => Option Heap) h fun t nx => Tr.setK .gone b p t fun t => some ⟨t, nx⟩
def hnew {β : Type} (b : GObj) (h : Heap) (f : Pos → Heap → Option β) : Option β :=
  Heap.casesOn (motive := fun _ => Option β) h fun t nx => Tr.setK .gone b nx t fun t => f nx ⟨t, nx.succ⟩

/-! What looks at the heap. -/
def rLd1 (x : GV) (h : Heap) : Option GV := x.asPtr fun p o => objGet o (hget p h)
def rLdN (n : Nat) (x : GV) (h : Heap) : Option GV := x.asPtr fun p o => obind (objSub o n (hget p h)) fun c => forceL (csList c) fun l => some (.agg l)
def rStr (x : GV) (h : Heap) : Option GV :=
  match x with
  | .nils => some (.str 0 0)
  | .sle => some (.str 0 0)
  | .sl p o len _ _ => obind (objSub o len (hget p h)) fun c => obind (csPack .u8 8 c) fun c => match c with | .pk _ _ len n => force (psub 8 n 0 len) fun n => some (.str len n) | _ => none
  | _ => none
def rLenC (x : GV) (h : Heap) : Option GV :=
  match x with
  | .nilc => some (.int .i64 (.ofNat 0))
  | .chn p => match hget p h with | .chan _ buf => force buf.length fun n => some (.int .i64 (.ofNat n)) | _ => none
  | _ => none

/-! What changes it. -/
def wSt1 (x v : GV) (h : Heap) : Option Heap := x.asPtr fun p o => obind (objSet o v (hget p h)) fun b => hset p b h
def wStN (n : Nat) (x v : GV) (h : Heap) : Option Heap := x.asPtr fun p o => v.asAgg fun l => ifb (Nat.beq l.length n) (ifb (l.all GV.cell) (obind (objSpl o (.l l) (hget p h)) fun b => hset p b h) none) none
def nAlloc (z : List GV) (h : Heap) : Option (GV × Heap) := hnew (.cells z z.length false) h fun p h => some (.ptr p 0, h)
def nBox (v : GV) (h : Heap) : Option (GV × Heap) := obind v.cells fun l => hnew (.cells l l.length false) h fun p h => some (.ptr p 0, h)
def optPack (pk : Option (IntKind × Nat)) (c : Cs) : Option Cs := match pk with | some (k, w) => (match csPack k w c with | some c => some c | none => some c) | none => some c
def nBuildS (z : List GV) (len sz : Nat) (pk : Option (IntKind × Nat)) (ps : List (Nat × Nat × GV)) (h : Heap) : Option (GV × Heap) :=
  obind (fillL z ps) fun l => obind (optPack pk (.l l)) fun c => obind (csObj sz c) fun b => hnew b h fun p h => some (.sl p 0 len len 0, h)
def rep (z : List GV) : Nat → List GV
  | 0 => []
  | n + 1 => z ++ rep z n
def zeroCs (pk : Option (IntKind × Nat)) (z : List GV) (n : Nat) : Cs := match pk with | some (k, w) => .pk k w n 0 | none => .l (rep z n)
def nMakeS (z : List GV) (sz bytes : Nat) (pk : Option (IntKind × Nat)) (a b : GV) (h : Heap) : Option (GV × Heap) :=
  a.asNat fun l => b.asNat fun c => ifb (Nat.ble l c) (ifb (Nat.blt (Nat.mul c bytes) 1099511627776) (ifb (Nat.blt c 1099511627776)
    (obind (csObj sz (zeroCs pk z c)) fun b => hnew b h fun p h => some (.sl p 0 l c 0, h)) none) none) none
/-- The elements of a slice. -/
def srcCs (sz : Nat) (x : GV) (h : Heap) : Option Cs :=
  match x with
  | .nils => some (.l [])
  | .sle => some (.l [])
  | .sl p o len _ _ => objSub o (Nat.mul len sz) (hget p h)
  | _ => none
def slLen {β : Type} (x : GV) (f : Nat → Option β) : Option β := match x with | .nils => f 0 | .sle => f 0 | .sl _ _ len _ _ => f len | _ => none
def nAppend (sz bytes : Nat) (pk : Option (IntKind × Nat)) (s x : GV) (h : Heap) : Option (GV × Heap) :=
  slLen x fun n => obind (srcCs sz x h) fun new =>
    match s with
    | .nils => ifb (Nat.beq n 0) (some (.nils, h))
        (ifb (Nat.blt (Nat.mul n bytes) 1099511627776) (ifb (Nat.blt n 1099511627776) (obind (optPack pk new) fun c => obind (csObj sz c) fun b => hnew b h fun p h => some (.sl p 0 n n sz, h)) none) none)
    | .sle => ifb (Nat.beq n 0) (some (.sle, h)) none
    | .sl p o len cap e => force (Nat.add len n) fun need =>
      ifb (Nat.ble need cap) (ifb (Nat.beq n 0) (some (.sl p o need cap e, h)) (obind (objSpl (Nat.add o (Nat.mul len sz)) new (hget p h)) fun b => obind (hset p b h) fun h => some (.sl p o need cap e, h)))
        (ifb (Nat.blt (Nat.mul need bytes) 1099511627776) (ifb (Nat.blt need 1099511627776)
          (obind (objSub o (Nat.mul len sz) (hget p h)) fun old => obind (optPack pk old) fun old => obind (optPack pk new) fun new => obind (csCat old new) fun c => obind (csObj sz c) fun b =>
            ifb (Nat.beq e 0) (hnew b h fun q h => some (.sl q 0 need need sz, h))
              (ifb (Nat.beq e sz) (match hget p h with
                | .cells l s ro => ifb ro none (ifb (Nat.beq s sz) (ifb (Nat.beq (Nat.add o (Nat.mul cap sz)) l.length) (obind (hset p .gone h) fun h => hnew b h fun q h => some (.sl q 0 need need sz, h)) none) none)
                | .pk _ _ m _ ro => ifb ro none (ifb (Nat.beq sz 1) (ifb (Nat.beq (Nat.add o cap) m) (obind (hset p .gone h) fun h => hnew b h fun q h => some (.sl q 0 need need sz, h)) none) none)
                | _ => none) none)) none) none)
    | _ => none
def takeCs (n : Nat) (c : Cs) : Option Cs :=
  match c with
  | .l l => forceL (l.take n) fun l => some (.l l)
  | .pk k w _ m => force (psub w m 0 n) fun m => some (.pk k w n m)
def nCopy (sz : Nat) (d x : GV) (h : Heap) : Option (GV × Heap) :=
  slLen d fun m => slLen x fun n => force (ifb (Nat.ble n m) n m) fun n =>
    ifb (Nat.beq n 0) (some (.int .i64 (.ofNat 0), h))
      (match d, x with
        | .sl p o _ _ _, .sl q u _ _ _ => obind (objSub u (Nat.mul n sz) (hget q h)) fun c => obind (objSpl o c (hget p h)) fun b => obind (hset p b h) fun h => some (.int .i64 (.ofNat n), h)
        | _, _ => none)
def nClear (z : List GV) (sz : Nat) (pk : Option (IntKind × Nat)) (x : GV) (h : Heap) : Option (GV × Heap) :=
  slLen x fun n => ifb (Nat.beq n 0) (some (.tup [], h))
    (match x with
      | .sl p o _ _ _ => obind (objSpl o (zeroCs pk z n) (hget p h)) fun b => obind (hset p b h) fun h => some (.tup [], h)
      | _ => none)
/-- A conversion from a row of bytes to itself: the model marks the row beyond its end; nothing else. -/
def GObj.wr : GObj → Bool
  | .cells _ _ ro => !ro
  | .pk _ _ _ _ ro => !ro
  | .chan _ _ => true
  | .gone => false
def GObj.isRow : GObj → Bool
  | .cells _ _ _ => true
  | .pk _ _ _ _ _ => true
  | _ => false
def nConv (x : GV) (h : Heap) : Option (GV × Heap) := match x with | .sl p o len cap e => ifb (hget p h).isRow (ifb (hget p h).wr (some (.sl p o len cap e, h)) none) none | _ => none
/-- A slice whose row may be written. -/
def rRow (x : GV) (h : Heap) : Option GV := match x with | .sl p o len cap e => ifb (hget p h).isRow (ifb (hget p h).wr (some (.sl p o len cap e)) none) none | _ => none
def nChan (n : GV) (h : Heap) : Option (GV × Heap) := n.asNat fun n => ifb (Nat.blt n 65536) (hnew (.chan n []) h fun p h => some (.chn p, h)) none

def GV.isPtr (v : GV) : Bool := match v with | .ptr _ _ => true | _ => false
def pFn (f : Pos) (cs : List GV) : Option GV := ifb (cs.all GV.isPtr) (some (.fn f cs)) none

/-! Operations. -/
inductive Opd where
  | t (n : Nat)
  | c (v : GV)

abbrev PK := Option (IntKind × Nat)

inductive POp where   -- the value hangs on the operands alone
  | mv (x : Opd) | pick (c a b : Opd) | nilck (x : Opd) | fa (off : Nat) (x : Opd)
  | fld (agg : Bool) (off n : Nat) (x : Opd) | idxS (sz : Nat) (x i : Opd) | idxA (len sz : Nat) (x i : Opd) | idxStr (x i : Opd) | idxG (agg : Bool) (len sz : Nat) (x i : Opd)
  | ext (i : Nat) (x : Opd) | lenS (x : Opd) | lenStr (x : Opd)
  | slS (sz : Nat) (lo hi mx : Option Opd) (x : Opd) | slA (n sz : Nat) (lo hi mx : Option Opd) (x : Opd)
  | build (z : List GV) (ps : List (Nat × Nat × Opd))
  | bin (op : BinOp) (x y : Opd) | eqlN (c : Nat) (x y : Opd) | neqN (c : Nat) (x y : Opd) | eqlA (ks : List Nat) (x y : Opd) | neqA (ks : List Nat) (x y : Opd) | eqlB (x y : Opd) | neqB (x y : Opd)
  | not (x : Opd) | neg (x : Opd) | cpl (x : Opd) | conv (k : IntKind) (x : Opd) | min (x y : Opd) | max (x y : Opd)
  | mkFn (f : Pos) (cs : List Opd)
inductive ROp where   -- it looks at the heap
  | ld1 (x : Opd) | ldN (n : Nat) (x : Opd) | str (x : Opd) | lenC (x : Opd) | row (x : Opd)
inductive WOp where   -- it writes cells that are there
  | st1 (x v : Opd) | stN (n : Nat) (x v : Opd)
inductive NOp where   -- it lays new blocks, or does more
  | alloc (z : List GV) | box (x : Opd) | buildS (z : List GV) (len sz : Nat) (pk : PK) (ps : List (Nat × Nat × Opd)) | makeS (z : List GV) (sz bytes : Nat) (pk : PK) (a b : Opd)
  | append (sz bytes : Nat) (pk : PK) (s x : Opd) | copy (sz : Nat) (d x : Opd) | clear (z : List GV) (sz : Nat) (pk : PK) (x : Opd) | chan (n : Opd) | conv (x : Opd)
inductive GOp where
  | p (o : POp) | r (o : ROp) | w (o : WOp) | n (o : NOp)
  | call (f : Pos) (args : List Opd)
  | callv (f : Opd) (args : List Opd)

def parts (ρ : Opd → GV) : List (Nat × Nat × Opd) → List (Nat × Nat × GV)
  | [] => []
  | (a, b, x) :: l => (a, b, ρ x) :: parts ρ l
def vals (ρ : Opd → GV) : List Opd → List GV
  | [] => []
  | x :: l => ρ x :: vals ρ l
def oval (ρ : Opd → GV) : Option Opd → Option GV
  | none => none
  | some x => some (ρ x)

def pBin (op : BinOp) (x y : GV) : Option GV :=
  match op with
  | .add => pAdd x y | .sub => pSub x y | .mul => pMul x y | .quo => pQuo x y | .rem => pRem x y | .and => pAnd x y | .or => pOr x y | .xor => pXor x y | .andNot => pAndNot x y
  | .shl => pShl x y | .shr => pShr x y | .eql => pEql x y | .neq => pNeq x y | .lss => pLss x y | .leq => pLeq x y | .gtr => pGtr x y | .geq => pGeq x y

def pop (ρ : Opd → GV) : POp → Option GV
  | .mv x => some (ρ x) | .pick c a b => pPick (ρ c) (ρ a) (ρ b) | .nilck x => pNilck (ρ x) | .fa off x => pFa off (ρ x)
  | .fld g off n x => pFld g off n (ρ x) | .idxS sz x i => pIdxS sz (ρ x) (ρ i) | .idxA len sz x i => pIdxA len sz (ρ x) (ρ i) | .idxStr x i => pIdxStr (ρ x) (ρ i) | .idxG g len sz x i => pIdxG g len sz (ρ x) (ρ i)
  | .ext i x => pExt i (ρ x) | .lenS x => pLenS (ρ x) | .lenStr x => pLenStr (ρ x)
  | .slS sz lo hi mx x => pSlS sz (oval ρ lo) (oval ρ hi) (oval ρ mx) (ρ x) | .slA n sz lo hi mx x => pSlA n sz (oval ρ lo) (oval ρ hi) (oval ρ mx) (ρ x)
  | .build z ps => pBuild z (parts ρ ps)
  | .bin op x y => pBin op (ρ x) (ρ y) | .eqlN c x y => pEqlN c (ρ x) (ρ y) | .neqN c x y => pNeqN c (ρ x) (ρ y) | .eqlA ks x y => pEqlA ks (ρ x) (ρ y) | .neqA ks x y => pNeqA ks (ρ x) (ρ y) | .eqlB x y => pEqlB (ρ x) (ρ y) | .neqB x y => pNeqB (ρ x) (ρ y)
  | .not x => pNot (ρ x) | .neg x => pNeg (ρ x) | .cpl x => pCpl (ρ x) | .conv k x => pConv k (ρ x) | .min x y => pMin (ρ x) (ρ y) | .max x y => pMax (ρ x) (ρ y)
  | .mkFn f cs => pFn f (vals ρ cs)
def rop (ρ : Opd → GV) (h : Heap) : ROp → Option GV
  | .ld1 x => rLd1 (ρ x) h | .ldN n x => rLdN n (ρ x) h | .str x => rStr (ρ x) h | .lenC x => rLenC (ρ x) h | .row x => rRow (ρ x) h
def wop (ρ : Opd → GV) (h : Heap) : WOp → Option Heap
  | .st1 x v => wSt1 (ρ x) (ρ v) h | .stN n x v => wStN n (ρ x) (ρ v) h
def nop (ρ : Opd → GV) (h : Heap) : NOp → Option (GV × Heap)
  | .alloc z => nAlloc z h | .box x => nBox (ρ x) h | .buildS z len sz pk ps => nBuildS z len sz pk (parts ρ ps) h | .makeS z sz bytes pk a b => nMakeS z sz bytes pk (ρ a) (ρ b) h
  | .append sz bytes pk s x => nAppend sz bytes pk (ρ s) (ρ x) h | .copy sz d x => nCopy sz (ρ d) (ρ x) h | .clear z sz pk x => nClear z sz pk (ρ x) h | .chan n => nChan (ρ n) h | .conv x => nConv (ρ x) h

def popK (ρ : Opd → GV) (k : GV → R) : POp → R
  | .mv x => k (ρ x)
  | o => obind (pop ρ o) k

/-- v, reckoned before k goes on. -/
def forceG {β : Type} (v : GV) (k : GV → β) : β :=
  GV.casesOn (motive_1 := fun _ => β) v (k .bad) (fun b => k (.bool b)) (fun i z => k (.int i z)) (fun l n => k (.str l n)) (k .nilp) (fun p o => k (.ptr p o)) (k .nils) (k .sle)
    (fun p o l c e => k (.sl p o l c e)) (k .nilf) (fun f cs => k (.fn f cs)) (k .nilc) (fun p => k (.chn p)) (fun l => k (.agg l)) (fun l => k (.tup l))

abbrev CallT := Pos → List GV → Heap → (GV → Heap → R) → R
def undefG : GV := .tup []

def obind2 (x : Option (GV × Heap)) (k : GV → Heap → R) : R := Option.casesOn (motive := fun _ => R) x none fun vh => Prod.casesOn (motive := fun _ => R) vh k
def callF (call : CallT) (f : GV) (args : List GV) (h : Heap) (k : GV → Heap → R) : R := match f with | .fn f caps => call f (args ++ caps) h k | _ => none

def gop (call : CallT) (ρ : Opd → GV) (h : Heap) (k : GV → Heap → R) : GOp → R
  | .p o => popK ρ (fun v => k v h) o
  | .r o => obind (rop ρ h o) fun v => k v h
  | .w o => obind (wop ρ h o) fun h => k undefG h
  | .n o => obind2 (nop ρ h o) k
  | .call f args => call f (vals ρ args) h k
  | .callv f args => callF call (ρ f) (vals ρ args) h k

structure GOper where
  dst : Option Nat
  g : Option (Nat × Bool)
  op : GOp

abbrev Env := List (Nat × GV)
def elook (t : Nat) (fr : Tr GV) : Env → GV
  | [] => Tr.get .bad (Pos.of t) fr
  | (s, v) :: env => ifb (Nat.beq s t) v (elook t fr env)
def rho (fr : Tr GV) (env : Env) : Opd → GV
  | .t n => elook n fr env
  | .c v => v

/-- Go on with run, if the guard's value is the one that is wanted; else with undef. -/
def guardC (b : GV) (want : Bool) (h : Heap) (run : (GV → Heap → R) → R) (k : GV → Heap → R) : R :=
  match b with
  | .bool b => ifb (ifb want b (!b)) (run k) (k undefG h)
  | .tup _ => k undefG h
  | _ => none
def guardO (g : Option (Nat × Bool)) (ρ : Nat → GV) (h : Heap) (run : (GV → Heap → R) → R) (k : GV → Heap → R) : R :=
  match g with
  | none => run k
  | some (t, want) => guardC (ρ t) want h run k
def put (dst : Option Nat) (v : GV) (env : Env) : Env := match dst with | some d => (d, v) :: env | none => env

def putOuts (fr0 : Tr GV) (env : Env) (h : Heap) (k : Tr GV → Heap → R) : List Nat → Tr GV → R
  | [], fr => k fr h
  | t :: outs, fr => forceG (elook t fr0 env) fun v => Tr.setK .bad v (Pos.of t) fr fun fr => putOuts fr0 env h k outs fr

def sameV (a b : GV) : Bool :=
  match a, b with
  | .bool x, .bool y => ifb x y (!y)
  | .int k x, .int k' y => ifb (ikEq k k') (ieq x y) false
  | .str l n, .str l' n' => ifb (Nat.beq l l') (Nat.beq n n') false
  | .nilp, .nilp => true
  | .nils, .nils => true
  | .nilc, .nilc => true
  | .nilf, .nilf => true
  | .sle, .sle => true
  | .ptr p o, .ptr q u => ifb (Nat.beq p.nat q.nat) (Nat.beq o u) false
  | .chn p, .chn q => Nat.beq p.nat q.nat
  | .sl p o l c e, .sl q u l' c' e' => ifb (Nat.beq p.nat q.nat) (ifb (Nat.beq o u) (ifb (Nat.beq l l') (ifb (Nat.beq c c') (Nat.beq e e') false) false) false) false
  | _, _ => false
def sameL : List GV → List GV → Bool
  | [], [] => true
  | a :: as, b :: bs => ifb (sameV a b) (sameL as bs) false
  | _, _ => false
def same (a b : GV) : Bool := match a, b with | .agg l, .agg l' => sameL l l' | a, b => sameV a b
/-- A look that is taken again gives u: it is to be v (or the first one was passed over). -/
def chk (v : GV) (u : Option GV) (k : R) : R :=
  match v with
  | .tup _ => k
  | v => obind u fun u => ifb (same u v) k none

/-- A region: the operations in the order of the text. hs: the heaps ahead of each operation that may change it (the youngest first). ck: which looks are taken once more at its end, in which of these heaps. -/
def regRun (call : CallT) (fr : Tr GV) (outs : List Nat) (k : Tr GV → Heap → R) : List GOper → Env → Heap → R
  | [], env, h => putOuts fr env h k outs fr
  | o :: l, env, h => guardO o.g (fun t => elook t fr env) h (fun k => gop call (rho fr env) h k o.op) fun v h => regRun call fr outs k l (put o.dst v env) h

/-- The same with looks that are taken again: cks: for each operation, behind it, which earlier look (its slot, the look) is to read the same in the heap at hand; and which look, just made, is to read the same in which earlier heap. -/
def nthH : Nat → List Heap → Heap
  | _, [] => ⟨.leaf, .h⟩
  | 0, h :: _ => h
  | n + 1, _ :: l => nthH n l
def chks (fr : Tr GV) (env : Env) (hs : List Heap) (k : R) : List (Nat × Nat × ROp) → R
  | [] => k
  | (t, j, o) :: l => chk (elook t fr env) (rop (rho fr env) (nthH j hs) o) (chks fr env hs k l)
def regRunD (call : CallT) (fr : Tr GV) (outs : List Nat) (cks : List (Nat × Nat × ROp)) (k : Tr GV → Heap → R) : List GOper → Env → List Heap → Heap → R
  | [], env, hs, h => chks fr env (h :: hs) (putOuts fr env h k outs fr) cks
  | o :: l, env, hs, h => guardO o.g (fun t => elook t fr env) h (fun k => gop call (rho fr env) h k o.op) fun v h' => regRunD call fr outs cks k l (put o.dst v env) (h :: hs) h'

/-! Code. -/
abbrev RegF := CallT → Tr GV → Heap → (Tr GV → Heap → R) → R
inductive GCode where
  | skip
  | ret
  | exit (n : Nat)
  | seq (a b : GCode)
  | cond (t : Nat) (p : Pos) (a b : GCode)
  | block (n : Nat) (a : GCode)
  | loop (a : GCode)
  | reg (f : RegF)

abbrev ResF := Tr GV → Heap → (GV → Heap → R) → R
structure GFunc where
  nargs : Nat
  body : GCode
  res : ResF

abbrev K := Nat → Tr GV → Heap → R

def initFr : List GV → Pos → Tr GV → (Tr GV → R) → R
  | [], _, fr, k => k fr
  | v :: l, p, fr, k => forceG v fun v => Tr.setK .bad v p fr fun fr => initFr l p.succ fr k

inductive GTab where
  | none
  | fn (g : GFunc)
  | prim (f : List GV → Heap → Option (GV × Heap))

def callT (T : Tr GTab) (rec : GCode → Tr GV → Heap → K → R) : CallT := fun p args h k =>
  GTab.casesOn (motive := fun _ => R) (Tr.get .none p T) Option.none
    (fun g => GFunc.casesOn (motive := fun _ => R) g fun n body res => ifb (Nat.ble args.length n) (initFr args .h .leaf fun fr => rec body fr h fun e fr h => ifb (Nat.ble e 1) (res fr h k) Option.none) Option.none)
    (fun f => obind2 (f args h) k)

def xstep (T : Tr GTab) (rec : GCode → Tr GV → Heap → K → R) (c : GCode) (fr : Tr GV) (h : Heap) (k : K) : R :=
  GCode.casesOn (motive := fun _ => R) c
    (k 0 fr h)
    (k 1 fr h)
    (fun n => k (Nat.succ (Nat.succ n)) fr h)
    (fun a b => rec a fr h fun e fr h => Nat.casesOn (motive := fun _ => R) e (rec b fr h k) (fun e => k (Nat.succ e) fr h))
    (fun _ p a b => (Tr.get .bad p fr).asBool fun t => ifb t (rec a fr h k) (rec b fr h k))
    (fun n a => rec a fr h fun e fr h => ifb (Nat.beq e (Nat.succ (Nat.succ n))) (k 0 fr h) (k e fr h))
    (fun a => rec a fr h fun e fr h => Nat.casesOn (motive := fun _ => R) e (rec (.loop a) fr h k) (fun e => k (Nat.succ e) fr h))
    (fun f => f (callT T rec) fr h fun fr h => k 0 fr h)

def exec (T : Tr GTab) (n : Nat) : GCode → Tr GV → Heap → K → R :=
  Nat.rec (motive := fun _ => GCode → Tr GV → Heap → K → R) (fun _ _ _ _ => none) (fun _ ih => xstep T ih) n

/-- 'select { case b := <-c: return b, true; default: return 0, false }'. -/
def primTake (args : List GV) (h : Heap) : Option (GV × Heap) :=
  match args with
  | [.chn p] => match hget p h with
    | .chan cap (v :: buf) => obind (hset p (.chan cap buf) h) fun h => some (.tup [v, .bool true], h)
    | .chan _ [] => some (.tup [.int .u8 (.ofNat 0), .bool false], h)
    | _ => none
  | _ => none
/-- 'select { case c <- b: return true; default: return false }'. -/
def primPut (args : List GV) (h : Heap) : Option (GV × Heap) :=
  match args with
  | [.chn p, v] => match hget p h with
    | .chan cap buf => ifb v.cell (ifb (Nat.blt buf.length cap) (forceL (buf ++ [v]) fun buf => obind (hset p (.chan cap buf) h) fun h => some (.bool true, h)) (some (.bool false, h))) none
    | _ => none
  | _ => none

def callN (T : Tr GTab) (n : Nat) : CallT := callT T (exec T n)

end
end Go.Ev
